/-
  Runs of functions of messages, printed by a home tool; each is the kernel's word.
  Fields of messages: checked, put, left out: the functions keep to their contracts.
  Messages put: the functions keep to their contracts.
-/
import Derived.Test.YtnncfdlpogjlkaaGreatDoorLCfg
import Derived.Test.YtnncfdlpogjlkaaGreatDoorLJZa
import Derived.Test.YtnncfdlpogjlkaaGreatDoorLJZo
import Derived.Test.YtnncfdlpogjlkaaGreatDoorLJZc
import Derived.Test.YtnncfdlpogjlkaaGreatDoorLJZd
set_option linter.unusedVariables false
set_option linter.unusedSimpArgs false
set_option linter.unnecessarySimpa false
section
namespace Go.Proofs.YtnncfdlpogjlkaaGreatDoor
open Go.Ai Go
set_option maxRecDepth 100000
open Go.IntKind (wrap i64 u8)
open Go.Ai.AV (int str sl tup bool agg ptr)
open Go.Ai.Blk (mem grow)
open Go.Ai.Fm (code block loop)
open Go.Ai.XT (normal)
open List (length)
open Prod (fst snd)
open UInt8 (toNat)
open Tryz (prog f18 f19 f20 f21 f54 f55 f57 f59 f61 f65 f93 f94 f96 f97 f98 f99 f100 f101 f102 f103 f104 f109 f141 f142 f143)
theorem t54 {v : AV} {st : Int} (hT : TabOk cfg (ctab [])) (H : ifP (wrap i64 (Int.tdiv st 100) == 1) (bool true = v) (ifP (st == 204) (bool true = v) (bool (st == 304) = v))) : ToEnd cfg 54 (bodyOf f54) (RetIs prog f54 v) ([.code []]) .normal ([(0, true, .int .i64 st)]) ([]) := by
  exact unr_ok (pl := ⟨[], []⟩) hT 100000 _ _ _ _ (unr_use H (by kernel_rfl))
theorem t100a {v : AV} {e : List (List AV)} {sz : Nat} {s : List UInt8} (hT : TabOk cfg (ctab [])) (H : ToEnd cfg 100 (bodyOf f100) (RetIs prog f100 v) [code [0, 1, 0, 1], block 0, code [1, 1]] normal [(0, true, sl sz e none), (1, true, str s), (7, true, int i64 (↑(length e) : Int)), (8, true, int i64 0)] []) : ToEnd cfg 100 (bodyOf f100) (RetIs prog f100 v) ([.code []]) .normal ([(0, true, .sl sz e none), (1, true, .str s)]) ([]) := by
  exact unr_ok (pl := ⟨[[0, 1, 0, 1]], [([0, 1, 0, 0, 1, 1, 0, 0, 1, 0, 1], 3, [.str])]⟩) hT 100000 _ _ _ _ (unr_use H (by kernel_rfl))
theorem t100b {v : AV} {e : List (List AV)} {sz : Nat}  {s1 : List UInt8} {i7 : Int} {i8 : Int} (hT : TabOk cfg (ctab [])) (H : ifP (decide (i8 < i7)) (gAnd (inR i8 (length e) && Nat.beq sz 1 && Nat.ble 1 sz) (∃ (s1_1 : List UInt8), getE e i8 = [str s1_1] ∧ ifP (s1 == s1_1) (int i64 i8 = v) (gAnd (lowVss 0 e && true && true && true) (ToEnd cfg 100 (bodyOf f100) (RetIs prog f100 v) [code [0, 1, 0, 1], block 0, code [1, 1]] normal [(0, true, sl sz e none), (1, true, str s1), (7, true, int i64 i7), (8, true, int i64 (wrap i64 (i8 + 1)))] [])))) (int i64 (-1) = v)) : ToEnd cfg 100 (bodyOf f100) (RetIs prog f100 v) ([.code [0, 1, 0, 1], block 0, code [1, 1]]) .normal ([(0, true, sl sz e none), (1, true, str s1), (7, true, int i64 i7), (8, true, int i64 i8)]) ([]) := by
  exact ends_round (pl := ⟨[[0, 1, 0, 1]], [([0, 1, 0, 0, 1, 1, 0, 0, 1, 0, 1], 3, [.str])]⟩) hT 100000 (by kernel_rfl) (unr_use H (by kernel_rfl))
theorem t59 {v : AV} {e : List (List AV)} {sz : Nat} {s : List UInt8} (hT : TabOk cfg (ctab [(100, ixSlC)])) (H : ∃ (l1 : List (List UInt8)) (s2 : List UInt8) (sz3 : Nat), length l1 ≤ 100 ∧ szOk sz3 1 (length l1) ∧ [sl sz (stripss 0 [] e) none, str s] = [sl sz3 (encS l1) none, str s2] ∧ bool (decide (ixG s2 0 l1 ≥ 0)) = v) : ToEnd cfg 59 (bodyOf f59) (RetIs prog f59 v) ([.code []]) .normal ([(0, true, .sl sz e none), (1, true, .str s)]) ([]) := by
  exact unr_ok (pl := ⟨[], []⟩) hT 100000 _ _ _ _ (unr_use H (by kernel_rfl))
theorem t93a {v : AV} {e : List (List AV)} {sz : Nat} (hT : TabOk cfg (ctab [(118, fldC mayF), (119, fldSC)])) (H : ifP (decide ((↑(length e) : Int) > 64)) (int i64 3 = v) (ToEnd cfg 93 (bodyOf f93) (RetIs prog f93 v) [code [0, 1, 0, 1, 1], block 0, code [1, 1, 1]] normal [(8, true, sl sz e none), (9, true, int i64 (↑(length e) : Int)), (10, true, int i64 0)] [])) : ToEnd cfg 93 (bodyOf f93) (RetIs prog f93 v) ([.code []]) .normal ([(0, true, .sl sz e none)]) ([]) := by
  exact unr_ok (pl := ⟨[[0, 1, 0, 1, 1]], [([0, 0, 0, 1, 1, 0, 0, 1, 0, 1, 1], 0, [.str, .str])]⟩) hT 100000 _ _ _ _ (unr_use H (by kernel_rfl))
theorem t93b {v : AV} {e : List (List AV)} {sz : Nat} {i9 : Int} {i10 : Int} (hT : TabOk cfg (ctab [(118, fldC mayF), (119, fldSC)])) (H : ifP (decide (i10 < i9)) (gAnd (inR i10 (length e) && Nat.beq sz 2 && Nat.ble 1 sz) (∃ (s1 : List UInt8) (s2 : List UInt8), getE e i10 = [str s1, str s2] ∧ ∃ (a3 : List UInt8) (b4 : List UInt8), length a3 ≤ 100000 ∧ length b4 ≤ 100000 ∧ [agg [str s1, str s2]] = [agg [str a3, str b4]] ∧ ifP (!mayF (Fld.mk a3 b4)) (int i64 4 = v) (∃ (a5 : List UInt8) (b6 : List UInt8), length a5 ≤ 100000 ∧ length b6 ≤ 100000 ∧ [agg [str s1, str s2]] = [agg [str a5, str b6]] ∧ ifP (decide ((↑(length (a5 ++ [58, 32] ++ b6)) : Int) > 2048)) (int i64 3 = v) (gAnd (lowVss 0 e && true && true && true) (ToEnd cfg 93 (bodyOf f93) (RetIs prog f93 v) [code [0, 1, 0, 1, 1], block 0, code [1, 1, 1]] normal [(8, true, sl sz e none), (9, true, int i64 i9), (10, true, int i64 (wrap i64 (i10 + 1)))] []))))) (int i64 0 = v)) : ToEnd cfg 93 (bodyOf f93) (RetIs prog f93 v) ([.code [0, 1, 0, 1, 1], block 0, code [1, 1, 1]]) .normal ([(8, true, sl sz e none), (9, true, int i64 i9), (10, true, int i64 i10)]) ([]) := by
  exact ends_round (pl := ⟨[[0, 1, 0, 1, 1]], [([0, 0, 0, 1, 1, 0, 0, 1, 0, 1, 1], 0, [.str, .str])]⟩) hT 100000 (by kernel_rfl) (unr_use H (by kernel_rfl))
theorem t109e {K : AV → Hp → Prop} {n : Nat} {e : List (List AV)} {a b : List UInt8}  (hT : TabOk cfg (ctab [])) (H : K (tup []) [grow n 1 5, mem 113 [ptr 1 0, sl 1 (stripss 3 [grow n 1 5, mem 113 [ptr 1 0, sl 1 e (some 0)], mem 63 [str a, str b]] e) (some 0)], mem 63 [str a, str b]]) : ToEnd cfg 109 (bodyOf f109) (RetIn prog f109 3 K) ([.code []]) .normal ([(0, true, .ptr 1 0)]) ([.grow n 1 5, .mem 113 [.nilp, .sl 1 e (some 0)], .mem 63 [.str a, .str b]]) := by
  exact unr_ok (pl := ⟨[], []⟩) hT 100000 _ _ _ _ (unr_use H (by kernel_rfl))
theorem t109f {K : AV → Hp → Prop} {n : Nat} {e : List (List AV)} {a b : List UInt8}  (hT : TabOk cfg (ctab [])) (H : K (tup []) [grow n 1 5, mem 113 [ptr 1 0, sl 1 (stripss 3 [grow n 1 5, mem 113 [ptr 1 0, sl 1 e (some 0)], mem 63 [str a, str b]] e) (some 0)], mem 63 [str a, str b]]) : ToEnd cfg 109 (bodyOf f109) (RetIn prog f109 3 K) ([.code []]) .normal ([(0, true, .ptr 1 0)]) ([.grow n 1 5, .mem 113 [.ptr 1 0, .sl 1 e (some 0)], .mem 63 [.str a, .str b]]) := by
  exact unr_ok (pl := ⟨[], []⟩) hT 100000 _ _ _ _ (unr_use H (by kernel_rfl))
theorem t65c {K : AV → Hp → Prop} {n : Nat} {e : List (List AV)} {a b : List UInt8} {p : AV} {s : List UInt8} (hT : TabOk cfg (ctab [(109, copyB)])) (H : ∃ (acc1 : List UInt8), (1 = 1 ∧ 5 = 5 ∧ 113 = 113 ∧ 1 = 1 ∧ 0 = 0 ∧ 63 = 63) ∧ (p = AV.nilp ∨ p = ptr 1 0) ∧ e = rb acc1 ∧ [ptr 1 0] = [ptr 1 0] ∧ gAnd (tagOk [grow n 1 5, mem 113 [ptr 1 0, sl 1 (rb acc1) (some 0)], mem 63 [str a, str b]] (length (rb acc1)) 1 5 (some 0) && true && true && decide ((length (rb acc1) + length s) * 1 ≤ 140737488355328) && true && true) (K (tup [int i64 (↑(length s) : Int), AV.nili]) [grow (length (rb acc1) + length s) 1 5, mem 113 [ptr 1 0, sl 1 (stripss 3 [grow (length (rb acc1) + length s) 1 5, mem 113 [ptr 1 0, sl 1 (rb acc1 ++ List.map (fun (b : UInt8) ↦ [int u8 (↑(toNat b) : Int)]) s) (some 0)], mem 63 [str a, str b]] (rb acc1 ++ List.map (fun (b : UInt8) ↦ [int u8 (↑(toNat b) : Int)]) s)) (some 0)], mem 63 [str a, str b]])) : ToEnd cfg 65 (bodyOf f65) (RetIn prog f65 3 K) ([.code []]) .normal ([(0, true, .ptr 1 0), (1, true, .str s)]) ([.grow n 1 5, .mem 113 [p, .sl 1 e (some 0)], .mem 63 [.str a, .str b]]) := by
  exact unr_ok (pl := ⟨[], []⟩) hT 100000 _ _ _ _ (unr_use H (by kernel_rfl))
theorem t94a {v : AV} {e : List (List AV)} {sz : Nat} (hT : TabOk cfg (ctab [(93, chkC), (119, fldSC), (65, writeB), (67, strB)])) (H : ∃ (l1 : List Fld) (sz2 : Nat), okPs l1 ∧ szOk sz2 2 (length l1) ∧ [sl sz (stripss 0 [] e) none] = [sl sz2 (encFs l1) none] ∧ ifP (chkF l1 != 0) (str [] = v) (ToEnd cfg 94 (bodyOf f94) (RetIs prog f94 v) [code [0, 1, 0, 1, 1, 1], block 0, code [1, 1, 1, 1]] normal [(3, true, ptr 1 0), (9, true, sl sz e none), (10, true, int i64 (↑(length e) : Int)), (11, true, int i64 0)] [grow 0 1 5, mem 113 [AV.nilp, sl 1 [] (some 0)]])) : ToEnd cfg 94 (bodyOf f94) (RetIs prog f94 v) ([.code []]) .normal ([(0, true, .sl sz e none)]) ([]) := by
  exact unr_ok (pl := ⟨[[0, 1, 0, 1, 1, 1]], [([0, 0, 0, 1, 1, 0, 0, 1, 0, 1, 1, 1], 0, [.str, .str])]⟩) hT 100000 _ _ _ _ (unr_use H (by kernel_rfl))
theorem t94b {v : AV} {e : List (List AV)} {sz : Nat} {p : AV} {d : List (List AV)} {n : Nat} {len i : Int} (hT : TabOk cfg (ctab [(93, chkC), (119, fldSC), (65, writeB), (67, strB)])) (H : ifP (decide (i < len)) (gAnd (inR i (length e) && Nat.beq sz 2 && Nat.ble 1 sz) (∃ (s1 : List UInt8) (s2 : List UInt8), getE e i = [str s1, str s2] ∧ ∃ (a3 : List UInt8) (b4 : List UInt8), length a3 ≤ 100000 ∧ length b4 ≤ 100000 ∧ [agg [str s1, str s2]] = [agg [str a3, str b4]] ∧ ∃ (acc5 : List UInt8) (x6 : List UInt8), (1 = 1 ∧ 5 = 5 ∧ 113 = 113 ∧ 1 = 1 ∧ 0 = 0 ∧ 63 = 63) ∧ (p = AV.nilp ∨ p = ptr 1 0) ∧ d = rb acc5 ∧ n = length acc5 ∧ length acc5 + length x6 ≤ 10000000000 ∧ [ptr 1 0, str (a3 ++ [58, 32] ++ b4)] = [ptr 1 0, str x6] ∧ ∃ (acc7 : List UInt8) (x8 : List UInt8), (1 = 1 ∧ 5 = 5 ∧ 113 = 113 ∧ 1 = 1 ∧ 0 = 0 ∧ 63 = 63) ∧ (ptr 1 0 = AV.nilp ∨ ptr 1 0 = ptr 1 0) ∧ rb (acc5 ++ x6) = rb acc7 ∧ length (acc5 ++ x6) = length acc7 ∧ length acc7 + length x8 ≤ 10000000000 ∧ [ptr 1 0, str [13, 10]] = [ptr 1 0, str x8] ∧ gAnd (lowVss 2 e && true && true && (lowVss 2 (rb (acc7 ++ x8)) && true && true && true)) (ToEnd cfg 94 (bodyOf f94) (RetIs prog f94 v) [code [0, 1, 0, 1, 1, 1], block 0, code [1, 1, 1, 1]] normal [(3, true, ptr 1 0), (9, true, sl sz e none), (10, true, int i64 len), (11, true, int i64 (wrap i64 (i + 1)))] [grow (length (acc7 ++ x8)) 1 5, mem 113 [ptr 1 0, sl 1 (rb (acc7 ++ x8)) (some 0)]]))) (∃ (acc9 : List UInt8), (1 = 1 ∧ 5 = 5 ∧ 113 = 113 ∧ 1 = 1 ∧ 0 = 0) ∧ d = rb acc9 ∧ n = length acc9 ∧ [ptr 1 0] = [ptr 1 0] ∧ str acc9 = v)) : ToEnd cfg 94 (bodyOf f94) (RetIs prog f94 v) ([.code [0, 1, 0, 1, 1, 1], .block 0, .code [1, 1, 1, 1]]) .normal ([(3, true, .ptr 1 0), (9, true, .sl sz e none), (10, true, .int .i64 len), (11, true, .int .i64 i)]) ([.grow n 1 5, .mem 113 [p, .sl 1 d (some 0)]]) := by
  exact ends_round (pl := ⟨[[0, 1, 0, 1, 1, 1]], [([0, 0, 0, 1, 1, 0, 0, 1, 0, 1, 1, 1], 0, [.str, .str])]⟩) hT 100000 (by kernel_rfl) (unr_use H (by kernel_rfl))
theorem t98a {v : AV} {e : List (List AV)} {sz : Nat} (hT : TabOk cfg (ctab [(128, fldC mayF), (129, fldC longF)])) (H : ifP (decide ((↑(length e) : Int) > 64)) (int i64 3 = v) (ToEnd cfg 98 (bodyOf f98) (RetIs prog f98 v) [code [0, 1, 0, 1, 1], block 0, code [1, 1, 1]] normal [(0, true, sl sz e none), (3, true, int i64 0)] [])) : ToEnd cfg 98 (bodyOf f98) (RetIs prog f98 v) ([.code []]) .normal ([(0, true, .sl sz e none)]) ([]) := by
  exact unr_ok (pl := ⟨[[0, 1, 0, 1, 1]], [([0, 0, 0, 0, 1, 0, 0, 1, 0, 1, 1], 2, [.str, .str]), ([0, 1, 0, 0, 1, 0, 0, 1, 0, 1, 1], 2, [.str, .str])]⟩) hT 100000 _ _ _ _ (unr_use H (by kernel_rfl))
theorem t98b {v : AV} {e : List (List AV)} {sz : Nat} {i3 : Int} (hT : TabOk cfg (ctab [(128, fldC mayF), (129, fldC longF)])) (H : ifP (decide (i3 < (↑(length e) : Int))) (gAnd (inR i3 (length e) && Nat.beq sz 2 && Nat.ble 1 sz) (∃ (s1 : List UInt8) (s2 : List UInt8), getE e i3 = [str s1, str s2] ∧ ∃ (a3 : List UInt8) (b4 : List UInt8), length a3 ≤ 100000 ∧ length b4 ≤ 100000 ∧ [agg [str s1, str s2]] = [agg [str a3, str b4]] ∧ ifP (!mayF (Fld.mk a3 b4)) (int i64 4 = v) (gAnd (inR i3 (length e) && Nat.beq sz 2 && Nat.ble 1 sz) (∃ (s5 : List UInt8) (s6 : List UInt8), getE e i3 = [str s5, str s6] ∧ ∃ (a7 : List UInt8) (b8 : List UInt8), length a7 ≤ 100000 ∧ length b8 ≤ 100000 ∧ [agg [str s5, str s6]] = [agg [str a7, str b8]] ∧ ifP (longF (Fld.mk a7 b8)) (int i64 3 = v) (ToEnd cfg 98 (bodyOf f98) (RetIs prog f98 v) [code [0, 1, 0, 1, 1], block 0, code [1, 1, 1]] normal [(0, true, sl sz e none), (3, true, int i64 (wrap i64 (i3 + 1)))] []))))) (int i64 0 = v)) : ToEnd cfg 98 (bodyOf f98) (RetIs prog f98 v) ([.code [0, 1, 0, 1, 1], block 0, code [1, 1, 1]]) .normal ([(0, true, sl sz e none), (3, true, int i64 i3)]) ([]) := by
  exact ends_round (pl := ⟨[[0, 1, 0, 1, 1]], [([0, 0, 0, 0, 1, 0, 0, 1, 0, 1, 1], 2, [.str, .str]), ([0, 1, 0, 0, 1, 0, 0, 1, 0, 1, 1], 2, [.str, .str])]⟩) hT 100000 (by kernel_rfl) (unr_use H (by kernel_rfl))
theorem t99a {v : AV} {e : List (List AV)} {sz : Nat} (hT : TabOk cfg (ctab [(98, chkC)])) (H : ∃ (l1 : List Fld) (sz2 : Nat), okPs l1 ∧ szOk sz2 2 (length l1) ∧ [sl sz (stripss 0 [] e) none] = [sl sz2 (encFs l1) none] ∧ ifP (chkF l1 != 0) (str [] = v) (ToEnd cfg 99 (bodyOf f99) (RetIs prog f99 v) [code [0, 1, 0, 1, 1, 1], block 0, code [1, 1, 1, 1]] normal [(0, true, sl sz e none), (3, true, sl 1 [] (some 0)), (4, true, int i64 0)] [grow 0 1 5])) : ToEnd cfg 99 (bodyOf f99) (RetIs prog f99 v) ([.code []]) .normal ([(0, true, .sl sz e none)]) ([]) := by
  exact unr_ok (pl := ⟨[[0, 1, 0, 1, 1, 1]], [([0, 0, 0, 1, 0, 0, 1, 0, 1, 1, 1], 3, [.str, .str]), ([0, 1, 1, 0, 0, 1, 0, 0, 1, 0, 1, 1, 1], 3, [.str, .str])]⟩) hT 100000 _ _ _ _ (unr_use H (by kernel_rfl))
theorem t99b {v : AV} {e : List (List AV)} {sz : Nat} {e3 : List (List AV)} {i4 : Int} {g0 : Nat} (hT : TabOk cfg (ctab [(98, chkC)])) (H : ifP (decide (i4 < (↑(length e) : Int))) (gAnd (inR i4 (length e) && Nat.beq sz 2 && Nat.ble 1 sz) (∃ (s1 : List UInt8) (s2 : List UInt8), getE e i4 = [str s1, str s2] ∧ gAnd (tagOk [grow g0 1 5] (length e3) 1 5 (some 0) && true && true && decide ((length e3 + length s1) * 1 ≤ 140737488355328) && true && true) (gAnd (tagOk [grow (length e3 + length s1) 1 5] (length (e3 ++ List.map (fun (b : UInt8) ↦ [int u8 (↑(toNat b) : Int)]) s1)) 1 5 (some 0) && true && true && decide ((length (e3 ++ List.map (fun (b : UInt8) ↦ [int u8 (↑(toNat b) : Int)]) s1) + 2) * 1 ≤ 140737488355328) && true && true) (gAnd (inR i4 (length e) && Nat.beq sz 2 && Nat.ble 1 sz) (∃ (s3 : List UInt8) (s4 : List UInt8), getE e i4 = [str s3, str s4] ∧ gAnd (tagOk [grow (length (e3 ++ List.map (fun (b : UInt8) ↦ [int u8 (↑(toNat b) : Int)]) s1) + 2) 1 5] (length (e3 ++ List.map (fun (b : UInt8) ↦ [int u8 (↑(toNat b) : Int)]) s1 ++ List.map (fun (b : UInt8) ↦ [int u8 (↑(toNat b) : Int)]) [58, 32])) 1 5 (some 0) && true && true && decide ((length (e3 ++ List.map (fun (b : UInt8) ↦ [int u8 (↑(toNat b) : Int)]) s1 ++ List.map (fun (b : UInt8) ↦ [int u8 (↑(toNat b) : Int)]) [58, 32]) + length s4) * 1 ≤ 140737488355328) && true && true) (gAnd (tagOk [grow (length (e3 ++ List.map (fun (b : UInt8) ↦ [int u8 (↑(toNat b) : Int)]) s1 ++ List.map (fun (b : UInt8) ↦ [int u8 (↑(toNat b) : Int)]) [58, 32]) + length s4) 1 5, grow 2 1 5] (length (e3 ++ List.map (fun (b : UInt8) ↦ [int u8 (↑(toNat b) : Int)]) s1 ++ List.map (fun (b : UInt8) ↦ [int u8 (↑(toNat b) : Int)]) [58, 32] ++ List.map (fun (b : UInt8) ↦ [int u8 (↑(toNat b) : Int)]) s4)) 1 5 (some 0) && true && true && true && decide ((length (e3 ++ List.map (fun (b : UInt8) ↦ [int u8 (↑(toNat b) : Int)]) s1 ++ List.map (fun (b : UInt8) ↦ [int u8 (↑(toNat b) : Int)]) [58, 32] ++ List.map (fun (b : UInt8) ↦ [int u8 (↑(toNat b) : Int)]) s4) + 2) * 1 ≤ 140737488355328) && true && true) (gAnd (lowVss 1 e && true && (lowVss 1 (e3 ++ List.map (fun (b : UInt8) ↦ [int u8 (↑(toNat b) : Int)]) s1 ++ List.map (fun (b : UInt8) ↦ [int u8 (↑(toNat b) : Int)]) [58, 32] ++ List.map (fun (b : UInt8) ↦ [int u8 (↑(toNat b) : Int)]) s4 ++ [[int u8 13], [int u8 10]]) && true && true) && true) (ToEnd cfg 99 (bodyOf f99) (RetIs prog f99 v) [code [0, 1, 0, 1, 1, 1], block 0, code [1, 1, 1, 1]] normal [(0, true, sl sz e none), (3, true, sl 1 (e3 ++ List.map (fun (b : UInt8) ↦ [int u8 (↑(toNat b) : Int)]) s1 ++ List.map (fun (b : UInt8) ↦ [int u8 (↑(toNat b) : Int)]) [58, 32] ++ List.map (fun (b : UInt8) ↦ [int u8 (↑(toNat b) : Int)]) s4 ++ [[int u8 13], [int u8 10]]) (some 0)), (4, true, int i64 (wrap i64 (i4 + 1)))] [grow (length (e3 ++ List.map (fun (b : UInt8) ↦ [int u8 (↑(toNat b) : Int)]) s1 ++ List.map (fun (b : UInt8) ↦ [int u8 (↑(toNat b) : Int)]) [58, 32] ++ List.map (fun (b : UInt8) ↦ [int u8 (↑(toNat b) : Int)]) s4) + 2) 1 5])))))))) (gAnd (rowsB e3) (str (List.map rowV e3) = v))) : ToEnd cfg 99 (bodyOf f99) (RetIs prog f99 v) ([.code [0, 1, 0, 1, 1, 1], block 0, code [1, 1, 1, 1]]) .normal ([(0, true, sl sz e none), (3, true, sl 1 e3 (some 0)), (4, true, int i64 i4)]) ([grow g0 1 5]) := by
  exact ends_round (pl := ⟨[[0, 1, 0, 1, 1, 1]], [([0, 0, 0, 1, 0, 0, 1, 0, 1, 1, 1], 3, [.str, .str]), ([0, 1, 1, 0, 0, 1, 0, 0, 1, 0, 1, 1, 1], 3, [.str, .str])]⟩) hT 100000 (by kernel_rfl) (unr_use H (by kernel_rfl))
theorem t141 {v : AV} {s : List UInt8} (hT : TabOk cfg (ctab [(132, lowerC)])) (H : ∃ (s1 : List UInt8), [str [99, 111, 110, 116, 101, 110, 116, 45, 108, 101, 110, 103, 116, 104]] = [str s1] ∧ ∃ (s2 : List UInt8), length s2 ≤ 10000000 ∧ [str s1] = [str s2] ∧ ∃ (s3 : List UInt8), length s3 ≤ 10000000 ∧ [str s] = [str s3] ∧ ifP (lowS s2 == lowS s3) (bool true = v) (∃ (s4 : List UInt8), [str [116, 114, 97, 110, 115, 102, 101, 114, 45, 101, 110, 99, 111, 100, 105, 110, 103]] = [str s4] ∧ ∃ (s5 : List UInt8), length s5 ≤ 10000000 ∧ [str s4] = [str s5] ∧ ∃ (s6 : List UInt8), length s6 ≤ 10000000 ∧ [str s] = [str s6] ∧ ifP (lowS s5 == lowS s6) (bool true = v) (bool false = v))) : ToEnd cfg 141 (bodyOf f141) (RetIs prog f141 v) ([.code []]) .normal ([(0, true, .sl 1 [[.str clS], [.str teS]] none), (1, true, .str s)]) ([]) := by
  exact unr_ok (pl := ⟨[], [([0, 0, 0, 1, 0, 0, 1, 0, 1], 2, [.str])]⟩) hT 100000 _ _ _ _ (unr_use H (by kernel_rfl))
theorem t142 {v : AV} {n : Int} (hT : TabOk cfg (ctab [])) (H : ifP (decide (n < 0)) (int i64 0 = v) (ifP (decide (n > 2147483648)) (int i64 2147483648 = v) (int i64 n = v))) : ToEnd cfg 142 (bodyOf f142) (RetIs prog f142 v) ([.code []]) .normal ([(0, true, .int .i64 n)]) ([]) := by
  exact unr_ok (pl := ⟨[], []⟩) hT 100000 _ _ _ _ (unr_use H (by kernel_rfl))
theorem t97a {v : AV} {n : Int} (hT : TabOk cfg (ctab [(142, ofIC)])) (H : ∃ (n1 : Int), 0 ≤ n1 ∧ n1 ≤ 1000000 ∧ [int i64 n] = [int i64 n1] ∧ ToEnd cfg 97 (bodyOf f97) (RetIs prog f97 v) [code [0, 1, 1, 1], block 0] normal [(0, true, int i64 n1), (3, true, str [])] []) : ToEnd cfg 97 (bodyOf f97) (RetIs prog f97 v) ([.code []]) .normal ([(0, true, .int .i64 n)]) ([]) := by
  exact unr_ok (pl := ⟨[[0, 1, 1, 1]], []⟩) hT 100000 _ _ _ _ (unr_use H (by kernel_rfl))
theorem t97b {v : AV}  {i0 : Int} {s3 : List UInt8} (hT : TabOk cfg (ctab [(142, ofIC)])) (H : gAnd (rowsB [[int u8 (wrap u8 (wrap i64 (48 + Int.tmod i0 10)))]]) (gAnd (decide (1 + length s3 ≤ 9223372036854775807)) (ifP (wrap i64 (Int.tdiv i0 10) == 0) (str (rowV [int u8 (wrap u8 (wrap i64 (48 + Int.tmod i0 10)))] :: List.append [] s3) = v) (ToEnd cfg 97 (bodyOf f97) (RetIs prog f97 v) [code [0, 1, 1, 1], block 0] normal [(0, true, int i64 (wrap i64 (Int.tdiv i0 10))), (3, true, str (rowV [int u8 (wrap u8 (wrap i64 (48 + Int.tmod i0 10)))] :: List.append [] s3))] [])))) : ToEnd cfg 97 (bodyOf f97) (RetIs prog f97 v) ([.code [0, 1, 1, 1], block 0]) .normal ([(0, true, int i64 i0), (3, true, str s3)]) ([]) := by
  exact ends_round (pl := ⟨[[0, 1, 1, 1]], []⟩) hT 100000 (by kernel_rfl) (unr_use H (by kernel_rfl))
theorem t104 {K : AV → Hp → Prop} {g0 g2 g3 : Nat} {a b : List UInt8} {c d s : List UInt8} (hT : TabOk cfg (ctab [(105, likeC)])) (H : ∃ (a1 : List UInt8) (b2 : List UInt8), length a1 ≤ 10000000 ∧ length b2 ≤ 10000000 ∧ [str s, str c] = [str a1, str b2] ∧ K (bool (lowS a1 == lowS b2)) [grow g0 1 9, mem 51 [sl 1 [[str [99, 111, 110, 116, 101, 110, 116, 45, 108, 101, 110, 103, 116, 104]], [str [116, 114, 97, 110, 115, 102, 101, 114, 45, 101, 110, 99, 111, 100, 105, 110, 103]]] (some 0)], grow g2 2 63, grow g3 2 63, mem 63 [str a, str b], mem 63 [str c, str d]]) : ToEnd cfg 104 (bodyOf f104) (RetIn prog f104 6 K) ([.code []]) .normal ([(0, true, .str s), (1, true, .ptr 5 0)]) (d6 g0 g2 g3 a b c d) := by
  exact unr_ok (pl := ⟨[], []⟩) hT 100000 _ _ _ _ (unr_use H (by kernel_rfl))
theorem t143 {K : AV → Hp → Prop} {g0 g2 g3 : Nat} {a b : List UInt8} {c d : List UInt8} (hT : TabOk cfg (ctab [(104, nm1C)])) (H : ∃ (s1 : List UInt8), [str [99, 111, 110, 116, 101, 110, 116, 45, 108, 101, 110, 103, 116, 104]] = [str s1] ∧ ∃ (g02 : Nat) (g23 : Nat) (g34 : Nat) (a5 : List UInt8) (b6 : List UInt8) (c7 : List UInt8) (d8 : List UInt8) (s9 : List UInt8), [grow g0 1 9, mem 51 [sl 1 [[str [99, 111, 110, 116, 101, 110, 116, 45, 108, 101, 110, 103, 116, 104]], [str [116, 114, 97, 110, 115, 102, 101, 114, 45, 101, 110, 99, 111, 100, 105, 110, 103]]] (some 0)], grow g2 2 63, grow g3 2 63, mem 63 [str a, str b], mem 63 [str c, str d]] = [grow g02 1 9, mem 51 [sl 1 [[str [99, 111, 110, 116, 101, 110, 116, 45, 108, 101, 110, 103, 116, 104]], [str [116, 114, 97, 110, 115, 102, 101, 114, 45, 101, 110, 99, 111, 100, 105, 110, 103]]] (some 0)], grow g23 2 63, grow g34 2 63, mem 63 [str a5, str b6], mem 63 [str c7, str d8]] ∧ length s9 ≤ 20000 ∧ length c7 ≤ 20000 ∧ [str s1, ptr 5 0] = [str s9, ptr 5 0] ∧ ifP (lowS s9 == lowS c7) (K (int i64 0) [grow g02 1 9, mem 51 [sl 1 [[str [99, 111, 110, 116, 101, 110, 116, 45, 108, 101, 110, 103, 116, 104]], [str [116, 114, 97, 110, 115, 102, 101, 114, 45, 101, 110, 99, 111, 100, 105, 110, 103]]] (some 0)], grow g23 2 63, grow g34 2 63, mem 63 [str a5, str b6], mem 63 [str c7, str d8]]) (∃ (s10 : List UInt8), [str [116, 114, 97, 110, 115, 102, 101, 114, 45, 101, 110, 99, 111, 100, 105, 110, 103]] = [str s10] ∧ ∃ (g011 : Nat) (g212 : Nat) (g313 : Nat) (a14 : List UInt8) (b15 : List UInt8) (c16 : List UInt8) (d17 : List UInt8) (s18 : List UInt8), [grow g02 1 9, mem 51 [sl 1 [[str [99, 111, 110, 116, 101, 110, 116, 45, 108, 101, 110, 103, 116, 104]], [str [116, 114, 97, 110, 115, 102, 101, 114, 45, 101, 110, 99, 111, 100, 105, 110, 103]]] (some 0)], grow g23 2 63, grow g34 2 63, mem 63 [str a5, str b6], mem 63 [str c7, str d8]] = [grow g011 1 9, mem 51 [sl 1 [[str [99, 111, 110, 116, 101, 110, 116, 45, 108, 101, 110, 103, 116, 104]], [str [116, 114, 97, 110, 115, 102, 101, 114, 45, 101, 110, 99, 111, 100, 105, 110, 103]]] (some 0)], grow g212 2 63, grow g313 2 63, mem 63 [str a14, str b15], mem 63 [str c16, str d17]] ∧ length s18 ≤ 20000 ∧ length c16 ≤ 20000 ∧ [str s10, ptr 5 0] = [str s18, ptr 5 0] ∧ ifP (lowS s18 == lowS c16) (K (int i64 1) [grow g011 1 9, mem 51 [sl 1 [[str [99, 111, 110, 116, 101, 110, 116, 45, 108, 101, 110, 103, 116, 104]], [str [116, 114, 97, 110, 115, 102, 101, 114, 45, 101, 110, 99, 111, 100, 105, 110, 103]]] (some 0)], grow g212 2 63, grow g313 2 63, mem 63 [str a14, str b15], mem 63 [str c16, str d17]]) (K (int i64 (-1)) [grow g011 1 9, mem 51 [sl 1 [[str [99, 111, 110, 116, 101, 110, 116, 45, 108, 101, 110, 103, 116, 104]], [str [116, 114, 97, 110, 115, 102, 101, 114, 45, 101, 110, 99, 111, 100, 105, 110, 103]]] (some 0)], grow g212 2 63, grow g313 2 63, mem 63 [str a14, str b15], mem 63 [str c16, str d17]]))) : ToEnd cfg 143 (bodyOf f143) (RetIn prog f143 6 K) ([.code []]) .normal ([(0, true, .sl 1 [[.str clS], [.str teS]] (some 0)), (1, true, .fn (.func 104) [] [.ptr 5 0])]) (d6 g0 g2 g3 a b c d) := by
  exact unr_ok (pl := ⟨[], [([0, 1, 0, 0, 1, 1, 0, 0, 1, 0, 1], 3, [.str])]⟩) hT 100000 _ _ _ _ (unr_use H (by kernel_rfl))
theorem t103 {K : AV → Hp → Prop} {g0 g2 g3 : Nat} {a b : List UInt8} {c d : List UInt8} (hT : TabOk cfg (ctab [(143, nmIC)])) (H : ∃ (g01 : Nat) (g22 : Nat) (g33 : Nat) (a4 : List UInt8) (b5 : List UInt8) (c6 : List UInt8) (d7 : List UInt8), [grow g0 1 9, mem 51 [sl 1 [[str [99, 111, 110, 116, 101, 110, 116, 45, 108, 101, 110, 103, 116, 104]], [str [116, 114, 97, 110, 115, 102, 101, 114, 45, 101, 110, 99, 111, 100, 105, 110, 103]]] (some 0)], grow g2 2 63, grow g3 2 63, mem 63 [str a, str b], mem 63 [str c, str d]] = [grow g01 1 9, mem 51 [sl 1 [[str [99, 111, 110, 116, 101, 110, 116, 45, 108, 101, 110, 103, 116, 104]], [str [116, 114, 97, 110, 115, 102, 101, 114, 45, 101, 110, 99, 111, 100, 105, 110, 103]]] (some 0)], grow g22 2 63, grow g33 2 63, mem 63 [str a4, str b5], mem 63 [str c6, str d7]] ∧ length c6 ≤ 20000 ∧ [sl 1 [[str [99, 111, 110, 116, 101, 110, 116, 45, 108, 101, 110, 103, 116, 104]], [str [116, 114, 97, 110, 115, 102, 101, 114, 45, 101, 110, 99, 111, 100, 105, 110, 103]]] (some 0), AV.fn (Fn.func 104) [] [ptr 5 0]] = [sl 1 [[str [99, 111, 110, 116, 101, 110, 116, 45, 108, 101, 110, 103, 116, 104]], [str [116, 114, 97, 110, 115, 102, 101, 114, 45, 101, 110, 99, 111, 100, 105, 110, 103]]] (some 0), AV.fn (Fn.func 104) [] [ptr 5 0]] ∧ K (bool (decide ((if ([99, 111, 110, 116, 101, 110, 116, 45, 108, 101, 110, 103, 116, 104] == lowS c6) = true then 0 else if ([116, 114, 97, 110, 115, 102, 101, 114, 45, 101, 110, 99, 111, 100, 105, 110, 103] == lowS c6) = true then 1 else -1) ≥ 0))) [grow g01 1 9, mem 51 [sl 1 [[str [99, 111, 110, 116, 101, 110, 116, 45, 108, 101, 110, 103, 116, 104]], [str [116, 114, 97, 110, 115, 102, 101, 114, 45, 101, 110, 99, 111, 100, 105, 110, 103]]] (some 0)], grow g22 2 63, grow g33 2 63, mem 63 [str a4, str b5], mem 63 [str c6, str d7]]) : ToEnd cfg 103 (bodyOf f103) (RetIn prog f103 6 K) ([.code []]) .normal ([(0, true, .sl 1 [[.str clS], [.str teS]] (some 0)), (1, true, .fn (.func 104) [] [.ptr 5 0])]) (d6 g0 g2 g3 a b c d) := by
  exact unr_ok (pl := ⟨[], []⟩) hT 100000 _ _ _ _ (unr_use H (by kernel_rfl))
theorem t102 {K : AV → Hp → Prop} {g0 g2 g3 : Nat} {a b : List UInt8} {c d : List UInt8} (hT : TabOk cfg (ctab [(103, nmBC)])) (H : ∃ (g01 : Nat) (g22 : Nat) (g33 : Nat) (a4 : List UInt8) (b5 : List UInt8) (c6 : List UInt8) (d7 : List UInt8), [grow g0 1 9, mem 51 [sl 1 [[str [99, 111, 110, 116, 101, 110, 116, 45, 108, 101, 110, 103, 116, 104]], [str [116, 114, 97, 110, 115, 102, 101, 114, 45, 101, 110, 99, 111, 100, 105, 110, 103]]] (some 0)], grow g2 2 63, grow g3 2 63, mem 63 [str a, str b], mem 63 [str c, str d]] = [grow g01 1 9, mem 51 [sl 1 [[str [99, 111, 110, 116, 101, 110, 116, 45, 108, 101, 110, 103, 116, 104]], [str [116, 114, 97, 110, 115, 102, 101, 114, 45, 101, 110, 99, 111, 100, 105, 110, 103]]] (some 0)], grow g22 2 63, grow g33 2 63, mem 63 [str a4, str b5], mem 63 [str c6, str d7]] ∧ length c6 ≤ 20000 ∧ [sl 1 [[str [99, 111, 110, 116, 101, 110, 116, 45, 108, 101, 110, 103, 116, 104]], [str [116, 114, 97, 110, 115, 102, 101, 114, 45, 101, 110, 99, 111, 100, 105, 110, 103]]] (some 0), AV.fn (Fn.func 104) [] [ptr 5 0]] = [sl 1 [[str [99, 111, 110, 116, 101, 110, 116, 45, 108, 101, 110, 103, 116, 104]], [str [116, 114, 97, 110, 115, 102, 101, 114, 45, 101, 110, 99, 111, 100, 105, 110, 103]]] (some 0), AV.fn (Fn.func 104) [] [ptr 5 0]] ∧ K (bool !clsB c6) [grow g01 1 9, mem 51 [sl 1 [[str [99, 111, 110, 116, 101, 110, 116, 45, 108, 101, 110, 103, 116, 104]], [str [116, 114, 97, 110, 115, 102, 101, 114, 45, 101, 110, 99, 111, 100, 105, 110, 103]]] (some 0)], grow g22 2 63, grow g33 2 63, mem 63 [str a4, str b5]]) : ToEnd cfg 102 (bodyOf f102) (RetIn prog f102 5 K) ([.code []]) .normal ([(0, true, .agg [.str c, .str d]), (1, true, .ptr 1 0)]) (d5 g0 g2 g3 a b) := by
  exact unr_ok (pl := ⟨[], []⟩) hT 100000 _ _ _ _ (unr_use H (by kernel_rfl))
theorem t101a {K : AV → Hp → Prop} {g0 g2 : Nat} {e : List (List AV)} {sz : Nat} (hT : TabOk cfg (ctab [(102, nm2C)])) (H : ToEnd cfg 101 (bodyOf f101) (RetInG prog f101 3 K) [code [0, 1, 0, 1], block 0, code [1, 1]] normal [(1, true, AV.fn (Fn.func 102) [] [ptr 1 0]), (4, true, sl 2 [] (some 3)), (7, true, sl sz e none), (8, true, int i64 (↑(length e) : Int)), (9, true, int i64 0)] [grow g0 1 9, mem 51 [sl 1 [[str [99, 111, 110, 116, 101, 110, 116, 45, 108, 101, 110, 103, 116, 104]], [str [116, 114, 97, 110, 115, 102, 101, 114, 45, 101, 110, 99, 111, 100, 105, 110, 103]]] (some 0)], grow g2 2 63, grow 0 2 63]) : ToEnd cfg 101 (bodyOf f101) (RetInG prog f101 3 K) ([.code []]) .normal ([(0, true, .sl sz e none), (1, true, .fn (.func 102) [] [.ptr 1 0])]) ([.grow g0 1 9, .mem 51 [.sl 1 [[.str clS], [.str teS]] (some 0)], .grow g2 2 63]) := by
  exact unr_ok (pl := ⟨[[0, 1, 0, 1]], [([0, 0, 0, 1, 1, 0, 0, 1, 0, 1], 0, [.str, .str])]⟩) hT 100000 _ _ _ _ (unr_use H (by kernel_rfl))
theorem t101b {K : AV → Hp → Prop} {g0 g2 m : Nat} {o : List (List AV)} {len i : Int} {e : List (List AV)} {sz : Nat} (hT : TabOk cfg (ctab [(102, nm2C)])) (H : ifP (decide (i < len)) (gAnd (inR i (length e) && Nat.beq sz 2 && Nat.ble 1 sz) (∃ (s1 : List UInt8) (s2 : List UInt8), getE e i = [str s1, str s2] ∧ ∃ (g03 : Nat) (g24 : Nat) (g35 : Nat) (a6 : List UInt8) (b7 : List UInt8) (c8 : List UInt8) (d9 : List UInt8), [grow g0 1 9, mem 51 [sl 1 [[str [99, 111, 110, 116, 101, 110, 116, 45, 108, 101, 110, 103, 116, 104]], [str [116, 114, 97, 110, 115, 102, 101, 114, 45, 101, 110, 99, 111, 100, 105, 110, 103]]] (some 0)], grow g2 2 63, grow m 2 63, mem 63 [str s1, str s2]] = [grow g03 1 9, mem 51 [sl 1 [[str [99, 111, 110, 116, 101, 110, 116, 45, 108, 101, 110, 103, 116, 104]], [str [116, 114, 97, 110, 115, 102, 101, 114, 45, 101, 110, 99, 111, 100, 105, 110, 103]]] (some 0)], grow g24 2 63, grow g35 2 63, mem 63 [str a6, str b7]] ∧ length c8 ≤ 20000 ∧ [agg [str s1, str s2], ptr 1 0] = [agg [str c8, str d9], ptr 1 0] ∧ ifP (!clsB c8) (gAnd (tagOk [grow g03 1 9, mem 51 [sl 1 [[str [99, 111, 110, 116, 101, 110, 116, 45, 108, 101, 110, 103, 116, 104]], [str [116, 114, 97, 110, 115, 102, 101, 114, 45, 101, 110, 99, 111, 100, 105, 110, 103]]] (some 0)], grow g24 2 63, grow g35 2 63, mem 63 [str a6, str b7], grow 1 2 63] (length o) 2 63 (some 3) && true && true && true && decide ((length o + 1) * 32 ≤ 140737488355328) && true && true) (gAnd (lowVss 4 (o ++ [[str a6, str b7]]) && true && (lowVss 4 e && true && true) && true) (ToEnd cfg 101 (bodyOf f101) (RetInG prog f101 3 K) [code [0, 1, 0, 1], block 0, code [1, 1]] normal [(1, true, AV.fn (Fn.func 102) [] [ptr 1 0]), (4, true, sl 2 (o ++ [[str a6, str b7]]) (some 3)), (7, true, sl sz e none), (8, true, int i64 len), (9, true, int i64 (wrap i64 (i + 1)))] [grow g03 1 9, mem 51 [sl 1 [[str [99, 111, 110, 116, 101, 110, 116, 45, 108, 101, 110, 103, 116, 104]], [str [116, 114, 97, 110, 115, 102, 101, 114, 45, 101, 110, 99, 111, 100, 105, 110, 103]]] (some 0)], grow g24 2 63, grow (length o + 1) 2 63]))) (gAnd (lowVss 4 o && true && (lowVss 4 e && true && true) && true) (ToEnd cfg 101 (bodyOf f101) (RetInG prog f101 3 K) [code [0, 1, 0, 1], block 0, code [1, 1]] normal [(1, true, AV.fn (Fn.func 102) [] [ptr 1 0]), (4, true, sl 2 o (some 3)), (7, true, sl sz e none), (8, true, int i64 len), (9, true, int i64 (wrap i64 (i + 1)))] [grow g03 1 9, mem 51 [sl 1 [[str [99, 111, 110, 116, 101, 110, 116, 45, 108, 101, 110, 103, 116, 104]], [str [116, 114, 97, 110, 115, 102, 101, 114, 45, 101, 110, 99, 111, 100, 105, 110, 103]]] (some 0)], grow g24 2 63, grow g35 2 63])))) (K (sl 2 (stripss (keepM true 3 4 (sl 2 o (some 3))) [grow g0 1 9, mem 51 [sl 1 [[str [99, 111, 110, 116, 101, 110, 116, 45, 108, 101, 110, 103, 116, 104]], [str [116, 114, 97, 110, 115, 102, 101, 114, 45, 101, 110, 99, 111, 100, 105, 110, 103]]] (some 0)], grow g2 2 63, grow m 2 63] o) (some 3)) [grow g0 1 9, mem 51 [sl 1 [[str [99, 111, 110, 116, 101, 110, 116, 45, 108, 101, 110, 103, 116, 104]], [str [116, 114, 97, 110, 115, 102, 101, 114, 45, 101, 110, 99, 111, 100, 105, 110, 103]]] (some 0)], grow g2 2 63, grow m 2 63])) : ToEnd cfg 101 (bodyOf f101) (RetInG prog f101 3 K) ([.code [0, 1, 0, 1], .block 0, .code [1, 1]]) .normal ([(1, true, .fn (.func 102) [] [.ptr 1 0]), (4, true, .sl 2 o (some 3)), (7, true, .sl sz e none), (8, true, .int .i64 len), (9, true, .int .i64 i)]) ([.grow g0 1 9, .mem 51 [.sl 1 [[.str clS], [.str teS]] (some 0)], .grow g2 2 63, .grow m 2 63]) := by
  exact ends_round (pl := ⟨[[0, 1, 0, 1]], [([0, 0, 0, 1, 1, 0, 0, 1, 0, 1], 0, [.str, .str])]⟩) hT 100000 (by kernel_rfl) (unr_use H (by kernel_rfl))
theorem t61 {K : AV → Hp → Prop} {g0 : Nat} {e : List (List AV)} {sz : Nat} (hT : TabOk cfg (ctab [(101, keptC)])) (H : ∃ (g01 : Nat) (g22 : Nat) (sz3 : Nat) (l4 : List Fld), [grow g0 1 9, mem 51 [sl 1 [[str [99, 111, 110, 116, 101, 110, 116, 45, 108, 101, 110, 103, 116, 104]], [str [116, 114, 97, 110, 115, 102, 101, 114, 45, 101, 110, 99, 111, 100, 105, 110, 103]]] (some 0)], grow 0 2 63] = [grow g01 1 9, mem 51 [sl 1 [[str [99, 111, 110, 116, 101, 110, 116, 45, 108, 101, 110, 103, 116, 104]], [str [116, 114, 97, 110, 115, 102, 101, 114, 45, 101, 110, 99, 111, 100, 105, 110, 103]]] (some 0)], grow g22 2 63] ∧ okPs l4 ∧ szOk sz3 2 (length l4) ∧ [sl sz e none, AV.fn (Fn.func 102) [] [ptr 1 0]] = [sl sz3 (encFs l4) none, AV.fn (Fn.func 102) [] [ptr 1 0]] ∧ K (sl 2 (stripss (keepM true 1 4 (sl 2 (encFs (delF l4)) (some 3))) [grow g01 1 9, mem 51 [sl 1 [[str [99, 111, 110, 116, 101, 110, 116, 45, 108, 101, 110, 103, 116, 104]], [str [116, 114, 97, 110, 115, 102, 101, 114, 45, 101, 110, 99, 111, 100, 105, 110, 103]]] (some 0)], grow g22 2 63, grow (length (delF l4)) 2 63] (encFs (delF l4))) (some 3)) [grow g01 1 9, mem 51 [sl 1 [[str [99, 111, 110, 116, 101, 110, 116, 45, 108, 101, 110, 103, 116, 104]], [str [116, 114, 97, 110, 115, 102, 101, 114, 45, 101, 110, 99, 111, 100, 105, 110, 103]]] (some 0)], grow g22 2 63, grow (length (delF l4)) 2 63]) : ToEnd cfg 61 (bodyOf f61) (RetInG prog f61 1 K) ([.code []]) .normal ([(0, true, .sl sz e none), (1, true, .sl 1 [[.str clS], [.str teS]] (some 0))]) ([.grow g0 1 9]) := by
  exact unr_ok (pl := ⟨[], []⟩) hT 100000 _ _ _ _ (unr_use H (by kernel_rfl))
theorem t96a {K : AV → Hp → Prop} {g0 : Nat} {e : List (List AV)} {sz : Nat} (hT : TabOk cfg (ctab [(141, hasC)])) (H : ToEnd cfg 96 (bodyOf f96) (RetInG prog f96 1 K) [code [0, 1, 0, 1, 1], block 0, code [1, 1, 1]] normal [(0, true, sl sz e none), (1, true, sl 1 [[str [99, 111, 110, 116, 101, 110, 116, 45, 108, 101, 110, 103, 116, 104]], [str [116, 114, 97, 110, 115, 102, 101, 114, 45, 101, 110, 99, 111, 100, 105, 110, 103]]] (some 0)), (5, true, sl 2 [] (some 2)), (6, true, int i64 0)] [grow g0 1 9, grow 0 2 63, grow 0 2 63]) : ToEnd cfg 96 (bodyOf f96) (RetInG prog f96 1 K) ([.code []]) .normal ([(0, true, .sl sz e none), (1, true, .sl 1 [[.str clS], [.str teS]] (some 0))]) ([.grow g0 1 9]) := by
  exact unr_ok (pl := ⟨[[0, 1, 0, 1, 1]], [([0, 0, 0, 1, 0, 0, 1, 0, 1, 1], 3, [.str, .str]), ([0, 1, 0, 0, 1, 0, 0, 1, 0, 1, 1], 3, [.str, .str])]⟩) hT 100000 _ _ _ _ (unr_use H (by kernel_rfl))
theorem t96b {K : AV → Hp → Prop} {g0 g1 m : Nat} {o : List (List AV)} {i : Int} {e : List (List AV)} {sz : Nat} (hT : TabOk cfg (ctab [(141, hasC)])) (H : ifP (decide (i < (↑(length e) : Int))) (gAnd (inR i (length e) && Nat.beq sz 2 && Nat.ble 1 sz) (∃ (s1 : List UInt8) (s2 : List UInt8), getE e i = [str s1, str s2] ∧ ∃ (s3 : List UInt8), length s3 ≤ 20000 ∧ [sl 1 [[str [99, 111, 110, 116, 101, 110, 116, 45, 108, 101, 110, 103, 116, 104]], [str [116, 114, 97, 110, 115, 102, 101, 114, 45, 101, 110, 99, 111, 100, 105, 110, 103]]] none, str s1] = [sl 1 [[str [99, 111, 110, 116, 101, 110, 116, 45, 108, 101, 110, 103, 116, 104]], [str [116, 114, 97, 110, 115, 102, 101, 114, 45, 101, 110, 99, 111, 100, 105, 110, 103]]] none, str s3] ∧ ifP (!clsB s3) (gAnd (inR i (length e) && Nat.beq sz 2 && Nat.ble 1 sz) (∃ (s4 : List UInt8) (s5 : List UInt8), getE e i = [str s4, str s5] ∧ gAnd (tagOk [grow g0 1 9, grow g1 2 63, grow m 2 63, grow 1 2 63] (length o) 2 63 (some 2) && true && true && true && decide ((length o + 1) * 32 ≤ 140737488355328) && true && true) (gAnd (lowVss 3 e && true && (lowVss 3 (o ++ [[str s4, str s5]]) && true && true) && true) (ToEnd cfg 96 (bodyOf f96) (RetInG prog f96 1 K) [code [0, 1, 0, 1, 1], block 0, code [1, 1, 1]] normal [(0, true, sl sz e none), (1, true, sl 1 [[str [99, 111, 110, 116, 101, 110, 116, 45, 108, 101, 110, 103, 116, 104]], [str [116, 114, 97, 110, 115, 102, 101, 114, 45, 101, 110, 99, 111, 100, 105, 110, 103]]] (some 0)), (5, true, sl 2 (o ++ [[str s4, str s5]]) (some 2)), (6, true, int i64 (wrap i64 (i + 1)))] [grow g0 1 9, grow g1 2 63, grow (length o + 1) 2 63])))) (gAnd (lowVss 3 e && true && (lowVss 3 o && true && true) && true) (ToEnd cfg 96 (bodyOf f96) (RetInG prog f96 1 K) [code [0, 1, 0, 1, 1], block 0, code [1, 1, 1]] normal [(0, true, sl sz e none), (1, true, sl 1 [[str [99, 111, 110, 116, 101, 110, 116, 45, 108, 101, 110, 103, 116, 104]], [str [116, 114, 97, 110, 115, 102, 101, 114, 45, 101, 110, 99, 111, 100, 105, 110, 103]]] (some 0)), (5, true, sl 2 o (some 2)), (6, true, int i64 (wrap i64 (i + 1)))] [grow g0 1 9, grow g1 2 63, grow m 2 63])))) (K (sl 2 (stripss (keepM true 1 3 (sl 2 o (some 2))) [grow g0 1 9, grow g1 2 63, grow m 2 63] o) (some 2)) [grow g0 1 9, grow g1 2 63, grow m 2 63])) : ToEnd cfg 96 (bodyOf f96) (RetInG prog f96 1 K) ([.code [0, 1, 0, 1, 1], .block 0, .code [1, 1, 1]]) .normal ([(0, true, .sl sz e none), (1, true, .sl 1 [[.str clS], [.str teS]] (some 0)), (5, true, .sl 2 o (some 2)), (6, true, .int .i64 i)]) ([.grow g0 1 9, .grow g1 2 63, .grow m 2 63]) := by
  exact ends_round (pl := ⟨[[0, 1, 0, 1, 1]], [([0, 0, 0, 1, 0, 0, 1, 0, 1, 1], 3, [.str, .str]), ([0, 1, 0, 0, 1, 0, 0, 1, 0, 1, 1], 3, [.str, .str])]⟩) hT 100000 (by kernel_rfl) (unr_use H (by kernel_rfl))
theorem t55 {v : AV} {e : List (List AV)} {sz : Nat} {st bd : List UInt8} {n : Int} (hT : TabOk cfg (ctab [(61, delC), (92, itoC), (93, chkC), (94, tellFC2)])) (H : ∃ (g01 : Nat) (sz2 : Nat) (l3 : List Fld), [grow 2 1 9] = [grow g01 1 9] ∧ okPs l3 ∧ szOk sz2 2 (length l3) ∧ [sl sz e none, sl 1 [[str [99, 111, 110, 116, 101, 110, 116, 45, 108, 101, 110, 103, 116, 104]], [str [116, 114, 97, 110, 115, 102, 101, 114, 45, 101, 110, 99, 111, 100, 105, 110, 103]]] (some 0)] = [sl sz2 (encFs l3) none, sl 1 [[str [99, 111, 110, 116, 101, 110, 116, 45, 108, 101, 110, 103, 116, 104]], [str [116, 114, 97, 110, 115, 102, 101, 114, 45, 101, 110, 99, 111, 100, 105, 110, 103]]] (some 0)] ∧ ifP (decide (n ≥ 0)) (∃ (n6 : Int), 0 ≤ n6 ∧ n6 ≤ 1000000 ∧ [int i64 n] = [int i64 n6] ∧ gAnd (tagOk [grow g01 1 9, mem 51 [sl 1 [[str [99, 111, 110, 116, 101, 110, 116, 45, 108, 101, 110, 103, 116, 104]], [str [116, 114, 97, 110, 115, 102, 101, 114, 45, 101, 110, 99, 111, 100, 105, 110, 103]]] (some 0)], grow 0 2 63, grow (length (delF l3)) 2 63, grow 1 2 63] (length (encFs (delF l3))) 2 63 (some 3) && true && true && true && decide ((length (encFs (delF l3)) + 1) * 32 ≤ 140737488355328) && true && true) (∃ (l7 : List Fld) (sz8 : Nat), okPs l7 ∧ szOk sz8 2 (length l7) ∧ [sl 2 (stripss 0 [] (encFs (delF l3) ++ [[str [67, 111, 110, 116, 101, 110, 116, 45, 76, 101, 110, 103, 116, 104], str (itoaS n6)]])) none] = [sl sz8 (encFs l7) none] ∧ ifP (chkF l7 != 0) (tup [str [], int i64 (chkF l7)] = v) (gAnd (decide (length st + 2 ≤ 9223372036854775807)) (∃ (l11 : List Fld) (sz12 : Nat), okPs l11 ∧ szOk sz12 2 (length l11) ∧ [sl 2 (stripss 0 [] (encFs (delF l3) ++ [[str [67, 111, 110, 116, 101, 110, 116, 45, 76, 101, 110, 103, 116, 104], str (itoaS n6)]])) none] = [sl sz12 (encFs l11) none] ∧ gAnd (decide (length (st ++ [13, 10]) + length (tellF l11) ≤ 9223372036854775807)) (gAnd (decide (length (st ++ [13, 10] ++ tellF l11) + 2 ≤ 9223372036854775807)) (ifP (decide ((↑(length (st ++ [13, 10] ++ tellF l11 ++ [13, 10])) : Int) > 8192)) (tup [str [], int i64 3] = v) (gAnd (decide (length (st ++ [13, 10] ++ tellF l11 ++ [13, 10]) + length bd ≤ 9223372036854775807)) (tup [str (st ++ [13, 10] ++ tellF l11 ++ [13, 10] ++ bd), int i64 0] = v)))))))) (∃ (l15 : List Fld) (sz16 : Nat), okPs l15 ∧ szOk sz16 2 (length l15) ∧ [sl 2 (stripss 0 [] (encFs (delF l3))) none] = [sl sz16 (encFs l15) none] ∧ ifP (chkF l15 != 0) (tup [str [], int i64 (chkF l15)] = v) (gAnd (decide (length st + 2 ≤ 9223372036854775807)) (∃ (l19 : List Fld) (sz20 : Nat), okPs l19 ∧ szOk sz20 2 (length l19) ∧ [sl 2 (stripss 0 [] (encFs (delF l3))) none] = [sl sz20 (encFs l19) none] ∧ gAnd (decide (length (st ++ [13, 10]) + length (tellF l19) ≤ 9223372036854775807)) (gAnd (decide (length (st ++ [13, 10] ++ tellF l19) + 2 ≤ 9223372036854775807)) (ifP (decide ((↑(length (st ++ [13, 10] ++ tellF l19 ++ [13, 10])) : Int) > 8192)) (tup [str [], int i64 3] = v) (gAnd (decide (length (st ++ [13, 10] ++ tellF l19 ++ [13, 10]) + length bd ≤ 9223372036854775807)) (tup [str (st ++ [13, 10] ++ tellF l19 ++ [13, 10] ++ bd), int i64 0] = v)))))))) : ToEnd cfg 55 (bodyOf f55) (RetIs prog f55 v) ([.code []]) .normal ([(0, true, .str st), (1, true, .sl sz e none), (2, true, .int .i64 n), (3, true, .str bd)]) ([]) := by
  exact unr_ok (pl := ⟨[], []⟩) hT 100000 _ _ _ _ (unr_use H (by kernel_rfl))
theorem t57 {v : AV} {e : List (List AV)} {sz : Nat} {st : List UInt8} {n : Int} {t : Bool} (hT : TabOk cfg (ctab [(96, delRC), (97, itoC), (98, chkC), (99, tellFC2)])) (H : ∃ (g01 : Nat) (sz2 : Nat) (l3 : List Fld), [grow 2 1 9] = [grow g01 1 9] ∧ okPs l3 ∧ szOk sz2 2 (length l3) ∧ [sl sz e none, sl 1 [[str [99, 111, 110, 116, 101, 110, 116, 45, 108, 101, 110, 103, 116, 104]], [str [116, 114, 97, 110, 115, 102, 101, 114, 45, 101, 110, 99, 111, 100, 105, 110, 103]]] (some 0)] = [sl sz2 (encFs l3) none, sl 1 [[str [99, 111, 110, 116, 101, 110, 116, 45, 108, 101, 110, 103, 116, 104]], [str [116, 114, 97, 110, 115, 102, 101, 114, 45, 101, 110, 99, 111, 100, 105, 110, 103]]] (some 0)] ∧ ifP t (∃ (n6 : Int), 0 ≤ n6 ∧ n6 ≤ 1000000 ∧ [int i64 n] = [int i64 n6] ∧ gAnd (tagOk [grow g01 1 9, grow 0 2 63, grow (length (delF l3)) 2 63, grow 1 2 63] (length (encFs (delF l3))) 2 63 (some 2) && true && true && true && decide ((length (encFs (delF l3)) + 1) * 32 ≤ 140737488355328) && true && true) (∃ (l7 : List Fld) (sz8 : Nat), okPs l7 ∧ szOk sz8 2 (length l7) ∧ [sl 2 (stripss 0 [] (encFs (delF l3) ++ [[str [67, 111, 110, 116, 101, 110, 116, 45, 76, 101, 110, 103, 116, 104], str (itoaS n6)]])) none] = [sl sz8 (encFs l7) none] ∧ ifP (chkF l7 != 0) (tup [str [], int i64 (chkF l7)] = v) (gAnd (decide (length st + 2 ≤ 9223372036854775807)) (∃ (l11 : List Fld) (sz12 : Nat), okPs l11 ∧ szOk sz12 2 (length l11) ∧ [sl 2 (stripss 0 [] (encFs (delF l3) ++ [[str [67, 111, 110, 116, 101, 110, 116, 45, 76, 101, 110, 103, 116, 104], str (itoaS n6)]])) none] = [sl sz12 (encFs l11) none] ∧ gAnd (decide (length (st ++ [13, 10]) + length (tellF l11) ≤ 9223372036854775807)) (gAnd (decide (length (st ++ [13, 10] ++ tellF l11) + 2 ≤ 9223372036854775807)) (ifP (decide ((↑(length (st ++ [13, 10] ++ tellF l11 ++ [13, 10])) : Int) > 8192)) (tup [str [], int i64 3] = v) (tup [str (st ++ [13, 10] ++ tellF l11 ++ [13, 10]), int i64 0] = v))))))) (∃ (l15 : List Fld) (sz16 : Nat), okPs l15 ∧ szOk sz16 2 (length l15) ∧ [sl 2 (stripss 0 [] (encFs (delF l3))) none] = [sl sz16 (encFs l15) none] ∧ ifP (chkF l15 != 0) (tup [str [], int i64 (chkF l15)] = v) (gAnd (decide (length st + 2 ≤ 9223372036854775807)) (∃ (l19 : List Fld) (sz20 : Nat), okPs l19 ∧ szOk sz20 2 (length l19) ∧ [sl 2 (stripss 0 [] (encFs (delF l3))) none] = [sl sz20 (encFs l19) none] ∧ gAnd (decide (length (st ++ [13, 10]) + length (tellF l19) ≤ 9223372036854775807)) (gAnd (decide (length (st ++ [13, 10] ++ tellF l19) + 2 ≤ 9223372036854775807)) (ifP (decide ((↑(length (st ++ [13, 10] ++ tellF l19 ++ [13, 10])) : Int) > 8192)) (tup [str [], int i64 3] = v) (tup [str (st ++ [13, 10] ++ tellF l19 ++ [13, 10]), int i64 0] = v))))))) : ToEnd cfg 57 (bodyOf f57) (RetIs prog f57 v) ([.code []]) .normal ([(0, true, .str st), (1, true, .sl sz e none), (2, true, .int .i64 n), (3, true, .bool t)]) ([]) := by
  exact unr_ok (pl := ⟨[], []⟩) hT 100000 _ _ _ _ (unr_use H (by kernel_rfl))
theorem t20 {v : AV} {e : List (List AV)} {sz : Nat}{m t bd : List UInt8} {mi : Int} (hT : TabOk cfg (ctab [(58, Ln.putReqC), (59, inSlC), (55, putMC)])) (H : ∃ (a1 : List UInt8) (b2 : List UInt8) (n3 : Int), length a1 ≤ 10000 ∧ length b2 ≤ 10000 ∧ (-9223372036854775808 ≤ n3 ∧ n3 ≤ 9223372036854775807) ∧ [str m, str t, int i64 mi] = [str a1, str b2, int i64 n3] ∧ ifP (snd (putReq a1 b2 n3) != 0) (tup [str [], int i64 (snd (putReq a1 b2 n3))] = v) (ifP (decide ((↑(length bd) : Int) > 65536)) (tup [str [], int i64 3] = v) (ifP (!bd == []) (∃ (st4 : List UInt8) (b5 : List UInt8) (l6 : List Fld) (n7 : Int) (sz8 : Nat), okPs l6 ∧ length l6 ≤ 99999 ∧ szOk sz8 2 (length l6) ∧ length st4 ≤ 10000 ∧ length b5 ≤ 1000000 ∧ -1 ≤ n7 ∧ n7 ≤ 1000000 ∧ [str (fst (putReq a1 b2 n3)), sl sz (stripss 0 [] e) none, int i64 (↑(length bd) : Int), str bd] = [str st4, sl sz8 (encFs l6) none, int i64 n7, str b5] ∧ tup [str (fst (putM st4 l6 n7 b5)), int i64 (snd (putM st4 l6 n7 b5))] = v) (∃ (l11 : List (List UInt8)) (s12 : List UInt8) (sz13 : Nat), length l11 ≤ 100 ∧ szOk sz13 1 (length l11) ∧ [sl 1 [[str [80, 79, 83, 84]], [str [80, 85, 84]], [str [80, 65, 84, 67, 72]]] none, str m] = [sl sz13 (encS l11) none, str s12] ∧ ifP (List.contains l11 s12) (∃ (st14 : List UInt8) (b15 : List UInt8) (l16 : List Fld) (n17 : Int) (sz18 : Nat), okPs l16 ∧ length l16 ≤ 99999 ∧ szOk sz18 2 (length l16) ∧ length st14 ≤ 10000 ∧ length b15 ≤ 1000000 ∧ -1 ≤ n17 ∧ n17 ≤ 1000000 ∧ [str (fst (putReq a1 b2 n3)), sl sz (stripss 0 [] e) none, int i64 (↑(length bd) : Int), str bd] = [str st14, sl sz18 (encFs l16) none, int i64 n17, str b15] ∧ tup [str (fst (putM st14 l16 n17 b15)), int i64 (snd (putM st14 l16 n17 b15))] = v) (∃ (st21 : List UInt8) (b22 : List UInt8) (l23 : List Fld) (n24 : Int) (sz25 : Nat), okPs l23 ∧ length l23 ≤ 99999 ∧ szOk sz25 2 (length l23) ∧ length st21 ≤ 10000 ∧ length b22 ≤ 1000000 ∧ -1 ≤ n24 ∧ n24 ≤ 1000000 ∧ [str (fst (putReq a1 b2 n3)), sl sz (stripss 0 [] e) none, int i64 (-1), str bd] = [str st21, sl sz25 (encFs l23) none, int i64 n24, str b22] ∧ tup [str (fst (putM st21 l23 n24 b22)), int i64 (snd (putM st21 l23 n24 b22))] = v))))) : ToEnd cfg 20 (bodyOf f20) (RetIs prog f20 v) ([.code []]) .normal ([(0, true, .agg [.str m, .str t, .int .i64 mi, .sl sz e none, .str bd])]) ([]) := by
  exact unr_ok (pl := ⟨[], []⟩) hT 100000 _ _ _ _ (unr_use H (by kernel_rfl))
theorem t21 {v : AV} {e : List (List AV)} {sz : Nat}{m t bd : List UInt8} {mi : Int} (hT : TabOk cfg (ctab [(60, Ln.putReqC), (57, putMRC)])) (H : ∃ (a1 : List UInt8) (b2 : List UInt8) (n3 : Int), length a1 ≤ 10000 ∧ length b2 ≤ 10000 ∧ (-9223372036854775808 ≤ n3 ∧ n3 ≤ 9223372036854775807) ∧ [str m, str t, int i64 mi] = [str a1, str b2, int i64 n3] ∧ ifP (snd (putReq a1 b2 n3) != 0) (tup [str [], int i64 (snd (putReq a1 b2 n3))] = v) (ifP (decide ((↑(length bd) : Int) > 65536)) (tup [str [], int i64 3] = v) (ifP (!bd == []) (∃ (st4 : List UInt8) (l5 : List Fld) (n6 : Int) (sz7 : Nat) (t8 : Bool), okPs l5 ∧ length l5 ≤ 99999 ∧ szOk sz7 2 (length l5) ∧ length st4 ≤ 10000 ∧ 0 ≤ n6 ∧ n6 ≤ 1000000 ∧ [str (fst (putReq a1 b2 n3)), sl sz (stripss 0 [] e) none, int i64 (↑(length bd) : Int), bool true] = [str st4, sl sz7 (encFs l5) none, int i64 n6, bool t8] ∧ ifP (snd (putM st4 l5 (if t8 = true then n6 else -1) []) != 0) (tup [str [], int i64 (snd (putM st4 l5 (if t8 = true then n6 else -1) []))] = v) (gAnd (decide (length (fst (putM st4 l5 (if t8 = true then n6 else -1) [])) + length bd ≤ 9223372036854775807)) (tup [str (fst (putM st4 l5 (if t8 = true then n6 else -1) []) ++ bd), int i64 0] = v))) (ifP (m == [80, 79, 83, 84]) (∃ (st11 : List UInt8) (l12 : List Fld) (n13 : Int) (sz14 : Nat) (t15 : Bool), okPs l12 ∧ length l12 ≤ 99999 ∧ szOk sz14 2 (length l12) ∧ length st11 ≤ 10000 ∧ 0 ≤ n13 ∧ n13 ≤ 1000000 ∧ [str (fst (putReq a1 b2 n3)), sl sz (stripss 0 [] e) none, int i64 (↑(length bd) : Int), bool true] = [str st11, sl sz14 (encFs l12) none, int i64 n13, bool t15] ∧ ifP (snd (putM st11 l12 (if t15 = true then n13 else -1) []) != 0) (tup [str [], int i64 (snd (putM st11 l12 (if t15 = true then n13 else -1) []))] = v) (gAnd (decide (length (fst (putM st11 l12 (if t15 = true then n13 else -1) [])) + length bd ≤ 9223372036854775807)) (tup [str (fst (putM st11 l12 (if t15 = true then n13 else -1) []) ++ bd), int i64 0] = v))) (ifP (m == [80, 85, 84]) (∃ (st18 : List UInt8) (l19 : List Fld) (n20 : Int) (sz21 : Nat) (t22 : Bool), okPs l19 ∧ length l19 ≤ 99999 ∧ szOk sz21 2 (length l19) ∧ length st18 ≤ 10000 ∧ 0 ≤ n20 ∧ n20 ≤ 1000000 ∧ [str (fst (putReq a1 b2 n3)), sl sz (stripss 0 [] e) none, int i64 (↑(length bd) : Int), bool true] = [str st18, sl sz21 (encFs l19) none, int i64 n20, bool t22] ∧ ifP (snd (putM st18 l19 (if t22 = true then n20 else -1) []) != 0) (tup [str [], int i64 (snd (putM st18 l19 (if t22 = true then n20 else -1) []))] = v) (gAnd (decide (length (fst (putM st18 l19 (if t22 = true then n20 else -1) [])) + length bd ≤ 9223372036854775807)) (tup [str (fst (putM st18 l19 (if t22 = true then n20 else -1) []) ++ bd), int i64 0] = v))) (∃ (st25 : List UInt8) (l26 : List Fld) (n27 : Int) (sz28 : Nat) (t29 : Bool), okPs l26 ∧ length l26 ≤ 99999 ∧ szOk sz28 2 (length l26) ∧ length st25 ≤ 10000 ∧ 0 ≤ n27 ∧ n27 ≤ 1000000 ∧ [str (fst (putReq a1 b2 n3)), sl sz (stripss 0 [] e) none, int i64 (↑(length bd) : Int), bool (m == [80, 65, 84, 67, 72])] = [str st25, sl sz28 (encFs l26) none, int i64 n27, bool t29] ∧ ifP (snd (putM st25 l26 (if t29 = true then n27 else -1) []) != 0) (tup [str [], int i64 (snd (putM st25 l26 (if t29 = true then n27 else -1) []))] = v) (gAnd (decide (length (fst (putM st25 l26 (if t29 = true then n27 else -1) [])) + length bd ≤ 9223372036854775807)) (tup [str (fst (putM st25 l26 (if t29 = true then n27 else -1) []) ++ bd), int i64 0] = v)))))))) : ToEnd cfg 21 (bodyOf f21) (RetIs prog f21 v) ([.code []]) .normal ([(0, true, .agg [.str m, .str t, .int .i64 mi, .sl sz e none, .str bd])]) ([]) := by
  exact unr_ok (pl := ⟨[], []⟩) hT 100000 _ _ _ _ (unr_use H (by kernel_rfl))
theorem t18 {v : AV} {e : List (List AV)} {sz : Nat}{rs bd : List UInt8} {st mi : Int} {hd : Bool} (hT : TabOk cfg (ctab [(53, Ln.putStC), (54, bareC), (55, putMC)])) (H : ∃ (st1 : Int) (w2 : List UInt8) (n3 : Int), length w2 ≤ 10000 ∧ (-9223372036854775808 ≤ st1 ∧ st1 ≤ 9223372036854775807) ∧ (-9223372036854775808 ≤ n3 ∧ n3 ≤ 9223372036854775807) ∧ [int i64 st, str rs, int i64 mi] = [int i64 st1, str w2, int i64 n3] ∧ ifP (snd (putSt st1 w2 n3) != 0) (tup [str [], int i64 (snd (putSt st1 w2 n3))] = v) (∃ (st4 : Int), -9223372036854775808 ≤ st4 ∧ st4 ≤ 9223372036854775807 ∧ [int i64 st] = [int i64 st4] ∧ ifP (bareB st4) (ifP (!bd == []) (tup [str [], int i64 2] = v) (ifP (decide ((↑(length bd) : Int) > 262144)) (tup [str [], int i64 3] = v) (∃ (st5 : Int), -9223372036854775808 ≤ st5 ∧ st5 ≤ 9223372036854775807 ∧ [int i64 st] = [int i64 st5] ∧ ifP (bareB st5) (ifP hd (∃ (st6 : List UInt8) (b7 : List UInt8) (l8 : List Fld) (n9 : Int) (sz10 : Nat), okPs l8 ∧ length l8 ≤ 99999 ∧ szOk sz10 2 (length l8) ∧ length st6 ≤ 10000 ∧ length b7 ≤ 1000000 ∧ -1 ≤ n9 ∧ n9 ≤ 1000000 ∧ [str (fst (putSt st1 w2 n3)), sl sz (stripss 0 [] e) none, int i64 (-1), str []] = [str st6, sl sz10 (encFs l8) none, int i64 n9, str b7] ∧ tup [str (fst (putM st6 l8 n9 b7)), int i64 (snd (putM st6 l8 n9 b7))] = v) (∃ (st13 : List UInt8) (b14 : List UInt8) (l15 : List Fld) (n16 : Int) (sz17 : Nat), okPs l15 ∧ length l15 ≤ 99999 ∧ szOk sz17 2 (length l15) ∧ length st13 ≤ 10000 ∧ length b14 ≤ 1000000 ∧ -1 ≤ n16 ∧ n16 ≤ 1000000 ∧ [str (fst (putSt st1 w2 n3)), sl sz (stripss 0 [] e) none, int i64 (-1), str bd] = [str st13, sl sz17 (encFs l15) none, int i64 n16, str b14] ∧ tup [str (fst (putM st13 l15 n16 b14)), int i64 (snd (putM st13 l15 n16 b14))] = v)) (ifP hd (∃ (st20 : List UInt8) (b21 : List UInt8) (l22 : List Fld) (n23 : Int) (sz24 : Nat), okPs l22 ∧ length l22 ≤ 99999 ∧ szOk sz24 2 (length l22) ∧ length st20 ≤ 10000 ∧ length b21 ≤ 1000000 ∧ -1 ≤ n23 ∧ n23 ≤ 1000000 ∧ [str (fst (putSt st1 w2 n3)), sl sz (stripss 0 [] e) none, int i64 (↑(length bd) : Int), str []] = [str st20, sl sz24 (encFs l22) none, int i64 n23, str b21] ∧ tup [str (fst (putM st20 l22 n23 b21)), int i64 (snd (putM st20 l22 n23 b21))] = v) (∃ (st27 : List UInt8) (b28 : List UInt8) (l29 : List Fld) (n30 : Int) (sz31 : Nat), okPs l29 ∧ length l29 ≤ 99999 ∧ szOk sz31 2 (length l29) ∧ length st27 ≤ 10000 ∧ length b28 ≤ 1000000 ∧ -1 ≤ n30 ∧ n30 ≤ 1000000 ∧ [str (fst (putSt st1 w2 n3)), sl sz (stripss 0 [] e) none, int i64 (↑(length bd) : Int), str bd] = [str st27, sl sz31 (encFs l29) none, int i64 n30, str b28] ∧ tup [str (fst (putM st27 l29 n30 b28)), int i64 (snd (putM st27 l29 n30 b28))] = v))))) (ifP (decide ((↑(length bd) : Int) > 262144)) (tup [str [], int i64 3] = v) (∃ (st34 : Int), -9223372036854775808 ≤ st34 ∧ st34 ≤ 9223372036854775807 ∧ [int i64 st] = [int i64 st34] ∧ ifP (bareB st34) (ifP hd (∃ (st35 : List UInt8) (b36 : List UInt8) (l37 : List Fld) (n38 : Int) (sz39 : Nat), okPs l37 ∧ length l37 ≤ 99999 ∧ szOk sz39 2 (length l37) ∧ length st35 ≤ 10000 ∧ length b36 ≤ 1000000 ∧ -1 ≤ n38 ∧ n38 ≤ 1000000 ∧ [str (fst (putSt st1 w2 n3)), sl sz (stripss 0 [] e) none, int i64 (-1), str []] = [str st35, sl sz39 (encFs l37) none, int i64 n38, str b36] ∧ tup [str (fst (putM st35 l37 n38 b36)), int i64 (snd (putM st35 l37 n38 b36))] = v) (∃ (st42 : List UInt8) (b43 : List UInt8) (l44 : List Fld) (n45 : Int) (sz46 : Nat), okPs l44 ∧ length l44 ≤ 99999 ∧ szOk sz46 2 (length l44) ∧ length st42 ≤ 10000 ∧ length b43 ≤ 1000000 ∧ -1 ≤ n45 ∧ n45 ≤ 1000000 ∧ [str (fst (putSt st1 w2 n3)), sl sz (stripss 0 [] e) none, int i64 (-1), str bd] = [str st42, sl sz46 (encFs l44) none, int i64 n45, str b43] ∧ tup [str (fst (putM st42 l44 n45 b43)), int i64 (snd (putM st42 l44 n45 b43))] = v)) (ifP hd (∃ (st49 : List UInt8) (b50 : List UInt8) (l51 : List Fld) (n52 : Int) (sz53 : Nat), okPs l51 ∧ length l51 ≤ 99999 ∧ szOk sz53 2 (length l51) ∧ length st49 ≤ 10000 ∧ length b50 ≤ 1000000 ∧ -1 ≤ n52 ∧ n52 ≤ 1000000 ∧ [str (fst (putSt st1 w2 n3)), sl sz (stripss 0 [] e) none, int i64 (↑(length bd) : Int), str []] = [str st49, sl sz53 (encFs l51) none, int i64 n52, str b50] ∧ tup [str (fst (putM st49 l51 n52 b50)), int i64 (snd (putM st49 l51 n52 b50))] = v) (∃ (st56 : List UInt8) (b57 : List UInt8) (l58 : List Fld) (n59 : Int) (sz60 : Nat), okPs l58 ∧ length l58 ≤ 99999 ∧ szOk sz60 2 (length l58) ∧ length st56 ≤ 10000 ∧ length b57 ≤ 1000000 ∧ -1 ≤ n59 ∧ n59 ≤ 1000000 ∧ [str (fst (putSt st1 w2 n3)), sl sz (stripss 0 [] e) none, int i64 (↑(length bd) : Int), str bd] = [str st56, sl sz60 (encFs l58) none, int i64 n59, str b57] ∧ tup [str (fst (putM st56 l58 n59 b57)), int i64 (snd (putM st56 l58 n59 b57))] = v)))))) : ToEnd cfg 18 (bodyOf f18) (RetIs prog f18 v) ([.code []]) .normal ([(0, true, .agg [.int .i64 st, .str rs, .int .i64 mi, .sl sz e none, .str bd]), (1, true, .bool hd)]) ([]) := by
  exact unr_ok (pl := ⟨[], []⟩) hT 100000 _ _ _ _ (unr_use H (by kernel_rfl))
theorem t19 {v : AV} {e : List (List AV)} {sz : Nat}{rs bd : List UInt8} {st mi : Int} {hd : Bool} (hT : TabOk cfg (ctab [(56, Ln.putStC), (57, putMRC)])) (H : ∃ (st1 : Int) (w2 : List UInt8) (n3 : Int), length w2 ≤ 10000 ∧ (-9223372036854775808 ≤ st1 ∧ st1 ≤ 9223372036854775807) ∧ (-9223372036854775808 ≤ n3 ∧ n3 ≤ 9223372036854775807) ∧ [int i64 st, str rs, int i64 mi] = [int i64 st1, str w2, int i64 n3] ∧ ifP (snd (putSt st1 w2 n3) != 0) (tup [str [], int i64 (snd (putSt st1 w2 n3))] = v) (ifP (decide (st ≥ 100)) (ifP (decide (st ≤ 199)) (ifP (!bd == []) (tup [str [], int i64 2] = v) (ifP (decide ((↑(length bd) : Int) > 262144)) (tup [str [], int i64 3] = v) (∃ (st4 : List UInt8) (l5 : List Fld) (n6 : Int) (sz7 : Nat) (t8 : Bool), okPs l5 ∧ length l5 ≤ 99999 ∧ szOk sz7 2 (length l5) ∧ length st4 ≤ 10000 ∧ 0 ≤ n6 ∧ n6 ≤ 1000000 ∧ [str (fst (putSt st1 w2 n3)), sl sz (stripss 0 [] e) none, int i64 (↑(length bd) : Int), bool false] = [str st4, sl sz7 (encFs l5) none, int i64 n6, bool t8] ∧ ifP (snd (putM st4 l5 (if t8 = true then n6 else -1) []) != 0) (tup [str [], int i64 (snd (putM st4 l5 (if t8 = true then n6 else -1) []))] = v) (ifP hd (tup [str (fst (putM st4 l5 (if t8 = true then n6 else -1) [])), int i64 0] = v) (gAnd (decide (length (fst (putM st4 l5 (if t8 = true then n6 else -1) [])) + length bd ≤ 9223372036854775807)) (tup [str (fst (putM st4 l5 (if t8 = true then n6 else -1) []) ++ bd), int i64 0] = v)))))) (ifP (st == 204) (ifP (!bd == []) (tup [str [], int i64 2] = v) (ifP (decide ((↑(length bd) : Int) > 262144)) (tup [str [], int i64 3] = v) (∃ (st11 : List UInt8) (l12 : List Fld) (n13 : Int) (sz14 : Nat) (t15 : Bool), okPs l12 ∧ length l12 ≤ 99999 ∧ szOk sz14 2 (length l12) ∧ length st11 ≤ 10000 ∧ 0 ≤ n13 ∧ n13 ≤ 1000000 ∧ [str (fst (putSt st1 w2 n3)), sl sz (stripss 0 [] e) none, int i64 (↑(length bd) : Int), bool false] = [str st11, sl sz14 (encFs l12) none, int i64 n13, bool t15] ∧ ifP (snd (putM st11 l12 (if t15 = true then n13 else -1) []) != 0) (tup [str [], int i64 (snd (putM st11 l12 (if t15 = true then n13 else -1) []))] = v) (ifP hd (tup [str (fst (putM st11 l12 (if t15 = true then n13 else -1) [])), int i64 0] = v) (gAnd (decide (length (fst (putM st11 l12 (if t15 = true then n13 else -1) [])) + length bd ≤ 9223372036854775807)) (tup [str (fst (putM st11 l12 (if t15 = true then n13 else -1) []) ++ bd), int i64 0] = v)))))) (ifP (st == 304) (ifP (!bd == []) (tup [str [], int i64 2] = v) (ifP (decide ((↑(length bd) : Int) > 262144)) (tup [str [], int i64 3] = v) (∃ (st18 : List UInt8) (l19 : List Fld) (n20 : Int) (sz21 : Nat) (t22 : Bool), okPs l19 ∧ length l19 ≤ 99999 ∧ szOk sz21 2 (length l19) ∧ length st18 ≤ 10000 ∧ 0 ≤ n20 ∧ n20 ≤ 1000000 ∧ [str (fst (putSt st1 w2 n3)), sl sz (stripss 0 [] e) none, int i64 (↑(length bd) : Int), bool !st == 304] = [str st18, sl sz21 (encFs l19) none, int i64 n20, bool t22] ∧ ifP (snd (putM st18 l19 (if t22 = true then n20 else -1) []) != 0) (tup [str [], int i64 (snd (putM st18 l19 (if t22 = true then n20 else -1) []))] = v) (ifP hd (tup [str (fst (putM st18 l19 (if t22 = true then n20 else -1) [])), int i64 0] = v) (gAnd (decide (length (fst (putM st18 l19 (if t22 = true then n20 else -1) [])) + length bd ≤ 9223372036854775807)) (tup [str (fst (putM st18 l19 (if t22 = true then n20 else -1) []) ++ bd), int i64 0] = v)))))) (ifP (decide ((↑(length bd) : Int) > 262144)) (tup [str [], int i64 3] = v) (∃ (st25 : List UInt8) (l26 : List Fld) (n27 : Int) (sz28 : Nat) (t29 : Bool), okPs l26 ∧ length l26 ≤ 99999 ∧ szOk sz28 2 (length l26) ∧ length st25 ≤ 10000 ∧ 0 ≤ n27 ∧ n27 ≤ 1000000 ∧ [str (fst (putSt st1 w2 n3)), sl sz (stripss 0 [] e) none, int i64 (↑(length bd) : Int), bool !st == 304] = [str st25, sl sz28 (encFs l26) none, int i64 n27, bool t29] ∧ ifP (snd (putM st25 l26 (if t29 = true then n27 else -1) []) != 0) (tup [str [], int i64 (snd (putM st25 l26 (if t29 = true then n27 else -1) []))] = v) (ifP hd (tup [str (fst (putM st25 l26 (if t29 = true then n27 else -1) [])), int i64 0] = v) (gAnd (decide (length (fst (putM st25 l26 (if t29 = true then n27 else -1) [])) + length bd ≤ 9223372036854775807)) (tup [str (fst (putM st25 l26 (if t29 = true then n27 else -1) []) ++ bd), int i64 0] = v)))))))) (ifP (st == 204) (ifP (!bd == []) (tup [str [], int i64 2] = v) (ifP (decide ((↑(length bd) : Int) > 262144)) (tup [str [], int i64 3] = v) (∃ (st32 : List UInt8) (l33 : List Fld) (n34 : Int) (sz35 : Nat) (t36 : Bool), okPs l33 ∧ length l33 ≤ 99999 ∧ szOk sz35 2 (length l33) ∧ length st32 ≤ 10000 ∧ 0 ≤ n34 ∧ n34 ≤ 1000000 ∧ [str (fst (putSt st1 w2 n3)), sl sz (stripss 0 [] e) none, int i64 (↑(length bd) : Int), bool false] = [str st32, sl sz35 (encFs l33) none, int i64 n34, bool t36] ∧ ifP (snd (putM st32 l33 (if t36 = true then n34 else -1) []) != 0) (tup [str [], int i64 (snd (putM st32 l33 (if t36 = true then n34 else -1) []))] = v) (ifP hd (tup [str (fst (putM st32 l33 (if t36 = true then n34 else -1) [])), int i64 0] = v) (gAnd (decide (length (fst (putM st32 l33 (if t36 = true then n34 else -1) [])) + length bd ≤ 9223372036854775807)) (tup [str (fst (putM st32 l33 (if t36 = true then n34 else -1) []) ++ bd), int i64 0] = v)))))) (ifP (st == 304) (ifP (!bd == []) (tup [str [], int i64 2] = v) (ifP (decide ((↑(length bd) : Int) > 262144)) (tup [str [], int i64 3] = v) (∃ (st39 : List UInt8) (l40 : List Fld) (n41 : Int) (sz42 : Nat) (t43 : Bool), okPs l40 ∧ length l40 ≤ 99999 ∧ szOk sz42 2 (length l40) ∧ length st39 ≤ 10000 ∧ 0 ≤ n41 ∧ n41 ≤ 1000000 ∧ [str (fst (putSt st1 w2 n3)), sl sz (stripss 0 [] e) none, int i64 (↑(length bd) : Int), bool !st == 304] = [str st39, sl sz42 (encFs l40) none, int i64 n41, bool t43] ∧ ifP (snd (putM st39 l40 (if t43 = true then n41 else -1) []) != 0) (tup [str [], int i64 (snd (putM st39 l40 (if t43 = true then n41 else -1) []))] = v) (ifP hd (tup [str (fst (putM st39 l40 (if t43 = true then n41 else -1) [])), int i64 0] = v) (gAnd (decide (length (fst (putM st39 l40 (if t43 = true then n41 else -1) [])) + length bd ≤ 9223372036854775807)) (tup [str (fst (putM st39 l40 (if t43 = true then n41 else -1) []) ++ bd), int i64 0] = v)))))) (ifP (decide ((↑(length bd) : Int) > 262144)) (tup [str [], int i64 3] = v) (∃ (st46 : List UInt8) (l47 : List Fld) (n48 : Int) (sz49 : Nat) (t50 : Bool), okPs l47 ∧ length l47 ≤ 99999 ∧ szOk sz49 2 (length l47) ∧ length st46 ≤ 10000 ∧ 0 ≤ n48 ∧ n48 ≤ 1000000 ∧ [str (fst (putSt st1 w2 n3)), sl sz (stripss 0 [] e) none, int i64 (↑(length bd) : Int), bool !st == 304] = [str st46, sl sz49 (encFs l47) none, int i64 n48, bool t50] ∧ ifP (snd (putM st46 l47 (if t50 = true then n48 else -1) []) != 0) (tup [str [], int i64 (snd (putM st46 l47 (if t50 = true then n48 else -1) []))] = v) (ifP hd (tup [str (fst (putM st46 l47 (if t50 = true then n48 else -1) [])), int i64 0] = v) (gAnd (decide (length (fst (putM st46 l47 (if t50 = true then n48 else -1) [])) + length bd ≤ 9223372036854775807)) (tup [str (fst (putM st46 l47 (if t50 = true then n48 else -1) []) ++ bd), int i64 0] = v))))))))) : ToEnd cfg 19 (bodyOf f19) (RetIs prog f19 v) ([.code []]) .normal ([(0, true, .agg [.int .i64 st, .str rs, .int .i64 mi, .sl sz e none, .str bd]), (1, true, .bool hd)]) ([]) := by
  exact unr_ok (pl := ⟨[], []⟩) hT 100000 _ _ _ _ (unr_use H (by kernel_rfl))
end Go.Proofs.YtnncfdlpogjlkaaGreatDoor
end
section
namespace Go.Proofs.YtnncfdlpogjlkaaGreatDoor
open Go.Ai Go
set_option maxRecDepth 100000
theorem pf54 : pureFn cfg 54 Tryz.f54 := (by refine ⟨?_, ?_, ?_, ?_, ?_, ?_⟩ <;> kernel_rfl)
theorem pf100 : pureFn cfg 100 Tryz.f100 := (by refine ⟨?_, ?_, ?_, ?_, ?_, ?_⟩ <;> kernel_rfl)
theorem pf59 : pureFn cfg 59 Tryz.f59 := (by refine ⟨?_, ?_, ?_, ?_, ?_, ?_⟩ <;> kernel_rfl)
theorem pf93 : pureFn cfg 93 Tryz.f93 := (by refine ⟨?_, ?_, ?_, ?_, ?_, ?_⟩ <;> kernel_rfl)
theorem pf94 : pureFn cfg 94 Tryz.f94 := (by refine ⟨?_, ?_, ?_, ?_, ?_, ?_⟩ <;> kernel_rfl)
theorem pf98 : pureFn cfg 98 Tryz.f98 := (by refine ⟨?_, ?_, ?_, ?_, ?_, ?_⟩ <;> kernel_rfl)
theorem pf99 : pureFn cfg 99 Tryz.f99 := (by refine ⟨?_, ?_, ?_, ?_, ?_, ?_⟩ <;> kernel_rfl)
theorem pf141 : pureFn cfg 141 Tryz.f141 := (by refine ⟨?_, ?_, ?_, ?_, ?_, ?_⟩ <;> kernel_rfl)
theorem pf142 : pureFn cfg 142 Tryz.f142 := (by refine ⟨?_, ?_, ?_, ?_, ?_, ?_⟩ <;> kernel_rfl)
theorem pf97 : pureFn cfg 97 Tryz.f97 := (by refine ⟨?_, ?_, ?_, ?_, ?_, ?_⟩ <;> kernel_rfl)
theorem hf104 : heapFn cfg 104 Tryz.f104 := (by refine ⟨?_, ?_, ?_, ?_, ?_, ?_⟩ <;> kernel_rfl)
theorem hf143 : heapFn cfg 143 Tryz.f143 := (by refine ⟨?_, ?_, ?_, ?_, ?_, ?_⟩ <;> kernel_rfl)
theorem hf103 : heapFn cfg 103 Tryz.f103 := (by refine ⟨?_, ?_, ?_, ?_, ?_, ?_⟩ <;> kernel_rfl)
theorem hf102 : heapFn cfg 102 Tryz.f102 := (by refine ⟨?_, ?_, ?_, ?_, ?_, ?_⟩ <;> kernel_rfl)
theorem gf101 : giveFn cfg 101 Tryz.f101 := (by refine ⟨?_, ?_, ?_, ?_, ?_, ?_⟩ <;> kernel_rfl)
theorem gf61 : giveFn cfg 61 Tryz.f61 := (by refine ⟨?_, ?_, ?_, ?_, ?_, ?_⟩ <;> kernel_rfl)
theorem gf96 : giveFn cfg 96 Tryz.f96 := (by refine ⟨?_, ?_, ?_, ?_, ?_, ?_⟩ <;> kernel_rfl)
theorem tdiv100 {st : Int} : Int.tdiv st 100 = 1 ↔ 100 ≤ st ∧ st ≤ 199 := by
  rcases Int.le_total 0 st with h | h
  · rw [Int.tdiv_eq_ediv_of_nonneg h]; omega
  · obtain ⟨n, rfl⟩ : ∃ n : Nat, st = -(n : Int) := ⟨(-st).toNat, by omega⟩
    rw [Int.neg_tdiv, Int.tdiv_eq_ediv_of_nonneg (by omega)]; omega
theorem tdiv_range {st : Int} (h0 : -9223372036854775808 ≤ st) (h1 : st ≤ 9223372036854775807) : IntKind.wrap .i64 (Int.tdiv st 100) = Int.tdiv st 100 := by
  refine wrap_in ?_ ?_
  all_goals
    rcases Int.le_total 0 st with h | h
    · rw [Int.tdiv_eq_ediv_of_nonneg h]; omega
    · obtain ⟨n, rfl⟩ : ∃ n : Nat, st = -(n : Int) := ⟨(-st).toNat, by omega⟩
      rw [Int.neg_tdiv, Int.tdiv_eq_ediv_of_nonneg (by omega)]; omega
theorem c54 : COk cfg 54 bareC := by
  refine cok_pure pf54 fun vs h K ht => ?_
  obtain ⟨st, h0, h1, rfl, hk⟩ := ht; refine ⟨_, hk, t54 (ctab_ok ctab_nil) ?_⟩; rw [tdiv_range h0 h1]
  refine ifP_intro (fun a => ?_) fun a => ifP_intro (fun b => ?_) fun b => ?_
  · have := tdiv100.1 (by simpa using a)
    simp [bareB, this]
  · have : st = 204 := by simpa using b
    simp [bareB, this]
  · have h2 : ¬(100 ≤ st ∧ st ≤ 199) := fun h => by simp [tdiv100.2 h] at a
    have h3 : ¬st = 204 := by simpa using b
    have h4 : (decide (100 ≤ st) && decide (st ≤ 199)) = false := by
      rw [← Bool.decide_and]; exact decide_eq_false h2
    unfold bareB; rw [h4, decide_eq_false h3, Bool.false_or, Bool.false_or]; rfl
theorem loop100 {s : List UInt8} {sz : Nat} : ∀ (r pre : List (List UInt8)), (pre ++ r).length ≤ 100 → szOk sz 1 (pre ++ r).length →
    ToEnd cfg 100 (bodyOf Tryz.f100) (RetIs Tryz.prog Tryz.f100 (.int .i64 (ixG s pre.length r))) [.code [0, 1, 0, 1], .block 0, .code [1, 1]] .normal
      [(0, true, .sl sz (encS (pre ++ r)) none), (1, true, .str s), (7, true, .int .i64 (pre ++ r).length), (8, true, .int .i64 pre.length)] [] := by
  intro r
  induction r with
  | nil =>
    intro pre hl hs
    exact t100b (ctab_ok ctab_nil) (ifP_intro (fun c => by simp at c) fun _ => rfl)
  | cons x r ih =>
    intro pre hl hs
    have hin : (inR (pre.length : Int) (encS (pre ++ x :: r)).length && Nat.beq sz 1 && Nat.ble 1 sz) = true := by
      rw [encS_len, inR_nat (by simp), Bool.true_and]
      exact hs.beq (by simp; omega) (by decide)
    refine t100b (ctab_ok ctab_nil) (ifP_intro (fun _ => gAnd_intro hin ⟨x, getE_ss _ _ _, ifP_intro (fun a => ?_) fun a => gAnd_intro (by rw [low_encS]; rfl) ?_⟩) fun c => ?_)
    · simp [ixG, a]
    · have e : pre ++ x :: r = (pre ++ [x]) ++ r := by simp
      have := ih (pre ++ [x]) (by rw [← e]; exact hl) (by rw [← e]; exact hs)
      rw [← e] at this
      have hw : IntKind.wrap .i64 ((pre.length : Int) + 1) = (((pre ++ [x]).length : Nat) : Int) := by rw [wrap_in (by simp at hl; omega) (by simp at hl; omega)]; simp
      rw [hw, ixG, if_neg (by rw [a]; simp)]
      simpa using this
    · simp at c; omega
theorem c100 : COk cfg 100 ixSlC := by
  refine cok_pure pf100 fun vs h K ht => ?_
  obtain ⟨l, s, sz, h0, h1, rfl, hk⟩ := ht; refine ⟨_, hk, t100a (ctab_ok ctab_nil) ?_⟩
  have := loop100 (s := s) (sz := sz) l [] (by simpa using h0) (by simpa using h1)
  rw [encS_len]; simpa using this
theorem ixG_contains (s : List UInt8) : ∀ (l : List (List UInt8)) (k : Nat), decide (ixG s k l ≥ 0) = l.contains s
  | [], k => rfl
  | x :: r, k => by
    rw [ixG]
    by_cases h : (s == x) = true
    · rw [if_pos h]; simp only [List.contains, List.elem, h]; simp
    · rw [if_neg h]; have h' : (s == x) = false := Bool.eq_false_iff.2 h; simp only [List.contains, List.elem, h']; exact ixG_contains s r (k + 1)
theorem c59 : COk cfg 59 inSlC := by
  refine cok_pure pf59 fun vs h K ht => ?_
  obtain ⟨l, s, sz, h0, h1, rfl, hk⟩ := ht
  refine ⟨_, hk, t59 (ctab_ok (ctab_cons c100 ctab_nil)) ⟨l, s, sz, h0, h1, by rw [stripss_encS], ?_⟩⟩
  rw [ixG_contains]
theorem okPs_mem {l : List Fld} (h : okPs l) {f : Fld} (hf : f ∈ l) : f.name.length ≤ 20000 ∧ f.value.length ≤ 20000 := h.2 f hf
theorem tab93 : TabOk cfg (ctab [(118, fldC mayF), (119, fldSC)]) := ctab_ok (ctab_cons c118 (ctab_cons c119 ctab_nil))
theorem long_eq (x : Fld) : decide (((x.name ++ [58, 32] ++ x.value).length : Int) > 2048) = longF x := by
  unfold longF; simp only [List.length_append, List.length_cons, List.length_nil]
  by_cases h : 2048 < x.name.length + 2 + x.value.length
  · rw [decide_eq_true h, decide_eq_true (by omega)]
  · rw [decide_eq_false h, decide_eq_false (by omega)]
theorem loop93 {sz : Nat} : ∀ (r pre : List Fld), okPs (pre ++ r) → szOk sz 2 (pre ++ r).length →
    ToEnd cfg 93 (bodyOf Tryz.f93) (RetIs Tryz.prog Tryz.f93 (.int .i64 (chkG r))) [.code [0, 1, 0, 1, 1], .block 0, .code [1, 1, 1]] .normal
      [(8, true, .sl sz (encFs (pre ++ r)) none), (9, true, .int .i64 (pre ++ r).length), (10, true, .int .i64 pre.length)] [] := by
  intro r
  induction r with
  | nil =>
    intro pre ho hs
    exact t93b tab93 (ifP_intro (fun c => by simp at c) fun _ => rfl)
  | cons x r ih =>
    intro pre ho hs; have hlen : (pre ++ x :: r).length ≤ 100000 := ho.1
    have hx := okPs_mem ho (f := x) (by simp)
    have hin : (inR (pre.length : Int) (encFs (pre ++ x :: r)).length && Nat.beq sz 2 && Nat.ble 1 sz) = true := by
      rw [encFs_len, inR_nat (by simp), Bool.true_and]
      exact hs.beq (by simp; omega) (by decide)
    refine t93b tab93 (ifP_intro (fun _ => gAnd_intro hin ⟨x.name, x.value, getE_fs _ _ _, x.name, x.value, by omega, by omega, rfl, ifP_intro (fun a => ?_) fun a => ⟨x.name, x.value, by omega, by omega, rfl, ?_⟩⟩) fun c => ?_)
    · have a : mayF x = false := by simpa using a
      simp [chkG, a]
    · have a : mayF x = true := by simpa using a
      rw [long_eq]
      refine ifP_intro (fun b => by simp [chkG, a, b]) fun b => gAnd_intro (by rw [low_encFs]; rfl) ?_
      have e : pre ++ x :: r = (pre ++ [x]) ++ r := by simp
      have := ih (pre ++ [x]) (by rw [← e]; exact ho) (by rw [← e]; exact hs)
      rw [← e] at this
      have hw : IntKind.wrap .i64 ((pre.length : Int) + 1) = (((pre ++ [x]).length : Nat) : Int) := by rw [wrap_in (by simp at hlen; omega) (by simp at hlen; omega)]; simp
      rw [hw, chkG, if_neg (by rw [a]; simp), if_neg (by rw [b]; simp)]
      exact this
    · simp at c; omega
theorem big64 (l : List Fld) : decide (((encFs l).length : Int) > 64) = decide (64 < l.length) := by
  rw [encFs_len]
  by_cases h : 64 < l.length
  · rw [decide_eq_true h, decide_eq_true (by omega)]
  · rw [decide_eq_false h, decide_eq_false (by omega)]
theorem c93 : COk cfg 93 chkC := by
  refine cok_pure pf93 fun vs h K ht => ?_
  obtain ⟨l, sz, h0, h1, rfl, hk⟩ := ht; refine ⟨_, hk, t93a tab93 ?_⟩; rw [big64]
  refine ifP_intro (fun a => ?_) fun a => ?_
  · rw [chkF, if_pos (by simpa using a)]
  · rw [chkF, if_neg (by simpa using a), encFs_len]
    exact loop93 l [] h0 h1
theorem tab98 : TabOk cfg (ctab [(128, fldC mayF), (129, fldC longF)]) := ctab_ok (ctab_cons c128 (ctab_cons c129 ctab_nil))
theorem loop98 {sz : Nat} : ∀ (r pre : List Fld), okPs (pre ++ r) → szOk sz 2 (pre ++ r).length →
    ToEnd cfg 98 (bodyOf Tryz.f98) (RetIs Tryz.prog Tryz.f98 (.int .i64 (chkG r))) [.code [0, 1, 0, 1, 1], .block 0, .code [1, 1, 1]] .normal
      [(0, true, .sl sz (encFs (pre ++ r)) none), (3, true, .int .i64 pre.length)] [] := by
  intro r
  induction r with
  | nil =>
    intro pre ho hs
    exact t98b tab98 (ifP_intro (fun c => by simp [encFs_len] at c) fun _ => rfl)
  | cons x r ih =>
    intro pre ho hs; have hlen : (pre ++ x :: r).length ≤ 100000 := ho.1
    have hx := okPs_mem ho (f := x) (by simp)
    have hin : (inR (pre.length : Int) (encFs (pre ++ x :: r)).length && Nat.beq sz 2 && Nat.ble 1 sz) = true := by
      rw [encFs_len, inR_nat (by simp), Bool.true_and]
      exact hs.beq (by simp; omega) (by decide)
    refine t98b tab98 (ifP_intro (fun _ => gAnd_intro hin ⟨x.name, x.value, getE_fs _ _ _, x.name, x.value, by omega, by omega, rfl, ifP_intro (fun a => ?_) fun a => gAnd_intro hin ⟨x.name, x.value, getE_fs _ _ _, x.name, x.value, by omega, by omega, rfl, ifP_intro (fun b => ?_) fun b => ?_⟩⟩) fun c => ?_)
    · have a : mayF x = false := by simpa using a
      simp [chkG, a]
    · have a : mayF x = true := by simpa using a
      have b : longF x = true := b; simp [chkG, a, b]
    · have a : mayF x = true := by simpa using a
      have b : longF x = false := b
      have e : pre ++ x :: r = (pre ++ [x]) ++ r := by simp
      have := ih (pre ++ [x]) (by rw [← e]; exact ho) (by rw [← e]; exact hs)
      rw [← e] at this
      have hw : IntKind.wrap .i64 ((pre.length : Int) + 1) = (((pre ++ [x]).length : Nat) : Int) := by rw [wrap_in (by simp at hlen; omega) (by simp at hlen; omega)]; simp
      rw [hw, chkG, if_neg (by rw [a]; simp), if_neg (by rw [b]; simp)]
      exact this
    · rw [encFs_len] at c; simp at c; omega
theorem c98 : COk cfg 98 chkC := by
  refine cok_pure pf98 fun vs h K ht => ?_
  obtain ⟨l, sz, h0, h1, rfl, hk⟩ := ht; refine ⟨_, hk, t98a tab98 ?_⟩; rw [big64]
  refine ifP_intro (fun a => ?_) fun a => ?_
  · rw [chkF, if_pos (by simpa using a)]
  · rw [chkF, if_neg (by simpa using a)]
    exact loop98 l [] h0 h1
theorem c109b : COk cfg 109 copyB := by
  refine cok_heap (fn := Tryz.f109) (by refine ⟨?_, ?_, ?_, ?_, ?_, ?_⟩ <;> kernel_rfl) fun vs h K ht => ?_
  unfold copyB at ht; split at ht
  · obtain ⟨acc, ⟨rfl, rfl, rfl, rfl, rfl, rfl⟩, hp, rfl, rfl, hk⟩ := ht
    rcases hp with rfl | rfl
    · refine t109e (ctab_ok ctab_nil) ?_; rw [stripss_rb]; exact hk
    · refine t109f (ctab_ok ctab_nil) ?_; rw [stripss_rb]; exact hk
  · exact ht.elim
theorem c65b : COk cfg 65 writeB := by
  refine cok_heap (fn := Tryz.f65) (by refine ⟨?_, ?_, ?_, ?_, ?_, ?_⟩ <;> kernel_rfl) fun vs h K ht => ?_
  unfold writeB at ht; split at ht
  · obtain ⟨acc, x, ⟨rfl, rfl, rfl, rfl, rfl, rfl⟩, hp, rfl, rfl, hl, rfl, hk⟩ := ht; refine t65c (ctab_ok (ctab_cons c109b ctab_nil)) ⟨acc, ⟨rfl, rfl, rfl, rfl, rfl, rfl⟩, hp, rfl, rfl, gAnd_intro ?_ ?_⟩
    · rw [rb_len, tag_ok rfl, decide_eq_true (by omega)]; rfl
    · rw [rb_map, ← rb_app, stripss_rb, rb_len, ← List.length_append]; exact hk
  · exact ht.elim
theorem c67b : COk cfg 67 strB := by
  refine cok_hprim (by kernel_rfl) (by kernel_rfl : cfg.hprim 67 = some (pString 5)) fun vs h K ht => ?_
  unfold strB at ht; split at ht
  · obtain ⟨acc, ⟨rfl, rfl, rfl, rfl, rfl⟩, rfl, rfl, rfl, hk⟩ := ht; refine ⟨_, _, ?_, hk⟩; unfold pString; simp only [List.getElem?_cons_succ, List.getElem?_cons_zero, bytesA_rb]; rw [rb_len, tag_ok rfl]; rfl
  · exact ht.elim
theorem tab94 : TabOk cfg (ctab [(93, chkC), (119, fldSC), (65, writeB), (67, strB)]) := ctab_ok (ctab_cons c93 (ctab_cons c119 (ctab_cons c65b (ctab_cons c67b ctab_nil))))
theorem loop94 {sz : Nat} : ∀ (r pre : List Fld) (acc : List UInt8) (p : AV), (p = .nilp ∨ p = .ptr 1 0) → okPs (pre ++ r) → szOk sz 2 (pre ++ r).length → acc.length ≤ 50000 * pre.length →
    ToEnd cfg 94 (bodyOf Tryz.f94) (RetIs Tryz.prog Tryz.f94 (.str (acc ++ putL r))) [.code [0, 1, 0, 1, 1, 1], .block 0, .code [1, 1, 1, 1]] .normal
      [(3, true, .ptr 1 0), (9, true, .sl sz (encFs (pre ++ r)) none), (10, true, .int .i64 (pre ++ r).length), (11, true, .int .i64 pre.length)] [.grow acc.length 1 5, .mem 113 [p, .sl 1 (rb acc) (some 0)]] := by
  intro r
  induction r with
  | nil =>
    intro pre acc p hp ho hs ha
    exact t94b tab94 (ifP_intro (fun c => by simp at c) fun _ => ⟨acc, ⟨rfl, rfl, rfl, rfl, rfl⟩, rfl, rfl, rfl, by simp [putL]⟩)
  | cons x r ih =>
    intro pre acc p hp ho hs ha; have hlen : (pre ++ x :: r).length ≤ 100000 := ho.1
    have hx := okPs_mem ho (f := x) (by simp)
    have hin : (inR (pre.length : Int) (encFs (pre ++ x :: r)).length && Nat.beq sz 2 && Nat.ble 1 sz) = true := by
      rw [encFs_len, inR_nat (by simp), Bool.true_and]
      exact hs.beq (by simp; omega) (by decide)
    have hpl : pre.length ≤ 100000 := by simp at hlen; omega
    refine t94b tab94 (ifP_intro (fun _ => gAnd_intro hin ⟨x.name, x.value, getE_fs _ _ _, x.name, x.value, by omega, by omega, rfl, acc, x.name ++ [58, 32] ++ x.value, ⟨rfl, rfl, rfl, rfl, rfl, rfl⟩, hp, rfl, rfl, ?_, rfl, acc ++ (x.name ++ [58, 32] ++ x.value), [13, 10], ⟨rfl, rfl, rfl, rfl, rfl, rfl⟩, .inr rfl, rfl, rfl, ?_, rfl, gAnd_intro ?_ ?_⟩) fun c => ?_)
    · simp; omega
    · simp; omega
    · rw [low_encFs, low_rb]; rfl
    · have e : pre ++ x :: r = (pre ++ [x]) ++ r := by simp
      have := ih (pre ++ [x]) (acc ++ (x.name ++ [58, 32] ++ x.value) ++ [13, 10]) (.ptr 1 0) (.inr rfl) (by rw [← e]; exact ho) (by rw [← e]; exact hs) (by simp; omega)
      rw [← e] at this
      have hw : IntKind.wrap .i64 ((pre.length : Int) + 1) = (((pre ++ [x]).length : Nat) : Int) := by rw [wrap_in (by omega) (by omega)]; simp
      have ef : acc ++ (x.name ++ [58, 32] ++ x.value) ++ [13, 10] ++ putL r = acc ++ putL (x :: r) := by simp [putL, crlf]
      rw [hw]; rw [ef] at this; exact this
    · simp at c; omega
theorem c94 : COk cfg 94 tellFC2 := by
  refine cok_pure pf94 fun vs h K ht => ?_
  obtain ⟨l, sz, h0, h1, rfl, hk⟩ := ht; refine ⟨_, hk, t94a tab94 ?_⟩
  refine ⟨l, sz, h0, h1, by rw [stripss_encFs], ifP_intro (fun a => ?_) fun a => ?_⟩
  · rw [tellF, if_pos (by simpa using a)]
  · rw [tellF, if_neg (by simpa using a), encFs_len]
    have := loop94 (sz := sz) l [] [] .nilp (.inl rfl) h0 h1 (by simp)
    exact this
theorem tab99 : TabOk cfg (ctab [(98, chkC)]) := ctab_ok (ctab_cons c98 ctab_nil)
theorem loop99 {sz : Nat} : ∀ (r pre : List Fld) (acc : List UInt8), okPs (pre ++ r) → szOk sz 2 (pre ++ r).length → acc.length ≤ 50000 * pre.length →
    ToEnd cfg 99 (bodyOf Tryz.f99) (RetIs Tryz.prog Tryz.f99 (.str (acc ++ putL r))) [.code [0, 1, 0, 1, 1, 1], .block 0, .code [1, 1, 1, 1]] .normal
      [(0, true, .sl sz (encFs (pre ++ r)) none), (3, true, .sl 1 (rb acc) (some 0)), (4, true, .int .i64 pre.length)] [.grow acc.length 1 5] := by
  intro r
  induction r with
  | nil =>
    intro pre acc ho hs ha
    refine t99b tab99 (ifP_intro (fun c => by simp [encFs_len] at c) fun _ => gAnd_intro (rowsB_rb _) ?_)
    rw [rowV_rb]; simp [putL]
  | cons x r ih =>
    intro pre acc ho hs ha; have hlen : (pre ++ x :: r).length ≤ 100000 := ho.1
    have hx := okPs_mem ho (f := x) (by simp)
    have hin : (inR (pre.length : Int) (encFs (pre ++ x :: r)).length && Nat.beq sz 2 && Nat.ble 1 sz) = true := by
      rw [encFs_len, inR_nat (by simp), Bool.true_and]
      exact hs.beq (by simp; omega) (by decide)
    have hpl : pre.length ≤ 100000 := by simp at hlen; omega
    have e1 : rb acc ++ (x.name.map fun b => [AV.int IntKind.u8 ((UInt8.toNat b : Nat) : Int)]) = rb (acc ++ x.name) := by rw [rb_map, ← rb_app]
    have e2 : rb (acc ++ x.name) ++ ([58, 32].map fun b => [AV.int IntKind.u8 ((UInt8.toNat b : Nat) : Int)]) = rb (acc ++ x.name ++ [58, 32]) := by rw [rb_map, ← rb_app]
    have e3 : rb (acc ++ x.name ++ [58, 32]) ++ (x.value.map fun b => [AV.int IntKind.u8 ((UInt8.toNat b : Nat) : Int)]) = rb (acc ++ x.name ++ [58, 32] ++ x.value) := by rw [rb_map, ← rb_app]
    have e4 : rb (acc ++ x.name ++ [58, 32] ++ x.value) ++ [[AV.int IntKind.u8 13], [AV.int IntKind.u8 10]] = rb (acc ++ x.name ++ [58, 32] ++ x.value ++ [13, 10]) := by rw [rb_app (acc ++ x.name ++ [58, 32] ++ x.value) [13, 10]]; rfl
    refine t99b tab99 (ifP_intro (fun _ => gAnd_intro hin ⟨x.name, x.value, getE_fs _ _ _, ?_⟩) fun c => ?_)
    · rw [e1, e2]; refine gAnd_intro ?_ (gAnd_intro ?_ (gAnd_intro hin ⟨x.name, x.value, getE_fs _ _ _, ?_⟩))
      · rw [rb_len, tag_ok rfl, decide_eq_true (by omega)]; rfl
      · rw [rb_len, rb_len, ← List.length_append, tag_ok rfl, decide_eq_true (by simp; omega)]; rfl
      · rw [e3, e4]
        refine gAnd_intro ?_ (gAnd_intro ?_ (gAnd_intro (by rw [low_encFs, low_rb]; rfl) ?_))
        · rw [rb_len, rb_len]
          have : (acc ++ x.name).length + 2 = (acc ++ x.name ++ [58, 32]).length := by simp; omega
          rw [this, tag_ok rfl, decide_eq_true (by simp; omega)]; rfl
        · rw [rb_len, rb_len, ← List.length_append, tag_ok rfl, decide_eq_true (by simp; omega)]; rfl
        · have e : pre ++ x :: r = (pre ++ [x]) ++ r := by simp
          have := ih (pre ++ [x]) (acc ++ x.name ++ [58, 32] ++ x.value ++ [13, 10]) (by rw [← e]; exact ho) (by rw [← e]; exact hs) (by simp; omega)
          rw [← e] at this
          have hw : IntKind.wrap .i64 ((pre.length : Int) + 1) = (((pre ++ [x]).length : Nat) : Int) := by rw [wrap_in (by omega) (by omega)]; simp
          have ef : acc ++ x.name ++ [58, 32] ++ x.value ++ [13, 10] ++ putL r = acc ++ putL (x :: r) := by simp [putL, crlf]
          rw [ef] at this; rw [hw, rb_len]
          have el : (acc ++ x.name ++ [58, 32] ++ x.value).length + 2 = (acc ++ x.name ++ [58, 32] ++ x.value ++ [13, 10]).length := by simp; omega
          rw [el]; exact this
    · rw [encFs_len] at c; simp at c; omega
theorem c99 : COk cfg 99 tellFC2 := by
  refine cok_pure pf99 fun vs h K ht => ?_
  obtain ⟨l, sz, h0, h1, rfl, hk⟩ := ht; refine ⟨_, hk, t99a tab99 ?_⟩
  refine ⟨l, sz, h0, h1, by rw [stripss_encFs], ifP_intro (fun a => ?_) fun a => ?_⟩
  · rw [tellF, if_pos (by simpa using a)]
  · rw [tellF, if_neg (by simpa using a)]
    exact loop99 (sz := sz) l [] [] h0 h1 (by simp)
theorem low_names : lowS clS = clS ∧ lowS teS = teS := ⟨by decide, by decide⟩
theorem c141 : COk cfg 141 hasC := by
  refine cok_pure pf141 fun vs h K ht => ?_
  obtain ⟨s, hs, rfl, hk⟩ := ht
  refine ⟨_, hk, t141 (ctab_ok (ctab_cons c132 ctab_nil)) ⟨clS, rfl, clS, by decide, rfl, s, by omega, rfl, ifP_intro (fun a => ?_) fun a => ⟨teS, rfl, teS, by decide, rfl, s, by omega, rfl, ifP_intro (fun b => ?_) fun b => ?_⟩⟩⟩
  · rw [low_names.1] at a; simp [clsB, a]
  · rw [low_names.2] at b; simp [clsB, b]
  · rw [low_names.1] at a; rw [low_names.2] at b; simp [clsB, a, b]
theorem c142 : COk cfg 142 ofIC := by
  refine cok_pure pf142 fun vs h K ht => ?_
  obtain ⟨n, h0, h1, rfl, hk⟩ := ht
  exact ⟨_, hk, t142 (ctab_ok ctab_nil) (ifP_intro (fun a => by simp at a; omega) fun _ => ifP_intro (fun b => by simp at b; omega) fun _ => rfl)⟩
theorem c104 : COk cfg 104 nm1C := by
  refine cok_heap hf104 fun vs h K ht => ?_
  obtain ⟨g0, g2, g3, a, b, c, d, s, rfl, hs, hc, rfl, hk⟩ := ht
  exact t104 (ctab_ok (ctab_cons c105 ctab_nil)) ⟨s, c, by omega, by omega, rfl, hk⟩
theorem c143 : COk cfg 143 nmIC := by
  refine cok_heap hf143 fun vs h K ht => ?_
  obtain ⟨g0, g2, g3, a, b, c, d, rfl, hc, rfl, hk⟩ := ht
  refine t143 (ctab_ok (ctab_cons c104 ctab_nil)) ⟨clS, rfl, g0, g2, g3, a, b, c, d, clS, rfl, by decide, hc, rfl, ifP_intro (fun x => ?_) fun x => ⟨teS, rfl, g0, g2, g3, a, b, c, d, teS, rfl, by decide, hc, rfl, ifP_intro (fun y => ?_) fun y => ?_⟩⟩
  · rw [low_names.1] at x; rw [if_pos x] at hk; exact hk
  · rw [low_names.1] at x; rw [low_names.2] at y
    rw [if_neg (by rw [x]; simp), if_pos y] at hk; exact hk
  · rw [low_names.1] at x; rw [low_names.2] at y
    rw [if_neg (by rw [x]; simp), if_neg (by rw [y]; simp)] at hk; exact hk
theorem ge_cls (c : List UInt8) : decide ((if (clS == lowS c) = true then (0 : Int) else if (teS == lowS c) = true then 1 else -1) ≥ 0) = clsB c := by
  unfold clsB
  by_cases h : (clS == lowS c) = true
  · rw [if_pos h, h]; rfl
  · rw [if_neg h, Bool.eq_false_iff.2 h]
    by_cases h2 : (teS == lowS c) = true
    · rw [if_pos h2, h2]; rfl
    · rw [if_neg h2, Bool.eq_false_iff.2 h2]; rfl
theorem c103 : COk cfg 103 nmBC := by
  refine cok_heap hf103 fun vs h K ht => ?_
  obtain ⟨g0, g2, g3, a, b, c, d, rfl, hc, rfl, hk⟩ := ht; refine t103 (ctab_ok (ctab_cons c143 ctab_nil)) ⟨g0, g2, g3, a, b, c, d, rfl, hc, rfl, ?_⟩; rw [← ge_cls] at hk; exact hk
theorem c102 : COk cfg 102 nm2C := by
  refine cok_heap hf102 fun vs h K ht => ?_
  obtain ⟨g0, g2, g3, a, b, c, d, rfl, hc, rfl, hk⟩ := ht; exact t102 (ctab_ok (ctab_cons c103 ctab_nil)) ⟨g0, g2, g3, a, b, c, d, rfl, hc, rfl, hk⟩
theorem delF_cons (x : Fld) (r : List Fld) : delF (x :: r) = if clsB x.name = true then delF r else x :: delF r := by
  unfold delF; rw [List.filter_cons]
  cases clsB x.name <;> simp
theorem delF_len (l : List Fld) : (delF l).length ≤ l.length := List.length_filter_le _ _
theorem tab101 : TabOk cfg (ctab [(102, nm2C)]) := ctab_ok (ctab_cons c102 ctab_nil)
theorem encFs_snoc (l : List Fld) (x : Fld) : encFs l ++ [[.str x.name, .str x.value]] = encFs (l ++ [x]) := by simp [encFs, encF]
theorem loop101 {sz g0 g2 : Nat} {K : AV → Hp → Prop} : ∀ (r pre acc : List Fld), okPs (pre ++ r) → szOk sz 2 (pre ++ r).length → acc.length ≤ pre.length →
    K (.sl 2 (encFs (acc ++ delF r)) (some 3)) [.grow g0 1 9, .mem 51 [.sl 1 nmsE (some 0)], .grow g2 2 63, .grow (acc ++ delF r).length 2 63] →
    ToEnd cfg 101 (bodyOf Tryz.f101) (RetInG Tryz.prog Tryz.f101 3 K) [.code [0, 1, 0, 1], .block 0, .code [1, 1]] .normal
      [(1, true, .fn (.func 102) [] [.ptr 1 0]), (4, true, .sl 2 (encFs acc) (some 3)), (7, true, .sl sz (encFs (pre ++ r)) none), (8, true, .int .i64 (pre ++ r).length), (9, true, .int .i64 pre.length)]
      [.grow g0 1 9, .mem 51 [.sl 1 [[.str clS], [.str teS]] (some 0)], .grow g2 2 63, .grow acc.length 2 63] := by
  intro r
  induction r with
  | nil =>
    intro pre acc ho hs ha hk
    refine t101b tab101 (ifP_intro (fun c => by simp at c) fun _ => ?_)
    rw [stripss_encFs]
    have e0 : acc ++ delF [] = acc := by simp [delF]
    rw [e0] at hk; exact hk
  | cons x r ih =>
    intro pre acc ho hs ha hk; have hlen : (pre ++ x :: r).length ≤ 100000 := ho.1
    have hx := okPs_mem ho (f := x) (by simp)
    have hin : (inR (pre.length : Int) (encFs (pre ++ x :: r)).length && Nat.beq sz 2 && Nat.ble 1 sz) = true := by
      rw [encFs_len, inR_nat (by simp), Bool.true_and]
      exact hs.beq (by simp; omega) (by decide)
    have hpl : pre.length ≤ 100000 := by simp at hlen; omega
    have e : pre ++ x :: r = (pre ++ [x]) ++ r := by simp
    have hw : IntKind.wrap .i64 ((pre.length : Int) + 1) = (((pre ++ [x]).length : Nat) : Int) := by rw [wrap_in (by omega) (by omega)]; simp
    rw [delF_cons] at hk
    refine t101b tab101 (ifP_intro (fun _ => gAnd_intro hin ⟨x.name, x.value, getE_fs _ _ _, g0, g2, acc.length, x.name, x.value, x.name, x.value, rfl, hx.1, rfl, ifP_intro (fun a => gAnd_intro ?_ (gAnd_intro ?_ ?_)) fun a => gAnd_intro ?_ ?_⟩) fun c => by simp at c; omega)
    · rw [encFs_len, tag_ok rfl, decide_eq_true (by omega)]; rfl
    · rw [encFs_snoc, low_encFs, low_encFs]; rfl
    · have a : clsB x.name = false := by simpa using a
      rw [if_neg (by rw [a]; simp)] at hk
      have := ih (pre ++ [x]) (acc ++ [x]) (by rw [← e]; exact ho) (by rw [← e]; exact hs) (by simp; omega) (by simpa using hk)
      rw [← e] at this; rw [encFs_snoc, hw, encFs_len]
      have el : acc.length + 1 = (acc ++ [x]).length := by simp
      rw [el]; exact this
    · rw [low_encFs, low_encFs]; rfl
    · have a : clsB x.name = true := by simpa using a
      rw [if_pos a] at hk
      have := ih (pre ++ [x]) acc (by rw [← e]; exact ho) (by rw [← e]; exact hs) (by simp; omega) hk
      rw [← e] at this; rw [hw]; exact this
theorem c101 : COk cfg 101 keptC := by
  refine cok_give gf101 fun vs h K ht => ?_
  obtain ⟨g0, g2, sz, l, rfl, h0, h1, rfl, hk⟩ := ht; refine t101a tab101 ?_; rw [encFs_len]
  exact loop101 (sz := sz) l [] [] h0 h1 (by simp) (by simpa using hk)
theorem c61 : COk cfg 61 delC := by
  refine cok_give gf61 fun vs h K ht => ?_
  obtain ⟨g0, sz, l, rfl, h0, h1, rfl, hk⟩ := ht; refine t61 (ctab_ok (ctab_cons c101 ctab_nil)) ⟨g0, 0, sz, l, rfl, h0, h1, rfl, ?_⟩; rw [stripss_encFs]; exact hk
theorem tab96 : TabOk cfg (ctab [(141, hasC)]) := ctab_ok (ctab_cons c141 ctab_nil)
theorem loop96 {sz g0 g1 : Nat} {K : AV → Hp → Prop} : ∀ (r pre acc : List Fld), okPs (pre ++ r) → szOk sz 2 (pre ++ r).length → acc.length ≤ pre.length →
    K (.sl 2 (encFs (acc ++ delF r)) (some 2)) [.grow g0 1 9, .grow g1 2 63, .grow (acc ++ delF r).length 2 63] →
    ToEnd cfg 96 (bodyOf Tryz.f96) (RetInG Tryz.prog Tryz.f96 1 K) [.code [0, 1, 0, 1, 1], .block 0, .code [1, 1, 1]] .normal
      [(0, true, .sl sz (encFs (pre ++ r)) none), (1, true, .sl 1 [[.str clS], [.str teS]] (some 0)), (5, true, .sl 2 (encFs acc) (some 2)), (6, true, .int .i64 pre.length)]
      [.grow g0 1 9, .grow g1 2 63, .grow acc.length 2 63] := by
  intro r
  induction r with
  | nil =>
    intro pre acc ho hs ha hk
    refine t96b tab96 (ifP_intro (fun c => by simp [encFs_len] at c) fun _ => ?_)
    rw [stripss_encFs]
    have e0 : acc ++ delF [] = acc := by simp [delF]
    rw [e0] at hk; exact hk
  | cons x r ih =>
    intro pre acc ho hs ha hk; have hlen : (pre ++ x :: r).length ≤ 100000 := ho.1
    have hx := okPs_mem ho (f := x) (by simp)
    have hin : (inR (pre.length : Int) (encFs (pre ++ x :: r)).length && Nat.beq sz 2 && Nat.ble 1 sz) = true := by
      rw [encFs_len, inR_nat (by simp), Bool.true_and]
      exact hs.beq (by simp; omega) (by decide)
    have hpl : pre.length ≤ 100000 := by simp at hlen; omega
    have e : pre ++ x :: r = (pre ++ [x]) ++ r := by simp
    have hw : IntKind.wrap .i64 ((pre.length : Int) + 1) = (((pre ++ [x]).length : Nat) : Int) := by rw [wrap_in (by omega) (by omega)]; simp
    rw [delF_cons] at hk
    refine t96b tab96 (ifP_intro (fun _ => gAnd_intro hin ⟨x.name, x.value, getE_fs _ _ _, x.name, hx.1, rfl, ifP_intro (fun a => gAnd_intro hin ⟨x.name, x.value, getE_fs _ _ _, gAnd_intro ?_ (gAnd_intro ?_ ?_)⟩) fun a => gAnd_intro ?_ ?_⟩) fun c => by rw [encFs_len] at c; simp at c; omega)
    · rw [encFs_len, tag_ok rfl, decide_eq_true (by omega)]; rfl
    · rw [encFs_snoc, low_encFs, low_encFs]; rfl
    · have a : clsB x.name = false := by simpa using a
      rw [if_neg (by rw [a]; simp)] at hk
      have := ih (pre ++ [x]) (acc ++ [x]) (by rw [← e]; exact ho) (by rw [← e]; exact hs) (by simp; omega) (by simpa using hk)
      rw [← e] at this; rw [encFs_snoc, hw, encFs_len]
      have el : acc.length + 1 = (acc ++ [x]).length := by simp
      rw [el]; exact this
    · rw [low_encFs, low_encFs]; rfl
    · have a : clsB x.name = true := by simpa using a
      rw [if_pos a] at hk
      have := ih (pre ++ [x]) acc (by rw [← e]; exact ho) (by rw [← e]; exact hs) (by simp; omega) hk
      rw [← e] at this; rw [hw]; exact this
theorem c96 : COk cfg 96 delRC := by
  refine cok_give gf96 fun vs h K ht => ?_
  obtain ⟨g0, sz, l, rfl, h0, h1, rfl, hk⟩ := ht
  exact t96a tab96 (loop96 (sz := sz) l [] [] h0 h1 (by simp) (by simpa using hk))
end Go.Proofs.YtnncfdlpogjlkaaGreatDoor
end
section
namespace Go.Proofs.YtnncfdlpogjlkaaGreatDoor
open Go.Ai Go
set_option maxRecDepth 100000
theorem pf55 : pureFn cfg 55 Tryz.f55 := (by refine ⟨?_, ?_, ?_, ?_, ?_, ?_⟩ <;> kernel_rfl)
theorem pf57 : pureFn cfg 57 Tryz.f57 := (by refine ⟨?_, ?_, ?_, ?_, ?_, ?_⟩ <;> kernel_rfl)
theorem pf20 : pureFn cfg 20 Tryz.f20 := (by refine ⟨?_, ?_, ?_, ?_, ?_, ?_⟩ <;> kernel_rfl)
theorem pf21 : pureFn cfg 21 Tryz.f21 := (by refine ⟨?_, ?_, ?_, ?_, ?_, ?_⟩ <;> kernel_rfl)
theorem pf18 : pureFn cfg 18 Tryz.f18 := (by refine ⟨?_, ?_, ?_, ?_, ?_, ?_⟩ <;> kernel_rfl)
theorem pf19 : pureFn cfg 19 Tryz.f19 := (by refine ⟨?_, ?_, ?_, ?_, ?_, ?_⟩ <;> kernel_rfl)
theorem loop97 : ∀ (f n : Nat) (acc : List UInt8), n < 10 ^ (f + 1) → n ≤ 1000000 → acc.length + f ≤ 100 →
    ToEnd cfg 97 (bodyOf Tryz.f97) (RetIs Tryz.prog Tryz.f97 (.str (decF (f + 1) n ++ acc))) [.code [0, 1, 1, 1], .block 0] .normal [(0, true, .int .i64 n), (3, true, .str acc)] [] := by
  intro f
  induction f with
  | zero =>
    intro n acc h0 h1 h2
    have e1 : Int.tmod (n : Int) 10 = (n : Int) := by rw [Int.tmod_eq_emod_of_nonneg (by omega)]; omega
    have e2 : Int.tdiv (n : Int) 10 = 0 := by rw [Int.tdiv_eq_ediv_of_nonneg (by omega)]; omega
    refine t97b (ctab_ok (ctab_cons c142 ctab_nil)) ?_
    rw [e1, e2, wrap_in (by omega) (by omega), wrap_in (by omega) (by omega), wrap_u8 (by omega) (by omega)]
    have e3 : rowV [AV.int IntKind.u8 (48 + (n : Int))] = UInt8.ofNat (48 + n) := by show UInt8.ofNat (Int.toNat _) = _; congr 1
    rw [e3]
    refine gAnd_intro (by simp [rowsB, rowB, cellB]; omega) (gAnd_intro (decide_eq_true (by omega)) (ifP_intro (fun _ => ?_) fun c => by simp at c))
    rw [decF, if_pos (by omega)]; rfl
  | succ f ih =>
    intro n acc h0 h1 h2
    have e1 : Int.tmod (n : Int) 10 = ((n % 10 : Nat) : Int) := by rw [Int.tmod_eq_emod_of_nonneg (by omega)]; omega
    have e2 : Int.tdiv (n : Int) 10 = ((n / 10 : Nat) : Int) := by rw [Int.tdiv_eq_ediv_of_nonneg (by omega)]; omega
    refine t97b (ctab_ok (ctab_cons c142 ctab_nil)) ?_
    rw [e1, e2, wrap_in (n := 48 + ((n % 10 : Nat) : Int)) (by omega) (by omega), wrap_in (n := ((n / 10 : Nat) : Int)) (by omega) (by omega), wrap_u8 (by omega) (by omega)]
    have e3 : rowV [AV.int IntKind.u8 (48 + ((n % 10 : Nat) : Int))] = UInt8.ofNat (48 + n % 10) := by show UInt8.ofNat (Int.toNat _) = _; congr 1
    rw [e3]
    refine gAnd_intro (by simp [rowsB, rowB, cellB]; omega) (gAnd_intro (decide_eq_true (by omega)) (ifP_intro (fun c => ?_) fun c => ?_))
    · have c : n / 10 = 0 := by have : ((n / 10 : Nat) : Int) = 0 := by simpa using c
                                omega
      rw [decF, if_pos (by omega)]
      have : n % 10 = n := by omega
      rw [this]; rfl
    · have c : ¬ n / 10 = 0 := fun h => by rw [h] at c; simp at c
      rw [decF, if_neg (by omega)]
      have := ih (n / 10) (UInt8.ofNat (48 + n % 10) :: acc) (by rw [Nat.pow_succ] at h0; omega) (by omega) (by simp; omega)
      have el : decF (f + 1) (n / 10) ++ [UInt8.ofNat (48 + n % 10)] ++ acc = decF (f + 1) (n / 10) ++ (UInt8.ofNat (48 + n % 10) :: acc) := by simp
      rw [el]; exact this
theorem c97 : COk cfg 97 itoC := by
  refine cok_pure pf97 fun vs h K ht => ?_
  obtain ⟨n, h0, h1, rfl, hk⟩ := ht; refine ⟨_, hk, t97a (ctab_ok (ctab_cons c142 ctab_nil)) ⟨n, h0, h1, rfl, ?_⟩⟩
  obtain ⟨m, rfl⟩ : ∃ m : Nat, n = m := ⟨n.toNat, by omega⟩
  have := loop97 19 m [] (by omega) (by omega) (by simp)
  have e : itoaS (m : Int) = decF 20 m := by unfold itoaS; rw [if_neg (by omega), Int.toNat_natCast]
  rw [e]; simpa using this
theorem c92i : COk cfg 92 itoC := fun l h K ht => by
  obtain ⟨n, h0, h1, he, hk⟩ := ht
  exact Ln.c92 l h K ⟨n, by omega, by omega, he, hk⟩
theorem putL_len : ∀ {l : List Fld}, (∀ f ∈ l, f.name.length ≤ 20000 ∧ f.value.length ≤ 20000) → (putL l).length ≤ 50000 * l.length
  | [], _ => by simp [putL]
  | x :: r, h => by
    have hx := h x (by simp)
    have := putL_len (l := r) fun f hf => h f (by simp [hf])
    simp [putL, crlf]; omega
theorem tellF_len {l : List Fld} (h : okPs l) : (tellF l).length ≤ 5000000000 := by
  unfold tellF; split
  · simp
  · have := putL_len h.2; have := h.1; omega
theorem okPs_del {l : List Fld} (h : okPs l) : okPs (delF l) := ⟨Nat.le_trans (delF_len l) h.1, fun f hf => h.2 f (List.mem_filter.1 hf).1⟩
theorem okPs_out {l : List Fld} {n : Int} (h : okPs l) (hl : l.length ≤ 99999) : okPs (outF l n) := by
  unfold outF; have := delF_len l; split
  · refine ⟨by simp; omega, fun f hf => ?_⟩
    rcases List.mem_append.1 hf with hf | hf
    · exact (okPs_del h).2 f hf
    · simp only [List.mem_singleton] at hf; subst hf; have := itoaS_len n
      exact ⟨show cLen.length ≤ _ by decide, show (itoaS n).length ≤ _ by omega⟩
  · exact okPs_del h
theorem putReq_len (a b : List UInt8) (n : Int) : (putReq a b n).1.length ≤ 2048 := by
  unfold putReq; split
  · simp
  · split
    · simp
    · rename_i h; simp only; omega
theorem putSt_len (st : Int) (w : List UInt8) (n : Int) : (putSt st w n).1.length ≤ 2048 := by
  unfold putSt; split
  · simp
  · split
    · simp
    · rename_i h; simp only; omega
theorem putM_body (st : List UInt8) (l : List Fld) (n : Int) (b : List UInt8) : putM st l n b = if (putM st l n []).2 ≠ 0 then ([], (putM st l n []).2) else ((putM st l n []).1 ++ b, 0) := by
  unfold putM
  by_cases h : chkF (outF l n) ≠ 0
  · simp only [if_pos h]
  · simp only [if_neg h]
    by_cases h2 : 8192 < (headS st (outF l n)).length
    · simp only [if_pos h2]; simp
    · simp only [if_neg h2]; simp
theorem putM_len (st : List UInt8) (l : List Fld) (n : Int) : (putM st l n []).1.length ≤ 8192 := by
  unfold putM; split
  · simp
  · split
    · simp
    · simp; omega
theorem outF_pos {l : List Fld} {n : Int} (h : 0 ≤ n) : encFs (delF l) ++ [[AV.str [67, 111, 110, 116, 101, 110, 116, 45, 76, 101, 110, 103, 116, 104], AV.str (itoaS n)]] = encFs (outF l n) := by
  unfold outF; rw [if_pos h]; simp [encFs, encF, lenF, cLen]
theorem outF_neg {l : List Fld} {n : Int} (h : ¬ 0 ≤ n) : delF l = outF l n := by
  unfold outF; rw [if_neg h]
theorem dec_le {n : Nat} (h : n ≤ 9223372036854775807) : decide (n ≤ 9223372036854775807) = true := decide_eq_true h
theorem c55 : COk cfg 55 putMC := by
  have hT : TabOk cfg (ctab [(61, delC), (92, itoC), (93, chkC), (94, tellFC2)]) := ctab_ok (ctab_cons c61 (ctab_cons c92i (ctab_cons c93 (ctab_cons c94 ctab_nil))))
  refine cok_pure pf55 fun vs h K ht => ?_
  obtain ⟨st, b, l, n, sz, ho, hl, hs, hst, hb, hn0, hn1, rfl, hk⟩ := ht; have ho' := okPs_out (n := n) ho hl; have htl := tellF_len ho'
  have piece : (∃ (l7 : List Fld), ∃ (sz8 : Nat), (List.length l7 ≤ 100000 ∧ ∀ (f9 : Fld), f9 ∈ l7 → List.length (Fld.name f9) ≤ 20000 ∧ List.length (Fld.value f9) ≤ 20000) ∧ szOk sz8 2 (List.length l7) ∧ [AV.sl 2 (stripss 0 [] (encFs (outF l n))) none] = [AV.sl sz8 (encFs l7) none] ∧
      ifP (chkF l7 != 0) (AV.tup [AV.str [], AV.int .i64 (chkF l7)] = AV.tup [AV.str (putM st l n b).1, AV.int .i64 (putM st l n b).2]) (gAnd (decide (List.length st + 2 ≤ 9223372036854775807)) (∃ (l11 : List Fld), ∃ (sz12 : Nat), (List.length l11 ≤ 100000 ∧ ∀ (f13 : Fld), f13 ∈ l11 → List.length (Fld.name f13) ≤ 20000 ∧ List.length (Fld.value f13) ≤ 20000) ∧ szOk sz12 2 (List.length l11) ∧ [AV.sl 2 (stripss 0 [] (encFs (outF l n))) none] = [AV.sl sz12 (encFs l11) none] ∧ gAnd (decide (List.length (st ++ [13, 10]) + List.length (tellF l11) ≤ 9223372036854775807)) (gAnd (decide (List.length (st ++ [13, 10] ++ tellF l11) + 2 ≤ 9223372036854775807)) (ifP (decide ((↑(List.length (st ++ [13, 10] ++ tellF l11 ++ [13, 10])) : Int) > 8192)) (AV.tup [AV.str [], AV.int .i64 3] = AV.tup [AV.str (putM st l n b).1, AV.int .i64 (putM st l n b).2]) (gAnd (decide (List.length (st ++ [13, 10] ++ tellF l11 ++ [13, 10]) + List.length b ≤ 9223372036854775807)) (AV.tup [AV.str (st ++ [13, 10] ++ tellF l11 ++ [13, 10] ++ b), AV.int .i64 0] = AV.tup [AV.str (putM st l n b).1, AV.int .i64 (putM st l n b).2]))))))) := by
    refine ⟨outF l n, 2, ho', .inl rfl, by rw [stripss_encFs], ifP_intro (fun a => ?_) fun a => gAnd_intro (dec_le (by omega)) ⟨outF l n, 2, ho', .inl rfl, by rw [stripss_encFs], gAnd_intro (dec_le (by simp; omega)) (gAnd_intro (dec_le (by simp; omega)) (ifP_intro (fun c => ?_) fun c => gAnd_intro (dec_le (by simp; omega)) ?_))⟩⟩
    · have a : chkF (outF l n) ≠ 0 := by simpa using a
      unfold putM; rw [if_pos a]
    · have a : ¬ chkF (outF l n) ≠ 0 := by simpa using a
      have c : 8192 < (headS st (outF l n)).length := by unfold headS crlf; simp only [gt_iff_lt, decide_eq_true_eq] at c; omega
      unfold putM; rw [if_neg a, if_pos c]
    · have a : ¬ chkF (outF l n) ≠ 0 := by simpa using a
      have c : ¬ 8192 < (headS st (outF l n)).length := by unfold headS crlf; simp only [gt_iff_lt, decide_eq_false_iff_not] at c; omega
      unfold putM; rw [if_neg a, if_neg c]; rfl
  refine ⟨_, hk, t55 hT ⟨2, sz, l, rfl, ho, hs, rfl, ifP_intro (fun a => ?_) fun a => ?_⟩⟩
  · have a : 0 ≤ n := by simpa using a
    refine ⟨n, a, hn1, rfl, gAnd_intro ?_ ?_⟩
    · have := delF_len l
      rw [encFs_len, tag_ok rfl, decide_eq_true (by omega)]; rfl
    · rw [outF_pos a]; exact piece
  · have a : ¬ 0 ≤ n := by simpa using a
    rw [outF_neg a]; exact piece
theorem c57 : COk cfg 57 putMRC := by
  have hT : TabOk cfg (ctab [(96, delRC), (97, itoC), (98, chkC), (99, tellFC2)]) := ctab_ok (ctab_cons c96 (ctab_cons c97 (ctab_cons c98 (ctab_cons c99 ctab_nil))))
  refine cok_pure pf57 fun vs h K ht => ?_
  obtain ⟨st, l, n0, sz, t, ho, hl, hs, hst, hn0, hn1, rfl, hk⟩ := ht
  obtain ⟨n, hn⟩ : ∃ n : Int, n = if t = true then n0 else -1 := ⟨_, rfl⟩
  rw [← hn] at hk; have ho' := okPs_out (n := n) ho hl; have htl := tellF_len ho'
  have piece : (∃ (l7 : List Fld), ∃ (sz8 : Nat), (List.length l7 ≤ 100000 ∧ ∀ (f9 : Fld), f9 ∈ l7 → List.length (Fld.name f9) ≤ 20000 ∧ List.length (Fld.value f9) ≤ 20000) ∧ szOk sz8 2 (List.length l7) ∧ [AV.sl 2 (stripss 0 [] (encFs (outF l n))) none] = [AV.sl sz8 (encFs l7) none] ∧
      ifP (chkF l7 != 0) (AV.tup [AV.str [], AV.int .i64 (chkF l7)] = AV.tup [AV.str (putM st l n []).1, AV.int .i64 (putM st l n []).2]) (gAnd (decide (List.length st + 2 ≤ 9223372036854775807)) (∃ (l11 : List Fld), ∃ (sz12 : Nat), (List.length l11 ≤ 100000 ∧ ∀ (f13 : Fld), f13 ∈ l11 → List.length (Fld.name f13) ≤ 20000 ∧ List.length (Fld.value f13) ≤ 20000) ∧ szOk sz12 2 (List.length l11) ∧ [AV.sl 2 (stripss 0 [] (encFs (outF l n))) none] = [AV.sl sz12 (encFs l11) none] ∧ gAnd (decide (List.length (st ++ [13, 10]) + List.length (tellF l11) ≤ 9223372036854775807)) (gAnd (decide (List.length (st ++ [13, 10] ++ tellF l11) + 2 ≤ 9223372036854775807)) (ifP (decide ((↑(List.length (st ++ [13, 10] ++ tellF l11 ++ [13, 10])) : Int) > 8192)) (AV.tup [AV.str [], AV.int .i64 3] = AV.tup [AV.str (putM st l n []).1, AV.int .i64 (putM st l n []).2]) (AV.tup [AV.str (st ++ [13, 10] ++ tellF l11 ++ [13, 10]), AV.int .i64 0] = AV.tup [AV.str (putM st l n []).1, AV.int .i64 (putM st l n []).2])))))) := by
    refine ⟨outF l n, 2, ho', .inl rfl, by rw [stripss_encFs], ifP_intro (fun a => ?_) fun a => gAnd_intro (dec_le (by omega)) ⟨outF l n, 2, ho', .inl rfl, by rw [stripss_encFs], gAnd_intro (dec_le (by simp; omega)) (gAnd_intro (dec_le (by simp; omega)) (ifP_intro (fun c => ?_) fun c => ?_))⟩⟩
    · have a : chkF (outF l n) ≠ 0 := by simpa using a
      unfold putM; rw [if_pos a]
    · have a : ¬ chkF (outF l n) ≠ 0 := by simpa using a
      have c : 8192 < (headS st (outF l n)).length := by unfold headS crlf; simp only [gt_iff_lt, decide_eq_true_eq] at c; omega
      unfold putM; rw [if_neg a, if_pos c]
    · have a : ¬ chkF (outF l n) ≠ 0 := by simpa using a
      have c : ¬ 8192 < (headS st (outF l n)).length := by unfold headS crlf; simp only [gt_iff_lt, decide_eq_false_iff_not] at c; omega
      unfold putM; rw [if_neg a, if_neg c, List.append_nil]; rfl
  refine ⟨_, hk, t57 hT ⟨2, sz, l, rfl, ho, hs, rfl, ifP_intro (fun a => ?_) fun a => ?_⟩⟩
  · have a : n = n0 := by rw [hn, if_pos a]
    subst a; refine ⟨n, hn0, hn1, rfl, gAnd_intro ?_ ?_⟩
    · have := delF_len l
      rw [encFs_len, tag_ok rfl, decide_eq_true (by omega)]; rfl
    · rw [outF_pos hn0]; exact piece
  · have a : ¬ 0 ≤ n := by rw [hn, if_neg (by rw [a]; simp)]; omega
    rw [outF_neg a]; exact piece
theorem putReqM_err {r : Req} (h : (putReq r.m r.t r.mi).2 ≠ 0) : putReqM r = ([], (putReq r.m r.t r.mi).2) := by unfold putReqM; rw [if_pos h]
theorem putReqM_long {r : Req} (h : ¬(putReq r.m r.t r.mi).2 ≠ 0) (h2 : 65536 < r.b.length) : putReqM r = ([], 3) := by unfold putReqM; rw [if_neg h, if_pos h2]
theorem putReqM_put {r : Req} (h : ¬(putReq r.m r.t r.mi).2 ≠ 0) (h2 : ¬65536 < r.b.length) {t : Bool} (ht : tellsL r.m r.b = t) : putReqM r = putM (putReq r.m r.t r.mi).1 r.fs (if t = true then (r.b.length : Int) else -1) r.b := by unfold putReqM; rw [if_neg h, if_neg h2, ht]
theorem contains_three (m a b c : List UInt8) : [a, b, c].contains m = (m == a || m == b || m == c) := by
  simp only [List.contains, List.elem]
  cases m == a <;> cases m == b <;> cases m == c <;> rfl
theorem ne_nil {b : List UInt8} : (!b == []) = (b != []) := rfl
theorem c20 : COk cfg 20 putReqMC := by
  have hT : TabOk cfg (ctab [(58, Ln.putReqC), (59, inSlC), (55, putMC)]) := ctab_ok (ctab_cons Ln.c58 (ctab_cons c59 (ctab_cons c55 ctab_nil)))
  refine cok_pure pf20 fun vs h K ht => ?_
  obtain ⟨r, sz, ⟨ho, hl, hm, hr, hb, hmi⟩, hs, rfl, hk⟩ := ht; have hln := putReq_len r.m r.t r.mi
  have piece : ∀ (n : Int) (t : Bool), tellsL r.m r.b = t → n = (if t = true then (r.b.length : Int) else -1) → ¬(putReq r.m r.t r.mi).2 ≠ 0 → ¬65536 < r.b.length →
      (∃ (st4 : List UInt8), ∃ (b5 : List UInt8), ∃ (l6 : List Fld), ∃ (n7 : Int), ∃ (sz8 : Nat), (List.length l6 ≤ 100000 ∧ ∀ (f9 : Fld), f9 ∈ l6 → List.length (Fld.name f9) ≤ 20000 ∧ List.length (Fld.value f9) ≤ 20000) ∧ List.length l6 ≤ 99999 ∧ szOk sz8 2 (List.length l6) ∧ List.length st4 ≤ 10000 ∧ List.length b5 ≤ 1000000 ∧ -1 ≤ n7 ∧ n7 ≤ 1000000 ∧ [AV.str (Prod.fst (putReq r.m r.t r.mi)), AV.sl sz (stripss 0 [] (encFs r.fs)) none, AV.int .i64 n, AV.str r.b] = [AV.str st4, AV.sl sz8 (encFs l6) none, AV.int .i64 n7, AV.str b5] ∧
        AV.tup [AV.str (Prod.fst (putM st4 l6 n7 b5)), AV.int .i64 (Prod.snd (putM st4 l6 n7 b5))] = AV.tup [AV.str (putReqM r).1, AV.int .i64 (putReqM r).2]) := by
    intro n t ht hn h1 h2
    refine ⟨(putReq r.m r.t r.mi).1, r.b, r.fs, n, sz, ho, hl, hs, by omega, hb, ?_, ?_, by rw [stripss_encFs], ?_⟩
    · rw [hn]; split <;> omega
    · rw [hn]; split <;> omega
    · rw [putReqM_put h1 h2 ht, hn]
  refine ⟨_, hk, t20 hT ⟨r.m, r.t, r.mi, hm, hr, hmi, rfl, ifP_intro (fun a => ?_) fun a => ifP_intro (fun b => ?_) fun b => ifP_intro (fun c => ?_) fun c => ⟨[pst, put', pch], r.m, 1, by simp, .inl rfl, rfl, ifP_intro (fun d => ?_) fun d => ?_⟩⟩⟩
  · rw [putReqM_err (by simpa using a)]
  all_goals have a : ¬(putReq r.m r.t r.mi).2 ≠ 0 := by simpa using a
  · rw [putReqM_long a (by simp only [gt_iff_lt, decide_eq_true_eq] at b; omega)]
  all_goals have b : ¬65536 < r.b.length := by simp only [gt_iff_lt, decide_eq_false_iff_not] at b; omega
  · exact piece _ true (by unfold tellsL; rw [← ne_nil, c]; rfl) rfl a b
  · rw [contains_three] at d
    exact piece _ true (by unfold tellsL; rw [d, Bool.or_true]) rfl a b
  · rw [contains_three] at d
    exact piece _ false (by unfold tellsL; rw [d, ← ne_nil, c]; rfl) rfl a b
theorem c21 : COk cfg 21 putReqMC := by
  have hT : TabOk cfg (ctab [(60, Ln.putReqC), (57, putMRC)]) := ctab_ok (ctab_cons Ln.c60 (ctab_cons c57 ctab_nil))
  refine cok_pure pf21 fun vs h K ht => ?_
  obtain ⟨r, sz, ⟨ho, hl, hm, hr, hb, hmi⟩, hs, rfl, hk⟩ := ht; have hln := putReq_len r.m r.t r.mi
  have piece : ∀ (t : Bool), tellsL r.m r.b = t → ¬(putReq r.m r.t r.mi).2 ≠ 0 → ¬65536 < r.b.length →
      (∃ (st4 : List UInt8), ∃ (l5 : List Fld), ∃ (n6 : Int), ∃ (sz7 : Nat), ∃ (t8 : Bool), (List.length l5 ≤ 100000 ∧ ∀ (f9 : Fld), f9 ∈ l5 → List.length (Fld.name f9) ≤ 20000 ∧ List.length (Fld.value f9) ≤ 20000) ∧ List.length l5 ≤ 99999 ∧ szOk sz7 2 (List.length l5) ∧ List.length st4 ≤ 10000 ∧ 0 ≤ n6 ∧ n6 ≤ 1000000 ∧ [AV.str (Prod.fst (putReq r.m r.t r.mi)), AV.sl sz (stripss 0 [] (encFs r.fs)) none, AV.int .i64 (↑(List.length r.b) : Int), AV.bool t] = [AV.str st4, AV.sl sz7 (encFs l5) none, AV.int .i64 n6, AV.bool t8] ∧
        ifP (Prod.snd (putM st4 l5 (if t8 = true then n6 else -1) []) != 0) (AV.tup [AV.str [], AV.int .i64 (Prod.snd (putM st4 l5 (if t8 = true then n6 else -1) []))] = AV.tup [AV.str (putReqM r).1, AV.int .i64 (putReqM r).2]) (gAnd (decide (List.length (Prod.fst (putM st4 l5 (if t8 = true then n6 else -1) [])) + List.length r.b ≤ 9223372036854775807)) (AV.tup [AV.str (Prod.fst (putM st4 l5 (if t8 = true then n6 else -1) []) ++ r.b), AV.int .i64 0] = AV.tup [AV.str (putReqM r).1, AV.int .i64 (putReqM r).2]))) := by
    intro t ht h1 h2
    refine ⟨(putReq r.m r.t r.mi).1, r.fs, r.b.length, sz, t, ho, hl, hs, by omega, by omega, by omega, by rw [stripss_encFs], ?_⟩
    rw [putReqM_put h1 h2 ht, putM_body _ _ _ r.b]
    have hpl := putM_len (putReq r.m r.t r.mi).1 r.fs (if t = true then (r.b.length : Int) else -1)
    generalize (if t = true then (r.b.length : Int) else -1) = n at *
    refine ifP_intro (fun a => ?_) fun a => gAnd_intro (dec_le (by omega)) ?_
    · rw [if_pos (by simpa using a)]
    · rw [if_neg (by simpa using a)]
  refine ⟨_, hk, t21 hT ⟨r.m, r.t, r.mi, hm, hr, hmi, rfl, ifP_intro (fun a => ?_) fun a => ifP_intro (fun b => ?_) fun b => ifP_intro (fun c => ?_) fun c => ifP_intro (fun d => ?_) fun d => ifP_intro (fun e => ?_) fun e => ?_⟩⟩
  · rw [putReqM_err (by simpa using a)]
  all_goals have a : ¬(putReq r.m r.t r.mi).2 ≠ 0 := by simpa using a
  · rw [putReqM_long a (by simp only [gt_iff_lt, decide_eq_true_eq] at b; omega)]
  all_goals have b : ¬65536 < r.b.length := by simp only [gt_iff_lt, decide_eq_false_iff_not] at b; omega
  · exact piece true (by unfold tellsL; rw [← ne_nil, c]; rfl) a b
  · exact piece true (by unfold tellsL; rw [show (r.m == pst) = true from d]; simp) a b
  · exact piece true (by unfold tellsL; rw [show (r.m == put') = true from e]; simp) a b
  · exact piece _ (by unfold tellsL; rw [← ne_nil, c, show (r.m == pst) = false from d, show (r.m == put') = false from e]; rfl) a b
theorem putRepM_err {r : Rep} {hd : Bool} (h : (putSt r.st r.rs r.mi).2 ≠ 0) : putRepM r hd = ([], (putSt r.st r.rs r.mi).2) := by unfold putRepM; rw [if_pos h]
theorem putRepM_arg {r : Rep} {hd : Bool} (h : ¬(putSt r.st r.rs r.mi).2 ≠ 0) (h1 : bareB r.st = true) (h2 : r.b ≠ []) : putRepM r hd = ([], 2) := by unfold putRepM; rw [if_neg h, if_pos ⟨h1, h2⟩]
theorem putRepM_long {r : Rep} {hd : Bool} (h : ¬(putSt r.st r.rs r.mi).2 ≠ 0) (h1 : ¬(bareB r.st = true ∧ r.b ≠ [])) (h2 : 262144 < r.b.length) : putRepM r hd = ([], 3) := by unfold putRepM; rw [if_neg h, if_neg h1, if_pos h2]
theorem putRepM_put {r : Rep} {hd : Bool} (h : ¬(putSt r.st r.rs r.mi).2 ≠ 0) (h1 : ¬(bareB r.st = true ∧ r.b ≠ [])) (h2 : ¬262144 < r.b.length) : putRepM r hd = putM (putSt r.st r.rs r.mi).1 r.fs (if bareB r.st = true then -1 else (r.b.length : Int)) (if hd = true then [] else r.b) := by
  unfold putRepM; rw [if_neg h, if_neg h1, if_neg h2]
theorem nil_of {b : List UInt8} (h : (!b == []) = false) : b = [] := by simpa using h
theorem ne_of {b : List UInt8} (h : (!b == []) = true) : b ≠ [] := by simpa using h
theorem c18 : COk cfg 18 putRepMC := by
  have hT : TabOk cfg (ctab [(53, Ln.putStC), (54, bareC), (55, putMC)]) := ctab_ok (ctab_cons Ln.c53 (ctab_cons c54 (ctab_cons c55 ctab_nil)))
  refine cok_pure pf18 fun vs h K ht => ?_
  obtain ⟨r, sz, hd, ⟨ho, hl, hrs, hb, hst, hmi⟩, hs, rfl, hk⟩ := ht; have hln := putSt_len r.st r.rs r.mi
  have piece : ∀ (n : Int) (x : List UInt8), n = (if bareB r.st = true then -1 else (r.b.length : Int)) → x = (if hd = true then [] else r.b) → ¬(putSt r.st r.rs r.mi).2 ≠ 0 → ¬(bareB r.st = true ∧ r.b ≠ []) → ¬262144 < r.b.length →
      (∃ (st4 : List UInt8), ∃ (b5 : List UInt8), ∃ (l6 : List Fld), ∃ (n7 : Int), ∃ (sz8 : Nat), (List.length l6 ≤ 100000 ∧ ∀ (f9 : Fld), f9 ∈ l6 → List.length (Fld.name f9) ≤ 20000 ∧ List.length (Fld.value f9) ≤ 20000) ∧ List.length l6 ≤ 99999 ∧ szOk sz8 2 (List.length l6) ∧ List.length st4 ≤ 10000 ∧ List.length b5 ≤ 1000000 ∧ -1 ≤ n7 ∧ n7 ≤ 1000000 ∧ [AV.str (Prod.fst (putSt r.st r.rs r.mi)), AV.sl sz (stripss 0 [] (encFs r.fs)) none, AV.int .i64 n, AV.str x] = [AV.str st4, AV.sl sz8 (encFs l6) none, AV.int .i64 n7, AV.str b5] ∧
        AV.tup [AV.str (Prod.fst (putM st4 l6 n7 b5)), AV.int .i64 (Prod.snd (putM st4 l6 n7 b5))] = AV.tup [AV.str (putRepM r hd).1, AV.int .i64 (putRepM r hd).2]) := by
    intro n x hn hx h1 h2 h3
    refine ⟨(putSt r.st r.rs r.mi).1, x, r.fs, n, sz, ho, hl, hs, by omega, ?_, ?_, ?_, by rw [stripss_encFs], ?_⟩
    · rw [hx]; split
      · simp
      · exact hb
    · rw [hn]; split <;> omega
    · rw [hn]; split <;> omega
    · rw [putRepM_put h1 h2 h3, hn, hx]
  refine ⟨_, hk, t18 hT ⟨r.st, r.rs, r.mi, hrs, hst, hmi, rfl, ifP_intro (fun a => ?_) fun a => ⟨r.st, hst.1, hst.2, rfl, ifP_intro (fun b => ifP_intro (fun c => ?_) fun c => ifP_intro (fun d => ?_) fun d => ⟨r.st, hst.1, hst.2, rfl, ifP_intro (fun e => ifP_intro (fun f => ?_) fun f => ?_) fun e => by rw [b] at e; cases e⟩) fun b => ifP_intro (fun d => ?_) fun d => ⟨r.st, hst.1, hst.2, rfl, ifP_intro (fun e => by rw [b] at e; cases e) fun e => ifP_intro (fun f => ?_) fun f => ?_⟩⟩⟩⟩
  · rw [putRepM_err (by simpa using a)]
  all_goals have a : ¬(putSt r.st r.rs r.mi).2 ≠ 0 := by simpa using a
  · rw [putRepM_arg a b (ne_of c)]
  · rw [putRepM_long a (fun h => h.2 (nil_of c)) (by simp only [gt_iff_lt, decide_eq_true_eq] at d; omega)]
  · exact piece _ _ (by rw [if_pos b]) (by rw [if_pos f]) a (fun h => h.2 (nil_of c)) (by simp only [gt_iff_lt, decide_eq_false_iff_not] at d; omega)
  · exact piece _ _ (by rw [if_pos b]) (by rw [if_neg (by rw [f]; simp)]) a (fun h => h.2 (nil_of c)) (by simp only [gt_iff_lt, decide_eq_false_iff_not] at d; omega)
  · rw [putRepM_long a (fun h => by rw [b] at h; cases h.1) (by simp only [gt_iff_lt, decide_eq_true_eq] at d; omega)]
  · exact piece _ _ (by rw [if_neg (by rw [b]; simp)]) (by rw [if_pos f]) a (fun h => by rw [b] at h; cases h.1) (by simp only [gt_iff_lt, decide_eq_false_iff_not] at d; omega)
  · exact piece _ _ (by rw [if_neg (by rw [b]; simp)]) (by rw [if_neg (by rw [f]; simp)]) a (fun h => by rw [b] at h; cases h.1) (by simp only [gt_iff_lt, decide_eq_false_iff_not] at d; omega)
theorem putM_nil (st : List UInt8) (l : List Fld) (n : Int) (h : ¬(putM st l n []).2 ≠ 0) : (putM st l n []).2 = 0 := by simpa using h
theorem c19 : COk cfg 19 putRepMC := by
  have hT : TabOk cfg (ctab [(56, Ln.putStC), (57, putMRC)]) := ctab_ok (ctab_cons Ln.c56 (ctab_cons c57 ctab_nil))
  refine cok_pure pf19 fun vs h K ht => ?_
  obtain ⟨r, sz, hd, ⟨ho, hl, hrs, hb, hst, hmi⟩, hs, rfl, hk⟩ := ht; have hln := putSt_len r.st r.rs r.mi
  have piece : ∀ (t : Bool), t = !bareB r.st → ¬(putSt r.st r.rs r.mi).2 ≠ 0 → ¬(bareB r.st = true ∧ r.b ≠ []) → ¬262144 < r.b.length →
      (∃ (st4 : List UInt8), ∃ (l5 : List Fld), ∃ (n6 : Int), ∃ (sz7 : Nat), ∃ (t8 : Bool), (List.length l5 ≤ 100000 ∧ ∀ (f9 : Fld), f9 ∈ l5 → List.length (Fld.name f9) ≤ 20000 ∧ List.length (Fld.value f9) ≤ 20000) ∧ List.length l5 ≤ 99999 ∧ szOk sz7 2 (List.length l5) ∧ List.length st4 ≤ 10000 ∧ 0 ≤ n6 ∧ n6 ≤ 1000000 ∧ [AV.str (Prod.fst (putSt r.st r.rs r.mi)), AV.sl sz (stripss 0 [] (encFs r.fs)) none, AV.int .i64 (↑(List.length r.b) : Int), AV.bool t] = [AV.str st4, AV.sl sz7 (encFs l5) none, AV.int .i64 n6, AV.bool t8] ∧
        ifP (Prod.snd (putM st4 l5 (if t8 = true then n6 else -1) []) != 0) (AV.tup [AV.str [], AV.int .i64 (Prod.snd (putM st4 l5 (if t8 = true then n6 else -1) []))] = AV.tup [AV.str (putRepM r hd).1, AV.int .i64 (putRepM r hd).2]) (ifP hd (AV.tup [AV.str (Prod.fst (putM st4 l5 (if t8 = true then n6 else -1) [])), AV.int .i64 0] = AV.tup [AV.str (putRepM r hd).1, AV.int .i64 (putRepM r hd).2]) (gAnd (decide (List.length (Prod.fst (putM st4 l5 (if t8 = true then n6 else -1) [])) + List.length r.b ≤ 9223372036854775807)) (AV.tup [AV.str (Prod.fst (putM st4 l5 (if t8 = true then n6 else -1) []) ++ r.b), AV.int .i64 0] = AV.tup [AV.str (putRepM r hd).1, AV.int .i64 (putRepM r hd).2])))) := by
    intro t ht h1 h2 h3
    refine ⟨(putSt r.st r.rs r.mi).1, r.fs, r.b.length, sz, t, ho, hl, hs, by omega, by omega, by omega, by rw [stripss_encFs], ?_⟩
    have hn : (if t = true then (r.b.length : Int) else -1) = if bareB r.st = true then -1 else (r.b.length : Int) := by
      rw [ht]; cases bareB r.st <;> rfl
    rw [putRepM_put h1 h2 h3, hn]
    have hpl := putM_len (putSt r.st r.rs r.mi).1 r.fs (if bareB r.st = true then -1 else (r.b.length : Int))
    clear hn
    generalize (if bareB r.st = true then -1 else (r.b.length : Int)) = n at *
    refine ifP_intro (fun a => ?_) fun a => ifP_intro (fun b => ?_) fun b => gAnd_intro (dec_le (by omega)) ?_
    · rw [putM_body _ _ _ (if hd = true then [] else r.b), if_pos (by simpa using a)]
    · have a := putM_nil _ _ _ (show ¬_ ≠ (0 : Int) by simpa using a)
      rw [if_pos b, ← a]
    · rw [if_neg (by rw [b]; simp), putM_body _ _ _ r.b, if_neg (by simpa using a)]
  have bare1 : ∀ (x : Bool), bareB r.st = x → True := fun _ _ => trivial
  refine ⟨_, hk, t19 hT ⟨r.st, r.rs, r.mi, hrs, hst, hmi, rfl, ifP_intro (fun a => ?_) fun a => ?_⟩⟩
  · rw [putRepM_err (by simpa using a)]
  have a : ¬(putSt r.st r.rs r.mi).2 ≠ 0 := by simpa using a
  have arm : ∀ (t : Bool), bareB r.st = true → t = false → ifP (!r.b == []) (AV.tup [AV.str [], AV.int .i64 2] = AV.tup [AV.str (putRepM r hd).1, AV.int .i64 (putRepM r hd).2]) (ifP (decide ((↑(List.length r.b) : Int) > 262144)) (AV.tup [AV.str [], AV.int .i64 3] = AV.tup [AV.str (putRepM r hd).1, AV.int .i64 (putRepM r hd).2]) (∃ (st4 : List UInt8), ∃ (l5 : List Fld), ∃ (n6 : Int), ∃ (sz7 : Nat), ∃ (t8 : Bool), (List.length l5 ≤ 100000 ∧ ∀ (f9 : Fld), f9 ∈ l5 → List.length (Fld.name f9) ≤ 20000 ∧ List.length (Fld.value f9) ≤ 20000) ∧ List.length l5 ≤ 99999 ∧ szOk sz7 2 (List.length l5) ∧ List.length st4 ≤ 10000 ∧ 0 ≤ n6 ∧ n6 ≤ 1000000 ∧ [AV.str (Prod.fst (putSt r.st r.rs r.mi)), AV.sl sz (stripss 0 [] (encFs r.fs)) none, AV.int .i64 (↑(List.length r.b) : Int), AV.bool t] = [AV.str st4, AV.sl sz7 (encFs l5) none, AV.int .i64 n6, AV.bool t8] ∧
        ifP (Prod.snd (putM st4 l5 (if t8 = true then n6 else -1) []) != 0) (AV.tup [AV.str [], AV.int .i64 (Prod.snd (putM st4 l5 (if t8 = true then n6 else -1) []))] = AV.tup [AV.str (putRepM r hd).1, AV.int .i64 (putRepM r hd).2]) (ifP hd (AV.tup [AV.str (Prod.fst (putM st4 l5 (if t8 = true then n6 else -1) [])), AV.int .i64 0] = AV.tup [AV.str (putRepM r hd).1, AV.int .i64 (putRepM r hd).2]) (gAnd (decide (List.length (Prod.fst (putM st4 l5 (if t8 = true then n6 else -1) [])) + List.length r.b ≤ 9223372036854775807)) (AV.tup [AV.str (Prod.fst (putM st4 l5 (if t8 = true then n6 else -1) []) ++ r.b), AV.int .i64 0] = AV.tup [AV.str (putRepM r hd).1, AV.int .i64 (putRepM r hd).2]))))) := by
    intro t h1 h2
    refine ifP_intro (fun c => ?_) fun c => ifP_intro (fun d => ?_) fun d => ?_
    · rw [putRepM_arg a h1 (ne_of c)]
    · rw [putRepM_long a (fun h => h.2 (nil_of c)) (by simp only [gt_iff_lt, decide_eq_true_eq] at d; omega)]
    · exact piece t (by rw [h1, h2]; rfl) a (fun h => h.2 (nil_of c)) (by simp only [gt_iff_lt, decide_eq_false_iff_not] at d; omega)
  have last : bareB r.st = false → ∀ (t : Bool), t = true → (ifP (decide ((↑(List.length r.b) : Int) > 262144)) (AV.tup [AV.str [], AV.int .i64 3] = AV.tup [AV.str (putRepM r hd).1, AV.int .i64 (putRepM r hd).2]) (∃ (st4 : List UInt8), ∃ (l5 : List Fld), ∃ (n6 : Int), ∃ (sz7 : Nat), ∃ (t8 : Bool), (List.length l5 ≤ 100000 ∧ ∀ (f9 : Fld), f9 ∈ l5 → List.length (Fld.name f9) ≤ 20000 ∧ List.length (Fld.value f9) ≤ 20000) ∧ List.length l5 ≤ 99999 ∧ szOk sz7 2 (List.length l5) ∧ List.length st4 ≤ 10000 ∧ 0 ≤ n6 ∧ n6 ≤ 1000000 ∧ [AV.str (Prod.fst (putSt r.st r.rs r.mi)), AV.sl sz (stripss 0 [] (encFs r.fs)) none, AV.int .i64 (↑(List.length r.b) : Int), AV.bool t] = [AV.str st4, AV.sl sz7 (encFs l5) none, AV.int .i64 n6, AV.bool t8] ∧
        ifP (Prod.snd (putM st4 l5 (if t8 = true then n6 else -1) []) != 0) (AV.tup [AV.str [], AV.int .i64 (Prod.snd (putM st4 l5 (if t8 = true then n6 else -1) []))] = AV.tup [AV.str (putRepM r hd).1, AV.int .i64 (putRepM r hd).2]) (ifP hd (AV.tup [AV.str (Prod.fst (putM st4 l5 (if t8 = true then n6 else -1) [])), AV.int .i64 0] = AV.tup [AV.str (putRepM r hd).1, AV.int .i64 (putRepM r hd).2]) (gAnd (decide (List.length (Prod.fst (putM st4 l5 (if t8 = true then n6 else -1) [])) + List.length r.b ≤ 9223372036854775807)) (AV.tup [AV.str (Prod.fst (putM st4 l5 (if t8 = true then n6 else -1) []) ++ r.b), AV.int .i64 0] = AV.tup [AV.str (putRepM r hd).1, AV.int .i64 (putRepM r hd).2]))))) := by
    intro h1 t h2
    refine ifP_intro (fun d => ?_) fun d => ?_
    · rw [putRepM_long a (fun h => by rw [h1] at h; cases h.1) (by simp only [gt_iff_lt, decide_eq_true_eq] at d; omega)]
    · exact piece t (by rw [h1, h2]; rfl) a (fun h => by rw [h1] at h; cases h.1) (by simp only [gt_iff_lt, decide_eq_false_iff_not] at d; omega)
  have i100 : ¬(100 ≤ r.st ∧ r.st ≤ 199) → (decide (100 ≤ r.st) && decide (r.st ≤ 199)) = false := fun h => by rw [← Bool.decide_and]; exact decide_eq_false h
  have b204 : (r.st == 204) = true → bareB r.st = true := fun h => by
    have : r.st = 204 := by simpa using h
    simp [bareB, this]
  have b304 : (r.st == 304) = true → bareB r.st = true := fun h => by
    have : r.st = 304 := by simpa using h
    simp [bareB, this]
  have bno : ¬(100 ≤ r.st ∧ r.st ≤ 199) → (r.st == 204) = false → (r.st == 304) = false → bareB r.st = false := fun h h1 h2 => by
    have h1 : ¬r.st = 204 := by simpa using h1
    have h2 : ¬r.st = 304 := by simpa using h2
    unfold bareB; rw [i100 h, decide_eq_false h1, decide_eq_false h2]; rfl
  refine ifP_intro (fun p => ifP_intro (fun q => arm _ ?_ rfl) fun q => ifP_intro (fun x => arm _ (b204 x) rfl) fun x => ifP_intro (fun y => arm _ (b304 y) (by rw [y]; rfl)) fun y => last (bno ?_ x y) _ (by rw [y]; rfl)) fun p => ifP_intro (fun x => arm _ (b204 x) rfl) fun x => ifP_intro (fun y => arm _ (b304 y) (by rw [y]; rfl)) fun y => last (bno ?_ x y) _ (by rw [y]; rfl)
  · have p : 100 ≤ r.st := by simpa using p
    have q : r.st ≤ 199 := by simpa using q
    simp [bareB, p, q]
  · have q : ¬ r.st ≤ 199 := by simpa using q
    exact fun h => q h.2
  · have p : ¬ 100 ≤ r.st := by simpa using p
    exact fun h => p h.1
end Go.Proofs.YtnncfdlpogjlkaaGreatDoor
end
