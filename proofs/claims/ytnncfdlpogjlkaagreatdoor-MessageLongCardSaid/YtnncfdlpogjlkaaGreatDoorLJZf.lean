/-
  Runs of functions that read messages, printed by a home tool; each is the kernel's word.
  Messages read: the program's functions keep to their contracts.
  Messages read: bodies, the steps one behind the other: the functions keep to their contracts.
  Messages read: whole requests and replies, and the document's: the functions keep to their contracts.
  Arguments of the statements about messages, by their types.
-/
import Derived.Test.YtnncfdlpogjlkaaGreatDoorLCfg
import Derived.Test.YtnncfdlpogjlkaaGreatDoorLJZa
import Derived.Test.YtnncfdlpogjlkaaGreatDoorLJZe
import Derived.Test.YtnncfdlpogjlkaaGreatDoorLJZb
set_option linter.unusedVariables false
set_option linter.unusedSimpArgs false
set_option linter.unnecessarySimpa false
section
namespace Go.Proofs.YtnncfdlpogjlkaaGreatDoor
open Go.Ai Go
set_option maxRecDepth 100000
open Go.IntKind (wrap i64 u8)
open Go.Ai.AV (int str sl tup bool agg ptr)
open Go.Ai.Blk (mem grow)
open Go.Ai.Fm (code block loop)
open Go.Ai.XT (normal)
open List (length)
open Prod (fst snd)
open UInt8 (toNat)
open Tryz (prog f11 f12 f13 f14 f27 f28 f29 f30 f32 f33 f34 f36 f37 f38 f42 f43 f44 f46 f47 f49)
theorem t29q {K : AV → Hp → Prop} {s : List UInt8} (hT : TabOk cfg (ctab [(69, ixSC), (70, cutGC)])) (H : gAnd (cutOb (length s) none (some (min (↑(length s) : Int) 8192))) (∃ (s1 : List UInt8) (x2 : List UInt8), length s1 ≤ 10000000 ∧ [str (cutL s none (some (min (↑(length s) : Int) 8192))), str [13, 10, 13, 10]] = [str s1, str x2] ∧ ifP (decide (idxB s1 x2 0 < 0)) (ifP (decide ((↑(length s) : Int) ≥ 8192)) (K (tup [str [], int i64 3]) (hQ s [] [] (sl 2 [] (some 3)) 0 [] [] 0 [] [] 0 0 0)) (ifP (decide (idxB s1 x2 0 < 0)) (K (tup [str [], int i64 6]) (hQ s [] [] (sl 2 [] (some 3)) 0 [] [] 0 [] [] 0 0 0)) (gAnd (cutOb (length s) (some (wrap i64 (idxB s1 x2 0 + 4))) none) (gAnd (cutOb (length s) none (some (wrap i64 (idxB s1 x2 0 + 2)))) (∃ (s3 : List UInt8) (x4 : List UInt8), length s3 ≤ 10000000 ∧ [str (cutL s none (some (wrap i64 (idxB s1 x2 0 + 2)))), str [13, 10]] = [str s3, str x4] ∧ K (tup [str (fst (snd (cutS s3 x4))), int i64 0]) (hQ s (fst (cutS s3 x4)) (cutL s (some (wrap i64 (idxB s1 x2 0 + 4))) none) (sl 2 [] (some 3)) (wrap i64 (idxB s1 x2 0 + 4)) [] [] 0 [] [] 0 0 0)))))) (ifP (decide (idxB s1 x2 0 < 0)) (K (tup [str [], int i64 6]) (hQ s [] [] (sl 2 [] (some 3)) 0 [] [] 0 [] [] 0 0 0)) (gAnd (cutOb (length s) (some (wrap i64 (idxB s1 x2 0 + 4))) none) (gAnd (cutOb (length s) none (some (wrap i64 (idxB s1 x2 0 + 2)))) (∃ (s5 : List UInt8) (x6 : List UInt8), length s5 ≤ 10000000 ∧ [str (cutL s none (some (wrap i64 (idxB s1 x2 0 + 2)))), str [13, 10]] = [str s5, str x6] ∧ K (tup [str (fst (snd (cutS s5 x6))), int i64 0]) (hQ s (fst (cutS s5 x6)) (cutL s (some (wrap i64 (idxB s1 x2 0 + 4))) none) (sl 2 [] (some 3)) (wrap i64 (idxB s1 x2 0 + 4)) [] [] 0 [] [] 0 0 0))))))) : ToEnd cfg 29 (bodyOf f29) (RetIn prog f29 10 K) ([.code []]) .normal ([(0, true, .ptr 5 0), (1, true, .str s)]) (hQ s [] [] (.sl 2 [] (some 3)) 0 [] [] 0 [] [] 0 0 0) := by
  exact unr_ok (pl := ⟨[], []⟩) hT 100000 _ _ _ _ (unr_use H (by kernel_rfl))
theorem t29p {K : AV → Hp → Prop} {s : List UInt8} {hd : Bool} (hT : TabOk cfg (ctab [(69, ixSC), (70, cutGC)])) (H : gAnd (cutOb (length s) none (some (min (↑(length s) : Int) 8192))) (∃ (s1 : List UInt8) (x2 : List UInt8), length s1 ≤ 10000000 ∧ [str (cutL s none (some (min (↑(length s) : Int) 8192))), str [13, 10, 13, 10]] = [str s1, str x2] ∧ ifP (decide (idxB s1 x2 0 < 0)) (ifP (decide ((↑(length s) : Int) ≥ 8192)) (K (tup [str [], int i64 3]) (hP s hd [] [] (sl 2 [] (some 4)) 0 0 [] 0 [] [] 0 0 0)) (ifP (decide (idxB s1 x2 0 < 0)) (K (tup [str [], int i64 6]) (hP s hd [] [] (sl 2 [] (some 4)) 0 0 [] 0 [] [] 0 0 0)) (gAnd (cutOb (length s) (some (wrap i64 (idxB s1 x2 0 + 4))) none) (gAnd (cutOb (length s) none (some (wrap i64 (idxB s1 x2 0 + 2)))) (∃ (s3 : List UInt8) (x4 : List UInt8), length s3 ≤ 10000000 ∧ [str (cutL s none (some (wrap i64 (idxB s1 x2 0 + 2)))), str [13, 10]] = [str s3, str x4] ∧ K (tup [str (fst (snd (cutS s3 x4))), int i64 0]) (hP s hd (fst (cutS s3 x4)) (cutL s (some (wrap i64 (idxB s1 x2 0 + 4))) none) (sl 2 [] (some 4)) (wrap i64 (idxB s1 x2 0 + 4)) 0 [] 0 [] [] 0 0 0)))))) (ifP (decide (idxB s1 x2 0 < 0)) (K (tup [str [], int i64 6]) (hP s hd [] [] (sl 2 [] (some 4)) 0 0 [] 0 [] [] 0 0 0)) (gAnd (cutOb (length s) (some (wrap i64 (idxB s1 x2 0 + 4))) none) (gAnd (cutOb (length s) none (some (wrap i64 (idxB s1 x2 0 + 2)))) (∃ (s5 : List UInt8) (x6 : List UInt8), length s5 ≤ 10000000 ∧ [str (cutL s none (some (wrap i64 (idxB s1 x2 0 + 2)))), str [13, 10]] = [str s5, str x6] ∧ K (tup [str (fst (snd (cutS s5 x6))), int i64 0]) (hP s hd (fst (cutS s5 x6)) (cutL s (some (wrap i64 (idxB s1 x2 0 + 4))) none) (sl 2 [] (some 4)) (wrap i64 (idxB s1 x2 0 + 4)) 0 [] 0 [] [] 0 0 0))))))) : ToEnd cfg 29 (bodyOf f29) (RetIn prog f29 11 K) ([.code []]) .normal ([(0, true, .ptr 6 0), (1, true, .str s)]) (hP s hd [] [] (.sl 2 [] (some 4)) 0 0 [] 0 [] [] 0 0 0) := by
  exact unr_ok (pl := ⟨[], []⟩) hT 100000 _ _ _ _ (unr_use H (by kernel_rfl))
theorem t28 {K : AV → Hp → Prop} {s : List UInt8} (hT : TabOk cfg (ctab [(29, cutQC)])) (H : ∃ (s1 : List UInt8), (hQ s [] [] (sl 2 [] (some 3)) 0 [] [] 0 [] [] 0 0 0) = (hQ s1 [] [] (sl 2 [] (some 3)) 0 [] [] 0 [] [] 0 0 0) ∧ length s1 ≤ 10000000 ∧ [ptr 5 0, str s] = [ptr 5 0, str s1] ∧ ifP (HeadR.e (headM s1) != 0) (K (int i64 (HeadR.e (headM s1))) (hQ s1 [] [] (sl 2 [] (some 3)) 0 [] [] 0 [] [] 0 0 0)) (K (int i64 0) (hQ s1 (HeadR.start (headM s1)) (List.drop (HeadR.n (headM s1)) s1) (sl 2 [] (some 3)) (↑(HeadR.n (headM s1)) : Int) [] [] 0 [] (HeadR.lines (headM s1)) 0 0 0))) : ToEnd cfg 28 (bodyOf f28) (RetIn prog f28 10 K) ([.code []]) .normal ([(0, true, .ptr 5 0), (1, true, .ptr 0 0), (2, true, .ptr 6 0)]) (hQ s [] [] (.sl 2 [] (some 3)) 0 [] [] 0 [] [] 0 0 0) := by
  exact unr_ok (pl := ⟨[], []⟩) hT 100000 _ _ _ _ (unr_use H (by kernel_rfl))
theorem t43 {K : AV → Hp → Prop} {s : List UInt8} {hd : Bool} (hT : TabOk cfg (ctab [(29, cutPC2)])) (H : ∃ (s1 : List UInt8) (hd2 : Bool), (hP s hd [] [] (sl 2 [] (some 4)) 0 0 [] 0 [] [] 0 0 0) = (hP s1 hd2 [] [] (sl 2 [] (some 4)) 0 0 [] 0 [] [] 0 0 0) ∧ length s1 ≤ 10000000 ∧ [ptr 6 0, str s] = [ptr 6 0, str s1] ∧ ifP (HeadR.e (headM s1) != 0) (K (int i64 (HeadR.e (headM s1))) (hP s1 hd2 [] [] (sl 2 [] (some 4)) 0 0 [] 0 [] [] 0 0 0)) (K (int i64 0) (hP s1 hd2 (HeadR.start (headM s1)) (List.drop (HeadR.n (headM s1)) s1) (sl 2 [] (some 4)) (↑(HeadR.n (headM s1)) : Int) 0 [] 0 [] (HeadR.lines (headM s1)) 0 0 0))) : ToEnd cfg 43 (bodyOf f43) (RetIn prog f43 11 K) ([.code []]) .normal ([(0, true, .ptr 6 0), (1, true, .ptr 0 0), (2, true, .ptr 7 0)]) (hP s hd [] [] (.sl 2 [] (some 4)) 0 0 [] 0 [] [] 0 0 0) := by
  exact unr_ok (pl := ⟨[], []⟩) hT 100000 _ _ _ _ (unr_use H (by kernel_rfl))
theorem t30 {K : AV → Hp → Prop} {s st rs ln : List UInt8} {lg : Int}   (hT : TabOk cfg (ctab [(31, Ln.reqC)])) (H : ∃ (s1 : List UInt8), length s1 ≤ 100000 ∧ [str st] = [str s1] ∧ K (int i64 (snd (snd (snd (reqP s1))))) (hQ s st rs (sl 2 [] (some 3)) lg (fst (reqP s1)) (fst (snd (reqP s1))) (fst (snd (snd (reqP s1)))) [] ln 0 0 0)) : ToEnd cfg 30 (bodyOf f30) (RetIn prog f30 10 K) ([.code []]) .normal ([(0, true, .ptr 5 0)]) (hQ s st rs (.sl 2 [] (some 3)) lg [] [] 0 [] ln 0 0 0) := by
  exact unr_ok (pl := ⟨[], []⟩) hT 100000 _ _ _ _ (unr_use H (by kernel_rfl))
theorem t44 {K : AV → Hp → Prop} {s st rs ln : List UInt8} {hd : Bool} {lg : Int}   (hT : TabOk cfg (ctab [(45, Ln.stC)])) (H : ∃ (s1 : List UInt8), length s1 ≤ 100000 ∧ [str st] = [str s1] ∧ K (int i64 (snd (snd (snd (stP s1))))) (hP s hd st rs (sl 2 [] (some 4)) lg (fst (stP s1)) (fst (snd (stP s1))) (fst (snd (snd (stP s1)))) [] ln 0 0 0)) : ToEnd cfg 44 (bodyOf f44) (RetIn prog f44 11 K) ([.code []]) .normal ([(0, true, .ptr 6 0)]) (hP s hd st rs (.sl 2 [] (some 4)) lg 0 [] 0 [] ln 0 0 0) := by
  exact unr_ok (pl := ⟨[], []⟩) hT 100000 _ _ _ _ (unr_use H (by kernel_rfl))
theorem t33q {K : AV → Hp → Prop} {s st rs m t ln : List UInt8} {lg mi : Int}   (hT : TabOk cfg (ctab [(77, parseC)])) (H : ∃ (s1 : List UInt8), length s1 ≤ 100000 ∧ [str ln] = [str s1] ∧ K (int i64 (snd (parseF s1))) (hQ s st rs (sl 2 (stripss 10 (hQ s st rs (sl 2 (encFs (fst (parseF s1))) none) lg m t mi [] ln 0 0 0) (encFs (fst (parseF s1)))) none) lg m t mi [] ln 0 0 0)) : ToEnd cfg 33 (bodyOf f33) (RetIn prog f33 10 K) ([.code []]) .normal ([(0, true, .ptr 5 0), (1, true, .str ln)]) (hQ s st rs (.sl 2 [] (some 3)) lg m t mi [] ln 0 0 0) := by
  exact unr_ok (pl := ⟨[], []⟩) hT 100000 _ _ _ _ (unr_use H (by kernel_rfl))
theorem t33p {K : AV → Hp → Prop} {s st rs w ln : List UInt8} {hd : Bool} {lg c mi : Int}   (hT : TabOk cfg (ctab [(77, parseC)])) (H : ∃ (s1 : List UInt8), length s1 ≤ 100000 ∧ [str ln] = [str s1] ∧ K (int i64 (snd (parseF s1))) (hP s hd st rs (sl 2 (stripss 11 (hP s hd st rs (sl 2 (encFs (fst (parseF s1))) none) lg c w mi [] ln 0 0 0) (encFs (fst (parseF s1)))) none) lg c w mi [] ln 0 0 0)) : ToEnd cfg 33 (bodyOf f33) (RetIn prog f33 11 K) ([.code []]) .normal ([(0, true, .ptr 6 0), (1, true, .str ln)]) (hP s hd st rs (.sl 2 [] (some 4)) lg c w mi [] ln 0 0 0) := by
  exact unr_ok (pl := ⟨[], []⟩) hT 100000 _ _ _ _ (unr_use H (by kernel_rfl))
theorem t32 {K : AV → Hp → Prop} {s st rs m t ln : List UInt8} {lg mi : Int}   (hT : TabOk cfg (ctab [(33, fillQC)])) (H : ∃ (s1 : List UInt8) (st2 : List UInt8) (rs3 : List UInt8) (m4 : List UInt8) (t5 : List UInt8) (ln6 : List UInt8) (lg7 : Int) (mi8 : Int), (hQ s st rs (sl 2 [] (some 3)) lg m t mi [] ln 0 0 0) = (hQ s1 st2 rs3 (sl 2 [] (some 3)) lg7 m4 t5 mi8 [] ln6 0 0 0) ∧ length ln6 ≤ 100000 ∧ [ptr 5 0, str ln] = [ptr 5 0, str ln6] ∧ K (int i64 (snd (parseF ln6))) (hQ s1 st2 rs3 (sl 2 (stripss 10 (hQ s1 st2 rs3 (sl 2 (encFs (fst (parseF ln6))) none) lg7 m4 t5 mi8 [] ln6 0 0 0) (encFs (fst (parseF ln6)))) none) lg7 m4 t5 mi8 [] ln6 0 0 0)) : ToEnd cfg 32 (bodyOf f32) (RetIn prog f32 10 K) ([.code []]) .normal ([(0, true, .ptr 5 0), (1, true, .ptr 6 0)]) (hQ s st rs (.sl 2 [] (some 3)) lg m t mi [] ln 0 0 0) := by
  exact unr_ok (pl := ⟨[], []⟩) hT 100000 _ _ _ _ (unr_use H (by kernel_rfl))
theorem t46 {K : AV → Hp → Prop} {s st rs w ln : List UInt8} {hd : Bool} {lg c mi : Int}   (hT : TabOk cfg (ctab [(33, fillPC)])) (H : ∃ (s1 : List UInt8) (st2 : List UInt8) (rs3 : List UInt8) (w4 : List UInt8) (ln5 : List UInt8) (hd6 : Bool) (lg7 : Int) (c8 : Int) (mi9 : Int), (hP s hd st rs (sl 2 [] (some 4)) lg c w mi [] ln 0 0 0) = (hP s1 hd6 st2 rs3 (sl 2 [] (some 4)) lg7 c8 w4 mi9 [] ln5 0 0 0) ∧ length ln5 ≤ 100000 ∧ [ptr 6 0, str ln] = [ptr 6 0, str ln5] ∧ K (int i64 (snd (parseF ln5))) (hP s1 hd6 st2 rs3 (sl 2 (stripss 11 (hP s1 hd6 st2 rs3 (sl 2 (encFs (fst (parseF ln5))) none) lg7 c8 w4 mi9 [] ln5 0 0 0) (encFs (fst (parseF ln5)))) none) lg7 c8 w4 mi9 [] ln5 0 0 0)) : ToEnd cfg 46 (bodyOf f46) (RetIn prog f46 11 K) ([.code []]) .normal ([(0, true, .ptr 6 0), (1, true, .ptr 7 0)]) (hP s hd st rs (.sl 2 [] (some 4)) lg c w mi [] ln 0 0 0) := by
  exact unr_ok (pl := ⟨[], []⟩) hT 100000 _ _ _ _ (unr_use H (by kernel_rfl))
theorem t34 {K : AV → Hp → Prop} {s st rs m t ln : List UInt8} {lg mi : Int} {e : List (List AV)}  (hT : TabOk cfg (ctab [(35, askFC)])) (H : ∃ (l1 : List Fld) (sz2 : Nat), okFs l1 ∧ szOk sz2 2 (length l1) ∧ [sl 2 (stripss 0 [] e) none] = [sl sz2 (encFs l1) none] ∧ K (int i64 (snd (snd (asksF l1)))) (hQ s st rs (sl 2 (stripss 10 (hQ s st rs (sl 2 e none) lg m t mi [] ln (fst (asksF l1)) (fst (snd (asksF l1))) 0) e) none) lg m t mi [] ln (fst (asksF l1)) (fst (snd (asksF l1))) 0)) : ToEnd cfg 34 (bodyOf f34) (RetIn prog f34 10 K) ([.code []]) .normal ([(0, true, .ptr 5 0), (1, true, .ptr 7 0)]) (hQ s st rs (.sl 2 e none) lg m t mi [] ln 0 0 0) := by
  exact unr_ok (pl := ⟨[], []⟩) hT 100000 _ _ _ _ (unr_use H (by kernel_rfl))
theorem t47 {K : AV → Hp → Prop} {s st rs w ln : List UInt8} {hd : Bool} {lg c mi : Int} {e : List (List AV)}  (hT : TabOk cfg (ctab [(48, tellFC)])) (H : ∃ (l1 : List Fld) (sz2 : Nat) (st3 : Int) (hd4 : Bool), okFs l1 ∧ szOk sz2 2 (length l1) ∧ -9223372036854775808 ≤ st3 ∧ st3 ≤ 9223372036854775807 ∧ [sl 2 (stripss 0 [] e) none, int i64 c, bool hd] = [sl sz2 (encFs l1) none, int i64 st3, bool hd4] ∧ K (int i64 (snd (snd (tellsF l1 st3 hd4)))) (hP s hd st rs (sl 2 (stripss 11 (hP s hd st rs (sl 2 e none) lg c w mi [] ln (fst (tellsF l1 st3 hd4)) (fst (snd (tellsF l1 st3 hd4))) 0) e) none) lg c w mi [] ln (fst (tellsF l1 st3 hd4)) (fst (snd (tellsF l1 st3 hd4))) 0)) : ToEnd cfg 47 (bodyOf f47) (RetIn prog f47 11 K) ([.code []]) .normal ([(0, true, .ptr 6 0), (1, true, .ptr 1 0), (2, true, .ptr 8 0)]) (hP s hd st rs (.sl 2 e none) lg c w mi [] ln 0 0 0) := by
  exact unr_ok (pl := ⟨[], []⟩) hT 100000 _ _ _ _ (unr_use H (by kernel_rfl))
theorem t37q {K : AV → Hp → Prop} {s st rs m t ln : List UInt8} {lg mi k n : Int} {e : List (List AV)} {most : Int} (hT : TabOk cfg (ctab [(79, decC)])) (H : ifP (k == 1) (ifP (decide ((↑(length rs) : Int) < n)) (K (tup [str [], int i64 0, int i64 6]) (hQ s st rs (sl 2 (stripss 10 [mem 9 [str s], grow 0 2 63, mem 25 [str [], str [], int i64 0, sl 2 [] (some 1), str []], grow 0 2 63, grow 0 2 63, mem 67 [str st, str rs, sl 2 e none, int i64 lg, str m, str t, int i64 mi, sl 2 [] (some 4), str []], mem 9 [str ln], mem 69 [int i64 k, int i64 n], mem 3 [int i64 0], grow 5 1 72, mem 69 [int i64 k, int i64 n]] e) none) lg m t mi [] ln k n 0)) (gAnd (cutOb (length rs) none (some n)) (K (tup [str (cutL rs none (some n)), int i64 (wrap i64 (lg + n)), int i64 0]) (hQ s st rs (sl 2 (stripss 10 [mem 9 [str s], grow 0 2 63, mem 25 [str [], str [], int i64 0, sl 2 [] (some 1), str []], grow 0 2 63, grow 0 2 63, mem 67 [str st, str rs, sl 2 e none, int i64 lg, str m, str t, int i64 mi, sl 2 [] (some 4), str []], mem 9 [str ln], mem 69 [int i64 k, int i64 n], mem 3 [int i64 0], grow 5 1 72, mem 69 [int i64 k, int i64 n]] e) none) lg m t mi [] ln k n 0)))) (ifP (k == 2) (∃ (s1 : List UInt8) (m2 : Int), length s1 ≤ 10000000 ∧ -9223372036854775808 ≤ m2 ∧ m2 ≤ 9223372036854775807 ∧ [str rs, int i64 most] = [str s1, int i64 m2] ∧ ifP (Dec.e (decA s1 m2) != 0) (K (tup [str [], int i64 0, int i64 (Dec.e (decA s1 m2))]) (hQ s st rs (sl 2 (stripss 10 [mem 9 [str s], grow 0 2 63, mem 25 [str [], str [], int i64 0, sl 2 [] (some 1), str []], grow 0 2 63, grow 0 2 63, mem 67 [str st, str rs, sl 2 e none, int i64 lg, str m, str t, int i64 mi, sl 2 [] (some 4), str []], mem 9 [str ln], mem 69 [int i64 k, int i64 n], mem 3 [int i64 0], grow 5 1 72, mem 69 [int i64 k, int i64 n]] e) none) lg m t mi [] ln k n 0)) (K (tup [str (Dec.body (decA s1 m2)), int i64 (wrap i64 (lg + (↑(Dec.used (decA s1 m2)) : Int))), int i64 0]) (hQ s st rs (sl 2 (stripss 10 [mem 9 [str s], grow 0 2 63, mem 25 [str [], str [], int i64 0, sl 2 [] (some 1), str []], grow 0 2 63, grow 0 2 63, mem 67 [str st, str rs, sl 2 e none, int i64 lg, str m, str t, int i64 mi, sl 2 [] (some 4), str []], mem 9 [str ln], mem 69 [int i64 k, int i64 n], mem 3 [int i64 0], grow 5 1 72, mem 69 [int i64 k, int i64 n]] e) none) lg m t mi [] ln k n 0))) (ifP (k == 3) (ifP (decide ((↑(length rs) : Int) > most)) (K (tup [str [], int i64 0, int i64 3]) (hQ s st rs (sl 2 (stripss 10 [mem 9 [str s], grow 0 2 63, mem 25 [str [], str [], int i64 0, sl 2 [] (some 1), str []], grow 0 2 63, grow 0 2 63, mem 67 [str st, str rs, sl 2 e none, int i64 lg, str m, str t, int i64 mi, sl 2 [] (some 4), str []], mem 9 [str ln], mem 69 [int i64 k, int i64 n], mem 3 [int i64 0], grow 5 1 72, mem 69 [int i64 k, int i64 n]] e) none) lg m t mi [] ln k n 0)) (K (tup [str rs, int i64 (wrap i64 (lg + (↑(length rs) : Int))), int i64 0]) (hQ s st rs (sl 2 (stripss 10 [mem 9 [str s], grow 0 2 63, mem 25 [str [], str [], int i64 0, sl 2 [] (some 1), str []], grow 0 2 63, grow 0 2 63, mem 67 [str st, str rs, sl 2 e none, int i64 lg, str m, str t, int i64 mi, sl 2 [] (some 4), str []], mem 9 [str ln], mem 69 [int i64 k, int i64 n], mem 3 [int i64 0], grow 5 1 72, mem 69 [int i64 k, int i64 n]] e) none) lg m t mi [] ln k n 0))) (K (tup [str [], int i64 lg, int i64 0]) (hQ s st rs (sl 2 (stripss 10 [mem 9 [str s], grow 0 2 63, mem 25 [str [], str [], int i64 0, sl 2 [] (some 1), str []], grow 0 2 63, grow 0 2 63, mem 67 [str st, str rs, sl 2 e none, int i64 lg, str m, str t, int i64 mi, sl 2 [] (some 4), str []], mem 9 [str ln], mem 69 [int i64 k, int i64 n], mem 3 [int i64 0], grow 5 1 72, mem 69 [int i64 k, int i64 n]] e) none) lg m t mi [] ln k n 0))))) : ToEnd cfg 37 (bodyOf f37) (RetIn prog f37 10 K) ([.code []]) .normal ([(0, true, .ptr 5 0), (1, true, .agg [.int .i64 k, .int .i64 n]), (2, true, .int .i64 most)]) (hQ s st rs (.sl 2 e none) lg m t mi [] ln k n 0) := by
  exact unr_ok (pl := ⟨[], []⟩) hT 100000 _ _ _ _ (unr_use H (by kernel_rfl))
theorem t37p {K : AV → Hp → Prop} {s st rs w ln : List UInt8} {hd : Bool} {lg c mi k n : Int} {e : List (List AV)} {most : Int} (hT : TabOk cfg (ctab [(79, decC)])) (H : ifP (k == 1) (ifP (decide ((↑(length rs) : Int) < n)) (K (tup [str [], int i64 0, int i64 6]) (hP s hd st rs (sl 2 (stripss 11 [mem 9 [str s], mem 4 [bool hd], grow 0 2 63, mem 32 [int i64 0, str [], int i64 0, sl 2 [] (some 2), str []], grow 0 2 63, grow 0 2 63, mem 90 [str st, str rs, sl 2 e none, int i64 lg, int i64 c, str w, int i64 mi, sl 2 [] (some 5), str []], mem 9 [str ln], mem 69 [int i64 k, int i64 n], mem 3 [int i64 0], grow 5 1 72, mem 69 [int i64 k, int i64 n]] e) none) lg c w mi [] ln k n 0)) (gAnd (cutOb (length rs) none (some n)) (K (tup [str (cutL rs none (some n)), int i64 (wrap i64 (lg + n)), int i64 0]) (hP s hd st rs (sl 2 (stripss 11 [mem 9 [str s], mem 4 [bool hd], grow 0 2 63, mem 32 [int i64 0, str [], int i64 0, sl 2 [] (some 2), str []], grow 0 2 63, grow 0 2 63, mem 90 [str st, str rs, sl 2 e none, int i64 lg, int i64 c, str w, int i64 mi, sl 2 [] (some 5), str []], mem 9 [str ln], mem 69 [int i64 k, int i64 n], mem 3 [int i64 0], grow 5 1 72, mem 69 [int i64 k, int i64 n]] e) none) lg c w mi [] ln k n 0)))) (ifP (k == 2) (∃ (s1 : List UInt8) (m2 : Int), length s1 ≤ 10000000 ∧ -9223372036854775808 ≤ m2 ∧ m2 ≤ 9223372036854775807 ∧ [str rs, int i64 most] = [str s1, int i64 m2] ∧ ifP (Dec.e (decA s1 m2) != 0) (K (tup [str [], int i64 0, int i64 (Dec.e (decA s1 m2))]) (hP s hd st rs (sl 2 (stripss 11 [mem 9 [str s], mem 4 [bool hd], grow 0 2 63, mem 32 [int i64 0, str [], int i64 0, sl 2 [] (some 2), str []], grow 0 2 63, grow 0 2 63, mem 90 [str st, str rs, sl 2 e none, int i64 lg, int i64 c, str w, int i64 mi, sl 2 [] (some 5), str []], mem 9 [str ln], mem 69 [int i64 k, int i64 n], mem 3 [int i64 0], grow 5 1 72, mem 69 [int i64 k, int i64 n]] e) none) lg c w mi [] ln k n 0)) (K (tup [str (Dec.body (decA s1 m2)), int i64 (wrap i64 (lg + (↑(Dec.used (decA s1 m2)) : Int))), int i64 0]) (hP s hd st rs (sl 2 (stripss 11 [mem 9 [str s], mem 4 [bool hd], grow 0 2 63, mem 32 [int i64 0, str [], int i64 0, sl 2 [] (some 2), str []], grow 0 2 63, grow 0 2 63, mem 90 [str st, str rs, sl 2 e none, int i64 lg, int i64 c, str w, int i64 mi, sl 2 [] (some 5), str []], mem 9 [str ln], mem 69 [int i64 k, int i64 n], mem 3 [int i64 0], grow 5 1 72, mem 69 [int i64 k, int i64 n]] e) none) lg c w mi [] ln k n 0))) (ifP (k == 3) (ifP (decide ((↑(length rs) : Int) > most)) (K (tup [str [], int i64 0, int i64 3]) (hP s hd st rs (sl 2 (stripss 11 [mem 9 [str s], mem 4 [bool hd], grow 0 2 63, mem 32 [int i64 0, str [], int i64 0, sl 2 [] (some 2), str []], grow 0 2 63, grow 0 2 63, mem 90 [str st, str rs, sl 2 e none, int i64 lg, int i64 c, str w, int i64 mi, sl 2 [] (some 5), str []], mem 9 [str ln], mem 69 [int i64 k, int i64 n], mem 3 [int i64 0], grow 5 1 72, mem 69 [int i64 k, int i64 n]] e) none) lg c w mi [] ln k n 0)) (K (tup [str rs, int i64 (wrap i64 (lg + (↑(length rs) : Int))), int i64 0]) (hP s hd st rs (sl 2 (stripss 11 [mem 9 [str s], mem 4 [bool hd], grow 0 2 63, mem 32 [int i64 0, str [], int i64 0, sl 2 [] (some 2), str []], grow 0 2 63, grow 0 2 63, mem 90 [str st, str rs, sl 2 e none, int i64 lg, int i64 c, str w, int i64 mi, sl 2 [] (some 5), str []], mem 9 [str ln], mem 69 [int i64 k, int i64 n], mem 3 [int i64 0], grow 5 1 72, mem 69 [int i64 k, int i64 n]] e) none) lg c w mi [] ln k n 0))) (K (tup [str [], int i64 lg, int i64 0]) (hP s hd st rs (sl 2 (stripss 11 [mem 9 [str s], mem 4 [bool hd], grow 0 2 63, mem 32 [int i64 0, str [], int i64 0, sl 2 [] (some 2), str []], grow 0 2 63, grow 0 2 63, mem 90 [str st, str rs, sl 2 e none, int i64 lg, int i64 c, str w, int i64 mi, sl 2 [] (some 5), str []], mem 9 [str ln], mem 69 [int i64 k, int i64 n], mem 3 [int i64 0], grow 5 1 72, mem 69 [int i64 k, int i64 n]] e) none) lg c w mi [] ln k n 0))))) : ToEnd cfg 37 (bodyOf f37) (RetIn prog f37 11 K) ([.code []]) .normal ([(0, true, .ptr 6 0), (1, true, .agg [.int .i64 k, .int .i64 n]), (2, true, .int .i64 most)]) (hP s hd st rs (.sl 2 e none) lg c w mi [] ln k n 0) := by
  exact unr_ok (pl := ⟨[], []⟩) hT 100000 _ _ _ _ (unr_use H (by kernel_rfl))
theorem t36 {K : AV → Hp → Prop} {s st rs m t ln : List UInt8} {lg mi k n : Int} {e : List (List AV)}  (hT : TabOk cfg (ctab [(37, bodyQC)])) (H : ∃ (s1 : List UInt8) (st2 : List UInt8) (rs3 : List UInt8) (m4 : List UInt8) (t5 : List UInt8) (ln6 : List UInt8) (lg7 : Int) (mi8 : Int) (k9 : Int) (n10 : Int) (l11 : List Fld) (most12 : Nat), (hQ s st rs (sl 2 e none) lg m t mi [] ln k n 0) = (hQ s1 st2 rs3 (sl 2 (encFs l11) none) lg7 m4 t5 mi8 [] ln6 k9 n10 0) ∧ length rs3 ≤ 10000000 ∧ most12 ≤ 1000000 ∧ 0 ≤ n10 ∧ n10 ≤ 1000000000000000000 ∧ 0 ≤ lg7 ∧ lg7 ≤ 10000 ∧ [ptr 5 0, agg [int i64 k, int i64 n], int i64 65536] = [ptr 5 0, agg [int i64 k9, int i64 n10], int i64 (↑most12 : Int)] ∧ K (int i64 (snd (snd (bodyM k9 n10 rs3 most12)))) (hQ s1 st2 rs3 (sl 2 (stripss 10 (hQ s1 st2 rs3 (sl 2 (encFs l11) none) lg7 m4 t5 mi8 (fst (bodyM k9 n10 rs3 most12)) ln6 k9 n10 (if snd (snd (bodyM k9 n10 rs3 most12)) = 0 then lg7 + (↑(fst (snd (bodyM k9 n10 rs3 most12))) : Int) else 0)) (encFs l11)) none) lg7 m4 t5 mi8 (fst (bodyM k9 n10 rs3 most12)) ln6 k9 n10 (if snd (snd (bodyM k9 n10 rs3 most12)) = 0 then lg7 + (↑(fst (snd (bodyM k9 n10 rs3 most12))) : Int) else 0))) : ToEnd cfg 36 (bodyOf f36) (RetIn prog f36 10 K) ([.code []]) .normal ([(0, true, .ptr 5 0), (1, true, .ptr 7 0), (2, true, .ptr 8 0)]) (hQ s st rs (.sl 2 e none) lg m t mi [] ln k n 0) := by
  exact unr_ok (pl := ⟨[], []⟩) hT 100000 _ _ _ _ (unr_use H (by kernel_rfl))
theorem t49 {K : AV → Hp → Prop} {s st rs w ln : List UInt8} {hd : Bool} {lg c mi k n : Int} {e : List (List AV)}  (hT : TabOk cfg (ctab [(37, bodyPC)])) (H : ∃ (s1 : List UInt8) (st2 : List UInt8) (rs3 : List UInt8) (w4 : List UInt8) (ln5 : List UInt8) (hd6 : Bool) (lg7 : Int) (c8 : Int) (mi9 : Int) (k10 : Int) (n11 : Int) (l12 : List Fld) (most13 : Nat), (hP s hd st rs (sl 2 e none) lg c w mi [] ln k n 0) = (hP s1 hd6 st2 rs3 (sl 2 (encFs l12) none) lg7 c8 w4 mi9 [] ln5 k10 n11 0) ∧ length rs3 ≤ 10000000 ∧ most13 ≤ 1000000 ∧ 0 ≤ n11 ∧ n11 ≤ 1000000000000000000 ∧ 0 ≤ lg7 ∧ lg7 ≤ 10000 ∧ [ptr 6 0, agg [int i64 k, int i64 n], int i64 262144] = [ptr 6 0, agg [int i64 k10, int i64 n11], int i64 (↑most13 : Int)] ∧ K (int i64 (snd (snd (bodyM k10 n11 rs3 most13)))) (hP s1 hd6 st2 rs3 (sl 2 (stripss 11 (hP s1 hd6 st2 rs3 (sl 2 (encFs l12) none) lg7 c8 w4 mi9 (fst (bodyM k10 n11 rs3 most13)) ln5 k10 n11 (if snd (snd (bodyM k10 n11 rs3 most13)) = 0 then lg7 + (↑(fst (snd (bodyM k10 n11 rs3 most13))) : Int) else 0)) (encFs l12)) none) lg7 c8 w4 mi9 (fst (bodyM k10 n11 rs3 most13)) ln5 k10 n11 (if snd (snd (bodyM k10 n11 rs3 most13)) = 0 then lg7 + (↑(fst (snd (bodyM k10 n11 rs3 most13))) : Int) else 0))) : ToEnd cfg 49 (bodyOf f49) (RetIn prog f49 11 K) ([.code []]) .normal ([(0, true, .ptr 6 0), (1, true, .ptr 8 0), (2, true, .ptr 9 0)]) (hP s hd st rs (.sl 2 e none) lg c w mi [] ln k n 0) := by
  exact unr_ok (pl := ⟨[], []⟩) hT 100000 _ _ _ _ (unr_use H (by kernel_rfl))
theorem t27q {K : AV → Hp → Prop} {s : List UInt8} (hT : TabOk cfg (ctab [(28, q1C), (30, q2C), (32, q3C), (34, q4C), (36, q5C)])) (H : ∃ (s1 : List UInt8), (hQ s [] [] (sl 2 [] (some 3)) 0 [] [] 0 [] [] 0 0 0) = (hQ s1 [] [] (sl 2 [] (some 3)) 0 [] [] 0 [] [] 0 0 0) ∧ length s1 ≤ 10000000 ∧ [ptr 5 0, ptr 0 0, ptr 6 0] = [ptr 5 0, ptr 0 0, ptr 6 0] ∧ ifP (HeadR.e (headM s1) != 0) (ifP (HeadR.e (headM s1) != 0) (K (int i64 (HeadR.e (headM s1))) (hQ s1 [] [] (sl 2 [] (some 3)) 0 [] [] 0 [] [] 0 0 0)) (∃ (s2 : List UInt8) (st3 : List UInt8) (rs4 : List UInt8) (ln5 : List UInt8) (lg6 : Int), (hQ s1 [] [] (sl 2 [] (some 3)) 0 [] [] 0 [] [] 0 0 0) = (hQ s2 st3 rs4 (sl 2 [] (some 3)) lg6 [] [] 0 [] ln5 0 0 0) ∧ length st3 ≤ 100000 ∧ [ptr 5 0] = [ptr 5 0] ∧ ifP (snd (snd (snd (reqP st3))) != 0) (K (int i64 (snd (snd (snd (reqP st3))))) (hQ s2 st3 rs4 (sl 2 [] (some 3)) lg6 (fst (reqP st3)) (fst (snd (reqP st3))) (fst (snd (snd (reqP st3)))) [] ln5 0 0 0)) (∃ (s7 : List UInt8) (st8 : List UInt8) (rs9 : List UInt8) (m10 : List UInt8) (t11 : List UInt8) (ln12 : List UInt8) (lg13 : Int) (mi14 : Int), (hQ s2 st3 rs4 (sl 2 [] (some 3)) lg6 (fst (reqP st3)) (fst (snd (reqP st3))) (fst (snd (snd (reqP st3)))) [] ln5 0 0 0) = (hQ s7 st8 rs9 (sl 2 [] (some 3)) lg13 m10 t11 mi14 [] ln12 0 0 0) ∧ length ln12 ≤ 100000 ∧ [ptr 5 0, ptr 6 0] = [ptr 5 0, ptr 6 0] ∧ ifP (snd (parseF ln12) != 0) (K (int i64 (snd (parseF ln12))) (hQ s7 st8 rs9 (sl 2 (stripss 10 (hQ s7 st8 rs9 (sl 2 (encFs (fst (parseF ln12))) none) lg13 m10 t11 mi14 [] ln12 0 0 0) (encFs (fst (parseF ln12)))) none) lg13 m10 t11 mi14 [] ln12 0 0 0)) (∃ (s15 : List UInt8) (st16 : List UInt8) (rs17 : List UInt8) (m18 : List UInt8) (t19 : List UInt8) (ln20 : List UInt8) (lg21 : Int) (mi22 : Int) (l23 : List Fld), (hQ s7 st8 rs9 (sl 2 (encFs (fst (parseF ln12))) none) lg13 m10 t11 mi14 [] ln12 0 0 0) = (hQ s15 st16 rs17 (sl 2 (encFs l23) none) lg21 m18 t19 mi22 [] ln20 0 0 0) ∧ okFs l23 ∧ [ptr 5 0, ptr 7 0] = [ptr 5 0, ptr 7 0] ∧ ifP (snd (snd (asksF l23)) != 0) (K (int i64 (snd (snd (asksF l23)))) (hQ s15 st16 rs17 (sl 2 (stripss 10 (hQ s15 st16 rs17 (sl 2 (encFs l23) none) lg21 m18 t19 mi22 [] ln20 (fst (asksF l23)) (fst (snd (asksF l23))) 0) (encFs l23)) none) lg21 m18 t19 mi22 [] ln20 (fst (asksF l23)) (fst (snd (asksF l23))) 0)) (∃ (s26 : List UInt8) (st27 : List UInt8) (rs28 : List UInt8) (m29 : List UInt8) (t30 : List UInt8) (ln31 : List UInt8) (lg32 : Int) (mi33 : Int) (k34 : Int) (n35 : Int) (l36 : List Fld), (hQ s15 st16 rs17 (sl 2 (encFs l23) none) lg21 m18 t19 mi22 [] ln20 (fst (asksF l23)) (fst (snd (asksF l23))) 0) = (hQ s26 st27 rs28 (sl 2 (encFs l36) none) lg32 m29 t30 mi33 [] ln31 k34 n35 0) ∧ length rs28 ≤ 10000000 ∧ 0 ≤ n35 ∧ n35 ≤ 1000000000000000000 ∧ 0 ≤ lg32 ∧ lg32 ≤ 10000 ∧ [ptr 5 0, ptr 7 0, ptr 8 0] = [ptr 5 0, ptr 7 0, ptr 8 0] ∧ ifP (snd (snd (bodyM k34 n35 rs28 65536)) != 0) (K (int i64 (snd (snd (bodyM k34 n35 rs28 65536)))) (hQ s26 st27 rs28 (sl 2 (stripss 10 (hQ s26 st27 rs28 (sl 2 (encFs l36) none) lg32 m29 t30 mi33 (fst (bodyM k34 n35 rs28 65536)) ln31 k34 n35 (if snd (snd (bodyM k34 n35 rs28 65536)) = 0 then lg32 + (↑(fst (snd (bodyM k34 n35 rs28 65536))) : Int) else 0)) (encFs l36)) none) lg32 m29 t30 mi33 (fst (bodyM k34 n35 rs28 65536)) ln31 k34 n35 (if snd (snd (bodyM k34 n35 rs28 65536)) = 0 then lg32 + (↑(fst (snd (bodyM k34 n35 rs28 65536))) : Int) else 0))) (K (int i64 0) (hQ s26 st27 rs28 (sl 2 (stripss 10 (hQ s26 st27 rs28 (sl 2 (encFs l36) none) lg32 m29 t30 mi33 (fst (bodyM k34 n35 rs28 65536)) ln31 k34 n35 (if snd (snd (bodyM k34 n35 rs28 65536)) = 0 then lg32 + (↑(fst (snd (bodyM k34 n35 rs28 65536))) : Int) else 0)) (encFs l36)) none) lg32 m29 t30 mi33 (fst (bodyM k34 n35 rs28 65536)) ln31 k34 n35 (if snd (snd (bodyM k34 n35 rs28 65536)) = 0 then lg32 + (↑(fst (snd (bodyM k34 n35 rs28 65536))) : Int) else 0)))))))) (∃ (s37 : List UInt8) (st38 : List UInt8) (rs39 : List UInt8) (ln40 : List UInt8) (lg41 : Int), (hQ s1 (HeadR.start (headM s1)) (List.drop (HeadR.n (headM s1)) s1) (sl 2 [] (some 3)) (↑(HeadR.n (headM s1)) : Int) [] [] 0 [] (HeadR.lines (headM s1)) 0 0 0) = (hQ s37 st38 rs39 (sl 2 [] (some 3)) lg41 [] [] 0 [] ln40 0 0 0) ∧ length st38 ≤ 100000 ∧ [ptr 5 0] = [ptr 5 0] ∧ ifP (snd (snd (snd (reqP st38))) != 0) (K (int i64 (snd (snd (snd (reqP st38))))) (hQ s37 st38 rs39 (sl 2 [] (some 3)) lg41 (fst (reqP st38)) (fst (snd (reqP st38))) (fst (snd (snd (reqP st38)))) [] ln40 0 0 0)) (∃ (s42 : List UInt8) (st43 : List UInt8) (rs44 : List UInt8) (m45 : List UInt8) (t46 : List UInt8) (ln47 : List UInt8) (lg48 : Int) (mi49 : Int), (hQ s37 st38 rs39 (sl 2 [] (some 3)) lg41 (fst (reqP st38)) (fst (snd (reqP st38))) (fst (snd (snd (reqP st38)))) [] ln40 0 0 0) = (hQ s42 st43 rs44 (sl 2 [] (some 3)) lg48 m45 t46 mi49 [] ln47 0 0 0) ∧ length ln47 ≤ 100000 ∧ [ptr 5 0, ptr 6 0] = [ptr 5 0, ptr 6 0] ∧ ifP (snd (parseF ln47) != 0) (K (int i64 (snd (parseF ln47))) (hQ s42 st43 rs44 (sl 2 (stripss 10 (hQ s42 st43 rs44 (sl 2 (encFs (fst (parseF ln47))) none) lg48 m45 t46 mi49 [] ln47 0 0 0) (encFs (fst (parseF ln47)))) none) lg48 m45 t46 mi49 [] ln47 0 0 0)) (∃ (s50 : List UInt8) (st51 : List UInt8) (rs52 : List UInt8) (m53 : List UInt8) (t54 : List UInt8) (ln55 : List UInt8) (lg56 : Int) (mi57 : Int) (l58 : List Fld), (hQ s42 st43 rs44 (sl 2 (encFs (fst (parseF ln47))) none) lg48 m45 t46 mi49 [] ln47 0 0 0) = (hQ s50 st51 rs52 (sl 2 (encFs l58) none) lg56 m53 t54 mi57 [] ln55 0 0 0) ∧ okFs l58 ∧ [ptr 5 0, ptr 7 0] = [ptr 5 0, ptr 7 0] ∧ ifP (snd (snd (asksF l58)) != 0) (K (int i64 (snd (snd (asksF l58)))) (hQ s50 st51 rs52 (sl 2 (stripss 10 (hQ s50 st51 rs52 (sl 2 (encFs l58) none) lg56 m53 t54 mi57 [] ln55 (fst (asksF l58)) (fst (snd (asksF l58))) 0) (encFs l58)) none) lg56 m53 t54 mi57 [] ln55 (fst (asksF l58)) (fst (snd (asksF l58))) 0)) (∃ (s61 : List UInt8) (st62 : List UInt8) (rs63 : List UInt8) (m64 : List UInt8) (t65 : List UInt8) (ln66 : List UInt8) (lg67 : Int) (mi68 : Int) (k69 : Int) (n70 : Int) (l71 : List Fld), (hQ s50 st51 rs52 (sl 2 (encFs l58) none) lg56 m53 t54 mi57 [] ln55 (fst (asksF l58)) (fst (snd (asksF l58))) 0) = (hQ s61 st62 rs63 (sl 2 (encFs l71) none) lg67 m64 t65 mi68 [] ln66 k69 n70 0) ∧ length rs63 ≤ 10000000 ∧ 0 ≤ n70 ∧ n70 ≤ 1000000000000000000 ∧ 0 ≤ lg67 ∧ lg67 ≤ 10000 ∧ [ptr 5 0, ptr 7 0, ptr 8 0] = [ptr 5 0, ptr 7 0, ptr 8 0] ∧ ifP (snd (snd (bodyM k69 n70 rs63 65536)) != 0) (K (int i64 (snd (snd (bodyM k69 n70 rs63 65536)))) (hQ s61 st62 rs63 (sl 2 (stripss 10 (hQ s61 st62 rs63 (sl 2 (encFs l71) none) lg67 m64 t65 mi68 (fst (bodyM k69 n70 rs63 65536)) ln66 k69 n70 (if snd (snd (bodyM k69 n70 rs63 65536)) = 0 then lg67 + (↑(fst (snd (bodyM k69 n70 rs63 65536))) : Int) else 0)) (encFs l71)) none) lg67 m64 t65 mi68 (fst (bodyM k69 n70 rs63 65536)) ln66 k69 n70 (if snd (snd (bodyM k69 n70 rs63 65536)) = 0 then lg67 + (↑(fst (snd (bodyM k69 n70 rs63 65536))) : Int) else 0))) (K (int i64 0) (hQ s61 st62 rs63 (sl 2 (stripss 10 (hQ s61 st62 rs63 (sl 2 (encFs l71) none) lg67 m64 t65 mi68 (fst (bodyM k69 n70 rs63 65536)) ln66 k69 n70 (if snd (snd (bodyM k69 n70 rs63 65536)) = 0 then lg67 + (↑(fst (snd (bodyM k69 n70 rs63 65536))) : Int) else 0)) (encFs l71)) none) lg67 m64 t65 mi68 (fst (bodyM k69 n70 rs63 65536)) ln66 k69 n70 (if snd (snd (bodyM k69 n70 rs63 65536)) = 0 then lg67 + (↑(fst (snd (bodyM k69 n70 rs63 65536))) : Int) else 0)))))))) : ToEnd cfg 27 (bodyOf f27) (RetIn prog f27 10 K) ([.code []]) .normal ([(0, true, .sl 1 [[.fn (.func 28) [] [.ptr 5 0, .ptr 0 0, .ptr 6 0]], [.fn (.func 30) [] [.ptr 5 0]], [.fn (.func 32) [] [.ptr 5 0, .ptr 6 0]], [.fn (.func 34) [] [.ptr 5 0, .ptr 7 0]], [.fn (.func 36) [] [.ptr 5 0, .ptr 7 0, .ptr 8 0]]] (some 9))]) (hQ s [] [] (.sl 2 [] (some 3)) 0 [] [] 0 [] [] 0 0 0) := by
  exact unr_ok (pl := ⟨[], []⟩) hT 100000 _ _ _ _ (unr_use H (by kernel_rfl))
theorem t27p {K : AV → Hp → Prop} {s : List UInt8} {hd : Bool} (hT : TabOk cfg (ctab [(43, p1C), (44, p2C), (46, p3C), (47, p4C), (49, p5C)])) (H : ∃ (s1 : List UInt8) (hd2 : Bool), (hP s hd [] [] (sl 2 [] (some 4)) 0 0 [] 0 [] [] 0 0 0) = (hP s1 hd2 [] [] (sl 2 [] (some 4)) 0 0 [] 0 [] [] 0 0 0) ∧ length s1 ≤ 10000000 ∧ [ptr 6 0, ptr 0 0, ptr 7 0] = [ptr 6 0, ptr 0 0, ptr 7 0] ∧ ifP (HeadR.e (headM s1) != 0) (ifP (HeadR.e (headM s1) != 0) (K (int i64 (HeadR.e (headM s1))) (hP s1 hd2 [] [] (sl 2 [] (some 4)) 0 0 [] 0 [] [] 0 0 0)) (∃ (s3 : List UInt8) (st4 : List UInt8) (rs5 : List UInt8) (ln6 : List UInt8) (hd7 : Bool) (lg8 : Int), (hP s1 hd2 [] [] (sl 2 [] (some 4)) 0 0 [] 0 [] [] 0 0 0) = (hP s3 hd7 st4 rs5 (sl 2 [] (some 4)) lg8 0 [] 0 [] ln6 0 0 0) ∧ length st4 ≤ 100000 ∧ [ptr 6 0] = [ptr 6 0] ∧ ifP (snd (snd (snd (stP st4))) != 0) (K (int i64 (snd (snd (snd (stP st4))))) (hP s3 hd7 st4 rs5 (sl 2 [] (some 4)) lg8 (fst (stP st4)) (fst (snd (stP st4))) (fst (snd (snd (stP st4)))) [] ln6 0 0 0)) (∃ (s9 : List UInt8) (st10 : List UInt8) (rs11 : List UInt8) (w12 : List UInt8) (ln13 : List UInt8) (hd14 : Bool) (lg15 : Int) (c16 : Int) (mi17 : Int), (hP s3 hd7 st4 rs5 (sl 2 [] (some 4)) lg8 (fst (stP st4)) (fst (snd (stP st4))) (fst (snd (snd (stP st4)))) [] ln6 0 0 0) = (hP s9 hd14 st10 rs11 (sl 2 [] (some 4)) lg15 c16 w12 mi17 [] ln13 0 0 0) ∧ length ln13 ≤ 100000 ∧ [ptr 6 0, ptr 7 0] = [ptr 6 0, ptr 7 0] ∧ ifP (snd (parseF ln13) != 0) (K (int i64 (snd (parseF ln13))) (hP s9 hd14 st10 rs11 (sl 2 (stripss 11 (hP s9 hd14 st10 rs11 (sl 2 (encFs (fst (parseF ln13))) none) lg15 c16 w12 mi17 [] ln13 0 0 0) (encFs (fst (parseF ln13)))) none) lg15 c16 w12 mi17 [] ln13 0 0 0)) (∃ (s18 : List UInt8) (st19 : List UInt8) (rs20 : List UInt8) (w21 : List UInt8) (ln22 : List UInt8) (hd23 : Bool) (lg24 : Int) (c25 : Int) (mi26 : Int) (l27 : List Fld), (hP s9 hd14 st10 rs11 (sl 2 (encFs (fst (parseF ln13))) none) lg15 c16 w12 mi17 [] ln13 0 0 0) = (hP s18 hd23 st19 rs20 (sl 2 (encFs l27) none) lg24 c25 w21 mi26 [] ln22 0 0 0) ∧ okFs l27 ∧ -9223372036854775808 ≤ c25 ∧ c25 ≤ 9223372036854775807 ∧ [ptr 6 0, ptr 1 0, ptr 8 0] = [ptr 6 0, ptr 1 0, ptr 8 0] ∧ ifP (snd (snd (tellsF l27 c25 hd23)) != 0) (K (int i64 (snd (snd (tellsF l27 c25 hd23)))) (hP s18 hd23 st19 rs20 (sl 2 (stripss 11 (hP s18 hd23 st19 rs20 (sl 2 (encFs l27) none) lg24 c25 w21 mi26 [] ln22 (fst (tellsF l27 c25 hd23)) (fst (snd (tellsF l27 c25 hd23))) 0) (encFs l27)) none) lg24 c25 w21 mi26 [] ln22 (fst (tellsF l27 c25 hd23)) (fst (snd (tellsF l27 c25 hd23))) 0)) (∃ (s30 : List UInt8) (st31 : List UInt8) (rs32 : List UInt8) (w33 : List UInt8) (ln34 : List UInt8) (hd35 : Bool) (lg36 : Int) (c37 : Int) (mi38 : Int) (k39 : Int) (n40 : Int) (l41 : List Fld), (hP s18 hd23 st19 rs20 (sl 2 (encFs l27) none) lg24 c25 w21 mi26 [] ln22 (fst (tellsF l27 c25 hd23)) (fst (snd (tellsF l27 c25 hd23))) 0) = (hP s30 hd35 st31 rs32 (sl 2 (encFs l41) none) lg36 c37 w33 mi38 [] ln34 k39 n40 0) ∧ length rs32 ≤ 10000000 ∧ 0 ≤ n40 ∧ n40 ≤ 1000000000000000000 ∧ 0 ≤ lg36 ∧ lg36 ≤ 10000 ∧ [ptr 6 0, ptr 8 0, ptr 9 0] = [ptr 6 0, ptr 8 0, ptr 9 0] ∧ ifP (snd (snd (bodyM k39 n40 rs32 262144)) != 0) (K (int i64 (snd (snd (bodyM k39 n40 rs32 262144)))) (hP s30 hd35 st31 rs32 (sl 2 (stripss 11 (hP s30 hd35 st31 rs32 (sl 2 (encFs l41) none) lg36 c37 w33 mi38 (fst (bodyM k39 n40 rs32 262144)) ln34 k39 n40 (if snd (snd (bodyM k39 n40 rs32 262144)) = 0 then lg36 + (↑(fst (snd (bodyM k39 n40 rs32 262144))) : Int) else 0)) (encFs l41)) none) lg36 c37 w33 mi38 (fst (bodyM k39 n40 rs32 262144)) ln34 k39 n40 (if snd (snd (bodyM k39 n40 rs32 262144)) = 0 then lg36 + (↑(fst (snd (bodyM k39 n40 rs32 262144))) : Int) else 0))) (K (int i64 0) (hP s30 hd35 st31 rs32 (sl 2 (stripss 11 (hP s30 hd35 st31 rs32 (sl 2 (encFs l41) none) lg36 c37 w33 mi38 (fst (bodyM k39 n40 rs32 262144)) ln34 k39 n40 (if snd (snd (bodyM k39 n40 rs32 262144)) = 0 then lg36 + (↑(fst (snd (bodyM k39 n40 rs32 262144))) : Int) else 0)) (encFs l41)) none) lg36 c37 w33 mi38 (fst (bodyM k39 n40 rs32 262144)) ln34 k39 n40 (if snd (snd (bodyM k39 n40 rs32 262144)) = 0 then lg36 + (↑(fst (snd (bodyM k39 n40 rs32 262144))) : Int) else 0)))))))) (∃ (s42 : List UInt8) (st43 : List UInt8) (rs44 : List UInt8) (ln45 : List UInt8) (hd46 : Bool) (lg47 : Int), (hP s1 hd2 (HeadR.start (headM s1)) (List.drop (HeadR.n (headM s1)) s1) (sl 2 [] (some 4)) (↑(HeadR.n (headM s1)) : Int) 0 [] 0 [] (HeadR.lines (headM s1)) 0 0 0) = (hP s42 hd46 st43 rs44 (sl 2 [] (some 4)) lg47 0 [] 0 [] ln45 0 0 0) ∧ length st43 ≤ 100000 ∧ [ptr 6 0] = [ptr 6 0] ∧ ifP (snd (snd (snd (stP st43))) != 0) (K (int i64 (snd (snd (snd (stP st43))))) (hP s42 hd46 st43 rs44 (sl 2 [] (some 4)) lg47 (fst (stP st43)) (fst (snd (stP st43))) (fst (snd (snd (stP st43)))) [] ln45 0 0 0)) (∃ (s48 : List UInt8) (st49 : List UInt8) (rs50 : List UInt8) (w51 : List UInt8) (ln52 : List UInt8) (hd53 : Bool) (lg54 : Int) (c55 : Int) (mi56 : Int), (hP s42 hd46 st43 rs44 (sl 2 [] (some 4)) lg47 (fst (stP st43)) (fst (snd (stP st43))) (fst (snd (snd (stP st43)))) [] ln45 0 0 0) = (hP s48 hd53 st49 rs50 (sl 2 [] (some 4)) lg54 c55 w51 mi56 [] ln52 0 0 0) ∧ length ln52 ≤ 100000 ∧ [ptr 6 0, ptr 7 0] = [ptr 6 0, ptr 7 0] ∧ ifP (snd (parseF ln52) != 0) (K (int i64 (snd (parseF ln52))) (hP s48 hd53 st49 rs50 (sl 2 (stripss 11 (hP s48 hd53 st49 rs50 (sl 2 (encFs (fst (parseF ln52))) none) lg54 c55 w51 mi56 [] ln52 0 0 0) (encFs (fst (parseF ln52)))) none) lg54 c55 w51 mi56 [] ln52 0 0 0)) (∃ (s57 : List UInt8) (st58 : List UInt8) (rs59 : List UInt8) (w60 : List UInt8) (ln61 : List UInt8) (hd62 : Bool) (lg63 : Int) (c64 : Int) (mi65 : Int) (l66 : List Fld), (hP s48 hd53 st49 rs50 (sl 2 (encFs (fst (parseF ln52))) none) lg54 c55 w51 mi56 [] ln52 0 0 0) = (hP s57 hd62 st58 rs59 (sl 2 (encFs l66) none) lg63 c64 w60 mi65 [] ln61 0 0 0) ∧ okFs l66 ∧ -9223372036854775808 ≤ c64 ∧ c64 ≤ 9223372036854775807 ∧ [ptr 6 0, ptr 1 0, ptr 8 0] = [ptr 6 0, ptr 1 0, ptr 8 0] ∧ ifP (snd (snd (tellsF l66 c64 hd62)) != 0) (K (int i64 (snd (snd (tellsF l66 c64 hd62)))) (hP s57 hd62 st58 rs59 (sl 2 (stripss 11 (hP s57 hd62 st58 rs59 (sl 2 (encFs l66) none) lg63 c64 w60 mi65 [] ln61 (fst (tellsF l66 c64 hd62)) (fst (snd (tellsF l66 c64 hd62))) 0) (encFs l66)) none) lg63 c64 w60 mi65 [] ln61 (fst (tellsF l66 c64 hd62)) (fst (snd (tellsF l66 c64 hd62))) 0)) (∃ (s69 : List UInt8) (st70 : List UInt8) (rs71 : List UInt8) (w72 : List UInt8) (ln73 : List UInt8) (hd74 : Bool) (lg75 : Int) (c76 : Int) (mi77 : Int) (k78 : Int) (n79 : Int) (l80 : List Fld), (hP s57 hd62 st58 rs59 (sl 2 (encFs l66) none) lg63 c64 w60 mi65 [] ln61 (fst (tellsF l66 c64 hd62)) (fst (snd (tellsF l66 c64 hd62))) 0) = (hP s69 hd74 st70 rs71 (sl 2 (encFs l80) none) lg75 c76 w72 mi77 [] ln73 k78 n79 0) ∧ length rs71 ≤ 10000000 ∧ 0 ≤ n79 ∧ n79 ≤ 1000000000000000000 ∧ 0 ≤ lg75 ∧ lg75 ≤ 10000 ∧ [ptr 6 0, ptr 8 0, ptr 9 0] = [ptr 6 0, ptr 8 0, ptr 9 0] ∧ ifP (snd (snd (bodyM k78 n79 rs71 262144)) != 0) (K (int i64 (snd (snd (bodyM k78 n79 rs71 262144)))) (hP s69 hd74 st70 rs71 (sl 2 (stripss 11 (hP s69 hd74 st70 rs71 (sl 2 (encFs l80) none) lg75 c76 w72 mi77 (fst (bodyM k78 n79 rs71 262144)) ln73 k78 n79 (if snd (snd (bodyM k78 n79 rs71 262144)) = 0 then lg75 + (↑(fst (snd (bodyM k78 n79 rs71 262144))) : Int) else 0)) (encFs l80)) none) lg75 c76 w72 mi77 (fst (bodyM k78 n79 rs71 262144)) ln73 k78 n79 (if snd (snd (bodyM k78 n79 rs71 262144)) = 0 then lg75 + (↑(fst (snd (bodyM k78 n79 rs71 262144))) : Int) else 0))) (K (int i64 0) (hP s69 hd74 st70 rs71 (sl 2 (stripss 11 (hP s69 hd74 st70 rs71 (sl 2 (encFs l80) none) lg75 c76 w72 mi77 (fst (bodyM k78 n79 rs71 262144)) ln73 k78 n79 (if snd (snd (bodyM k78 n79 rs71 262144)) = 0 then lg75 + (↑(fst (snd (bodyM k78 n79 rs71 262144))) : Int) else 0)) (encFs l80)) none) lg75 c76 w72 mi77 (fst (bodyM k78 n79 rs71 262144)) ln73 k78 n79 (if snd (snd (bodyM k78 n79 rs71 262144)) = 0 then lg75 + (↑(fst (snd (bodyM k78 n79 rs71 262144))) : Int) else 0)))))))) : ToEnd cfg 27 (bodyOf f27) (RetIn prog f27 11 K) ([.code []]) .normal ([(0, true, .sl 1 [[.fn (.func 43) [] [.ptr 6 0, .ptr 0 0, .ptr 7 0]], [.fn (.func 44) [] [.ptr 6 0]], [.fn (.func 46) [] [.ptr 6 0, .ptr 7 0]], [.fn (.func 47) [] [.ptr 6 0, .ptr 1 0, .ptr 8 0]], [.fn (.func 49) [] [.ptr 6 0, .ptr 8 0, .ptr 9 0]]] (some 10))]) (hP s hd [] [] (.sl 2 [] (some 4)) 0 0 [] 0 [] [] 0 0 0) := by
  exact unr_ok (pl := ⟨[], []⟩) hT 100000 _ _ _ _ (unr_use H (by kernel_rfl))
theorem t11 {v : AV} {s : List UInt8} (hT : TabOk cfg (ctab [(27, firstQC)])) (H : ∃ (s1 : List UInt8), (hQ s [] [] (sl 2 [] (some 3)) 0 [] [] 0 [] [] 0 0 0) = (hQ s1 [] [] (sl 2 [] (some 3)) 0 [] [] 0 [] [] 0 0 0) ∧ length s1 ≤ 10000000 ∧ [sl 1 [[AV.fn (Fn.func 28) [] [ptr 5 0, ptr 0 0, ptr 6 0]], [AV.fn (Fn.func 30) [] [ptr 5 0]], [AV.fn (Fn.func 32) [] [ptr 5 0, ptr 6 0]], [AV.fn (Fn.func 34) [] [ptr 5 0, ptr 7 0]], [AV.fn (Fn.func 36) [] [ptr 5 0, ptr 7 0, ptr 8 0]]] (some 9)] = [sl 1 [[AV.fn (Fn.func 28) [] [ptr 5 0, ptr 0 0, ptr 6 0]], [AV.fn (Fn.func 30) [] [ptr 5 0]], [AV.fn (Fn.func 32) [] [ptr 5 0, ptr 6 0]], [AV.fn (Fn.func 34) [] [ptr 5 0, ptr 7 0]], [AV.fn (Fn.func 36) [] [ptr 5 0, ptr 7 0, ptr 8 0]]] (some 9)] ∧ ifP (HeadR.e (headM s1) != 0) (ifP (HeadR.e (headM s1) != 0) (tup [agg [str [], str [], int i64 0, sl 2 [] none, str []], int i64 0, int i64 (HeadR.e (headM s1))] = v) (tup [agg [str [], str [], int i64 0, sl 2 [] none, str []], int i64 0, int i64 0] = v)) (∃ (st2 : List UInt8) (rs3 : List UInt8) (m4 : List UInt8) (t5 : List UInt8) (ln6 : List UInt8) (bd7 : List UInt8) (lg8 : Int) (mi9 : Int) (e210 : Int) (e311 : Int) (e412 : Int) (k13 : Int) (n14 : Int) (e515 : Int) (us16 : Int) (l17 : List Fld), (st2 = HeadR.start (headM s1) ∧ rs3 = List.drop (HeadR.n (headM s1)) s1 ∧ ln6 = HeadR.lines (headM s1) ∧ lg8 = (↑(HeadR.n (headM s1)) : Int) ∧ (m4, t5, mi9, e210) = reqP st2 ∧ (l17, e311) = parseF ln6 ∧ (k13, n14, e412) = asksF l17 ∧ bd7 = fst (bodyM k13 n14 rs3 65536) ∧ e515 = snd (snd (bodyM k13 n14 rs3 65536)) ∧ us16 = if e515 = 0 then lg8 + (↑(fst (snd (bodyM k13 n14 rs3 65536))) : Int) else 0) ∧ ifP (e210 != 0) (ifP (e210 != 0) (tup [agg [str [], str [], int i64 0, sl 2 [] none, str []], int i64 0, int i64 e210] = v) (tup [agg [str m4, str t5, int i64 mi9, sl 2 [] none, str []], int i64 0, int i64 0] = v)) (ifP (e311 != 0) (ifP (e311 != 0) (tup [agg [str [], str [], int i64 0, sl 2 [] none, str []], int i64 0, int i64 e311] = v) (tup [agg [str m4, str t5, int i64 mi9, sl 2 (stripss 0 [mem 9 [str s1], grow 0 2 63, mem 25 [str m4, str t5, int i64 mi9, sl 2 (encFs l17) none, str []], grow 0 2 63, grow 0 2 63, mem 67 [str st2, str rs3, sl 2 (encFs l17) none, int i64 lg8, str m4, str t5, int i64 mi9, sl 2 (encFs l17) none, str []], mem 9 [str ln6], mem 69 [int i64 0, int i64 0], mem 3 [int i64 0], grow 5 1 72] (encFs l17)) none, str []], int i64 0, int i64 0] = v)) (ifP (e412 != 0) (ifP (e412 != 0) (tup [agg [str [], str [], int i64 0, sl 2 [] none, str []], int i64 0, int i64 e412] = v) (tup [agg [str m4, str t5, int i64 mi9, sl 2 (stripss 0 [mem 9 [str s1], grow 0 2 63, mem 25 [str m4, str t5, int i64 mi9, sl 2 (encFs l17) none, str []], grow 0 2 63, grow 0 2 63, mem 67 [str st2, str rs3, sl 2 (encFs l17) none, int i64 lg8, str m4, str t5, int i64 mi9, sl 2 (encFs l17) none, str []], mem 9 [str ln6], mem 69 [int i64 k13, int i64 n14], mem 3 [int i64 0], grow 5 1 72] (encFs l17)) none, str []], int i64 0, int i64 0] = v)) (ifP (e515 != 0) (ifP (e515 != 0) (tup [agg [str [], str [], int i64 0, sl 2 [] none, str []], int i64 0, int i64 e515] = v) (tup [agg [str m4, str t5, int i64 mi9, sl 2 (stripss 0 [mem 9 [str s1], grow 0 2 63, mem 25 [str m4, str t5, int i64 mi9, sl 2 (encFs l17) none, str bd7], grow 0 2 63, grow 0 2 63, mem 67 [str st2, str rs3, sl 2 (encFs l17) none, int i64 lg8, str m4, str t5, int i64 mi9, sl 2 (encFs l17) none, str bd7], mem 9 [str ln6], mem 69 [int i64 k13, int i64 n14], mem 3 [int i64 us16], grow 5 1 72] (encFs l17)) none, str bd7], int i64 us16, int i64 0] = v)) (tup [agg [str m4, str t5, int i64 mi9, sl 2 (stripss 0 [mem 9 [str s1], grow 0 2 63, mem 25 [str m4, str t5, int i64 mi9, sl 2 (encFs l17) none, str bd7], grow 0 2 63, grow 0 2 63, mem 67 [str st2, str rs3, sl 2 (encFs l17) none, int i64 lg8, str m4, str t5, int i64 mi9, sl 2 (encFs l17) none, str bd7], mem 9 [str ln6], mem 69 [int i64 k13, int i64 n14], mem 3 [int i64 us16], grow 5 1 72] (encFs l17)) none, str bd7], int i64 us16, int i64 0] = v)))))) : ToEnd cfg 11 (bodyOf f11) (RetIs prog f11 v) ([.code []]) .normal ([(0, true, .str s)]) ([]) := by
  exact unr_ok (pl := ⟨[], []⟩) hT 100000 _ _ _ _ (unr_use H (by kernel_rfl))
theorem t13 {v : AV} {s : List UInt8} {hd : Bool} (hT : TabOk cfg (ctab [(27, firstPC)])) (H : ∃ (s1 : List UInt8) (hd2 : Bool), (hP s hd [] [] (sl 2 [] (some 4)) 0 0 [] 0 [] [] 0 0 0) = (hP s1 hd2 [] [] (sl 2 [] (some 4)) 0 0 [] 0 [] [] 0 0 0) ∧ length s1 ≤ 10000000 ∧ [sl 1 [[AV.fn (Fn.func 43) [] [ptr 6 0, ptr 0 0, ptr 7 0]], [AV.fn (Fn.func 44) [] [ptr 6 0]], [AV.fn (Fn.func 46) [] [ptr 6 0, ptr 7 0]], [AV.fn (Fn.func 47) [] [ptr 6 0, ptr 1 0, ptr 8 0]], [AV.fn (Fn.func 49) [] [ptr 6 0, ptr 8 0, ptr 9 0]]] (some 10)] = [sl 1 [[AV.fn (Fn.func 43) [] [ptr 6 0, ptr 0 0, ptr 7 0]], [AV.fn (Fn.func 44) [] [ptr 6 0]], [AV.fn (Fn.func 46) [] [ptr 6 0, ptr 7 0]], [AV.fn (Fn.func 47) [] [ptr 6 0, ptr 1 0, ptr 8 0]], [AV.fn (Fn.func 49) [] [ptr 6 0, ptr 8 0, ptr 9 0]]] (some 10)] ∧ ifP (HeadR.e (headM s1) != 0) (ifP (HeadR.e (headM s1) != 0) (tup [agg [int i64 0, str [], int i64 0, sl 2 [] none, str []], int i64 0, int i64 (HeadR.e (headM s1))] = v) (tup [agg [int i64 0, str [], int i64 0, sl 2 [] none, str []], int i64 0, int i64 0] = v)) (∃ (st3 : List UInt8) (rs4 : List UInt8) (w5 : List UInt8) (ln6 : List UInt8) (bd7 : List UInt8) (lg8 : Int) (c9 : Int) (mi10 : Int) (e211 : Int) (e312 : Int) (e413 : Int) (k14 : Int) (n15 : Int) (e516 : Int) (us17 : Int) (l18 : List Fld), (st3 = HeadR.start (headM s1) ∧ rs4 = List.drop (HeadR.n (headM s1)) s1 ∧ ln6 = HeadR.lines (headM s1) ∧ lg8 = (↑(HeadR.n (headM s1)) : Int) ∧ (c9, w5, mi10, e211) = stP st3 ∧ (l18, e312) = parseF ln6 ∧ (k14, n15, e413) = tellsF l18 c9 hd2 ∧ bd7 = fst (bodyM k14 n15 rs4 262144) ∧ e516 = snd (snd (bodyM k14 n15 rs4 262144)) ∧ us17 = if e516 = 0 then lg8 + (↑(fst (snd (bodyM k14 n15 rs4 262144))) : Int) else 0) ∧ ifP (e211 != 0) (ifP (e211 != 0) (tup [agg [int i64 0, str [], int i64 0, sl 2 [] none, str []], int i64 0, int i64 e211] = v) (tup [agg [int i64 c9, str w5, int i64 mi10, sl 2 [] none, str []], int i64 0, int i64 0] = v)) (ifP (e312 != 0) (ifP (e312 != 0) (tup [agg [int i64 0, str [], int i64 0, sl 2 [] none, str []], int i64 0, int i64 e312] = v) (tup [agg [int i64 c9, str w5, int i64 mi10, sl 2 (stripss 0 [mem 9 [str s1], mem 4 [bool hd2], grow 0 2 63, mem 32 [int i64 c9, str w5, int i64 mi10, sl 2 (encFs l18) none, str []], grow 0 2 63, grow 0 2 63, mem 90 [str st3, str rs4, sl 2 (encFs l18) none, int i64 lg8, int i64 c9, str w5, int i64 mi10, sl 2 (encFs l18) none, str []], mem 9 [str ln6], mem 69 [int i64 0, int i64 0], mem 3 [int i64 0], grow 5 1 72] (encFs l18)) none, str []], int i64 0, int i64 0] = v)) (ifP (e413 != 0) (ifP (e413 != 0) (tup [agg [int i64 0, str [], int i64 0, sl 2 [] none, str []], int i64 0, int i64 e413] = v) (tup [agg [int i64 c9, str w5, int i64 mi10, sl 2 (stripss 0 [mem 9 [str s1], mem 4 [bool hd2], grow 0 2 63, mem 32 [int i64 c9, str w5, int i64 mi10, sl 2 (encFs l18) none, str []], grow 0 2 63, grow 0 2 63, mem 90 [str st3, str rs4, sl 2 (encFs l18) none, int i64 lg8, int i64 c9, str w5, int i64 mi10, sl 2 (encFs l18) none, str []], mem 9 [str ln6], mem 69 [int i64 k14, int i64 n15], mem 3 [int i64 0], grow 5 1 72] (encFs l18)) none, str []], int i64 0, int i64 0] = v)) (ifP (e516 != 0) (ifP (e516 != 0) (tup [agg [int i64 0, str [], int i64 0, sl 2 [] none, str []], int i64 0, int i64 e516] = v) (tup [agg [int i64 c9, str w5, int i64 mi10, sl 2 (stripss 0 [mem 9 [str s1], mem 4 [bool hd2], grow 0 2 63, mem 32 [int i64 c9, str w5, int i64 mi10, sl 2 (encFs l18) none, str bd7], grow 0 2 63, grow 0 2 63, mem 90 [str st3, str rs4, sl 2 (encFs l18) none, int i64 lg8, int i64 c9, str w5, int i64 mi10, sl 2 (encFs l18) none, str bd7], mem 9 [str ln6], mem 69 [int i64 k14, int i64 n15], mem 3 [int i64 us17], grow 5 1 72] (encFs l18)) none, str bd7], int i64 us17, int i64 0] = v)) (tup [agg [int i64 c9, str w5, int i64 mi10, sl 2 (stripss 0 [mem 9 [str s1], mem 4 [bool hd2], grow 0 2 63, mem 32 [int i64 c9, str w5, int i64 mi10, sl 2 (encFs l18) none, str bd7], grow 0 2 63, grow 0 2 63, mem 90 [str st3, str rs4, sl 2 (encFs l18) none, int i64 lg8, int i64 c9, str w5, int i64 mi10, sl 2 (encFs l18) none, str bd7], mem 9 [str ln6], mem 69 [int i64 k14, int i64 n15], mem 3 [int i64 us17], grow 5 1 72] (encFs l18)) none, str bd7], int i64 us17, int i64 0] = v)))))) : ToEnd cfg 13 (bodyOf f13) (RetIs prog f13 v) ([.code []]) .normal ([(0, true, .str s), (1, true, .bool hd)]) ([]) := by
  exact unr_ok (pl := ⟨[], []⟩) hT 100000 _ _ _ _ (unr_use H (by kernel_rfl))
theorem t38a {v : AV} {s : List UInt8} (hT : TabOk cfg (ctab [])) (H : ToEnd cfg 38 (bodyOf f38) (RetIs prog f38 v) [code [0, 1, 0, 1], block 0, code [1, 1]] normal [(0, true, str s), (6, true, int i64 0)] []) : ToEnd cfg 38 (bodyOf f38) (RetIs prog f38 v) ([.code []]) .normal ([(0, true, .str s)]) ([]) := by
  exact unr_ok (pl := ⟨[[0, 1, 0, 1], [0, 0, 1, 1, 0, 0, 1, 0, 0, 1, 0, 1]], []⟩) hT 100000 _ _ _ _ (unr_use H (by kernel_rfl))
theorem t38b {v : AV}  {s0 : List UInt8} {i6 : Int} (hT : TabOk cfg (ctab [])) (H : ifP (decide (wrap i64 (i6 + 4) ≤ (↑(length s0) : Int))) (ifP (decide (wrap i64 (i6 + 4) ≤ 8192)) (gAnd (cutOb (length s0) (some i6) (some (wrap i64 (i6 + 4)))) (ifP (!cutL s0 (some i6) (some (wrap i64 (i6 + 4))) == [13, 10, 13, 10]) (ToEnd cfg 38 (bodyOf f38) (RetIs prog f38 v) [code [0, 1, 0, 1], block 0, code [1, 1]] normal [(0, true, str s0), (6, true, int i64 (wrap i64 (i6 + 1)))] []) (ToEnd cfg 38 (bodyOf f38) (RetIs prog f38 v) [code [0, 0, 1, 1, 0, 0, 1, 0, 0, 1, 0, 1], block 2, code [1, 1, 1, 0, 0, 1, 0, 0, 1, 0, 1], block 1, code [1, 1, 0, 0, 1, 0, 1], loop [0, 1, 0, 1] 0, block 0, code [1, 1]] normal [(0, true, str s0), (6, true, int i64 i6), (7, true, int i64 0)] []))) (ifP (decide ((↑(length s0) : Int) ≥ 8192)) (tup [str [], str [], int i64 0, int i64 3] = v) (tup [str [], str [], int i64 0, int i64 6] = v))) (ifP (decide ((↑(length s0) : Int) ≥ 8192)) (tup [str [], str [], int i64 0, int i64 3] = v) (tup [str [], str [], int i64 0, int i64 6] = v))) : ToEnd cfg 38 (bodyOf f38) (RetIs prog f38 v) ([.code [0, 1, 0, 1], block 0, code [1, 1]]) .normal ([(0, true, str s0), (6, true, int i64 i6)]) ([]) := by
  exact ends_round (pl := ⟨[[0, 1, 0, 1], [0, 0, 1, 1, 0, 0, 1, 0, 0, 1, 0, 1]], []⟩) hT 100000 (by kernel_rfl) (unr_use H (by kernel_rfl))
theorem t38c {v : AV}  {s0 : List UInt8} {i6 : Int} {i7 : Int} (hT : TabOk cfg (ctab [])) (H : gAnd (inR i7 (length s0)) (ifP ((↑(toNat (List.getD s0 (Int.toNat i7) 0)) : Int) != 13) (ToEnd cfg 38 (bodyOf f38) (RetIs prog f38 v) [code [0, 0, 1, 1, 0, 0, 1, 0, 0, 1, 0, 1], block 2, code [1, 1, 1, 0, 0, 1, 0, 0, 1, 0, 1], block 1, code [1, 1, 0, 0, 1, 0, 1], loop [0, 1, 0, 1] 0, block 0, code [1, 1]] normal [(0, true, str s0), (6, true, int i64 i6), (7, true, int i64 (wrap i64 (i7 + 1)))] []) (gAnd (inR (wrap i64 (i7 + 1)) (length s0)) (ifP ((↑(toNat (List.getD s0 (Int.toNat (wrap i64 (i7 + 1))) 0)) : Int) != 10) (ToEnd cfg 38 (bodyOf f38) (RetIs prog f38 v) [code [0, 0, 1, 1, 0, 0, 1, 0, 0, 1, 0, 1], block 2, code [1, 1, 1, 0, 0, 1, 0, 0, 1, 0, 1], block 1, code [1, 1, 0, 0, 1, 0, 1], loop [0, 1, 0, 1] 0, block 0, code [1, 1]] normal [(0, true, str s0), (6, true, int i64 i6), (7, true, int i64 (wrap i64 (i7 + 1)))] []) (gAnd (cutOb (length s0) none (some i7)) (gAnd (cutOb (length s0) (some (wrap i64 (i7 + 2))) (some (wrap i64 (i6 + 2)))) (tup [str (cutL s0 none (some i7)), str (cutL s0 (some (wrap i64 (i7 + 2))) (some (wrap i64 (i6 + 2)))), int i64 (wrap i64 (i6 + 4)), int i64 0] = v))))))) : ToEnd cfg 38 (bodyOf f38) (RetIs prog f38 v) ([.code [0, 0, 1, 1, 0, 0, 1, 0, 0, 1, 0, 1], block 2, code [1, 1, 1, 0, 0, 1, 0, 0, 1, 0, 1], block 1, code [1, 1, 0, 0, 1, 0, 1], loop [0, 1, 0, 1] 0, block 0, code [1, 1]]) .normal ([(0, true, str s0), (6, true, int i64 i6), (7, true, int i64 i7)]) ([]) := by
  exact ends_round (pl := ⟨[[0, 1, 0, 1], [0, 0, 1, 1, 0, 0, 1, 0, 0, 1, 0, 1]], []⟩) hT 100000 (by kernel_rfl) (unr_use H (by kernel_rfl))
theorem t42 {v : AV} {rs : List UInt8} {k n most : Int} (hT : TabOk cfg (ctab [(86, decRC)])) (H : ifP (k == 1) (ifP (decide ((↑(length rs) : Int) < n)) (tup [str [], int i64 0, int i64 6] = v) (gAnd (cutOb (length rs) none (some n)) (tup [str (cutL rs none (some n)), int i64 n, int i64 0] = v))) (ifP (k == 2) (∃ (s1 : List UInt8) (m2 : Int), length s1 ≤ 100000 ∧ -9223372036854775808 ≤ m2 ∧ m2 ≤ 9223372036854775807 ∧ [str rs, int i64 most] = [str s1, int i64 m2] ∧ tup [str (Dec.body (decA s1 m2)), int i64 (↑(Dec.used (decA s1 m2)) : Int), int i64 (Dec.e (decA s1 m2))] = v) (ifP (k == 3) (ifP (decide ((↑(length rs) : Int) > most)) (tup [str [], int i64 0, int i64 3] = v) (tup [str rs, int i64 (↑(length rs) : Int), int i64 0] = v)) (tup [str [], int i64 0, int i64 0] = v)))) : ToEnd cfg 42 (bodyOf f42) (RetIs prog f42 v) ([.code []]) .normal ([(0, true, .str rs), (1, true, .agg [.int .i64 k, .int .i64 n]), (2, true, .int .i64 most)]) ([]) := by
  exact unr_ok (pl := ⟨[], []⟩) hT 100000 _ _ _ _ (unr_use H (by kernel_rfl))
theorem t12 {v : AV} {s : List UInt8} (hT : TabOk cfg (ctab [(38, headRC), (39, Ln.reqC), (40, parseC), (41, askFC), (42, bodyRC)])) (H : ∃ (s1 : List UInt8), length s1 ≤ 10000000 ∧ [str s] = [str s1] ∧ ifP (HeadR.e (headM s1) != 0) (tup [agg [str [], str [], int i64 0, sl 2 [] none, str []], int i64 0, int i64 (HeadR.e (headM s1))] = v) (∃ (s2 : List UInt8), length s2 ≤ 100000 ∧ [str (HeadR.start (headM s1))] = [str s2] ∧ ifP (snd (snd (snd (reqP s2))) != 0) (tup [agg [str [], str [], int i64 0, sl 2 [] none, str []], int i64 0, int i64 (snd (snd (snd (reqP s2))))] = v) (∃ (s3 : List UInt8), length s3 ≤ 100000 ∧ [str (HeadR.lines (headM s1))] = [str s3] ∧ ifP (snd (parseF s3) != 0) (tup [agg [str [], str [], int i64 0, sl 2 [] none, str []], int i64 0, int i64 (snd (parseF s3))] = v) (∃ (l4 : List Fld) (sz5 : Nat), okFs l4 ∧ szOk sz5 2 (length l4) ∧ [sl 2 (stripss 0 [] (encFs (fst (parseF s3)))) none] = [sl sz5 (encFs l4) none] ∧ ifP (snd (snd (asksF l4)) != 0) (tup [agg [str [], str [], int i64 0, sl 2 [] none, str []], int i64 0, int i64 (snd (snd (asksF l4)))] = v) (gAnd (cutOb (length s) (some (↑(HeadR.n (headM s1)) : Int)) none) (∃ (rs8 : List UInt8) (k9 : Int) (n10 : Int) (most11 : Nat), length rs8 ≤ 10000000 ∧ (k9 = 2 → length rs8 ≤ 100000) ∧ most11 ≤ 1000000 ∧ 0 ≤ n10 ∧ n10 ≤ 1000000000000000000 ∧ [str (cutL s (some (↑(HeadR.n (headM s1)) : Int)) none), agg [int i64 (fst (asksF l4)), int i64 (fst (snd (asksF l4)))], int i64 65536] = [str rs8, agg [int i64 k9, int i64 n10], int i64 (↑most11 : Int)] ∧ ifP (snd (snd (bodyM k9 n10 rs8 most11)) != 0) (tup [agg [str [], str [], int i64 0, sl 2 [] none, str []], int i64 0, int i64 (snd (snd (bodyM k9 n10 rs8 most11)))] = v) (tup [agg [str (fst (reqP s2)), str (fst (snd (reqP s2))), int i64 (fst (snd (snd (reqP s2)))), sl 2 (stripss 0 [grow 0 2 63, mem 25 [str (fst (reqP s2)), str (fst (snd (reqP s2))), int i64 (fst (snd (snd (reqP s2)))), sl 2 (encFs (fst (parseF s3))) none, str (fst (bodyM k9 n10 rs8 most11))], grow 0 2 63, grow 0 2 63, mem 25 [str (fst (reqP s2)), str (fst (snd (reqP s2))), int i64 (fst (snd (snd (reqP s2)))), sl 2 (encFs (fst (parseF s3))) none, str (fst (bodyM k9 n10 rs8 most11))], mem 84 [int i64 (fst (asksF l4)), int i64 (fst (snd (asksF l4)))]] (encFs (fst (parseF s3)))) none, str (fst (bodyM k9 n10 rs8 most11))], int i64 (wrap i64 ((↑(HeadR.n (headM s1)) : Int) + (↑(fst (snd (bodyM k9 n10 rs8 most11))) : Int))), int i64 0] = v))))))) : ToEnd cfg 12 (bodyOf f12) (RetIs prog f12 v) ([.code []]) .normal ([(0, true, .str s)]) ([]) := by
  exact unr_ok (pl := ⟨[], []⟩) hT 100000 _ _ _ _ (unr_use H (by kernel_rfl))
theorem t14 {v : AV} {s : List UInt8} {hd : Bool} (hT : TabOk cfg (ctab [(38, headRC), (50, Ln.stC), (40, parseC), (51, tellFC), (42, bodyRC)])) (H : ∃ (s1 : List UInt8), length s1 ≤ 10000000 ∧ [str s] = [str s1] ∧ ifP (HeadR.e (headM s1) != 0) (tup [agg [int i64 0, str [], int i64 0, sl 2 [] none, str []], int i64 0, int i64 (HeadR.e (headM s1))] = v) (∃ (s2 : List UInt8), length s2 ≤ 100000 ∧ [str (HeadR.start (headM s1))] = [str s2] ∧ ifP (snd (snd (snd (stP s2))) != 0) (tup [agg [int i64 0, str [], int i64 0, sl 2 [] none, str []], int i64 0, int i64 (snd (snd (snd (stP s2))))] = v) (∃ (s3 : List UInt8), length s3 ≤ 100000 ∧ [str (HeadR.lines (headM s1))] = [str s3] ∧ ifP (snd (parseF s3) != 0) (tup [agg [int i64 0, str [], int i64 0, sl 2 [] none, str []], int i64 0, int i64 (snd (parseF s3))] = v) (∃ (l4 : List Fld) (sz5 : Nat) (st6 : Int) (hd7 : Bool), okFs l4 ∧ szOk sz5 2 (length l4) ∧ -9223372036854775808 ≤ st6 ∧ st6 ≤ 9223372036854775807 ∧ [sl 2 (stripss 0 [] (encFs (fst (parseF s3)))) none, int i64 (fst (stP s2)), bool hd] = [sl sz5 (encFs l4) none, int i64 st6, bool hd7] ∧ ifP (snd (snd (tellsF l4 st6 hd7)) != 0) (tup [agg [int i64 0, str [], int i64 0, sl 2 [] none, str []], int i64 0, int i64 (snd (snd (tellsF l4 st6 hd7)))] = v) (gAnd (cutOb (length s) (some (↑(HeadR.n (headM s1)) : Int)) none) (∃ (rs10 : List UInt8) (k11 : Int) (n12 : Int) (most13 : Nat), length rs10 ≤ 10000000 ∧ (k11 = 2 → length rs10 ≤ 100000) ∧ most13 ≤ 1000000 ∧ 0 ≤ n12 ∧ n12 ≤ 1000000000000000000 ∧ [str (cutL s (some (↑(HeadR.n (headM s1)) : Int)) none), agg [int i64 (fst (tellsF l4 st6 hd7)), int i64 (fst (snd (tellsF l4 st6 hd7)))], int i64 262144] = [str rs10, agg [int i64 k11, int i64 n12], int i64 (↑most13 : Int)] ∧ ifP (snd (snd (bodyM k11 n12 rs10 most13)) != 0) (tup [agg [int i64 0, str [], int i64 0, sl 2 [] none, str []], int i64 0, int i64 (snd (snd (bodyM k11 n12 rs10 most13)))] = v) (tup [agg [int i64 (fst (stP s2)), str (fst (snd (stP s2))), int i64 (fst (snd (snd (stP s2)))), sl 2 (stripss 0 [grow 0 2 63, mem 32 [int i64 (fst (stP s2)), str (fst (snd (stP s2))), int i64 (fst (snd (snd (stP s2)))), sl 2 (encFs (fst (parseF s3))) none, str (fst (bodyM k11 n12 rs10 most13))], grow 0 2 63, grow 0 2 63, mem 32 [int i64 (fst (stP s2)), str (fst (snd (stP s2))), int i64 (fst (snd (snd (stP s2)))), sl 2 (encFs (fst (parseF s3))) none, str (fst (bodyM k11 n12 rs10 most13))], mem 84 [int i64 (fst (tellsF l4 st6 hd7)), int i64 (fst (snd (tellsF l4 st6 hd7)))]] (encFs (fst (parseF s3)))) none, str (fst (bodyM k11 n12 rs10 most13))], int i64 (wrap i64 ((↑(HeadR.n (headM s1)) : Int) + (↑(fst (snd (bodyM k11 n12 rs10 most13))) : Int))), int i64 0] = v))))))) : ToEnd cfg 14 (bodyOf f14) (RetIs prog f14 v) ([.code []]) .normal ([(0, true, .str s), (1, true, .bool hd)]) ([]) := by
  exact unr_ok (pl := ⟨[], []⟩) hT 100000 _ _ _ _ (unr_use H (by kernel_rfl))
end Go.Proofs.YtnncfdlpogjlkaaGreatDoor
end
section
namespace Go.Proofs.YtnncfdlpogjlkaaGreatDoor
open Go.Ai Go
set_option maxRecDepth 100000
theorem hf29 : heapFn cfg 29 Tryz.f29 := (by refine ⟨?_, ?_, ?_, ?_, ?_, ?_⟩ <;> kernel_rfl)
theorem hf33 : heapFn cfg 33 Tryz.f33 := (by refine ⟨?_, ?_, ?_, ?_, ?_, ?_⟩ <;> kernel_rfl)
theorem hf37 : heapFn cfg 37 Tryz.f37 := (by refine ⟨?_, ?_, ?_, ?_, ?_, ?_⟩ <;> kernel_rfl)
theorem hf27 : heapFn cfg 27 Tryz.f27 := (by refine ⟨?_, ?_, ?_, ?_, ?_, ?_⟩ <;> kernel_rfl)
theorem hf28 : heapFn cfg 28 Tryz.f28 := (by refine ⟨?_, ?_, ?_, ?_, ?_, ?_⟩ <;> kernel_rfl)
theorem hf30 : heapFn cfg 30 Tryz.f30 := (by refine ⟨?_, ?_, ?_, ?_, ?_, ?_⟩ <;> kernel_rfl)
theorem hf32 : heapFn cfg 32 Tryz.f32 := (by refine ⟨?_, ?_, ?_, ?_, ?_, ?_⟩ <;> kernel_rfl)
theorem hf34 : heapFn cfg 34 Tryz.f34 := (by refine ⟨?_, ?_, ?_, ?_, ?_, ?_⟩ <;> kernel_rfl)
theorem hf36 : heapFn cfg 36 Tryz.f36 := (by refine ⟨?_, ?_, ?_, ?_, ?_, ?_⟩ <;> kernel_rfl)
theorem hf43 : heapFn cfg 43 Tryz.f43 := (by refine ⟨?_, ?_, ?_, ?_, ?_, ?_⟩ <;> kernel_rfl)
theorem hf44 : heapFn cfg 44 Tryz.f44 := (by refine ⟨?_, ?_, ?_, ?_, ?_, ?_⟩ <;> kernel_rfl)
theorem hf46 : heapFn cfg 46 Tryz.f46 := (by refine ⟨?_, ?_, ?_, ?_, ?_, ?_⟩ <;> kernel_rfl)
theorem hf47 : heapFn cfg 47 Tryz.f47 := (by refine ⟨?_, ?_, ?_, ?_, ?_, ?_⟩ <;> kernel_rfl)
theorem hf49 : heapFn cfg 49 Tryz.f49 := (by refine ⟨?_, ?_, ?_, ?_, ?_, ?_⟩ <;> kernel_rfl)
theorem pf11 : pureFn cfg 11 Tryz.f11 := (by refine ⟨?_, ?_, ?_, ?_, ?_, ?_⟩ <;> kernel_rfl)
theorem pf13 : pureFn cfg 13 Tryz.f13 := (by refine ⟨?_, ?_, ?_, ?_, ?_, ?_⟩ <;> kernel_rfl)
theorem headM_none {s : List UInt8} (h : fnd crlf2 (s.take 8192) = none) : headM s = ⟨[], [], 0, if 8192 ≤ s.length then 3 else 6⟩ := by unfold headM; rw [h]
theorem headM_some {s : List UInt8} {n : Nat} (h : fnd crlf2 (s.take 8192) = some n) : headM s = ⟨(cutS (s.take (n + 2)) crlf).1, (cutS (s.take (n + 2)) crlf).2.1, n + 4, 0⟩ := by unfold headM; rw [h]
theorem cutS_len (s x : List UInt8) : (cutS s x).1.length ≤ s.length ∧ (cutS s x).2.1.length ≤ s.length := by
  rw [cutS_fnd]
  split <;> simp <;> omega
theorem headM_len (s : List UInt8) : (headM s).start.length ≤ 8192 ∧ (headM s).lines.length ≤ 8192 ∧ (headM s).n ≤ 8192 ∧ (headM s).n ≤ s.length := by
  cases h : fnd crlf2 (s.take 8192) with
  | none => rw [headM_none h]; simp
  | some n =>
    rw [headM_some h]; have h2 := (fnd_some h).2; have h3 := cutS_len (s.take (n + 2)) crlf; simp [crlf2] at h2 h3 ⊢; omega
theorem cut_min {s : List UInt8} {m : Nat} : cutL s none (some (min (s.length : Int) (m : Int))) = s.take m := by
  have : (min (s.length : Int) (m : Int)).toNat = min s.length m := by omega
  simp only [cutL, this]; rw [Nat.min_comm, ← List.take_take, List.take_length]
theorem cut_to' {s : List UInt8} {n : Nat} : cutL s none (some (n : Int)) = s.take n := by simp [cutL]
theorem cutOb_to' {s : List UInt8} {n : Nat} (h : n ≤ s.length) : cutOb s.length none (some (n : Int)) = true := by simp [cutOb]; omega
theorem tab29 : TabOk cfg (ctab [(69, ixSC), (70, cutGC)]) := ctab_ok (ctab_cons c69 (ctab_cons c70 ctab_nil))
theorem c29q : COk cfg 29 cutQC := by
  refine cok_heap hf29 fun vs h K ht => ?_
  obtain ⟨s, rfl, hs, rfl, hk⟩ := ht; have hs' : s.length ≤ 10000000 := hs; have hc : cutL s none (some (min (s.length : Int) 8192)) = s.take 8192 := cut_min (m := 8192)
  refine t29q tab29 (gAnd_intro (by simp [cutOb]; omega) ⟨s.take 8192, crlf2, by rw [List.length_take]; omega, by rw [hc]; rfl, ?_⟩)
  rw [idxB_fnd]
  cases hf : fnd crlf2 (s.take 8192) with
  | none =>
    rw [headM_none hf] at hk
    refine ifP_intro (fun _ => ifP_intro (fun b => ?_) fun b => ifP_intro (fun _ => ?_) fun c => by simp at c) fun c => by simp at c
    · rw [if_pos (by simp at b; omega)] at hk; exact hk
    · rw [if_neg (by simp at b; omega)] at hk; exact hk
  | some n =>
    rw [headM_some hf] at hk; have h2 := (fnd_some hf).2; simp [crlf2] at h2
    have e1 : IntKind.wrap .i64 (((0 + n : Nat) : Int) + 4) = ((n + 4 : Nat) : Int) := by rw [wrap_in (by omega) (by omega)]; omega
    have e2 : IntKind.wrap .i64 (((0 + n : Nat) : Int) + 2) = ((n + 2 : Nat) : Int) := by rw [wrap_in (by omega) (by omega)]; omega
    simp only [e1, e2]
    refine ifP_intro (fun c => by simp at c; omega) fun _ => ifP_intro (fun c => by simp at c; omega) fun _ => gAnd_intro (cutOb_from (by omega)) (gAnd_intro (cutOb_to' (by omega)) ⟨s.take (n + 2), crlf, by rw [List.length_take]; omega, by rw [cut_to']; rfl, ?_⟩)
    rw [cut_from]; exact hk
theorem c29p : COk cfg 29 cutPC2 := by
  refine cok_heap hf29 fun vs h K ht => ?_
  obtain ⟨s, hd, rfl, hs, rfl, hk⟩ := ht; have hs' : s.length ≤ 10000000 := hs; have hc : cutL s none (some (min (s.length : Int) 8192)) = s.take 8192 := cut_min (m := 8192)
  refine t29p tab29 (gAnd_intro (by simp [cutOb]; omega) ⟨s.take 8192, crlf2, by rw [List.length_take]; omega, by rw [hc]; rfl, ?_⟩)
  rw [idxB_fnd]
  cases hf : fnd crlf2 (s.take 8192) with
  | none =>
    rw [headM_none hf] at hk
    refine ifP_intro (fun _ => ifP_intro (fun b => ?_) fun b => ifP_intro (fun _ => ?_) fun c => by simp at c) fun c => by simp at c
    · rw [if_pos (by simp at b; omega)] at hk; exact hk
    · rw [if_neg (by simp at b; omega)] at hk; exact hk
  | some n =>
    rw [headM_some hf] at hk; have h2 := (fnd_some hf).2; simp [crlf2] at h2
    have e1 : IntKind.wrap .i64 (((0 + n : Nat) : Int) + 4) = ((n + 4 : Nat) : Int) := by rw [wrap_in (by omega) (by omega)]; omega
    have e2 : IntKind.wrap .i64 (((0 + n : Nat) : Int) + 2) = ((n + 2 : Nat) : Int) := by rw [wrap_in (by omega) (by omega)]; omega
    simp only [e1, e2]
    refine ifP_intro (fun c => by simp at c; omega) fun _ => ifP_intro (fun c => by simp at c; omega) fun _ => gAnd_intro (cutOb_from (by omega)) (gAnd_intro (cutOb_to' (by omega)) ⟨s.take (n + 2), crlf, by rw [List.length_take]; omega, by rw [cut_to']; rfl, ?_⟩)
    rw [cut_from]; exact hk
theorem c28 : COk cfg 28 q1C := by
  refine cok_heap hf28 fun vs h K ht => ?_
  obtain ⟨s, rfl, hs, rfl, hk⟩ := ht; exact t28 (ctab_ok (ctab_cons c29q ctab_nil)) ⟨s, rfl, hs, rfl, hk⟩
theorem c43 : COk cfg 43 p1C := by
  refine cok_heap hf43 fun vs h K ht => ?_
  obtain ⟨s, hd, rfl, hs, rfl, hk⟩ := ht; exact t43 (ctab_ok (ctab_cons c29p ctab_nil)) ⟨s, hd, rfl, hs, rfl, hk⟩
theorem c30 : COk cfg 30 q2C := by
  refine cok_heap hf30 fun vs h K ht => ?_
  obtain ⟨s, st, rs, ln, lg, rfl, hst, rfl, hk⟩ := ht; exact t30 (ctab_ok (ctab_cons Ln.c31 ctab_nil)) ⟨st, hst, rfl, hk⟩
theorem c44 : COk cfg 44 p2C := by
  refine cok_heap hf44 fun vs h K ht => ?_
  obtain ⟨s, st, rs, ln, hd, lg, rfl, hst, rfl, hk⟩ := ht; exact t44 (ctab_ok (ctab_cons Ln.c45 ctab_nil)) ⟨st, hst, rfl, hk⟩
theorem c33q : COk cfg 33 fillQC := by
  refine cok_heap hf33 fun vs h K ht => ?_
  obtain ⟨s, st, rs, m, t, ln, lg, mi, rfl, hst, rfl, hk⟩ := ht; refine t33q (ctab_ok (ctab_cons c77 ctab_nil)) ⟨ln, hst, rfl, ?_⟩; rw [stripss_encFs]; exact hk
theorem c33p : COk cfg 33 fillPC := by
  refine cok_heap hf33 fun vs h K ht => ?_
  obtain ⟨s, st, rs, w, ln, hd, lg, c, mi, rfl, hst, rfl, hk⟩ := ht; refine t33p (ctab_ok (ctab_cons c77 ctab_nil)) ⟨ln, hst, rfl, ?_⟩; rw [stripss_encFs]; exact hk
theorem c32 : COk cfg 32 q3C := by
  refine cok_heap hf32 fun vs h K ht => ?_
  obtain ⟨s, st, rs, m, t, ln, lg, mi, rfl, hst, rfl, hk⟩ := ht; refine t32 (ctab_ok (ctab_cons c33q ctab_nil)) ⟨s, st, rs, m, t, ln, lg, mi, rfl, hst, rfl, ?_⟩; rw [stripss_encFs]; exact hk
theorem c46 : COk cfg 46 p3C := by
  refine cok_heap hf46 fun vs h K ht => ?_
  obtain ⟨s, st, rs, w, ln, hd, lg, c, mi, rfl, hst, rfl, hk⟩ := ht; refine t46 (ctab_ok (ctab_cons c33p ctab_nil)) ⟨s, st, rs, w, ln, hd, lg, c, mi, rfl, hst, rfl, ?_⟩; rw [stripss_encFs]; exact hk
theorem c34 : COk cfg 34 q4C := by
  refine cok_heap hf34 fun vs h K ht => ?_
  obtain ⟨s, st, rs, m, t, ln, lg, mi, l, rfl, ho, rfl, hk⟩ := ht
  refine t34 (ctab_ok (ctab_cons c35 ctab_nil)) ⟨l, 2, ho, .inl rfl, by rw [stripss_encFs], ?_⟩
  rw [stripss_encFs]; exact hk
theorem c47 : COk cfg 47 p4C := by
  refine cok_heap hf47 fun vs h K ht => ?_
  obtain ⟨s, st, rs, w, ln, hd, lg, c, mi, l, rfl, ho, h0, h1, rfl, hk⟩ := ht
  refine t47 (ctab_ok (ctab_cons c48 ctab_nil)) ⟨l, 2, c, hd, ho, .inl rfl, h0, h1, by rw [stripss_encFs], ?_⟩
  rw [stripss_encFs]; exact hk
end Go.Proofs.YtnncfdlpogjlkaaGreatDoor
end
section
namespace Go.Proofs.YtnncfdlpogjlkaaGreatDoor
open Go.Ai Go
set_option maxRecDepth 100000
theorem lenV_nonneg (ps : List (List UInt8)) : 0 ≤ (lenV ps).1 := by
  unfold lenV; split
  · split
    · simp only; omega
    · simp
  · simp
theorem frm_nonneg (l : List Fld) (o : Int) : 0 ≤ (frm l o).2.1 := by
  unfold frm ofV; split
  · simp
  · split
    · unfold byLen; split
      · split
        · exact lenV_nonneg _
        · simp
      · simp
    · split
      · unfold byCod; split
        · split <;> simp
        · simp
      · simp
theorem asksF_n (l : List Fld) : 0 ≤ (asksF l).2.1 ∧ (asksF l).2.1 ≤ 65536 := by
  unfold asksF; have := frm_nonneg l 0; split
  · simp
  · constructor <;> omega
theorem tellsF_n (l : List Fld) (st : Int) (hd : Bool) : 0 ≤ (tellsF l st hd).2.1 ∧ (tellsF l st hd).2.1 ≤ 262144 := by
  unfold tellsF; have := frm_nonneg l 3; split
  · simp
  · split
    · simp
    · split
      · simp
      · simp only; constructor <;> omega
theorem oneF_len {s : List UInt8} (h : s.length ≤ 2048) : (oneF s).1.name.length ≤ 2048 ∧ (oneF s).1.value.length ≤ 2048 := by
  unfold oneF; split
  · simp
  · split
    · simp
    · rename_i n hn; split
      · split
        · simp
        · have := trB_len (s.drop (n + 1)); simp only [List.length_take]; simp only [List.length_drop] at this; omega
      · simp
theorem oneF_long {s : List UInt8} (h : (oneF s).2 = 0) : s.length ≤ 2048 := by
  unfold oneF at h; split at h
  · simp at h
  · omega
theorem parF_mem : ∀ (n k : Nat) (s : List UInt8), (∀ f ∈ (parF n k s).1, f.name.length ≤ 2048 ∧ f.value.length ≤ 2048) ∧ (k ≤ 64 → (parF n k s).1.length + k ≤ 64)
  | 0, k, s => by simp [parF]
  | n + 1, k, s => by
    have ih := fun i => parF_mem n (k + 1) (s.drop (i + 2))
    rw [parF]; split
    · simp
    · split
      · simp
      · rename_i i hi; split
        · simp
        · split
          · simp
          · rename_i he; split
            · simp
            · obtain ⟨h1, h2⟩ := ih i
              refine ⟨fun f hf => ?_, fun hk => ?_⟩
              · rcases List.mem_cons.1 hf with rfl | hf
                · exact oneF_len (oneF_long (by simpa using he))
                · exact h1 f hf
              · have := h2 (by omega)
                simp only [List.length_cons]; omega
theorem parseF_mem (s : List UInt8) : (∀ f ∈ (parseF s).1, f.name.length ≤ 2048 ∧ f.value.length ≤ 2048) ∧ (parseF s).1.length ≤ 64 := by
  obtain ⟨h1, h2⟩ := parF_mem (s.length + 1) 0 s
  exact ⟨h1, h2 (by omega)⟩
theorem parseF_ok (s : List UInt8) : okFs (parseF s).1 := by
  obtain ⟨h1, h2⟩ := parseF_mem s
  exact ⟨by unfold lim; omega, fun f hf => by have := h1 f hf; unfold lim; omega⟩
theorem decA_used (s : List UInt8) (m : Int) : (decA s m).used ≤ s.length := by
  rcases decA_e s m with h | h
  · exact (decA_cut h).2.1
  · rw [h]; simp [decX]
theorem byte_lt (c : UInt8) : c.toNat < 256 := c.toNat_lt
theorem codeN_range (c : List UInt8) : 0 ≤ codeN c ∧ codeN c ≤ 100000 := by
  unfold codeN; have h0 := byte_lt (c.getD 0 0); have h1 := byte_lt (c.getD 1 0); have h2 := byte_lt (c.getD 2 0); omega
theorem stP_range (s : List UInt8) : -9223372036854775808 ≤ (stP s).1 ∧ (stP s).1 ≤ 9223372036854775807 := by
  unfold stP; split
  · simp
  · split
    · have := codeN_range (cutB (cutB s).2.1).1; simp only; omega
    · simp
theorem bodyM_1 {n : Int} {r : List UInt8} {most : Nat} : bodyM 1 n r most = if (r.length : Int) < n then ([], 0, 6) else (r.take n.toNat, n.toNat, 0) := by simp [bodyM]
theorem bodyM_2 {n : Int} {r : List UInt8} {most : Nat} : bodyM 2 n r most = if (decA r most).e ≠ 0 then ([], 0, (decA r most).e) else ((decA r most).body, (decA r most).used, 0) := by simp [bodyM]
theorem bodyM_3 {n : Int} {r : List UInt8} {most : Nat} : bodyM 3 n r most = if most < r.length then ([], 0, 3) else (r, r.length, 0) := by simp [bodyM]
theorem bodyM_0 {k n : Int} {r : List UInt8} {most : Nat} (h1 : ¬k = 1) (h2 : ¬k = 2) (h3 : ¬k = 3) : bodyM k n r most = ([], 0, 0) := by simp [bodyM, h1, h2, h3]
theorem tab37 : TabOk cfg (ctab [(79, decC)]) := ctab_ok (ctab_cons c79 ctab_nil)
theorem c37q : COk cfg 37 bodyQC := by
  refine cok_heap hf37 fun vs h K ht => ?_
  obtain ⟨s, st, rs, m, t, ln, lg, mi, k, n, l, most, rfl, hr, hmost, hn0, hn1, hg0, hg1, rfl, hk⟩ := ht; have hr' : rs.length ≤ 10000000 := hr; refine t37q tab37 ?_; simp only [stripss_encFs]
  refine ifP_intro (fun a => ?_) fun a => ifP_intro (fun b => ?_) fun b => ifP_intro (fun c => ?_) fun c => ?_
  · have a : k = 1 := by simpa using a
    subst a; rw [bodyM_1] at hk
    refine ifP_intro (fun d => ?_) fun d => ?_
    · have d : (rs.length : Int) < n := by simpa using d
      rw [if_pos d] at hk; exact hk
    · have d : ¬(rs.length : Int) < n := by simpa using d
      rw [if_neg d] at hk
      obtain ⟨j, rfl⟩ : ∃ j : Nat, n = j := ⟨n.toNat, by omega⟩
      refine gAnd_intro (cutOb_to' (by omega)) ?_
      rw [cut_to', wrap_in (by omega) (by omega)]
      rw [Int.toNat_natCast] at hk; exact hk
  · have b : k = 2 := by simpa using b
    subst b; rw [bodyM_2] at hk
    refine ⟨rs, most, hr, by omega, by omega, rfl, ifP_intro (fun d => ?_) fun d => ?_⟩
    · have d : (decA rs most).e ≠ 0 := by simpa using d
      rw [if_pos d] at hk; simp only [if_neg d] at hk; exact hk
    · have d : ¬(decA rs most).e ≠ 0 := by simpa using d
      have hu := decA_used rs most; rw [if_neg d] at hk
      rw [wrap_in (by omega) (by omega)]
      exact hk
  · have c : k = 3 := by simpa using c
    subst c; rw [bodyM_3] at hk
    refine ifP_intro (fun d => ?_) fun d => ?_
    · have d : most < rs.length := by simp only [gt_iff_lt, decide_eq_true_eq] at d; omega
      rw [if_pos d] at hk; exact hk
    · have d : ¬most < rs.length := by simp only [gt_iff_lt, decide_eq_false_iff_not] at d; omega
      rw [if_neg d] at hk
      rw [wrap_in (by omega) (by omega)]
      exact hk
  · rw [bodyM_0 (by simpa using a) (by simpa using b) (by simpa using c)] at hk
    have e : (if (0 : Int) = 0 then lg + ((0 : Nat) : Int) else 0) = lg := by simp
    have hk2 : K (AV.tup [AV.str [], AV.int .i64 (if (0 : Int) = 0 then lg + ((0 : Nat) : Int) else 0), AV.int .i64 0]) _ := hk
    rw [e] at hk2; exact hk2
theorem c37p : COk cfg 37 bodyPC := by
  refine cok_heap hf37 fun vs h K ht => ?_
  obtain ⟨s, st, rs, w, ln, hd, lg, c0, mi, k, n, l, most, rfl, hr, hmost, hn0, hn1, hg0, hg1, rfl, hk⟩ := ht; have hr' : rs.length ≤ 10000000 := hr; refine t37p tab37 ?_; simp only [stripss_encFs]
  refine ifP_intro (fun a => ?_) fun a => ifP_intro (fun b => ?_) fun b => ifP_intro (fun c => ?_) fun c => ?_
  · have a : k = 1 := by simpa using a
    subst a; rw [bodyM_1] at hk
    refine ifP_intro (fun d => ?_) fun d => ?_
    · have d : (rs.length : Int) < n := by simpa using d
      rw [if_pos d] at hk; exact hk
    · have d : ¬(rs.length : Int) < n := by simpa using d
      rw [if_neg d] at hk
      obtain ⟨j, rfl⟩ : ∃ j : Nat, n = j := ⟨n.toNat, by omega⟩
      refine gAnd_intro (cutOb_to' (by omega)) ?_
      rw [cut_to', wrap_in (by omega) (by omega)]
      rw [Int.toNat_natCast] at hk; exact hk
  · have b : k = 2 := by simpa using b
    subst b; rw [bodyM_2] at hk
    refine ⟨rs, most, hr, by omega, by omega, rfl, ifP_intro (fun d => ?_) fun d => ?_⟩
    · have d : (decA rs most).e ≠ 0 := by simpa using d
      rw [if_pos d] at hk; simp only [if_neg d] at hk; exact hk
    · have d : ¬(decA rs most).e ≠ 0 := by simpa using d
      have hu := decA_used rs most; rw [if_neg d] at hk
      rw [wrap_in (by omega) (by omega)]
      exact hk
  · have c : k = 3 := by simpa using c
    subst c; rw [bodyM_3] at hk
    refine ifP_intro (fun d => ?_) fun d => ?_
    · have d : most < rs.length := by simp only [gt_iff_lt, decide_eq_true_eq] at d; omega
      rw [if_pos d] at hk; exact hk
    · have d : ¬most < rs.length := by simp only [gt_iff_lt, decide_eq_false_iff_not] at d; omega
      rw [if_neg d] at hk
      rw [wrap_in (by omega) (by omega)]
      exact hk
  · rw [bodyM_0 (by simpa using a) (by simpa using b) (by simpa using c)] at hk
    have e : (if (0 : Int) = 0 then lg + ((0 : Nat) : Int) else 0) = lg := by simp
    have hk2 : K (AV.tup [AV.str [], AV.int .i64 (if (0 : Int) = 0 then lg + ((0 : Nat) : Int) else 0), AV.int .i64 0]) _ := hk
    rw [e] at hk2; exact hk2
theorem c36 : COk cfg 36 q5C := by
  refine cok_heap hf36 fun vs h K ht => ?_
  obtain ⟨s, st, rs, m, t, ln, lg, mi, k, n, l, rfl, hr, hn0, hn1, hg0, hg1, rfl, hk⟩ := ht
  refine t36 (ctab_ok (ctab_cons c37q ctab_nil)) ⟨s, st, rs, m, t, ln, lg, mi, k, n, l, 65536, rfl, hr, by omega, hn0, hn1, hg0, hg1, rfl, ?_⟩
  rw [stripss_encFs]; exact hk
theorem c49 : COk cfg 49 p5C := by
  refine cok_heap hf49 fun vs h K ht => ?_
  obtain ⟨s, st, rs, w, ln, hd, lg, c0, mi, k, n, l, rfl, hr, hn0, hn1, hg0, hg1, rfl, hk⟩ := ht
  refine t49 (ctab_ok (ctab_cons c37p ctab_nil)) ⟨s, st, rs, w, ln, hd, lg, c0, mi, k, n, l, 262144, rfl, hr, by omega, hn0, hn1, hg0, hg1, rfl, ?_⟩
  rw [stripss_encFs]; exact hk
theorem ifP_f {b : Bool} {p q : Prop} (h : ifP b p q) (hb : b = false) : q := by subst hb; exact h
theorem ifP_t {b : Bool} {p q : Prop} (h : ifP b p q) (hb : b = true) : p := by subst hb; exact h
theorem c27q : COk cfg 27 firstQC := by
  have hT : TabOk cfg (ctab [(28, q1C), (30, q2C), (32, q3C), (34, q4C), (36, q5C)]) := ctab_ok (ctab_cons c28 (ctab_cons c30 (ctab_cons c32 (ctab_cons c34 (ctab_cons c36 ctab_nil)))))
  refine cok_heap hf27 fun vs h K ht => ?_
  obtain ⟨s, rfl, hs, rfl, hk⟩ := ht; have hs' : s.length ≤ 10000000 := hs; obtain ⟨g1, g2, g3, g4⟩ := headM_len s
  refine t27q hT ⟨s, rfl, hs, rfl, ifP_intro (fun a => ifP_intro (fun _ => ifP_t hk a) fun b => by rw [a] at b; cases b) fun a => ?_⟩
  obtain ⟨st, rs, m, t, ln, bd, lg, mi, e2, e3, e4, k, n, e5, us, l, ⟨h1, h2, h3, h4, h5, h6, h7, h8, h9, h10⟩, hk⟩ := ifP_f hk a; have hn := asksF_n l
  have hlo : okFs l := by have := parseF_ok ln; rw [← h6] at this; exact this
  have h5a : (reqP st).1 = m ∧ (reqP st).2.1 = t ∧ (reqP st).2.2.1 = mi ∧ (reqP st).2.2.2 = e2 := by rw [← h5]; exact ⟨rfl, rfl, rfl, rfl⟩
  have h6a : (parseF ln).1 = l ∧ (parseF ln).2 = e3 := by rw [← h6]; exact ⟨rfl, rfl⟩
  have h7a : (asksF l).1 = k ∧ (asksF l).2.1 = n ∧ (asksF l).2.2 = e4 := by rw [← h7]; exact ⟨rfl, rfl, rfl⟩
  rw [h7a.2.1] at hn
  refine ⟨s, st, rs, ln, lg, by rw [h1, h2, h3, h4], by rw [h1]; omega, rfl, ?_⟩
  rw [h5a.1, h5a.2.1, h5a.2.2.1, h5a.2.2.2]
  refine ifP_intro (fun b => ifP_t hk b) fun b => ⟨s, st, rs, m, t, ln, lg, mi, rfl, by rw [h3]; omega, rfl, ?_⟩
  have hk := ifP_f hk b; rw [h6a.1, h6a.2]
  refine ifP_intro (fun c => by rw [stripss_encFs]; exact ifP_t hk c) fun c => ⟨s, st, rs, m, t, ln, lg, mi, l, rfl, hlo, rfl, ?_⟩
  have hk := ifP_f hk c; rw [h7a.1, h7a.2.1, h7a.2.2]
  refine ifP_intro (fun d => by rw [stripss_encFs]; exact ifP_t hk d) fun d => ⟨s, st, rs, m, t, ln, lg, mi, k, n, l, rfl, by rw [h2, List.length_drop]; unfold lim at hs; omega, hn.1, by omega, by rw [h4]; omega, by rw [h4]; omega, rfl, ?_⟩
  have hk := ifP_f hk d; rw [← h9, ← h8, ← h10]
  exact ifP_intro (fun f => by rw [stripss_encFs]; exact ifP_t hk f) fun f => by rw [stripss_encFs]; exact ifP_f hk f
theorem c27p : COk cfg 27 firstPC := by
  have hT : TabOk cfg (ctab [(43, p1C), (44, p2C), (46, p3C), (47, p4C), (49, p5C)]) := ctab_ok (ctab_cons c43 (ctab_cons c44 (ctab_cons c46 (ctab_cons c47 (ctab_cons c49 ctab_nil)))))
  refine cok_heap hf27 fun vs h K ht => ?_
  obtain ⟨s, hd, rfl, hs, rfl, hk⟩ := ht; have hs' : s.length ≤ 10000000 := hs; obtain ⟨g1, g2, g3, g4⟩ := headM_len s
  refine t27p hT ⟨s, hd, rfl, hs, rfl, ifP_intro (fun a => ifP_intro (fun _ => ifP_t hk a) fun b => by rw [a] at b; cases b) fun a => ?_⟩
  obtain ⟨st, rs, w, ln, bd, lg, c, mi, e2, e3, e4, k, n, e5, us, l, ⟨h1, h2, h3, h4, h5, h6, h7, h8, h9, h10⟩, hk⟩ := ifP_f hk a; have hn := tellsF_n l c hd
  have hlo : okFs l := by have := parseF_ok ln; rw [← h6] at this; exact this
  have h5a : (stP st).1 = c ∧ (stP st).2.1 = w ∧ (stP st).2.2.1 = mi ∧ (stP st).2.2.2 = e2 := by rw [← h5]; exact ⟨rfl, rfl, rfl, rfl⟩
  have hcr : -9223372036854775808 ≤ c ∧ c ≤ 9223372036854775807 := by rw [← h5a.1]; exact stP_range st
  have h6a : (parseF ln).1 = l ∧ (parseF ln).2 = e3 := by rw [← h6]; exact ⟨rfl, rfl⟩
  have h7a : (tellsF l c hd).1 = k ∧ (tellsF l c hd).2.1 = n ∧ (tellsF l c hd).2.2 = e4 := by rw [← h7]; exact ⟨rfl, rfl, rfl⟩
  rw [h7a.2.1] at hn
  refine ⟨s, st, rs, ln, hd, lg, by rw [h1, h2, h3, h4], by rw [h1]; omega, rfl, ?_⟩
  rw [h5a.1, h5a.2.1, h5a.2.2.1, h5a.2.2.2]
  refine ifP_intro (fun b => ifP_t hk b) fun b => ⟨s, st, rs, w, ln, hd, lg, c, mi, rfl, by rw [h3]; omega, rfl, ?_⟩
  have hk := ifP_f hk b; rw [h6a.1, h6a.2]
  refine ifP_intro (fun c => by rw [stripss_encFs]; exact ifP_t hk c) fun c' => ⟨s, st, rs, w, ln, hd, lg, c, mi, l, rfl, hlo, hcr.1, hcr.2, rfl, ?_⟩
  have hk := ifP_f hk c'; rw [h7a.1, h7a.2.1, h7a.2.2]
  refine ifP_intro (fun d => by rw [stripss_encFs]; exact ifP_t hk d) fun d => ⟨s, st, rs, w, ln, hd, lg, c, mi, k, n, l, rfl, by rw [h2, List.length_drop]; unfold lim at hs; omega, hn.1, by omega, by rw [h4]; omega, by rw [h4]; omega, rfl, ?_⟩
  have hk := ifP_f hk d; rw [← h9, ← h8, ← h10]
  exact ifP_intro (fun f => by rw [stripss_encFs]; exact ifP_t hk f) fun f => by rw [stripss_encFs]; exact ifP_f hk f
end Go.Proofs.YtnncfdlpogjlkaaGreatDoor
end
section
namespace Go.Proofs.YtnncfdlpogjlkaaGreatDoor
open Go.Ai Go
set_option maxRecDepth 100000
theorem reqM_e1 {s : List UInt8} (h : (headM s).e ≠ 0) : reqM s = (noReq, 0, (headM s).e) := by unfold reqM; rw [if_pos h]
theorem reqM_eq {s st rs m t ln bd : List UInt8} {lg mi e2 e3 e4 k n e5 us : Int} {l : List Fld} (h0 : ¬(headM s).e ≠ 0)
    (H : st = (headM s).start ∧ rs = s.drop (headM s).n ∧ ln = (headM s).lines ∧ lg = (headM s).n ∧ (m, t, mi, e2) = reqP st ∧ (l, e3) = parseF ln ∧ (k, n, e4) = asksF l ∧ bd = (bodyM k n rs 65536).1 ∧ e5 = (bodyM k n rs 65536).2.2 ∧ us = (if e5 = 0 then lg + ((bodyM k n rs 65536).2.1 : Nat) else 0)) :
    reqM s = if e2 ≠ 0 then (noReq, 0, e2) else if e3 ≠ 0 then (noReq, 0, e3) else if e4 ≠ 0 then (noReq, 0, e4) else if e5 ≠ 0 then (noReq, 0, e5) else (⟨m, t, mi, l, bd⟩, (headM s).n + (bodyM k n rs 65536).2.1, 0) := by
  obtain ⟨h1, h2, h3, h4, h5, h6, h7, h8, h9, h10⟩ := H
  have h5a : (reqP (headM s).start).1 = m ∧ (reqP (headM s).start).2.1 = t ∧ (reqP (headM s).start).2.2.1 = mi ∧ (reqP (headM s).start).2.2.2 = e2 := by rw [← h1, ← h5]; exact ⟨rfl, rfl, rfl, rfl⟩
  have h6a : (parseF (headM s).lines).1 = l ∧ (parseF (headM s).lines).2 = e3 := by rw [← h3, ← h6]; exact ⟨rfl, rfl⟩
  have h7a : (asksF l).1 = k ∧ (asksF l).2.1 = n ∧ (asksF l).2.2 = e4 := by rw [← h7]; exact ⟨rfl, rfl, rfl⟩
  unfold reqM; rw [if_neg h0]; simp only [h5a.1, h5a.2.1, h5a.2.2.1, h5a.2.2.2, h6a.1, h6a.2, h7a.1, h7a.2.1, h7a.2.2, ← h2, ← h8, ← h9]
theorem repM_e1 {s : List UInt8} {hd : Bool} (h : (headM s).e ≠ 0) : repM s hd = (noRep, 0, (headM s).e) := by unfold repM; rw [if_pos h]
theorem repM_eq {s st rs w ln bd : List UInt8} {hd : Bool} {lg c mi e2 e3 e4 k n e5 us : Int} {l : List Fld} (h0 : ¬(headM s).e ≠ 0)
    (H : st = (headM s).start ∧ rs = s.drop (headM s).n ∧ ln = (headM s).lines ∧ lg = (headM s).n ∧ (c, w, mi, e2) = stP st ∧ (l, e3) = parseF ln ∧ (k, n, e4) = tellsF l c hd ∧ bd = (bodyM k n rs 262144).1 ∧ e5 = (bodyM k n rs 262144).2.2 ∧ us = (if e5 = 0 then lg + ((bodyM k n rs 262144).2.1 : Nat) else 0)) :
    repM s hd = if e2 ≠ 0 then (noRep, 0, e2) else if e3 ≠ 0 then (noRep, 0, e3) else if e4 ≠ 0 then (noRep, 0, e4) else if e5 ≠ 0 then (noRep, 0, e5) else (⟨c, w, mi, l, bd⟩, (headM s).n + (bodyM k n rs 262144).2.1, 0) := by
  obtain ⟨h1, h2, h3, h4, h5, h6, h7, h8, h9, h10⟩ := H
  have h5a : (stP (headM s).start).1 = c ∧ (stP (headM s).start).2.1 = w ∧ (stP (headM s).start).2.2.1 = mi ∧ (stP (headM s).start).2.2.2 = e2 := by rw [← h1, ← h5]; exact ⟨rfl, rfl, rfl, rfl⟩
  have h6a : (parseF (headM s).lines).1 = l ∧ (parseF (headM s).lines).2 = e3 := by rw [← h3, ← h6]; exact ⟨rfl, rfl⟩
  have h7a : (tellsF l c hd).1 = k ∧ (tellsF l c hd).2.1 = n ∧ (tellsF l c hd).2.2 = e4 := by rw [← h7]; exact ⟨rfl, rfl, rfl⟩
  unfold repM; rw [if_neg h0]; simp only [h5a.1, h5a.2.1, h5a.2.2.1, h5a.2.2.2, h6a.1, h6a.2, h7a.1, h7a.2.1, h7a.2.2, ← h2, ← h8, ← h9]
theorem bne_t {a : Int} (h : (a != 0) = true) : a ≠ 0 := by simpa using h
theorem bne_f {a : Int} (h : (a != 0) = false) : ¬a ≠ 0 := by simpa using h
theorem c11 : COk cfg 11 reqMC := by
  refine cok_pure pf11 fun vs h K ht => ?_
  obtain ⟨s, hs, rfl, hk⟩ := ht
  refine ⟨_, hk, t11 (ctab_ok (ctab_cons c27q ctab_nil)) ⟨s, rfl, hs, rfl, ifP_intro (fun a => ?_) fun a => ?_⟩⟩
  · rw [reqM_e1 (bne_t a)]
    exact ifP_intro (fun _ => rfl) fun b => by rw [a] at b; cases b
  · obtain ⟨st, hst⟩ : ∃ x, x = (headM s).start := ⟨_, rfl⟩; obtain ⟨rs, hrs⟩ : ∃ x, x = s.drop (headM s).n := ⟨_, rfl⟩; obtain ⟨ln, hln⟩ : ∃ x, x = (headM s).lines := ⟨_, rfl⟩; obtain ⟨⟨m, t, mi, e2⟩, hq⟩ : ∃ x, x = reqP st := ⟨_, rfl⟩; obtain ⟨⟨l, e3⟩, hl⟩ : ∃ x, x = parseF ln := ⟨_, rfl⟩; obtain ⟨⟨k, n, e4⟩, ha⟩ : ∃ x, x = asksF l := ⟨_, rfl⟩
    have H := And.intro hst (And.intro hrs (And.intro hln (And.intro (rfl : ((headM s).n : Int) = (headM s).n) (And.intro hq (And.intro hl (And.intro ha (And.intro (rfl : (bodyM k n rs 65536).1 = _) (And.intro (rfl : (bodyM k n rs 65536).2.2 = _) (rfl : (if (bodyM k n rs 65536).2.2 = 0 then ((headM s).n : Int) + ((bodyM k n rs 65536).2.1 : Nat) else 0) = _)))))))))
    refine ⟨st, rs, m, t, ln, _, _, mi, e2, e3, e4, k, n, _, _, l, H, ?_⟩; rw [reqM_eq (bne_f a) H]; simp only [stripss_encFs]
    refine ifP_intro (fun b => ?_) fun b => ifP_intro (fun c => ?_) fun c => ifP_intro (fun d => ?_) fun d => ifP_intro (fun f => ?_) fun f => ?_
    · rw [if_pos (bne_t b)]
      exact ifP_intro (fun _ => rfl) fun b' => by rw [b] at b'; cases b'
    · rw [if_neg (bne_f b), if_pos (bne_t c)]
      exact ifP_intro (fun _ => rfl) fun b' => by rw [c] at b'; cases b'
    · rw [if_neg (bne_f b), if_neg (bne_f c), if_pos (bne_t d)]
      exact ifP_intro (fun _ => rfl) fun b' => by rw [d] at b'; cases b'
    · rw [if_neg (bne_f b), if_neg (bne_f c), if_neg (bne_f d), if_pos (bne_t f)]
      exact ifP_intro (fun _ => rfl) fun b' => by rw [f] at b'; cases b'
    · rw [if_neg (bne_f b), if_neg (bne_f c), if_neg (bne_f d), if_neg (bne_f f), if_pos (Decidable.not_not.1 (bne_f f))]; simp only [encReq, Int.natCast_add]
theorem c13 : COk cfg 13 repMC := by
  refine cok_pure pf13 fun vs h K ht => ?_
  obtain ⟨s, hd, hs, rfl, hk⟩ := ht
  refine ⟨_, hk, t13 (ctab_ok (ctab_cons c27p ctab_nil)) ⟨s, hd, rfl, hs, rfl, ifP_intro (fun a => ?_) fun a => ?_⟩⟩
  · rw [repM_e1 (bne_t a)]
    exact ifP_intro (fun _ => rfl) fun b => by rw [a] at b; cases b
  · obtain ⟨st, hst⟩ : ∃ x, x = (headM s).start := ⟨_, rfl⟩; obtain ⟨rs, hrs⟩ : ∃ x, x = s.drop (headM s).n := ⟨_, rfl⟩; obtain ⟨ln, hln⟩ : ∃ x, x = (headM s).lines := ⟨_, rfl⟩; obtain ⟨⟨c, w, mi, e2⟩, hq⟩ : ∃ x, x = stP st := ⟨_, rfl⟩; obtain ⟨⟨l, e3⟩, hl⟩ : ∃ x, x = parseF ln := ⟨_, rfl⟩; obtain ⟨⟨k, n, e4⟩, ha⟩ : ∃ x, x = tellsF l c hd := ⟨_, rfl⟩
    have H := And.intro hst (And.intro hrs (And.intro hln (And.intro (rfl : ((headM s).n : Int) = (headM s).n) (And.intro hq (And.intro hl (And.intro ha (And.intro (rfl : (bodyM k n rs 262144).1 = _) (And.intro (rfl : (bodyM k n rs 262144).2.2 = _) (rfl : (if (bodyM k n rs 262144).2.2 = 0 then ((headM s).n : Int) + ((bodyM k n rs 262144).2.1 : Nat) else 0) = _)))))))))
    refine ⟨st, rs, w, ln, _, _, c, mi, e2, e3, e4, k, n, _, _, l, H, ?_⟩; rw [repM_eq (bne_f a) H]; simp only [stripss_encFs]
    refine ifP_intro (fun b => ?_) fun b => ifP_intro (fun c => ?_) fun c => ifP_intro (fun d => ?_) fun d => ifP_intro (fun f => ?_) fun f => ?_
    · rw [if_pos (bne_t b)]
      exact ifP_intro (fun _ => rfl) fun b' => by rw [b] at b'; cases b'
    · rw [if_neg (bne_f b), if_pos (bne_t c)]
      exact ifP_intro (fun _ => rfl) fun b' => by rw [c] at b'; cases b'
    · rw [if_neg (bne_f b), if_neg (bne_f c), if_pos (bne_t d)]
      exact ifP_intro (fun _ => rfl) fun b' => by rw [d] at b'; cases b'
    · rw [if_neg (bne_f b), if_neg (bne_f c), if_neg (bne_f d), if_pos (bne_t f)]
      exact ifP_intro (fun _ => rfl) fun b' => by rw [f] at b'; cases b'
    · rw [if_neg (bne_f b), if_neg (bne_f c), if_neg (bne_f d), if_neg (bne_f f), if_pos (Decidable.not_not.1 (bne_f f))]; simp only [encRep, Int.natCast_add]
theorem pf38 : pureFn cfg 38 Tryz.f38 := (by refine ⟨?_, ?_, ?_, ?_, ?_, ?_⟩ <;> kernel_rfl)
theorem pf42 : pureFn cfg 42 Tryz.f42 := (by refine ⟨?_, ?_, ?_, ?_, ?_, ?_⟩ <;> kernel_rfl)
theorem pf12 : pureFn cfg 12 Tryz.f12 := (by refine ⟨?_, ?_, ?_, ?_, ?_, ?_⟩ <;> kernel_rfl)
theorem pf14 : pureFn cfg 14 Tryz.f14 := (by refine ⟨?_, ?_, ?_, ?_, ?_, ?_⟩ <;> kernel_rfl)
theorem tab0 : TabOk cfg (ctab []) := ctab_ok ctab_nil
def headV (r : HeadR) : AV := .tup [.str r.start, .str r.lines, .int .i64 r.n, .int .i64 r.e]
theorem pre_lt {s : List UInt8} {i : Nat} (h : s.length < i + 4) : crlf2.isPrefixOf (s.drop i) = false := by
  cases h' : crlf2.isPrefixOf (s.drop i) with
  | false => rfl
  | true =>
    have := (List.isPrefixOf_iff_prefix.1 h').length_le; simp [crlf2] at this; omega
theorem take4 {s : List UInt8} {i : Nat} (h : i + 4 ≤ s.length) : (!(s.drop i).take 4 == ([13, 10, 13, 10] : List UInt8)) = !crlf2.isPrefixOf (s.drop i) := by
  congr 1
  rw [Bool.eq_iff_iff, List.isPrefixOf_iff_prefix, List.prefix_iff_eq_take]; simp only [beq_iff_eq]; exact eq_comm
theorem loop38c {s : List UInt8} {i : Nat} (hl : s.length ≤ 10000000) (hi : i ≤ 8188) (hc : crlf2.isPrefixOf (s.drop i) = true) (hno : ∀ j, j < i → crlf2.isPrefixOf (s.drop j) = false) : ∀ (m k : Nat), k + m = i → (∀ j, j < k → crlf.isPrefixOf (s.drop j) = false) →
    ToEnd cfg 38 (bodyOf Tryz.f38) (RetIs Tryz.prog Tryz.f38 (headV (headM s))) [.code [0, 0, 1, 1, 0, 0, 1, 0, 0, 1, 0, 1], .block 2, .code [1, 1, 1, 0, 0, 1, 0, 0, 1, 0, 1], .block 1, .code [1, 1, 0, 0, 1, 0, 1], .loop [0, 1, 0, 1] 0, .block 0, .code [1, 1]] .normal
      [(0, true, .str s), (6, true, .int .i64 i), (7, true, .int .i64 k)] [] := by
  have hil : i + 4 ≤ s.length := by
    rcases Nat.lt_or_ge s.length (i + 4) with h | h
    · rw [pre_lt h] at hc; cases hc
    · exact h
  have hci : crlf.isPrefixOf (s.drop i) = true := by rw [crlf2_at, Bool.and_eq_true] at hc; exact hc.1
  have hM : headM s = ⟨(cutS (s.take (i + 2)) crlf).1, (cutS (s.take (i + 2)) crlf).2.1, i + 4, 0⟩ := headM_some (fnd_takeN hc hno (by simp [crlf2]; omega) crlf2_ne)
  intro m
  induction m with
  | zero =>
    intro k hk hn
    obtain rfl : k = i := by omega
    have ht := (pre_at (by omega)).1 hci
    have e1 : IntKind.wrap .i64 ((k : Int) + 1) = ((k + 1 : Nat) : Int) := by rw [wrap_in (by omega) (by omega)]; omega
    have e2 : IntKind.wrap .i64 ((k : Int) + 2) = ((k + 2 : Nat) : Int) := by rw [wrap_in (by omega) (by omega)]; omega
    have e4 : IntKind.wrap .i64 ((k : Int) + 4) = ((k + 4 : Nat) : Int) := by rw [wrap_in (by omega) (by omega)]; omega
    refine t38c tab0 (gAnd_intro (inR_nat (by omega)) ?_)
    rw [e1, e2, e4, Int.toNat_natCast, Int.toNat_natCast, ht.1, ht.2]
    refine ifP_intro (fun a => by simp at a) fun _ => gAnd_intro (inR_nat (by omega)) (ifP_intro (fun a => by simp at a) fun _ => gAnd_intro (cutOb_to' (by omega)) (gAnd_intro (cutOb_mid (by omega) (by omega)) ?_))
    rw [hM, cutS_fnd, fnd_takeN hci hn (by simp [crlf]) crlf_ne, cut_to', cut_mid]
    have h1 : (s.take (k + 2)).take k = s.take k := by rw [List.take_take]; congr 1; omega
    have h2 : (s.take (k + 2)).drop (k + crlf.length) = (s.drop (k + 2)).take (k + 2 - (k + 2)) := by simp [crlf]
    simp only [headV, h1, h2]
  | succ m ih =>
    intro k hk hn
    have e1 : IntKind.wrap .i64 ((k : Int) + 1) = ((k + 1 : Nat) : Int) := by rw [wrap_in (by omega) (by omega)]; omega
    by_cases hp : crlf.isPrefixOf (s.drop k) = true
    · have ht := (pre_at (by omega)).1 hp
      have e2 : IntKind.wrap .i64 ((k : Int) + 2) = ((k + 2 : Nat) : Int) := by rw [wrap_in (by omega) (by omega)]; omega
      have e3 : IntKind.wrap .i64 ((i : Int) + 2) = ((i + 2 : Nat) : Int) := by rw [wrap_in (by omega) (by omega)]; omega
      have e4 : IntKind.wrap .i64 ((i : Int) + 4) = ((i + 4 : Nat) : Int) := by rw [wrap_in (by omega) (by omega)]; omega
      refine t38c tab0 (gAnd_intro (inR_nat (by omega)) ?_)
      rw [e1, e2, e3, e4, Int.toNat_natCast, Int.toNat_natCast, ht.1, ht.2]
      refine ifP_intro (fun a => by simp at a) fun _ => gAnd_intro (inR_nat (by omega)) (ifP_intro (fun a => by simp at a) fun _ => gAnd_intro (cutOb_to' (by omega)) (gAnd_intro (cutOb_mid (by omega) (by omega)) ?_))
      rw [hM, cutS_fnd, fnd_takeN hp hn (by simp [crlf]; omega) crlf_ne, cut_to', cut_mid]
      have h1 : (s.take (i + 2)).take k = s.take k := by rw [List.take_take]; congr 1; omega
      have h2 : (s.take (i + 2)).drop (k + crlf.length) = (s.drop (k + 2)).take (i + 2 - (k + 2)) := by rw [List.drop_take]; rfl
      simp only [headV, h1, h2]
    · have hn' : ∀ j, j < k + 1 → crlf.isPrefixOf (s.drop j) = false := fun j hj => by
        rcases Nat.lt_or_ge j k with h | h
        · exact hn j h
        · have : j = k := by omega
          subst this; exact Bool.eq_false_iff.2 hp
      have IH := ih (k + 1) (by omega) hn'
      refine t38c tab0 (gAnd_intro (inR_nat (by omega)) ?_)
      rw [e1, Int.toNat_natCast, Int.toNat_natCast]
      refine ifP_intro (fun a => IH) fun a => gAnd_intro (inR_nat (by omega)) (ifP_intro (fun b => IH) fun b => ?_)
      exfalso
      refine hp ((pre_at (by omega)).2 ⟨?_, ?_⟩)
      · have a : ((s.getD k 0).toNat : Int) = 13 := by simpa using a
        exact UInt8.toNat_inj.1 (by simpa using (by omega : (s.getD k 0).toNat = 13))
      · have b : ((s.getD (k + 1) 0).toNat : Int) = 10 := by simpa using b
        exact UInt8.toNat_inj.1 (by simpa using (by omega : (s.getD (k + 1) 0).toNat = 10))
theorem loop38b {s : List UInt8} (hl : s.length ≤ 10000000) : ∀ (m i : Nat), i + m = 8189 → (∀ j, j < i → crlf2.isPrefixOf (s.drop j) = false) →
    ToEnd cfg 38 (bodyOf Tryz.f38) (RetIs Tryz.prog Tryz.f38 (headV (headM s))) [.code [0, 1, 0, 1], .block 0, .code [1, 1]] .normal
      [(0, true, .str s), (6, true, .int .i64 i)] [] := by
  have hend : (∀ j, j + 4 ≤ 8192 → crlf2.isPrefixOf (s.drop j) = false) → ifP (decide ((s.length : Int) ≥ 8192)) (AV.tup [AV.str [], AV.str [], AV.int .i64 0, AV.int .i64 3] = headV (headM s)) (AV.tup [AV.str [], AV.str [], AV.int .i64 0, AV.int .i64 6] = headV (headM s)) := fun hno => by
    rw [headM_none (fnd_takeNo (fun j hj => hno j (by simp [crlf2] at hj; omega)) crlf2_ne)]
    refine ifP_intro (fun a => ?_) fun a => ?_
    · rw [if_pos (by simp at a; omega)]; rfl
    · rw [if_neg (by simp at a; omega)]; rfl
  intro m
  induction m with
  | zero =>
    intro i hi hno
    have e4 : IntKind.wrap .i64 ((i : Int) + 4) = ((i + 4 : Nat) : Int) := by rw [wrap_in (by omega) (by omega)]; omega
    refine t38b tab0 ?_; rw [e4]
    exact ifP_intro (fun _ => ifP_intro (fun a => by simp only [decide_eq_true_eq] at a; omega) fun _ => hend fun j hj => hno j (by omega)) fun _ => hend fun j hj => hno j (by omega)
  | succ m ih =>
    intro i hi hno
    have e4 : IntKind.wrap .i64 ((i : Int) + 4) = ((i + 4 : Nat) : Int) := by rw [wrap_in (by omega) (by omega)]; omega
    have e1 : IntKind.wrap .i64 ((i : Int) + 1) = ((i + 1 : Nat) : Int) := by rw [wrap_in (by omega) (by omega)]; omega
    refine t38b tab0 ?_; rw [e4, e1]
    refine ifP_intro (fun a => ifP_intro (fun _ => ?_) fun b => by simp only [decide_eq_false_iff_not] at b; omega) fun a => hend fun j hj => ?_
    · have a : i + 4 ≤ s.length := by simp only [decide_eq_true_eq] at a; omega
      refine gAnd_intro (cutOb_mid (by omega) (by omega)) ?_
      rw [cut_mid, show i + 4 - i = 4 by omega, take4 a]
      refine ifP_intro (fun b => ih (i + 1) (by omega) fun j hj => ?_) fun b => ?_
      · rcases Nat.lt_or_ge j i with h | h
        · exact hno j h
        · have : j = i := by omega
          subst this; simpa using b
      · exact loop38c hl (by omega) (by simpa using b) hno i 0 (by omega) (fun j h => by omega)
    · have a : ¬ i + 4 ≤ s.length := by simp only [decide_eq_false_iff_not] at a; omega
      rcases Nat.lt_or_ge j i with h | h
      · exact hno j h
      · exact pre_lt (by omega)
theorem c38 : COk cfg 38 headRC := by
  refine cok_pure pf38 fun vs h K ht => ?_
  obtain ⟨s, hs, rfl, hk⟩ := ht
  exact ⟨_, hk, t38a tab0 (loop38b hs 8189 0 (by omega) (fun j h => by omega))⟩
theorem c42 : COk cfg 42 bodyRC := by
  refine cok_pure pf42 fun vs h K ht => ?_
  obtain ⟨rs, k, n, most, hr, hr2, hmost, hn0, hn1, rfl, hk⟩ := ht; have hr' : rs.length ≤ 10000000 := hr; refine ⟨_, hk, t42 (ctab_ok (ctab_cons c86 ctab_nil)) ?_⟩
  refine ifP_intro (fun a => ?_) fun a => ifP_intro (fun b => ?_) fun b => ifP_intro (fun c => ?_) fun c => ?_
  · have a : k = 1 := by simpa using a
    subst a; rw [bodyM_1]
    refine ifP_intro (fun d => ?_) fun d => ?_
    · have d : (rs.length : Int) < n := by simpa using d
      rw [if_pos d]; rfl
    · have d : ¬(rs.length : Int) < n := by simpa using d
      rw [if_neg d]
      obtain ⟨j, rfl⟩ : ∃ j : Nat, n = j := ⟨n.toNat, by omega⟩
      refine gAnd_intro (cutOb_to' (by omega)) ?_
      rw [cut_to', Int.toNat_natCast]
  · have b : k = 2 := by simpa using b
    subst b; rw [bodyM_2]
    refine ⟨rs, most, hr2 rfl, by omega, by omega, rfl, ?_⟩
    by_cases d : (decA rs most).e ≠ 0
    · rw [if_pos d]
      rcases decA_e rs most with h | h
      · exact absurd h d
      · rw [h]; simp [decX]
    · rw [if_neg d, Decidable.not_not.1 d]
  · have c : k = 3 := by simpa using c
    subst c; rw [bodyM_3]
    refine ifP_intro (fun d => ?_) fun d => ?_
    · have d : most < rs.length := by simp only [gt_iff_lt, decide_eq_true_eq] at d; omega
      rw [if_pos d]; rfl
    · have d : ¬most < rs.length := by simp only [gt_iff_lt, decide_eq_false_iff_not] at d; omega
      rw [if_neg d]
  · rw [bodyM_0 (by simpa using a) (by simpa using b) (by simpa using c)]; rfl
theorem bodyM_used (k n : Int) (r : List UInt8) (most : Nat) : (bodyM k n r most).2.1 ≤ r.length := by
  unfold bodyM; split
  · split
    · simp
    · simp only; omega
  · split
    · split
      · simp
      · exact decA_used _ _
    · split
      · split <;> simp
      · simp
theorem c12 : COk cfg 12 reqRC := by
  refine cok_pure pf12 fun vs h K ht => ?_
  obtain ⟨s, hs, ho, rfl, hk⟩ := ht; have hs' : s.length ≤ 10000000 := hs; obtain ⟨g1, g2, g3, g4⟩ := headM_len s; have hT : TabOk cfg (ctab [(38, headRC), (39, Ln.reqC), (40, parseC), (41, askFC), (42, bodyRC)]) := ctab_ok (ctab_cons c38 (ctab_cons Ln.c39 (ctab_cons c40 (ctab_cons c41 (ctab_cons c42 ctab_nil)))))
  refine ⟨_, hk, t12 hT ⟨s, hs, rfl, ifP_intro (fun a => ?_) fun a => ?_⟩⟩
  · rw [reqM_e1 (bne_t a)]; rfl
  · obtain ⟨st, hst⟩ : ∃ x, x = (headM s).start := ⟨_, rfl⟩; obtain ⟨rs, hrs⟩ : ∃ x, x = s.drop (headM s).n := ⟨_, rfl⟩; obtain ⟨ln, hln⟩ : ∃ x, x = (headM s).lines := ⟨_, rfl⟩; obtain ⟨⟨m, t, mi, e2⟩, hq⟩ : ∃ x, x = reqP st := ⟨_, rfl⟩; obtain ⟨⟨l, e3⟩, hl⟩ : ∃ x, x = parseF ln := ⟨_, rfl⟩; obtain ⟨⟨k, n, e4⟩, ha⟩ : ∃ x, x = asksF l := ⟨_, rfl⟩
    have H := And.intro hst (And.intro hrs (And.intro hln (And.intro (rfl : ((headM s).n : Int) = (headM s).n) (And.intro hq (And.intro hl (And.intro ha (And.intro (rfl : (bodyM k n rs 65536).1 = _) (And.intro (rfl : (bodyM k n rs 65536).2.2 = _) (rfl : (if (bodyM k n rs 65536).2.2 = 0 then ((headM s).n : Int) + ((bodyM k n rs 65536).2.1 : Nat) else 0) = _)))))))))
    have hlp : l = (parseF (headM s).lines).1 := by rw [← hln, ← hl]
    have hlo : okFs l := by rw [hlp]; exact parseF_ok _
    have hn := asksF_n l
    have hka : k = (asksF l).1 := by rw [← ha]
    have ho : rs.length ≤ 100000 ∨ k ≠ 2 := by
      rcases ho with h | h
      · left; rw [hrs, List.length_drop]; omega
      · right; rw [hka, hlp]; exact h
    rw [← ha] at hn
    refine ⟨st, by rw [hst]; omega, by rw [hst], ?_⟩
    rw [reqM_eq (bne_f a) H, ← hq]
    refine ifP_intro (fun b => by rw [if_pos (bne_t b)]; rfl) fun b => ⟨ln, by rw [hln]; omega, by rw [hln], ?_⟩
    rw [if_neg (bne_f b), ← hl]
    refine ifP_intro (fun c => by rw [if_pos (bne_t c)]; rfl) fun c => ⟨l, 2, hlo, .inl rfl, by rw [stripss_encFs], ?_⟩
    rw [if_neg (bne_f c), ← ha]
    refine ifP_intro (fun d => by rw [if_pos (bne_t d)]; rfl) fun d => gAnd_intro (cutOb_from g4) ⟨rs, k, n, 65536, ?_, ?_, by omega, hn.1, ?_, ?_, ?_⟩
    · rw [hrs, List.length_drop]; omega
    · intro h; exact ho.resolve_right fun h2 => h2 h
    · have := hn.2; simp only at this; omega
    · rw [cut_from, hrs]; rfl
    · rw [if_neg (bne_f d)]
      refine ifP_intro (fun f => by rw [if_pos (bne_t f)]; rfl) fun f => ?_
      rw [if_neg (bne_f f), stripss_encFs]
      have hu : (bodyM k n rs 65536).2.1 ≤ 10000000 := by
        have h1 := bodyM_used k n rs 65536
        have h2 : rs.length ≤ s.length := by rw [hrs, List.length_drop]; omega
        omega
      rw [wrap_in (by omega) (by omega)]
      simp only [encReq, Int.natCast_add]
theorem c14 : COk cfg 14 repRC := by
  refine cok_pure pf14 fun vs h K ht => ?_
  obtain ⟨s, hd, hs, ho, rfl, hk⟩ := ht; have hs' : s.length ≤ 10000000 := hs; obtain ⟨g1, g2, g3, g4⟩ := headM_len s; have hT : TabOk cfg (ctab [(38, headRC), (50, Ln.stC), (40, parseC), (51, tellFC), (42, bodyRC)]) := ctab_ok (ctab_cons c38 (ctab_cons Ln.c50 (ctab_cons c40 (ctab_cons c51 (ctab_cons c42 ctab_nil)))))
  refine ⟨_, hk, t14 hT ⟨s, hs, rfl, ifP_intro (fun a => ?_) fun a => ?_⟩⟩
  · rw [repM_e1 (bne_t a)]; rfl
  · obtain ⟨st, hst⟩ : ∃ x, x = (headM s).start := ⟨_, rfl⟩; obtain ⟨rs, hrs⟩ : ∃ x, x = s.drop (headM s).n := ⟨_, rfl⟩; obtain ⟨ln, hln⟩ : ∃ x, x = (headM s).lines := ⟨_, rfl⟩; obtain ⟨⟨c, w, mi, e2⟩, hq⟩ : ∃ x, x = stP st := ⟨_, rfl⟩; obtain ⟨⟨l, e3⟩, hl⟩ : ∃ x, x = parseF ln := ⟨_, rfl⟩; obtain ⟨⟨k, n, e4⟩, ha⟩ : ∃ x, x = tellsF l c hd := ⟨_, rfl⟩
    have H := And.intro hst (And.intro hrs (And.intro hln (And.intro (rfl : ((headM s).n : Int) = (headM s).n) (And.intro hq (And.intro hl (And.intro ha (And.intro (rfl : (bodyM k n rs 262144).1 = _) (And.intro (rfl : (bodyM k n rs 262144).2.2 = _) (rfl : (if (bodyM k n rs 262144).2.2 = 0 then ((headM s).n : Int) + ((bodyM k n rs 262144).2.1 : Nat) else 0) = _)))))))))
    have hlp : l = (parseF (headM s).lines).1 := by rw [← hln, ← hl]
    have hlo : okFs l := by rw [hlp]; exact parseF_ok _
    have hcr := stP_range st; rw [← hq] at hcr; have hn := tellsF_n l c hd
    have hka : k = (tellsF l c hd).1 := by rw [← ha]
    have hcs : c = (stP (headM s).start).1 := by rw [← hst, ← hq]
    have ho : rs.length ≤ 100000 ∨ k ≠ 2 := by
      rcases ho with h | h
      · left; rw [hrs, List.length_drop]; omega
      · right; rw [hka, hlp, hcs]; exact h
    rw [← ha] at hn
    refine ⟨st, by rw [hst]; omega, by rw [hst], ?_⟩
    rw [repM_eq (bne_f a) H, ← hq]
    refine ifP_intro (fun b => by rw [if_pos (bne_t b)]; rfl) fun b => ⟨ln, by rw [hln]; omega, by rw [hln], ?_⟩
    rw [if_neg (bne_f b), ← hl]
    refine ifP_intro (fun c' => by rw [if_pos (bne_t c')]; rfl) fun c' => ⟨l, 2, c, hd, hlo, .inl rfl, hcr.1, hcr.2, by rw [stripss_encFs], ?_⟩
    rw [if_neg (bne_f c'), ← ha]
    refine ifP_intro (fun d => by rw [if_pos (bne_t d)]; rfl) fun d => gAnd_intro (cutOb_from g4) ⟨rs, k, n, 262144, ?_, ?_, by omega, hn.1, ?_, ?_, ?_⟩
    · rw [hrs, List.length_drop]; omega
    · intro h; exact ho.resolve_right fun h2 => h2 h
    · have := hn.2; simp only at this; omega
    · rw [cut_from, hrs]; rfl
    · rw [if_neg (bne_f d)]
      refine ifP_intro (fun f => by rw [if_pos (bne_t f)]; rfl) fun f => ?_
      rw [if_neg (bne_f f), stripss_encFs]
      have hu : (bodyM k n rs 262144).2.1 ≤ 10000000 := by
        have h1 := bodyM_used k n rs 262144
        have h2 : rs.length ≤ s.length := by rw [hrs, List.length_drop]; omega
        omega
      rw [wrap_in (by omega) (by omega)]
      simp only [encRep, Int.natCast_add]
end Go.Proofs.YtnncfdlpogjlkaaGreatDoor
end
section
namespace Go.Proofs.YtnncfdlpogjlkaaGreatDoor
open Go.Ai Go
set_option maxRecDepth 100000
def plainS : List TypeId := [3, 4, 5, 9, 23, 25, 32, 49, 54, 56, 63]
theorem plainS_ok : closedT Tryz.prog plainS plainS = true := by kernel_rfl
theorem arg_u8 {n : Nat} {v : AV} (h : argOf Tryz.prog n 5 v) : ∃ k : Nat, k < 256 ∧ v = .int .u8 k := by
  have h := (show wt Tryz.prog n 5 [v] from h)
  cases n with
  | zero => exact h.elim
  | succ n =>
    simp only [wt, Tryz.underlying5] at h; obtain ⟨z, h1, h⟩ := h
    injection h with h _
    have hw : 0 ≤ z ∧ z ≤ 255 := by simpa [Lit.wf, IntKind.min, IntKind.max, IntKind.signed, IntKind.bits] using h1
    obtain ⟨k, rfl⟩ := Int.eq_ofNat_of_zero_le (show 0 ≤ z by omega)
    exact ⟨k, by omega, h⟩
theorem arg_u32 {n : Nat} {v : AV} (h : argOf Tryz.prog n 49 v) : ∃ k : Nat, k < 4294967296 ∧ v = .int .u32 k := by
  have h := (show wt Tryz.prog n 49 [v] from h)
  cases n with
  | zero => exact h.elim
  | succ n =>
    simp only [wt, Tryz.underlying49] at h; obtain ⟨z, h1, h⟩ := h
    injection h with h _
    have hw : 0 ≤ z ∧ z ≤ 4294967295 := by simpa [Lit.wf, IntKind.min, IntKind.max, IntKind.signed, IntKind.bits] using h1
    obtain ⟨k, rfl⟩ := Int.eq_ofNat_of_zero_le (show 0 ≤ z by omega)
    exact ⟨k, by omega, h⟩
end Go.Proofs.YtnncfdlpogjlkaaGreatDoor
end
