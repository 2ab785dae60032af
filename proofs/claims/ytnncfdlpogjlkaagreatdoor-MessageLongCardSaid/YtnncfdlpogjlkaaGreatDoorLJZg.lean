/-
  Runs of the statements' own functions, printed by a home tool; each is the kernel's word.
  Runs of functions of messages, printed by a home tool; each is the kernel's word.
  The statements' own functions about messages: fields left out, whether messages are the same, what is asked; they keep to their contracts.
  The statement with the chapter's examples, and that with bodies of many bytes: their contracts.
  The statements about messages that put and read again: their contracts.
-/
import Derived.Test.YtnncfdlpogjlkaaGreatDoorLCfg
import Derived.Test.YtnncfdlpogjlkaaGreatDoorLJZa
import Derived.Test.YtnncfdlpogjlkaaGreatDoorLJZf
set_option linter.unusedVariables false
set_option linter.unusedSimpArgs false
set_option linter.unnecessarySimpa false
section
namespace Go.Proofs.YtnncfdlpogjlkaaGreatDoor
open Go.Ai Go
set_option maxRecDepth 100000
open Go.IntKind (wrap i64 u8)
open Go.Ai.AV (int str sl tup bool agg ptr)
open Go.Ai.Blk (mem grow)
open Go.Ai.Fm (code block loop)
open Go.Ai.XT (normal)
open List (length)
open Prod (fst snd)
open UInt8 (toNat)
open Tryz (prog f3 f10 f15 f16 f22 f24 f26)
theorem t15 {v : AV} {m1 t1 b1 : List UInt8} {mi1 : Int} {e1 : List (List AV)} {sz1 : Nat} {m2 t2 b2 : List UInt8} {mi2 : Int} {e2 : List (List AV)} {sz2 : Nat}  (hT : TabOk cfg (ctab [(52, sameFsC)])) (H : ifP (m1 == m2) (ifP (t1 == t2) (ifP (mi1 == mi2) (ifP (b1 == b2) (∃ (a1 : List Fld) (b2 : List Fld) (sz3 : Nat) (sy4 : Nat), length a1 ≤ 10000000 ∧ szOk sz3 2 (length a1) ∧ szOk sy4 2 (length b2) ∧ [sl sz1 (stripss 0 [] e1) none, sl sz2 (stripss 0 [] e2) none] = [sl sz3 (encFs a1) none, sl sy4 (encFs b2) none] ∧ bool (sameFs a1 b2) = v) (bool false = v)) (bool false = v)) (bool false = v)) (bool false = v)) : ToEnd cfg 15 (bodyOf f15) (RetIs prog f15 v) ([.code []]) .normal ([(0, true, .agg [.str m1, .str t1, .int .i64 mi1, .sl sz1 e1 none, .str b1]), (1, true, .agg [.str m2, .str t2, .int .i64 mi2, .sl sz2 e2 none, .str b2])]) ([]) := by
  exact unr_ok (pl := ⟨[], []⟩) hT 100000 _ _ _ _ (unr_use H (by kernel_rfl))
theorem t16 {v : AV} {t1 b1 : List UInt8} {st1 mi1 : Int} {e1 : List (List AV)} {sz1 : Nat} {t2 b2 : List UInt8} {st2 mi2 : Int} {e2 : List (List AV)} {sz2 : Nat}  (hT : TabOk cfg (ctab [(52, sameFsC)])) (H : ifP (st1 == st2) (ifP (t1 == t2) (ifP (mi1 == mi2) (ifP (b1 == b2) (∃ (a1 : List Fld) (b2 : List Fld) (sz3 : Nat) (sy4 : Nat), length a1 ≤ 10000000 ∧ szOk sz3 2 (length a1) ∧ szOk sy4 2 (length b2) ∧ [sl sz1 (stripss 0 [] e1) none, sl sz2 (stripss 0 [] e2) none] = [sl sz3 (encFs a1) none, sl sy4 (encFs b2) none] ∧ bool (sameFs a1 b2) = v) (bool false = v)) (bool false = v)) (bool false = v)) (bool false = v)) : ToEnd cfg 16 (bodyOf f16) (RetIs prog f16 v) ([.code []]) .normal ([(0, true, .agg [.int .i64 st1, .str t1, .int .i64 mi1, .sl sz1 e1 none, .str b1]), (1, true, .agg [.int .i64 st2, .str t2, .int .i64 mi2, .sl sz2 e2 none, .str b2])]) ([]) := by
  exact unr_ok (pl := ⟨[], []⟩) hT 100000 _ _ _ _ (unr_use H (by kernel_rfl))
theorem t26 {v : AV} {s : List UInt8} (hT : TabOk cfg (ctab [(68, replC)])) (H : ∃ (s1 : List UInt8) (o2 : List UInt8) (n3 : List UInt8), (Nat.blt (length s1) 4294967281 && Nat.ble 1 (length o2) && Nat.ble (length s1 + cntS s1 o2 * length n3) 140737488355328) = true ∧ [str s, str [32, 47, 32], str [13, 10]] = [str s1, str o2, str n3] ∧ str (replS s1 o2 n3) = v) : ToEnd cfg 26 (bodyOf f26) (RetIs prog f26 v) ([.code []]) .normal ([(0, true, .str s)]) ([]) := by
  exact unr_ok (pl := ⟨[], []⟩) hT 100000 _ _ _ _ (unr_use H (by kernel_rfl))
theorem t24 {v : AV} {s m t b : List UInt8} {u w : Int} (hT : TabOk cfg (ctab [(26, linesC), (11, reqMC)])) (H : ∃ (s1 : List UInt8), okLn s1 = true ∧ [str s] = [str s1] ∧ ∃ (s2 : List UInt8), length s2 ≤ 10000000 ∧ [str (lnS s1)] = [str s2] ∧ ifP (Req.m (fst (reqM s2)) == m) (ifP (Req.t (fst (reqM s2)) == t) (ifP (Req.b (fst (reqM s2)) == b) (ifP ((↑(fst (snd (reqM s2))) : Int) == u) (bool (snd (snd (reqM s2)) == w) = v) (bool false = v)) (bool false = v)) (bool false = v)) (bool false = v)) : ToEnd cfg 24 (bodyOf f24) (RetIs prog f24 v) ([.code []]) .normal ([(0, true, .str s), (1, true, .str m), (2, true, .str t), (3, true, .str b), (4, true, .int .i64 u), (5, true, .int .i64 w)]) ([]) := by
  exact unr_ok (pl := ⟨[], []⟩) hT 100000 _ _ _ _ (unr_use H (by kernel_rfl))
theorem t10 {v : AV}  (hT : TabOk cfg (ctab [(24, asksC)])) (H : ∃ (s1 : List UInt8) (m2 : List UInt8) (t3 : List UInt8) (b4 : List UInt8) (u5 : Int) (w6 : Int), okLn s1 = true ∧ [str [71, 69, 84, 32, 47, 97, 32, 72, 84, 84, 80, 47, 49, 46, 49, 32, 47, 32, 72, 111, 115, 116, 58, 32, 104, 32, 47, 32, 32, 47, 32, 120, 121], str [71, 69, 84], str [47, 97], str [], int i64 28, int i64 0] = [str s1, str m2, str t3, str b4, int i64 u5, int i64 w6] ∧ ifP (asksB s1 m2 t3 b4 u5 w6) (∃ (s7 : List UInt8) (m8 : List UInt8) (t9 : List UInt8) (b10 : List UInt8) (u11 : Int) (w12 : Int), okLn s7 = true ∧ [str [80, 79, 83, 84, 32, 47, 98, 32, 72, 84, 84, 80, 47, 49, 46, 49, 32, 47, 32, 67, 111, 110, 116, 101, 110, 116, 45, 76, 101, 110, 103, 116, 104, 58, 32, 50, 32, 47, 32, 32, 47, 32, 97], str [], str [], str [], int i64 0, int i64 6] = [str s7, str m8, str t9, str b10, int i64 u11, int i64 w12] ∧ bool (asksB s7 m8 t9 b10 u11 w12) = v) (bool false = v)) : ToEnd cfg 10 (bodyOf f10) (RetIs prog f10 v) ([.code []]) .normal ([]) ([]) := by
  exact unr_ok (pl := ⟨[], []⟩) hT 100000 _ _ _ _ (unr_use H (by kernel_rfl))
theorem t22 {v : AV} {s : List UInt8} (hT : TabOk cfg (ctab [(11, reqMC), (12, reqRC), (13, repMC), (14, repRC), (15, sameReqC), (16, sameRepC)])) (H : ∃ (s1 : List UInt8), length s1 ≤ 10000000 ∧ [str s] = [str s1] ∧ ∃ (s2 : List UInt8), length s2 ≤ 10000000 ∧ okR s2 ∧ [str s] = [str s2] ∧ ∃ (s3 : List UInt8) (hd4 : Bool), length s3 ≤ 10000000 ∧ [str s, bool false] = [str s3, bool hd4] ∧ ∃ (s5 : List UInt8) (hd6 : Bool), length s5 ≤ 10000000 ∧ okT s5 hd6 ∧ [str s, bool false] = [str s5, bool hd6] ∧ ∃ (a7 : Req) (b8 : Req) (sz9 : Nat) (sy10 : Nat), length (Req.fs a7) ≤ 10000000 ∧ szOk sz9 2 (length (Req.fs a7)) ∧ szOk sy10 2 (length (Req.fs b8)) ∧ [agg [str (Req.m (fst (reqM s1))), str (Req.t (fst (reqM s1))), int i64 (Req.mi (fst (reqM s1))), sl 2 (stripss 0 [] (encFs (Req.fs (fst (reqM s1))))) none, str (Req.b (fst (reqM s1)))], agg [str (Req.m (fst (reqM s2))), str (Req.t (fst (reqM s2))), int i64 (Req.mi (fst (reqM s2))), sl 2 (stripss 0 [] (encFs (Req.fs (fst (reqM s2))))) none, str (Req.b (fst (reqM s2)))]] = [agg [str (Req.m a7), str (Req.t a7), int i64 (Req.mi a7), sl sz9 (encFs (Req.fs a7)) none, str (Req.b a7)], agg [str (Req.m b8), str (Req.t b8), int i64 (Req.mi b8), sl sy10 (encFs (Req.fs b8)) none, str (Req.b b8)]] ∧ ifP (sameReq a7 b8) (ifP ((↑(fst (snd (reqM s1))) : Int) == (↑(fst (snd (reqM s2))) : Int)) (ifP (snd (snd (reqM s1)) == snd (snd (reqM s2))) (∃ (a11 : Rep) (b12 : Rep) (sz13 : Nat) (sy14 : Nat), length (Rep.fs a11) ≤ 10000000 ∧ szOk sz13 2 (length (Rep.fs a11)) ∧ szOk sy14 2 (length (Rep.fs b12)) ∧ [agg [int i64 (Rep.st (fst (repM s3 hd4))), str (Rep.rs (fst (repM s3 hd4))), int i64 (Rep.mi (fst (repM s3 hd4))), sl 2 (stripss 0 [] (encFs (Rep.fs (fst (repM s3 hd4))))) none, str (Rep.b (fst (repM s3 hd4)))], agg [int i64 (Rep.st (fst (repM s5 hd6))), str (Rep.rs (fst (repM s5 hd6))), int i64 (Rep.mi (fst (repM s5 hd6))), sl 2 (stripss 0 [] (encFs (Rep.fs (fst (repM s5 hd6))))) none, str (Rep.b (fst (repM s5 hd6)))]] = [agg [int i64 (Rep.st a11), str (Rep.rs a11), int i64 (Rep.mi a11), sl sz13 (encFs (Rep.fs a11)) none, str (Rep.b a11)], agg [int i64 (Rep.st b12), str (Rep.rs b12), int i64 (Rep.mi b12), sl sy14 (encFs (Rep.fs b12)) none, str (Rep.b b12)]] ∧ ifP (sameRep a11 b12) (ifP ((↑(fst (snd (repM s3 hd4))) : Int) == (↑(fst (snd (repM s5 hd6))) : Int)) (bool (snd (snd (repM s3 hd4)) == snd (snd (repM s5 hd6))) = v) (bool false = v)) (bool false = v)) (bool false = v)) (bool false = v)) (bool false = v)) : ToEnd cfg 22 (bodyOf f22) (RetIs prog f22 v) ([.code []]) .normal ([(0, true, .str s)]) ([]) := by
  exact unr_ok (pl := ⟨[], []⟩) hT 100000 _ _ _ _ (unr_use H (by kernel_rfl))
theorem t3 {v : AV} {s : List UInt8} {hd : Bool} (hT : TabOk cfg (ctab [(11, reqMC), (12, reqRC), (13, repMC), (14, repRC), (15, sameReqC), (16, sameRepC), (10, Ai.trueC)])) (H : ifP (decide ((↑(length s) : Int) > 12000)) (true = true ∧ bool true = v) (∃ (s1 : List UInt8), length s1 ≤ 10000000 ∧ [str s] = [str s1] ∧ ∃ (s2 : List UInt8), length s2 ≤ 10000000 ∧ okR s2 ∧ [str s] = [str s2] ∧ ∃ (s3 : List UInt8) (hd4 : Bool), length s3 ≤ 10000000 ∧ [str s, bool hd] = [str s3, bool hd4] ∧ ∃ (s5 : List UInt8) (hd6 : Bool), length s5 ≤ 10000000 ∧ okT s5 hd6 ∧ [str s, bool hd] = [str s5, bool hd6] ∧ ∃ (a7 : Req) (b8 : Req) (sz9 : Nat) (sy10 : Nat), length (Req.fs a7) ≤ 10000000 ∧ szOk sz9 2 (length (Req.fs a7)) ∧ szOk sy10 2 (length (Req.fs b8)) ∧ [agg [str (Req.m (fst (reqM s1))), str (Req.t (fst (reqM s1))), int i64 (Req.mi (fst (reqM s1))), sl 2 (stripss 0 [] (encFs (Req.fs (fst (reqM s1))))) none, str (Req.b (fst (reqM s1)))], agg [str (Req.m (fst (reqM s2))), str (Req.t (fst (reqM s2))), int i64 (Req.mi (fst (reqM s2))), sl 2 (stripss 0 [] (encFs (Req.fs (fst (reqM s2))))) none, str (Req.b (fst (reqM s2)))]] = [agg [str (Req.m a7), str (Req.t a7), int i64 (Req.mi a7), sl sz9 (encFs (Req.fs a7)) none, str (Req.b a7)], agg [str (Req.m b8), str (Req.t b8), int i64 (Req.mi b8), sl sy10 (encFs (Req.fs b8)) none, str (Req.b b8)]] ∧ ifP (sameReq a7 b8) (ifP ((↑(fst (snd (reqM s1))) : Int) == (↑(fst (snd (reqM s2))) : Int)) (ifP (snd (snd (reqM s1)) == snd (snd (reqM s2))) (∃ (a11 : Rep) (b12 : Rep) (sz13 : Nat) (sy14 : Nat), length (Rep.fs a11) ≤ 10000000 ∧ szOk sz13 2 (length (Rep.fs a11)) ∧ szOk sy14 2 (length (Rep.fs b12)) ∧ [agg [int i64 (Rep.st (fst (repM s3 hd4))), str (Rep.rs (fst (repM s3 hd4))), int i64 (Rep.mi (fst (repM s3 hd4))), sl 2 (stripss 0 [] (encFs (Rep.fs (fst (repM s3 hd4))))) none, str (Rep.b (fst (repM s3 hd4)))], agg [int i64 (Rep.st (fst (repM s5 hd6))), str (Rep.rs (fst (repM s5 hd6))), int i64 (Rep.mi (fst (repM s5 hd6))), sl 2 (stripss 0 [] (encFs (Rep.fs (fst (repM s5 hd6))))) none, str (Rep.b (fst (repM s5 hd6)))]] = [agg [int i64 (Rep.st a11), str (Rep.rs a11), int i64 (Rep.mi a11), sl sz13 (encFs (Rep.fs a11)) none, str (Rep.b a11)], agg [int i64 (Rep.st b12), str (Rep.rs b12), int i64 (Rep.mi b12), sl sy14 (encFs (Rep.fs b12)) none, str (Rep.b b12)]] ∧ ifP (sameRep a11 b12) (ifP ((↑(fst (snd (repM s3 hd4))) : Int) == (↑(fst (snd (repM s5 hd6))) : Int)) (ifP (snd (snd (repM s3 hd4)) == snd (snd (repM s5 hd6))) (true = true ∧ bool true = v) (bool false = v)) (bool false = v)) (bool false = v)) (bool false = v)) (bool false = v)) (bool false = v))) : ToEnd cfg 3 (bodyOf f3) (RetIs prog f3 v) ([.code []]) .normal ([(0, true, .str s), (1, true, .bool hd)]) ([]) := by
  exact unr_ok (pl := ⟨[], []⟩) hT 100000 _ _ _ _ (unr_use H (by kernel_rfl))
end Go.Proofs.YtnncfdlpogjlkaaGreatDoor
end
section
namespace Go.Proofs.YtnncfdlpogjlkaaGreatDoor
open Go.Ai Go
set_option maxRecDepth 100000
end Go.Proofs.YtnncfdlpogjlkaaGreatDoor
end
section
namespace Go.Proofs.YtnncfdlpogjlkaaGreatDoor
open Go.Ai Go
set_option maxRecDepth 100000
theorem pf15 : pureFn cfg 15 Tryz.f15 := (by refine ⟨?_, ?_, ?_, ?_, ?_, ?_⟩ <;> kernel_rfl)
theorem pf16 : pureFn cfg 16 Tryz.f16 := (by refine ⟨?_, ?_, ?_, ?_, ?_, ?_⟩ <;> kernel_rfl)
theorem pf26 : pureFn cfg 26 Tryz.f26 := (by refine ⟨?_, ?_, ?_, ?_, ?_, ?_⟩ <;> kernel_rfl)
theorem pf24 : pureFn cfg 24 Tryz.f24 := (by refine ⟨?_, ?_, ?_, ?_, ?_, ?_⟩ <;> kernel_rfl)
theorem pf10 : pureFn cfg 10 Tryz.f10 := (by refine ⟨?_, ?_, ?_, ?_, ?_, ?_⟩ <;> kernel_rfl)
theorem pf22 : pureFn cfg 22 Tryz.f22 := (by refine ⟨?_, ?_, ?_, ?_, ?_, ?_⟩ <;> kernel_rfl)
theorem pf3 : pureFn cfg 3 Tryz.f3 := (by refine ⟨?_, ?_, ?_, ?_, ?_, ?_⟩ <;> kernel_rfl)
theorem c15 : COk cfg 15 sameReqC := by
  refine cok_pure pf15 fun vs h K ht => ?_
  obtain ⟨a, b, sz, sy, hl, h0, h1, rfl, hk⟩ := ht
  refine ⟨_, hk, t15 (ctab_ok (ctab_cons c52 ctab_nil)) (ifP_intro (fun x => ifP_intro (fun y => ifP_intro (fun z => ifP_intro (fun w => ⟨a.fs, b.fs, sz, sy, hl, h0, h1, by rw [stripss_encFs, stripss_encFs], ?_⟩) fun w => ?_) fun z => ?_) fun y => ?_) fun x => ?_)⟩
  · simp only [sameReq, x, y, z, w, Bool.true_and]
  · simp only [sameReq, x, y, z, w, Bool.true_and, Bool.false_and]
  · simp only [sameReq, x, y, z, Bool.true_and, Bool.false_and]
  · simp only [sameReq, x, y, Bool.true_and, Bool.false_and]
  · simp only [sameReq, x, Bool.false_and]
theorem c16 : COk cfg 16 sameRepC := by
  refine cok_pure pf16 fun vs h K ht => ?_
  obtain ⟨a, b, sz, sy, hl, h0, h1, rfl, hk⟩ := ht
  refine ⟨_, hk, t16 (ctab_ok (ctab_cons c52 ctab_nil)) (ifP_intro (fun x => ifP_intro (fun y => ifP_intro (fun z => ifP_intro (fun w => ⟨a.fs, b.fs, sz, sy, hl, h0, h1, by rw [stripss_encFs, stripss_encFs], ?_⟩) fun w => ?_) fun z => ?_) fun y => ?_) fun x => ?_)⟩
  · simp only [sameRep, x, y, z, w, Bool.true_and]
  · simp only [sameRep, x, y, z, w, Bool.true_and, Bool.false_and]
  · simp only [sameRep, x, y, z, Bool.true_and, Bool.false_and]
  · simp only [sameRep, x, y, Bool.true_and, Bool.false_and]
  · simp only [sameRep, x, Bool.false_and]
theorem sameReq_refl (a : Req) : sameReq a a = true := by simp [sameReq, sameFs_refl]
theorem sameRep_refl (a : Rep) : sameRep a a = true := by simp [sameRep, sameFs_refl]
theorem c68 : COk cfg 68 replC := by
  refine cok_prim (by kernel_rfl) (by kernel_rfl) (by kernel_rfl : cfg.prim 68 = some pReplaceAll) (by kernel_rfl) fun vs h K ht => ?_
  obtain ⟨s, o, n, hb, rfl, hk⟩ := ht; refine ⟨.str (replS s o n), hk, ?_⟩; simp only [pReplaceAll, hb]
theorem c26 : COk cfg 26 linesC := by
  refine cok_pure pf26 fun vs h K ht => ?_
  obtain ⟨s, hb, rfl, hk⟩ := ht; simp only [okLn, Bool.and_eq_true] at hb; obtain ⟨h0, h1, h2⟩ := hb; have h0 := Nat.le_of_ble_eq_true h0; have h1 := Nat.le_of_ble_eq_true h1; refine ⟨_, hk, t26 (ctab_ok (ctab_cons c68 ctab_nil)) ⟨s, [32, 47, 32], [13, 10], ?_, rfl, rfl⟩⟩; simp only [Bool.and_eq_true]
  exact ⟨⟨Nat.ble_eq_true_of_le (by omega), by decide⟩, Nat.ble_eq_true_of_le (by simp only [List.length_cons, List.length_nil]; omega)⟩
theorem c24 : COk cfg 24 asksC := by
  refine cok_pure pf24 fun vs h K ht => ?_
  obtain ⟨s, m, t, b, u, w, hb, rfl, hk⟩ := ht; have hb2 := hb; simp only [okLn, Bool.and_eq_true] at hb2; have h2 := Nat.le_of_ble_eq_true hb2.2.2
  refine ⟨_, hk, t24 (ctab_ok (ctab_cons c26 (ctab_cons c11 ctab_nil))) ⟨s, hb, rfl, lnS s, by omega, rfl, ?_⟩⟩
  unfold asksB
  refine ifP_intro (fun x => ifP_intro (fun y => ifP_intro (fun z => ifP_intro (fun q => ?_) fun q => ?_) fun z => ?_) fun y => ?_) fun x => ?_
  · simp only [x, y, z, q, Bool.true_and]
  · simp only [x, y, z, q, Bool.true_and, Bool.false_and]
  · simp only [x, y, z, Bool.true_and, Bool.false_and]
  · simp only [x, y, Bool.true_and, Bool.false_and]
  · simp only [x, Bool.false_and]
theorem c10 : COk cfg 10 Ai.trueC := by
  refine cok_pure pf10 fun vs h K ht => ?_
  obtain ⟨hv, hk⟩ := ht
  obtain rfl : vs = [] := by cases vs with | nil => rfl | cons => cases hv
  refine ⟨_, hk, t10 (ctab_ok (ctab_cons c24 ctab_nil)) ⟨_, _, _, _, _, _, ?_, rfl, ?_⟩⟩
  · kernel_rfl
  · rw [show asksB [71, 69, 84, 32, 47, 97, 32, 72, 84, 84, 80, 47, 49, 46, 49, 32, 47, 32, 72, 111, 115, 116, 58, 32, 104, 32, 47, 32, 32, 47, 32, 120, 121] [71, 69, 84] [47, 97] [] 28 0 = true by kernel_rfl]
    refine ⟨_, _, _, _, _, _, ?_, rfl, ?_⟩
    · kernel_rfl
    · rw [show asksB [80, 79, 83, 84, 32, 47, 98, 32, 72, 84, 84, 80, 47, 49, 46, 49, 32, 47, 32, 67, 111, 110, 116, 101, 110, 116, 45, 76, 101, 110, 103, 116, 104, 58, 32, 50, 32, 47, 32, 32, 47, 32, 97] [] [] [] 0 6 = true by kernel_rfl]
theorem reqM_fs (s : List UInt8) : (reqM s).1.fs.length ≤ 10000000 := by
  have h := (parseF_mem (headM s).lines).2; have hn : noReq.fs.length = 0 := rfl; unfold reqM
  repeat' split
  all_goals simp only
  all_goals omega
theorem repM_fs (s : List UInt8) (hd : Bool) : (repM s hd).1.fs.length ≤ 10000000 := by
  have h := (parseF_mem (headM s).lines).2; have hn : noRep.fs.length = 0 := rfl; unfold repM
  repeat' split
  all_goals simp only
  all_goals omega
theorem tabR : TabOk cfg (ctab [(11, reqMC), (12, reqRC), (13, repMC), (14, repRC), (15, sameReqC), (16, sameRepC)]) :=
  ctab_ok (ctab_cons c11 (ctab_cons c12 (ctab_cons c13 (ctab_cons c14 (ctab_cons c15 (ctab_cons c16 ctab_nil))))))
theorem tabR10 : TabOk cfg (ctab [(11, reqMC), (12, reqRC), (13, repMC), (14, repRC), (15, sameReqC), (16, sameRepC), (10, Ai.trueC)]) :=
  ctab_ok (ctab_cons c11 (ctab_cons c12 (ctab_cons c13 (ctab_cons c14 (ctab_cons c15 (ctab_cons c16 (ctab_cons c10 ctab_nil)))))))
theorem c22 : COk cfg 22 readsC := by
  refine cok_pure pf22 fun vs h K ht => ?_
  obtain ⟨s, hs, h0, h1, rfl, hk⟩ := ht
  refine ⟨_, hk, t22 tabR ⟨s, hs, rfl, s, hs, h0, rfl, s, false, hs, rfl, s, false, hs, h1, rfl, (reqM s).1, (reqM s).1, 2, 2, reqM_fs s, .inl rfl, .inl rfl, by rw [stripss_encFs], ?_⟩⟩
  rw [sameReq_refl]
  refine ifP_intro (fun _ => ifP_intro (fun _ => ifP_intro (fun _ => ⟨(repM s false).1, (repM s false).1, 2, 2, repM_fs s false, .inl rfl, .inl rfl, by rw [stripss_encFs], ?_⟩) fun a => by simp at a) fun a => by simp at a) fun a => by simp at a
  rw [sameRep_refl]
  exact ifP_intro (fun _ => ifP_intro (fun _ => by simp) fun a => by simp at a) fun a => by simp at a
theorem c3 : COk cfg 3 readsLC := by
  refine cok_pure pf3 fun vs h K ht => ?_
  obtain ⟨s, hd, rfl, hk⟩ := ht
  refine ⟨_, hk, t3 tabR10 (ifP_intro (fun _ => ⟨rfl, rfl⟩) fun c => ?_)⟩
  have hs : s.length ≤ 12000 := by simp at c; omega
  refine ⟨s, by omega, rfl, s, by omega, .inl (by omega), rfl, s, hd, by omega, rfl, s, hd, by omega, .inl (by omega), rfl, (reqM s).1, (reqM s).1, 2, 2, reqM_fs s, .inl rfl, .inl rfl, by rw [stripss_encFs], ?_⟩
  rw [sameReq_refl]
  refine ifP_intro (fun _ => ifP_intro (fun _ => ifP_intro (fun _ => ⟨(repM s hd).1, (repM s hd).1, 2, 2, repM_fs s hd, .inl rfl, .inl rfl, by rw [stripss_encFs], ?_⟩) fun a => by simp at a) fun a => by simp at a) fun a => by simp at a
  rw [sameRep_refl]
  exact ifP_intro (fun _ => ifP_intro (fun _ => ifP_intro (fun _ => ⟨rfl, rfl⟩) fun a => by simp at a) fun a => by simp at a) fun a => by simp at a
end Go.Proofs.YtnncfdlpogjlkaaGreatDoor
end
section
namespace Go.Proofs.YtnncfdlpogjlkaaGreatDoor
open Go.Ai Go
set_option maxRecDepth 100000
open Go.IntKind (wrap i64 u8)
open Go.Ai.AV (int str sl tup bool agg ptr)
open Go.Ai.Blk (mem grow)
open Go.Ai.Fm (code block loop)
open Go.Ai.XT (normal)
open List (length)
open Prod (fst snd)
open UInt8 (toNat)
open Tryz (prog f6)
theorem t6 {v : AV} {n k : Int} (hT : TabOk cfg (ctab [(3, readsLC), (22, readsC), (18, putRepMC), (19, putRepMC), (20, putReqMC), (21, putReqMC), (10, Ai.trueC)])) (H : gAnd (decide (0 ≤ Int.tmod n 524288) && decide (Int.tmod n 524288 = Int.tmod n 524288) && decide (1 * Int.tmod n 524288 ≤ 281474976710656) && decide (Int.tmod n 524288 ≤ 9223372036854775807) && true && true && true) (∃ (cs1 : List AV), cs1 = List.replicate (Int.toNat (Int.tmod n 524288)) (ofConst (Value.int u8 0)) ∧ gAnd (cellsB (List.take (Int.toNat (Int.tmod n 524288)) (List.drop 0 cs1))) (∃ (r2 : Rep) (sz3 : Nat) (hd4 : Bool), okRep r2 ∧ szOk sz3 2 (length (Rep.fs r2)) ∧ [agg [int i64 200, str [79, 75], int i64 1, sl 2 [] none, str (List.map cellV (List.take (Int.toNat (Int.tmod n 524288)) (List.drop 0 cs1)))], bool false] = [agg [int i64 (Rep.st r2), str (Rep.rs r2), int i64 (Rep.mi r2), sl sz3 (encFs (Rep.fs r2)) none, str (Rep.b r2)], bool hd4] ∧ ∃ (r7 : Rep) (sz8 : Nat) (hd9 : Bool), okRep r7 ∧ szOk sz8 2 (length (Rep.fs r7)) ∧ [agg [int i64 200, str [79, 75], int i64 1, sl 2 [] none, str (List.map cellV (List.take (Int.toNat (Int.tmod n 524288)) (List.drop 0 cs1)))], bool false] = [agg [int i64 (Rep.st r7), str (Rep.rs r7), int i64 (Rep.mi r7), sl sz8 (encFs (Rep.fs r7)) none, str (Rep.b r7)], bool hd9] ∧ ∃ (r12 : Req) (sz13 : Nat), okReq r12 ∧ szOk sz13 2 (length (Req.fs r12)) ∧ [agg [str [80, 79, 83, 84], str [47], int i64 1, sl 2 [] none, str (List.map cellV (List.take (Int.toNat (Int.tmod n 524288)) (List.drop 0 cs1)))]] = [agg [str (Req.m r12), str (Req.t r12), int i64 (Req.mi r12), sl sz13 (encFs (Req.fs r12)) none, str (Req.b r12)]] ∧ ∃ (r16 : Req) (sz17 : Nat), okReq r16 ∧ szOk sz17 2 (length (Req.fs r16)) ∧ [agg [str [80, 79, 83, 84], str [47], int i64 1, sl 2 [] none, str (List.map cellV (List.take (Int.toNat (Int.tmod n 524288)) (List.drop 0 cs1)))]] = [agg [str (Req.m r16), str (Req.t r16), int i64 (Req.mi r16), sl sz17 (encFs (Req.fs r16)) none, str (Req.b r16)]] ∧ ifP (!fst (putRepM r2 hd4) == fst (putRepM r7 hd9)) (bool false = v) (ifP (snd (putRepM r2 hd4) != snd (putRepM r7 hd9)) (bool false = v) (ifP (!fst (putReqM r12) == fst (putReqM r16)) (bool false = v) (ifP (snd (putReqM r12) != snd (putReqM r16)) (bool false = v) (∃ (s20 : List UInt8) (hd21 : Bool), [str [], bool false] = [str s20, bool hd21] ∧ gAnd (inR (bits BinOp.and u8 k 3) 4 && true && true) (∃ (s22 : List UInt8), getE [[str [72, 84, 84, 80, 47, 49, 46, 49, 32, 50, 48, 48, 32, 79, 75, 13, 10, 13, 10]], [str [80, 79, 83, 84, 32, 47, 32, 72, 84, 84, 80, 47, 49, 46, 49, 13, 10, 67, 111, 110, 116, 101, 110, 116, 45, 76, 101, 110, 103, 116, 104, 58, 32, 54, 53, 53, 51, 54, 13, 10, 13, 10]], [str [72, 84, 84, 80, 47, 49, 46, 49, 32, 50, 48, 48, 32, 79, 75, 13, 10, 67, 111, 110, 116, 101, 110, 116, 45, 76, 101, 110, 103, 116, 104, 58, 32, 50, 54, 50, 49, 52, 52, 13, 10, 13, 10]], [str [80, 79, 83, 84, 32, 47, 32, 72, 84, 84, 80, 47, 49, 46, 49, 13, 10, 67, 111, 110, 116, 101, 110, 116, 45, 76, 101, 110, 103, 116, 104, 58, 32, 54, 53, 53, 51, 55, 13, 10, 13, 10]]] (bits BinOp.and u8 k 3) = [str s22] ∧ gAnd (decide (length s22 + length (List.map cellV (List.take (Int.toNat (Int.tmod n 524288)) (List.drop 0 cs1))) ≤ 9223372036854775807)) (∃ (s23 : List UInt8), length s23 ≤ 10000000 ∧ okR s23 ∧ okT s23 false ∧ [str (s22 ++ List.map cellV (List.take (Int.toNat (Int.tmod n 524288)) (List.drop 0 cs1)))] = [str s23] ∧ true = true ∧ bool true = v))))))))) : ToEnd cfg 6 (bodyOf f6) (RetIs prog f6 v) ([.code []]) .normal ([(0, true, .int .u32 n), (1, true, .int .u8 k)]) ([]) := by
  exact unr_ok (pl := ⟨[], [([0, 1, 1, 1, 1, 1, 1, 1, 1, 1, 1], 5, [.str]), ([0,1], 2, [.av])]⟩) hT 100000 _ _ _ _ (unr_use H (by kernel_rfl))
end Go.Proofs.YtnncfdlpogjlkaaGreatDoor
end
section
namespace Go.Proofs.YtnncfdlpogjlkaaGreatDoor
open Go.Ai Go
set_option maxRecDepth 100000
theorem pf6 : pureFn cfg 6 Tryz.f6 := (by refine ⟨?_, ?_, ?_, ?_, ?_, ?_⟩ <;> kernel_rfl)
theorem ifP_mkf {b : Bool} {p q : Prop} (h : b = false) (hq : q) : ifP b p q := by subst h; exact hq
theorem headM_app {h z : List UInt8} {n : Nat} (hf : fnd crlf2 h = some n) (hn : n + 4 ≤ 8192) : headM (h ++ z) = headM h := by
  have hl := (fnd_some hf).2; have h4 : crlf2.length = 4 := rfl
  have h1 := fnd_take (p := 8192) (fnd_app hf crlf2_ne z) (by omega) crlf2_ne
  have h2 := fnd_take (p := 8192) hf (by omega) crlf2_ne
  rw [headM_some h1, headM_some h2, List.take_append_of_le_length (by omega)]
theorem cells_zeros (n : Nat) : cellsB (List.replicate n (ofConst (Value.int IntKind.u8 0))) = true := by
  unfold cellsB; rw [List.all_eq_true]; intro x hx; rw [List.eq_of_mem_replicate hx]; rfl
theorem bits4 : ∀ k : Fin 256, bits BinOp.and IntKind.u8 ((k.val : Nat) : Int) 3 = ((k.val % 4 : Nat) : Int) := by decide +kernel
def head0 : List UInt8 := [72, 84, 84, 80, 47, 49, 46, 49, 32, 50, 48, 48, 32, 79, 75, 13, 10, 13, 10]
def head1 : List UInt8 := [80, 79, 83, 84, 32, 47, 32, 72, 84, 84, 80, 47, 49, 46, 49, 13, 10, 67, 111, 110, 116, 101, 110, 116, 45, 76, 101, 110, 103, 116, 104, 58, 32, 54, 53, 53, 51, 54, 13, 10, 13, 10]
def head2 : List UInt8 := [72, 84, 84, 80, 47, 49, 46, 49, 32, 50, 48, 48, 32, 79, 75, 13, 10, 67, 111, 110, 116, 101, 110, 116, 45, 76, 101, 110, 103, 116, 104, 58, 32, 50, 54, 50, 49, 52, 52, 13, 10, 13, 10]
def head3 : List UInt8 := [80, 79, 83, 84, 32, 47, 32, 72, 84, 84, 80, 47, 49, 46, 49, 13, 10, 67, 111, 110, 116, 101, 110, 116, 45, 76, 101, 110, 103, 116, 104, 58, 32, 54, 53, 53, 51, 55, 13, 10, 13, 10]
def calmH (h : List UInt8) : Prop := h.length ≤ 100 ∧ ∀ z, okR (h ++ z) ∧ okT (h ++ z) false
theorem calm_of {h : List UInt8} {n a b : Nat} (hf : fnd crlf2 h = some n) (hn : n + 4 ≤ 8192) (hl : h.length ≤ 100) (ha : (asksF (parseF (headM h).lines).1).1 = a) (hb : (tellsF (parseF (headM h).lines).1 (stP (headM h).start).1 false).1 = b) (ha2 : a ≠ 2) (hb2 : b ≠ 2) : calmH h :=
  ⟨hl, fun z => ⟨.inr (by rw [headM_app hf hn, ha]; omega), .inr (by rw [headM_app hf hn, hb]; omega)⟩⟩
theorem calm0 : calmH head0 := calm_of (n := 15) (a := 0) (b := 3) (by kernel_rfl) (by omega) (by decide) (by kernel_rfl) (by kernel_rfl) (by omega) (by omega)
theorem calm1 : calmH head1 := calm_of (n := 38) (a := 1) (b := 1) (by kernel_rfl) (by omega) (by decide) (by kernel_rfl) (by kernel_rfl) (by omega) (by omega)
theorem calm2 : calmH head2 := calm_of (n := 39) (a := 0) (b := 1) (by kernel_rfl) (by omega) (by decide) (by kernel_rfl) (by kernel_rfl) (by omega) (by omega)
theorem calm3 : calmH head3 := calm_of (n := 38) (a := 0) (b := 1) (by kernel_rfl) (by omega) (by decide) (by kernel_rfl) (by kernel_rfl) (by omega) (by omega)
theorem tab6 : TabOk cfg (ctab [(3, readsLC), (22, readsC), (18, putRepMC), (19, putRepMC), (20, putReqMC), (21, putReqMC), (10, Ai.trueC)]) :=
  ctab_ok (ctab_cons c3 (ctab_cons c22 (ctab_cons c18 (ctab_cons c19 (ctab_cons c20 (ctab_cons c21 (ctab_cons c10 ctab_nil)))))))
theorem nilPs : okPs [] := ⟨by simp, fun f hf => by cases hf⟩
theorem okZp {z : List UInt8} (h : z.length ≤ 1000000) : okRep ⟨200, [79, 75], 1, [], z⟩ := ⟨nilPs, by simp, by simp, h, by simp, by simp, by simp⟩
theorem okZq {z : List UInt8} (h : z.length ≤ 1000000) : okReq ⟨[80, 79, 83, 84], [47], 1, [], z⟩ := ⟨nilPs, by simp, by simp, by simp, h, by simp, by simp⟩
theorem c6 : COk cfg 6 (fun vs h K => ∃ n k : Nat, n < 4294967296 ∧ k < 256 ∧ vs = [.int .u32 n, .int .u8 k] ∧ K (.bool true) h) := by
  refine cok_pure pf6 fun vs h K ht => ?_
  obtain ⟨n, k, hn, hk256, rfl, hk⟩ := ht; refine ⟨_, hk, t6 tab6 ?_⟩
  have e : Int.tmod (n : Int) 524288 = ((n % 524288 : Nat) : Int) := by
    rw [Int.tmod_eq_emod_of_nonneg (by omega)]
    exact (Int.natCast_emod n 524288).symm
  have eb := bits4 ⟨k, hk256⟩; simp only at eb; rw [e, eb]
  have hN : n % 524288 < 524288 := Nat.mod_lt _ (by omega)
  have hK : k % 4 < 4 := Nat.mod_lt _ (by omega)
  generalize n % 524288 = N at *; generalize k % 4 = j at *
  refine gAnd_intro (by rw [decide_eq_true (by omega), decide_eq_true rfl, decide_eq_true (by omega), decide_eq_true (by omega)]; rfl) ⟨_, rfl, ?_⟩
  rw [Int.toNat_natCast, List.drop_zero, List.take_of_length_le (by rw [List.length_replicate]; omega)]
  refine gAnd_intro (cells_zeros N) ?_
  have hz : (List.map cellV (List.replicate N (ofConst (Value.int IntKind.u8 0)))).length = N := by rw [List.length_map, List.length_replicate]
  generalize List.map cellV (List.replicate N (ofConst (Value.int IntKind.u8 0))) = z at *
  refine ⟨⟨200, [79, 75], 1, [], z⟩, 2, false, okZp (by omega), .inl rfl, rfl, ⟨200, [79, 75], 1, [], z⟩, 2, false, okZp (by omega), .inl rfl, rfl,
    ⟨[80, 79, 83, 84], [47], 1, [], z⟩, 2, okZq (by omega), .inl rfl, rfl, ⟨[80, 79, 83, 84], [47], 1, [], z⟩, 2, okZq (by omega), .inl rfl, rfl, ?_⟩
  refine ifP_mkf (by simp) (ifP_mkf (by simp) (ifP_mkf (by simp) (ifP_mkf (by simp) ⟨[], false, rfl, ?_⟩)))
  have key : ∀ h : List UInt8, calmH h → gAnd (decide (List.length h + List.length z ≤ 9223372036854775807)) (∃ (s23 : List UInt8), List.length s23 ≤ 10000000 ∧ okR s23 ∧ okT s23 false ∧ [AV.str (h ++ z)] = [AV.str s23] ∧ true = true ∧ AV.bool true = AV.bool true) := fun h ⟨hl, hc⟩ =>
    gAnd_intro (decide_eq_true (by omega)) ⟨h ++ z, by rw [List.length_append]; omega, (hc z).1, (hc z).2, rfl, rfl, rfl⟩
  match j, hK with
  | 0, _ => exact gAnd_intro rfl ⟨head0, rfl, key head0 calm0⟩
  | 1, _ => exact gAnd_intro rfl ⟨head1, rfl, key head1 calm1⟩
  | 2, _ => exact gAnd_intro rfl ⟨head2, rfl, key head2 calm2⟩
  | 3, _ => exact gAnd_intro rfl ⟨head3, rfl, key head3 calm3⟩
end Go.Proofs.YtnncfdlpogjlkaaGreatDoor
end
section
namespace Go.Proofs.YtnncfdlpogjlkaaGreatDoor
open Go.Ai Go
set_option maxRecDepth 100000
end Go.Proofs.YtnncfdlpogjlkaaGreatDoor
end
section
namespace Go.Proofs.YtnncfdlpogjlkaaGreatDoor
open Go.Ai Go
set_option maxRecDepth 100000
theorem HeadIs.size {s st b : List UInt8} {o : List Fld} (h : HeadIs s st o b) : s.length ≤ 8192 + b.length := by
  have := congrArg List.length h.eq; rw [List.length_append (bs := b)] at this; have := h.short; omega
end Go.Proofs.YtnncfdlpogjlkaaGreatDoor
end
