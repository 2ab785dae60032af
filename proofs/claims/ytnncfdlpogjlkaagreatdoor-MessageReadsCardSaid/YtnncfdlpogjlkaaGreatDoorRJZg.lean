/-
  Runs of the statements' own functions, printed by a home tool; each is the kernel's word.
  Runs of functions of messages, printed by a home tool; each is the kernel's word.
  The statements' own functions about messages: fields left out, whether messages are the same, what is asked; they keep to their contracts.
  The statement with the chapter's examples, and that with bodies of many bytes: their contracts.
  The statements about messages that put and read again: their contracts.
-/
import Derived.Test.YtnncfdlpogjlkaaGreatDoorRCfg
import Derived.Test.YtnncfdlpogjlkaaGreatDoorRJZa
import Derived.Test.YtnncfdlpogjlkaaGreatDoorRJZf
section
namespace Go.Proofs.YtnncfdlpogjlkaaGreatDoor
open Go.Ai Go
set_option maxRecDepth 100000
set_option linter.unusedVariables false
theorem t15 {v : AV} {m1 t1 b1 : List UInt8} {mi1 : Int} {e1 : List (List AV)} {sz1 : Nat} {m2 t2 b2 : List UInt8} {mi2 : Int} {e2 : List (List AV)} {sz2 : Nat}  (hT : TabOk cfg (ctab [(52, sameFsC)])) (H : ifP (m1 == m2) (ifP (t1 == t2) (ifP (mi1 == mi2) (ifP (b1 == b2) (∃ (a1 : List Fld) (b2 : List Fld) (sz3 : Nat) (sy4 : Nat), List.length a1 ≤ 10000000 ∧ szOk sz3 2 (List.length a1) ∧ szOk sy4 2 (List.length b2) ∧ [AV.sl sz1 (stripss 0 [] e1) none, AV.sl sz2 (stripss 0 [] e2) none] = [AV.sl sz3 (encFs a1) none, AV.sl sy4 (encFs b2) none] ∧ AV.bool (sameFs a1 b2) = v) (AV.bool false = v)) (AV.bool false = v)) (AV.bool false = v)) (AV.bool false = v)) : ToEnd cfg 15 (bodyOf Tryz.f15) (RetIs Tryz.prog Tryz.f15 v) ([.code []]) .normal ([(0, true, .agg [.str m1, .str t1, .int .i64 mi1, .sl sz1 e1 none, .str b1]), (1, true, .agg [.str m2, .str t2, .int .i64 mi2, .sl sz2 e2 none, .str b2])]) ([]) := by
  exact unr_ok (pl := ⟨[], []⟩) hT 100000 _ _ _ _ (unr_use H (by kernel_rfl))

theorem t16 {v : AV} {t1 b1 : List UInt8} {st1 mi1 : Int} {e1 : List (List AV)} {sz1 : Nat} {t2 b2 : List UInt8} {st2 mi2 : Int} {e2 : List (List AV)} {sz2 : Nat}  (hT : TabOk cfg (ctab [(52, sameFsC)])) (H : ifP (st1 == st2) (ifP (t1 == t2) (ifP (mi1 == mi2) (ifP (b1 == b2) (∃ (a1 : List Fld) (b2 : List Fld) (sz3 : Nat) (sy4 : Nat), List.length a1 ≤ 10000000 ∧ szOk sz3 2 (List.length a1) ∧ szOk sy4 2 (List.length b2) ∧ [AV.sl sz1 (stripss 0 [] e1) none, AV.sl sz2 (stripss 0 [] e2) none] = [AV.sl sz3 (encFs a1) none, AV.sl sy4 (encFs b2) none] ∧ AV.bool (sameFs a1 b2) = v) (AV.bool false = v)) (AV.bool false = v)) (AV.bool false = v)) (AV.bool false = v)) : ToEnd cfg 16 (bodyOf Tryz.f16) (RetIs Tryz.prog Tryz.f16 v) ([.code []]) .normal ([(0, true, .agg [.int .i64 st1, .str t1, .int .i64 mi1, .sl sz1 e1 none, .str b1]), (1, true, .agg [.int .i64 st2, .str t2, .int .i64 mi2, .sl sz2 e2 none, .str b2])]) ([]) := by
  exact unr_ok (pl := ⟨[], []⟩) hT 100000 _ _ _ _ (unr_use H (by kernel_rfl))

theorem t26 {v : AV} {s : List UInt8} (hT : TabOk cfg (ctab [(68, replC)])) (H : ∃ (s1 : List UInt8) (o2 : List UInt8) (n3 : List UInt8), (Nat.blt (List.length s1) 4294967281 && Nat.ble 1 (List.length o2) && Nat.ble (List.length s1 + cntS s1 o2 * List.length n3) 140737488355328) = true ∧ [AV.str s, AV.str [32, 47, 32], AV.str [13, 10]] = [AV.str s1, AV.str o2, AV.str n3] ∧ AV.str (replS s1 o2 n3) = v) : ToEnd cfg 26 (bodyOf Tryz.f26) (RetIs Tryz.prog Tryz.f26 v) ([.code []]) .normal ([(0, true, .str s)]) ([]) := by
  exact unr_ok (pl := ⟨[], []⟩) hT 100000 _ _ _ _ (unr_use H (by kernel_rfl))

theorem t24 {v : AV} {s m t b : List UInt8} {u w : Int} (hT : TabOk cfg (ctab [(26, linesC), (11, reqMC)])) (H : ∃ (s1 : List UInt8), okLn s1 = true ∧ [AV.str s] = [AV.str s1] ∧ ∃ (s2 : List UInt8), List.length s2 ≤ 10000000 ∧ [AV.str (lnS s1)] = [AV.str s2] ∧ ifP (Req.m (Prod.fst (reqM s2)) == m) (ifP (Req.t (Prod.fst (reqM s2)) == t) (ifP (Req.b (Prod.fst (reqM s2)) == b) (ifP ((↑(Prod.fst (Prod.snd (reqM s2))) : Int) == u) (AV.bool (Prod.snd (Prod.snd (reqM s2)) == w) = v) (AV.bool false = v)) (AV.bool false = v)) (AV.bool false = v)) (AV.bool false = v)) : ToEnd cfg 24 (bodyOf Tryz.f24) (RetIs Tryz.prog Tryz.f24 v) ([.code []]) .normal ([(0, true, .str s), (1, true, .str m), (2, true, .str t), (3, true, .str b), (4, true, .int .i64 u), (5, true, .int .i64 w)]) ([]) := by
  exact unr_ok (pl := ⟨[], []⟩) hT 100000 _ _ _ _ (unr_use H (by kernel_rfl))

theorem t10 {v : AV}  (hT : TabOk cfg (ctab [(24, asksC)])) (H : ∃ (s1 : List UInt8) (m2 : List UInt8) (t3 : List UInt8) (b4 : List UInt8) (u5 : Int) (w6 : Int), okLn s1 = true ∧ [AV.str [71, 69, 84, 32, 47, 97, 32, 72, 84, 84, 80, 47, 49, 46, 49, 32, 47, 32, 72, 111, 115, 116, 58, 32, 104, 32, 47, 32, 32, 47, 32, 120, 121], AV.str [71, 69, 84], AV.str [47, 97], AV.str [], AV.int IntKind.i64 28, AV.int IntKind.i64 0] = [AV.str s1, AV.str m2, AV.str t3, AV.str b4, AV.int IntKind.i64 u5, AV.int IntKind.i64 w6] ∧ ifP (asksB s1 m2 t3 b4 u5 w6) (∃ (s7 : List UInt8) (m8 : List UInt8) (t9 : List UInt8) (b10 : List UInt8) (u11 : Int) (w12 : Int), okLn s7 = true ∧ [AV.str [80, 79, 83, 84, 32, 47, 98, 32, 72, 84, 84, 80, 47, 49, 46, 49, 32, 47, 32, 67, 111, 110, 116, 101, 110, 116, 45, 76, 101, 110, 103, 116, 104, 58, 32, 50, 32, 47, 32, 32, 47, 32, 97], AV.str [], AV.str [], AV.str [], AV.int IntKind.i64 0, AV.int IntKind.i64 6] = [AV.str s7, AV.str m8, AV.str t9, AV.str b10, AV.int IntKind.i64 u11, AV.int IntKind.i64 w12] ∧ AV.bool (asksB s7 m8 t9 b10 u11 w12) = v) (AV.bool false = v)) : ToEnd cfg 10 (bodyOf Tryz.f10) (RetIs Tryz.prog Tryz.f10 v) ([.code []]) .normal ([]) ([]) := by
  exact unr_ok (pl := ⟨[], []⟩) hT 100000 _ _ _ _ (unr_use H (by kernel_rfl))

theorem t3 {v : AV} {s : List UInt8} {hd : Bool} (hT : TabOk cfg (ctab [(11, reqMC), (12, reqRC), (13, repMC), (14, repRC), (15, sameReqC), (16, sameRepC), (10, Ai.trueC)])) (H : ifP (decide ((↑(List.length s) : Int) > 12000)) (true = true ∧ AV.bool true = v) (∃ (s1 : List UInt8), List.length s1 ≤ 10000000 ∧ [AV.str s] = [AV.str s1] ∧ ∃ (s2 : List UInt8), List.length s2 ≤ 10000000 ∧ okR s2 ∧ [AV.str s] = [AV.str s2] ∧ ∃ (s3 : List UInt8) (hd4 : Bool), List.length s3 ≤ 10000000 ∧ [AV.str s, AV.bool hd] = [AV.str s3, AV.bool hd4] ∧ ∃ (s5 : List UInt8) (hd6 : Bool), List.length s5 ≤ 10000000 ∧ okT s5 hd6 ∧ [AV.str s, AV.bool hd] = [AV.str s5, AV.bool hd6] ∧ ∃ (a7 : Req) (b8 : Req) (sz9 : Nat) (sy10 : Nat), List.length (Req.fs a7) ≤ 10000000 ∧ szOk sz9 2 (List.length (Req.fs a7)) ∧ szOk sy10 2 (List.length (Req.fs b8)) ∧ [AV.agg [AV.str (Req.m (Prod.fst (reqM s1))), AV.str (Req.t (Prod.fst (reqM s1))), AV.int IntKind.i64 (Req.mi (Prod.fst (reqM s1))), AV.sl 2 (stripss 0 [] (encFs (Req.fs (Prod.fst (reqM s1))))) none, AV.str (Req.b (Prod.fst (reqM s1)))], AV.agg [AV.str (Req.m (Prod.fst (reqM s2))), AV.str (Req.t (Prod.fst (reqM s2))), AV.int IntKind.i64 (Req.mi (Prod.fst (reqM s2))), AV.sl 2 (stripss 0 [] (encFs (Req.fs (Prod.fst (reqM s2))))) none, AV.str (Req.b (Prod.fst (reqM s2)))]] = [AV.agg [AV.str (Req.m a7), AV.str (Req.t a7), AV.int IntKind.i64 (Req.mi a7), AV.sl sz9 (encFs (Req.fs a7)) none, AV.str (Req.b a7)], AV.agg [AV.str (Req.m b8), AV.str (Req.t b8), AV.int IntKind.i64 (Req.mi b8), AV.sl sy10 (encFs (Req.fs b8)) none, AV.str (Req.b b8)]] ∧ ifP (sameReq a7 b8) (ifP ((↑(Prod.fst (Prod.snd (reqM s1))) : Int) == (↑(Prod.fst (Prod.snd (reqM s2))) : Int)) (ifP (Prod.snd (Prod.snd (reqM s1)) == Prod.snd (Prod.snd (reqM s2))) (∃ (a11 : Rep) (b12 : Rep) (sz13 : Nat) (sy14 : Nat), List.length (Rep.fs a11) ≤ 10000000 ∧ szOk sz13 2 (List.length (Rep.fs a11)) ∧ szOk sy14 2 (List.length (Rep.fs b12)) ∧ [AV.agg [AV.int IntKind.i64 (Rep.st (Prod.fst (repM s3 hd4))), AV.str (Rep.rs (Prod.fst (repM s3 hd4))), AV.int IntKind.i64 (Rep.mi (Prod.fst (repM s3 hd4))), AV.sl 2 (stripss 0 [] (encFs (Rep.fs (Prod.fst (repM s3 hd4))))) none, AV.str (Rep.b (Prod.fst (repM s3 hd4)))], AV.agg [AV.int IntKind.i64 (Rep.st (Prod.fst (repM s5 hd6))), AV.str (Rep.rs (Prod.fst (repM s5 hd6))), AV.int IntKind.i64 (Rep.mi (Prod.fst (repM s5 hd6))), AV.sl 2 (stripss 0 [] (encFs (Rep.fs (Prod.fst (repM s5 hd6))))) none, AV.str (Rep.b (Prod.fst (repM s5 hd6)))]] = [AV.agg [AV.int IntKind.i64 (Rep.st a11), AV.str (Rep.rs a11), AV.int IntKind.i64 (Rep.mi a11), AV.sl sz13 (encFs (Rep.fs a11)) none, AV.str (Rep.b a11)], AV.agg [AV.int IntKind.i64 (Rep.st b12), AV.str (Rep.rs b12), AV.int IntKind.i64 (Rep.mi b12), AV.sl sy14 (encFs (Rep.fs b12)) none, AV.str (Rep.b b12)]] ∧ ifP (sameRep a11 b12) (ifP ((↑(Prod.fst (Prod.snd (repM s3 hd4))) : Int) == (↑(Prod.fst (Prod.snd (repM s5 hd6))) : Int)) (ifP (Prod.snd (Prod.snd (repM s3 hd4)) == Prod.snd (Prod.snd (repM s5 hd6))) (true = true ∧ AV.bool true = v) (AV.bool false = v)) (AV.bool false = v)) (AV.bool false = v)) (AV.bool false = v)) (AV.bool false = v)) (AV.bool false = v))) : ToEnd cfg 3 (bodyOf Tryz.f3) (RetIs Tryz.prog Tryz.f3 v) ([.code []]) .normal ([(0, true, .str s), (1, true, .bool hd)]) ([]) := by
  exact unr_ok (pl := ⟨[], []⟩) hT 100000 _ _ _ _ (unr_use H (by kernel_rfl))

end Go.Proofs.YtnncfdlpogjlkaaGreatDoor
end

section
namespace Go.Proofs.YtnncfdlpogjlkaaGreatDoor
open Go.Ai Go
set_option maxRecDepth 100000
set_option linter.unusedVariables false
end Go.Proofs.YtnncfdlpogjlkaaGreatDoor
end

section
namespace Go.Proofs.YtnncfdlpogjlkaaGreatDoor
open Go.Ai Go
set_option linter.unusedSimpArgs false
set_option linter.unusedVariables false
set_option linter.unnecessarySimpa false
set_option maxRecDepth 100000

theorem pf15 : pureFn cfg 15 Tryz.f15 := ⟨by kernel_rfl, by kernel_rfl, by kernel_rfl, by kernel_rfl, by kernel_rfl, by kernel_rfl⟩
theorem pf16 : pureFn cfg 16 Tryz.f16 := ⟨by kernel_rfl, by kernel_rfl, by kernel_rfl, by kernel_rfl, by kernel_rfl, by kernel_rfl⟩
theorem pf26 : pureFn cfg 26 Tryz.f26 := ⟨by kernel_rfl, by kernel_rfl, by kernel_rfl, by kernel_rfl, by kernel_rfl, by kernel_rfl⟩
theorem pf24 : pureFn cfg 24 Tryz.f24 := ⟨by kernel_rfl, by kernel_rfl, by kernel_rfl, by kernel_rfl, by kernel_rfl, by kernel_rfl⟩
theorem pf10 : pureFn cfg 10 Tryz.f10 := ⟨by kernel_rfl, by kernel_rfl, by kernel_rfl, by kernel_rfl, by kernel_rfl, by kernel_rfl⟩
theorem pf3 : pureFn cfg 3 Tryz.f3 := ⟨by kernel_rfl, by kernel_rfl, by kernel_rfl, by kernel_rfl, by kernel_rfl, by kernel_rfl⟩
theorem c15 : COk cfg 15 sameReqC := by
  refine cok_pure pf15 fun vs h K ht => ?_
  obtain ⟨a, b, sz, sy, hl, h0, h1, rfl, hk⟩ := ht
  refine ⟨_, hk, t15 (ctab_ok (ctab_cons c52 ctab_nil)) (ifP_intro (fun x => ifP_intro (fun y => ifP_intro (fun z => ifP_intro (fun w => ⟨a.fs, b.fs, sz, sy, hl, h0, h1, by rw [stripss_encFs, stripss_encFs], ?_⟩) fun w => ?_) fun z => ?_) fun y => ?_) fun x => ?_)⟩
  · simp only [sameReq, x, y, z, w, Bool.true_and]
  · simp only [sameReq, x, y, z, w, Bool.true_and, Bool.false_and]
  · simp only [sameReq, x, y, z, Bool.true_and, Bool.false_and]
  · simp only [sameReq, x, y, Bool.true_and, Bool.false_and]
  · simp only [sameReq, x, Bool.false_and]
theorem c16 : COk cfg 16 sameRepC := by
  refine cok_pure pf16 fun vs h K ht => ?_
  obtain ⟨a, b, sz, sy, hl, h0, h1, rfl, hk⟩ := ht
  refine ⟨_, hk, t16 (ctab_ok (ctab_cons c52 ctab_nil)) (ifP_intro (fun x => ifP_intro (fun y => ifP_intro (fun z => ifP_intro (fun w => ⟨a.fs, b.fs, sz, sy, hl, h0, h1, by rw [stripss_encFs, stripss_encFs], ?_⟩) fun w => ?_) fun z => ?_) fun y => ?_) fun x => ?_)⟩
  · simp only [sameRep, x, y, z, w, Bool.true_and]
  · simp only [sameRep, x, y, z, w, Bool.true_and, Bool.false_and]
  · simp only [sameRep, x, y, z, Bool.true_and, Bool.false_and]
  · simp only [sameRep, x, y, Bool.true_and, Bool.false_and]
  · simp only [sameRep, x, Bool.false_and]
theorem sameReq_refl (a : Req) : sameReq a a = true := by simp [sameReq, sameFs_refl]
theorem sameRep_refl (a : Rep) : sameRep a a = true := by simp [sameRep, sameFs_refl]

theorem c68 : COk cfg 68 replC := by
  refine cok_prim (by kernel_rfl) (by kernel_rfl) (by kernel_rfl : cfg.prim 68 = some pReplaceAll) (by kernel_rfl) fun vs h K ht => ?_
  obtain ⟨s, o, n, hb, rfl, hk⟩ := ht
  refine ⟨.str (replS s o n), hk, ?_⟩
  simp only [pReplaceAll, hb]
theorem c26 : COk cfg 26 linesC := by
  refine cok_pure pf26 fun vs h K ht => ?_
  obtain ⟨s, hb, rfl, hk⟩ := ht
  simp only [okLn, Bool.and_eq_true] at hb
  obtain ⟨h0, h1, h2⟩ := hb
  have h0 := Nat.le_of_ble_eq_true h0
  have h1 := Nat.le_of_ble_eq_true h1
  refine ⟨_, hk, t26 (ctab_ok (ctab_cons c68 ctab_nil)) ⟨s, [32, 47, 32], [13, 10], ?_, rfl, rfl⟩⟩
  simp only [Bool.and_eq_true]
  exact ⟨⟨Nat.ble_eq_true_of_le (by omega), by decide⟩, Nat.ble_eq_true_of_le (by simp only [List.length_cons, List.length_nil]; omega)⟩
theorem c24 : COk cfg 24 asksC := by
  refine cok_pure pf24 fun vs h K ht => ?_
  obtain ⟨s, m, t, b, u, w, hb, rfl, hk⟩ := ht
  have hb2 := hb
  simp only [okLn, Bool.and_eq_true] at hb2
  have h2 := Nat.le_of_ble_eq_true hb2.2.2
  refine ⟨_, hk, t24 (ctab_ok (ctab_cons c26 (ctab_cons c11 ctab_nil))) ⟨s, hb, rfl, lnS s, by omega, rfl, ?_⟩⟩
  unfold asksB
  refine ifP_intro (fun x => ifP_intro (fun y => ifP_intro (fun z => ifP_intro (fun q => ?_) fun q => ?_) fun z => ?_) fun y => ?_) fun x => ?_
  · simp only [x, y, z, q, Bool.true_and]
  · simp only [x, y, z, q, Bool.true_and, Bool.false_and]
  · simp only [x, y, z, Bool.true_and, Bool.false_and]
  · simp only [x, y, Bool.true_and, Bool.false_and]
  · simp only [x, Bool.false_and]
theorem c10 : COk cfg 10 Ai.trueC := by
  refine cok_pure pf10 fun vs h K ht => ?_
  obtain ⟨hv, hk⟩ := ht
  obtain rfl : vs = [] := by cases vs with | nil => rfl | cons => cases hv
  refine ⟨_, hk, t10 (ctab_ok (ctab_cons c24 ctab_nil)) ⟨_, _, _, _, _, _, ?_, rfl, ?_⟩⟩
  · kernel_rfl
  · rw [show asksB [71, 69, 84, 32, 47, 97, 32, 72, 84, 84, 80, 47, 49, 46, 49, 32, 47, 32, 72, 111, 115, 116, 58, 32, 104, 32, 47, 32, 32, 47, 32, 120, 121] [71, 69, 84] [47, 97] [] 28 0 = true by kernel_rfl]
    refine ⟨_, _, _, _, _, _, ?_, rfl, ?_⟩
    · kernel_rfl
    · rw [show asksB [80, 79, 83, 84, 32, 47, 98, 32, 72, 84, 84, 80, 47, 49, 46, 49, 32, 47, 32, 67, 111, 110, 116, 101, 110, 116, 45, 76, 101, 110, 103, 116, 104, 58, 32, 50, 32, 47, 32, 32, 47, 32, 97] [] [] [] 0 6 = true by kernel_rfl]

theorem reqM_fs (s : List UInt8) : (reqM s).1.fs.length ≤ 10000000 := by
  have h := (parseF_mem (headM s).lines).2
  have hn : noReq.fs.length = 0 := rfl
  unfold reqM
  repeat' split
  all_goals simp only
  all_goals omega
theorem repM_fs (s : List UInt8) (hd : Bool) : (repM s hd).1.fs.length ≤ 10000000 := by
  have h := (parseF_mem (headM s).lines).2
  have hn : noRep.fs.length = 0 := rfl
  unfold repM
  repeat' split
  all_goals simp only
  all_goals omega
theorem tabR10 : TabOk cfg (ctab [(11, reqMC), (12, reqRC), (13, repMC), (14, repRC), (15, sameReqC), (16, sameRepC), (10, Ai.trueC)]) :=
  ctab_ok (ctab_cons c11 (ctab_cons c12 (ctab_cons c13 (ctab_cons c14 (ctab_cons c15 (ctab_cons c16 (ctab_cons c10 ctab_nil)))))))
theorem c3 : COk cfg 3 readsLC := by
  refine cok_pure pf3 fun vs h K ht => ?_
  obtain ⟨s, hd, rfl, hk⟩ := ht
  refine ⟨_, hk, t3 tabR10 (ifP_intro (fun _ => ⟨rfl, rfl⟩) fun c => ?_)⟩
  have hs : s.length ≤ 12000 := by simp at c; omega
  refine ⟨s, by omega, rfl, s, by omega, .inl (by omega), rfl, s, hd, by omega, rfl, s, hd, by omega, .inl (by omega), rfl, (reqM s).1, (reqM s).1, 2, 2, reqM_fs s, .inl rfl, .inl rfl, by rw [stripss_encFs], ?_⟩
  rw [sameReq_refl]
  refine ifP_intro (fun _ => ifP_intro (fun _ => ifP_intro (fun _ => ⟨(repM s hd).1, (repM s hd).1, 2, 2, repM_fs s hd, .inl rfl, .inl rfl, by rw [stripss_encFs], ?_⟩) fun a => by simp at a) fun a => by simp at a) fun a => by simp at a
  rw [sameRep_refl]
  exact ifP_intro (fun _ => ifP_intro (fun _ => ifP_intro (fun _ => ⟨rfl, rfl⟩) fun a => by simp at a) fun a => by simp at a) fun a => by simp at a

end Go.Proofs.YtnncfdlpogjlkaaGreatDoor
end

section
namespace Go.Proofs.YtnncfdlpogjlkaaGreatDoor
open Go.Ai Go
set_option maxRecDepth 100000
set_option linter.unusedVariables false
end Go.Proofs.YtnncfdlpogjlkaaGreatDoor
end

section
namespace Go.Proofs.YtnncfdlpogjlkaaGreatDoor
open Go.Ai Go
set_option linter.unusedSimpArgs false
set_option linter.unusedVariables false
set_option linter.unnecessarySimpa false
set_option maxRecDepth 100000

end Go.Proofs.YtnncfdlpogjlkaaGreatDoor
end

section
namespace Go.Proofs.YtnncfdlpogjlkaaGreatDoor
open Go.Ai Go
set_option maxRecDepth 100000
set_option linter.unusedVariables false
end Go.Proofs.YtnncfdlpogjlkaaGreatDoor
end

section
namespace Go.Proofs.YtnncfdlpogjlkaaGreatDoor
open Go.Ai Go
set_option linter.unusedSimpArgs false
set_option linter.unusedVariables false
set_option linter.unnecessarySimpa false
set_option maxRecDepth 100000

theorem HeadIs.size {s st b : List UInt8} {o : List Fld} (h : HeadIs s st o b) : s.length ≤ 8192 + b.length := by
  have := congrArg List.length h.eq
  rw [List.length_append (bs := b)] at this
  have := h.short
  omega

end Go.Proofs.YtnncfdlpogjlkaaGreatDoor
end
