/-
  Runs of the statements' own functions, printed by a home tool; each is the kernel's word.
  Runs of functions of messages, printed by a home tool; each is the kernel's word.
  The statements' own functions about messages: fields left out, whether messages are the same, what is asked; they keep to their contracts.
  The statement with the chapter's examples, and that with bodies of many bytes: their contracts.
  The statements about messages that put and read again: their contracts.
-/
import Derived.Test.YtnncfdlpogjlkaaGreatDoorACfg
import Derived.Test.YtnncfdlpogjlkaaGreatDoorAJZa
import Derived.Test.YtnncfdlpogjlkaaGreatDoorAJZf
section
namespace Go.Proofs.YtnncfdlpogjlkaaGreatDoor
open Go.Ai Go
set_option maxRecDepth 100000
set_option linter.unusedVariables false
theorem t15 {v : AV} {m1 t1 b1 : List UInt8} {mi1 : Int} {e1 : List (List AV)} {sz1 : Nat} {m2 t2 b2 : List UInt8} {mi2 : Int} {e2 : List (List AV)} {sz2 : Nat}  (hT : TabOk cfg (ctab [(52, sameFsC)])) (H : ifP (m1 == m2) (ifP (t1 == t2) (ifP (mi1 == mi2) (ifP (b1 == b2) (∃ (a1 : List Fld) (b2 : List Fld) (sz3 : Nat) (sy4 : Nat), List.length a1 ≤ 10000000 ∧ szOk sz3 2 (List.length a1) ∧ szOk sy4 2 (List.length b2) ∧ [AV.sl sz1 (stripss 0 [] e1) none, AV.sl sz2 (stripss 0 [] e2) none] = [AV.sl sz3 (encFs a1) none, AV.sl sy4 (encFs b2) none] ∧ AV.bool (sameFs a1 b2) = v) (AV.bool false = v)) (AV.bool false = v)) (AV.bool false = v)) (AV.bool false = v)) : ToEnd cfg 15 (bodyOf Tryz.f15) (RetIs Tryz.prog Tryz.f15 v) ([.code []]) .normal ([(0, true, .agg [.str m1, .str t1, .int .i64 mi1, .sl sz1 e1 none, .str b1]), (1, true, .agg [.str m2, .str t2, .int .i64 mi2, .sl sz2 e2 none, .str b2])]) ([]) := by
  exact unr_ok (pl := ⟨[], []⟩) hT 100000 _ _ _ _ (unr_use H (by kernel_rfl))

theorem t16 {v : AV} {t1 b1 : List UInt8} {st1 mi1 : Int} {e1 : List (List AV)} {sz1 : Nat} {t2 b2 : List UInt8} {st2 mi2 : Int} {e2 : List (List AV)} {sz2 : Nat}  (hT : TabOk cfg (ctab [(52, sameFsC)])) (H : ifP (st1 == st2) (ifP (t1 == t2) (ifP (mi1 == mi2) (ifP (b1 == b2) (∃ (a1 : List Fld) (b2 : List Fld) (sz3 : Nat) (sy4 : Nat), List.length a1 ≤ 10000000 ∧ szOk sz3 2 (List.length a1) ∧ szOk sy4 2 (List.length b2) ∧ [AV.sl sz1 (stripss 0 [] e1) none, AV.sl sz2 (stripss 0 [] e2) none] = [AV.sl sz3 (encFs a1) none, AV.sl sy4 (encFs b2) none] ∧ AV.bool (sameFs a1 b2) = v) (AV.bool false = v)) (AV.bool false = v)) (AV.bool false = v)) (AV.bool false = v)) : ToEnd cfg 16 (bodyOf Tryz.f16) (RetIs Tryz.prog Tryz.f16 v) ([.code []]) .normal ([(0, true, .agg [.int .i64 st1, .str t1, .int .i64 mi1, .sl sz1 e1 none, .str b1]), (1, true, .agg [.int .i64 st2, .str t2, .int .i64 mi2, .sl sz2 e2 none, .str b2])]) ([]) := by
  exact unr_ok (pl := ⟨[], []⟩) hT 100000 _ _ _ _ (unr_use H (by kernel_rfl))

theorem t17a {v : AV} {e : List (List AV)} {sz : Nat} {b : List UInt8} (hT : TabOk cfg (ctab [])) (H : ifP (decide ((↑(List.length e) : Int) > 80)) (AV.bool false = v) (ifP (decide ((↑(List.length b) : Int) > 3000)) (AV.bool false = v) (ToEnd cfg 17 (bodyOf Tryz.f17) (RetIs Tryz.prog Tryz.f17 v) [Fm.code [0, 1, 0, 1, 1, 1], Fm.block 0, Fm.code [1, 1, 1, 1]] XT.normal [(0, true, AV.sl sz e none), (5, true, AV.int IntKind.i64 12000), (6, true, AV.int IntKind.i64 0)] []))) : ToEnd cfg 17 (bodyOf Tryz.f17) (RetIs Tryz.prog Tryz.f17 v) ([.code []]) .normal ([(0, true, .sl sz e none), (1, true, .str b)]) ([]) := by
  exact unr_ok (pl := ⟨[[0, 1, 0, 1, 1, 1]], [([0, 0, 0, 0, 1, 0, 0, 1, 0, 1, 1, 1], 2, [.str, .str]), ([0, 0, 0, 0, 1, 0, 0, 1, 0, 1, 1, 1], 11, [.str, .str]), ([0, 0, 0, 0, 1, 0, 0, 1, 0, 1, 1, 1], 18, [.str, .str]), ([1, 0, 0, 1, 0, 0, 1, 0, 1, 1, 1], 3, [.str, .str]), ([1, 0, 0, 1, 0, 0, 1, 0, 1, 1, 1], 10, [.str, .str])]⟩) hT 100000 _ _ _ _ (unr_use H (by kernel_rfl))

theorem t17b {v : AV} {e : List (List AV)} {sz : Nat}  {i5 : Int} {i6 : Int} (hT : TabOk cfg (ctab [])) (H : ifP (decide (i6 < (↑(List.length e) : Int))) (gAnd (inR i6 (List.length e) && Nat.beq sz 2 && Nat.ble 1 sz) (∃ (s1 : List UInt8) (s2 : List UInt8), getE e i6 = [AV.str s1, AV.str s2] ∧ ifP (decide ((↑(List.length s1) : Int) > i5)) (AV.bool false = v) (gAnd (inR i6 (List.length e) && Nat.beq sz 2 && Nat.ble 1 sz) (∃ (s3 : List UInt8) (s4 : List UInt8), getE e i6 = [AV.str s3, AV.str s4] ∧ gAnd (inR i6 (List.length e) && Nat.beq sz 2 && Nat.ble 1 sz) (∃ (s5 : List UInt8) (s6 : List UInt8), getE e i6 = [AV.str s5, AV.str s6] ∧ ifP (decide ((↑(List.length s4) : Int) > IntKind.wrap IntKind.i64 (i5 - (↑(List.length s5) : Int)))) (AV.bool false = v) (gAnd (inR i6 (List.length e) && Nat.beq sz 2 && Nat.ble 1 sz) (∃ (s7 : List UInt8) (s8 : List UInt8), getE e i6 = [AV.str s7, AV.str s8] ∧ gAnd (inR i6 (List.length e) && Nat.beq sz 2 && Nat.ble 1 sz) (∃ (s9 : List UInt8) (s10 : List UInt8), getE e i6 = [AV.str s9, AV.str s10] ∧ ToEnd cfg 17 (bodyOf Tryz.f17) (RetIs Tryz.prog Tryz.f17 v) [Fm.code [0, 1, 0, 1, 1, 1], Fm.block 0, Fm.code [1, 1, 1, 1]] XT.normal [(0, true, AV.sl sz e none), (5, true, AV.int IntKind.i64 (IntKind.wrap IntKind.i64 (IntKind.wrap IntKind.i64 (i5 - (↑(List.length s7) : Int)) - (↑(List.length s10) : Int)))), (6, true, AV.int IntKind.i64 (IntKind.wrap IntKind.i64 (i6 + 1)))] [])))))))) (AV.bool true = v)) : ToEnd cfg 17 (bodyOf Tryz.f17) (RetIs Tryz.prog Tryz.f17 v) ([.code [0, 1, 0, 1, 1, 1], Fm.block 0, Fm.code [1, 1, 1, 1]]) .normal ([(0, true, AV.sl sz e none), (5, true, AV.int IntKind.i64 i5), (6, true, AV.int IntKind.i64 i6)]) ([]) := by
  exact ends_round (pl := ⟨[[0, 1, 0, 1, 1, 1]], [([0, 0, 0, 0, 1, 0, 0, 1, 0, 1, 1, 1], 2, [.str, .str]), ([0, 0, 0, 0, 1, 0, 0, 1, 0, 1, 1, 1], 11, [.str, .str]), ([0, 0, 0, 0, 1, 0, 0, 1, 0, 1, 1, 1], 18, [.str, .str]), ([1, 0, 0, 1, 0, 0, 1, 0, 1, 1, 1], 3, [.str, .str]), ([1, 0, 0, 1, 0, 0, 1, 0, 1, 1, 1], 10, [.str, .str])]⟩) hT 100000 (by kernel_rfl) (unr_use H (by kernel_rfl))

theorem t23 {v : AV} {e : List (List AV)} {sz : Nat} (hT : TabOk cfg (ctab [(61, delCx)])) (H : ∃ (f01 : Nat) (g02 : Nat) (sz3 : Nat) (l4 : List Fld), [Blk.grow 0 2 63, Blk.grow 2 1 9] = [Blk.grow f01 2 63, Blk.grow g02 1 9] ∧ okPs l4 ∧ szOk sz3 2 (List.length l4) ∧ [AV.sl sz e none, AV.sl 1 [[AV.str [99, 111, 110, 116, 101, 110, 116, 45, 108, 101, 110, 103, 116, 104]], [AV.str [116, 114, 97, 110, 115, 102, 101, 114, 45, 101, 110, 99, 111, 100, 105, 110, 103]]] (some 1)] = [AV.sl sz3 (encFs l4) none, AV.sl 1 [[AV.str [99, 111, 110, 116, 101, 110, 116, 45, 108, 101, 110, 103, 116, 104]], [AV.str [116, 114, 97, 110, 115, 102, 101, 114, 45, 101, 110, 99, 111, 100, 105, 110, 103]]] (some 1)] ∧ AV.sl 2 (stripss 0 [Blk.grow f01 2 63, Blk.grow g02 1 9, Blk.mem 51 [AV.sl 1 [[AV.str [99, 111, 110, 116, 101, 110, 116, 45, 108, 101, 110, 103, 116, 104]], [AV.str [116, 114, 97, 110, 115, 102, 101, 114, 45, 101, 110, 99, 111, 100, 105, 110, 103]]] (some 1)], Blk.grow 0 2 63, Blk.grow (List.length (delF l4)) 2 63] (encFs (delF l4))) none = v) : ToEnd cfg 23 (bodyOf Tryz.f23) (RetIs Tryz.prog Tryz.f23 v) ([.code []]) .normal ([(0, true, .sl sz e none)]) ([]) := by
  exact unr_ok (pl := ⟨[], []⟩) hT 100000 _ _ _ _ (unr_use H (by kernel_rfl))

theorem t26 {v : AV} {s : List UInt8} (hT : TabOk cfg (ctab [(68, replC)])) (H : ∃ (s1 : List UInt8) (o2 : List UInt8) (n3 : List UInt8), (Nat.blt (List.length s1) 4294967281 && Nat.ble 1 (List.length o2) && Nat.ble (List.length s1 + cntS s1 o2 * List.length n3) 140737488355328) = true ∧ [AV.str s, AV.str [32, 47, 32], AV.str [13, 10]] = [AV.str s1, AV.str o2, AV.str n3] ∧ AV.str (replS s1 o2 n3) = v) : ToEnd cfg 26 (bodyOf Tryz.f26) (RetIs Tryz.prog Tryz.f26 v) ([.code []]) .normal ([(0, true, .str s)]) ([]) := by
  exact unr_ok (pl := ⟨[], []⟩) hT 100000 _ _ _ _ (unr_use H (by kernel_rfl))

theorem t24 {v : AV} {s m t b : List UInt8} {u w : Int} (hT : TabOk cfg (ctab [(26, linesC), (11, reqMC)])) (H : ∃ (s1 : List UInt8), okLn s1 = true ∧ [AV.str s] = [AV.str s1] ∧ ∃ (s2 : List UInt8), List.length s2 ≤ 10000000 ∧ [AV.str (lnS s1)] = [AV.str s2] ∧ ifP (Req.m (Prod.fst (reqM s2)) == m) (ifP (Req.t (Prod.fst (reqM s2)) == t) (ifP (Req.b (Prod.fst (reqM s2)) == b) (ifP ((↑(Prod.fst (Prod.snd (reqM s2))) : Int) == u) (AV.bool (Prod.snd (Prod.snd (reqM s2)) == w) = v) (AV.bool false = v)) (AV.bool false = v)) (AV.bool false = v)) (AV.bool false = v)) : ToEnd cfg 24 (bodyOf Tryz.f24) (RetIs Tryz.prog Tryz.f24 v) ([.code []]) .normal ([(0, true, .str s), (1, true, .str m), (2, true, .str t), (3, true, .str b), (4, true, .int .i64 u), (5, true, .int .i64 w)]) ([]) := by
  exact unr_ok (pl := ⟨[], []⟩) hT 100000 _ _ _ _ (unr_use H (by kernel_rfl))

theorem t10 {v : AV}  (hT : TabOk cfg (ctab [(24, asksC)])) (H : ∃ (s1 : List UInt8) (m2 : List UInt8) (t3 : List UInt8) (b4 : List UInt8) (u5 : Int) (w6 : Int), okLn s1 = true ∧ [AV.str [71, 69, 84, 32, 47, 97, 32, 72, 84, 84, 80, 47, 49, 46, 49, 32, 47, 32, 72, 111, 115, 116, 58, 32, 104, 32, 47, 32, 32, 47, 32, 120, 121], AV.str [71, 69, 84], AV.str [47, 97], AV.str [], AV.int IntKind.i64 28, AV.int IntKind.i64 0] = [AV.str s1, AV.str m2, AV.str t3, AV.str b4, AV.int IntKind.i64 u5, AV.int IntKind.i64 w6] ∧ ifP (asksB s1 m2 t3 b4 u5 w6) (∃ (s7 : List UInt8) (m8 : List UInt8) (t9 : List UInt8) (b10 : List UInt8) (u11 : Int) (w12 : Int), okLn s7 = true ∧ [AV.str [80, 79, 83, 84, 32, 47, 98, 32, 72, 84, 84, 80, 47, 49, 46, 49, 32, 47, 32, 67, 111, 110, 116, 101, 110, 116, 45, 76, 101, 110, 103, 116, 104, 58, 32, 50, 32, 47, 32, 32, 47, 32, 97], AV.str [], AV.str [], AV.str [], AV.int IntKind.i64 0, AV.int IntKind.i64 6] = [AV.str s7, AV.str m8, AV.str t9, AV.str b10, AV.int IntKind.i64 u11, AV.int IntKind.i64 w12] ∧ AV.bool (asksB s7 m8 t9 b10 u11 w12) = v) (AV.bool false = v)) : ToEnd cfg 10 (bodyOf Tryz.f10) (RetIs Tryz.prog Tryz.f10 v) ([.code []]) .normal ([]) ([]) := by
  exact unr_ok (pl := ⟨[], []⟩) hT 100000 _ _ _ _ (unr_use H (by kernel_rfl))

theorem t5 {v : AV} {m t b : List UInt8} {mi : Int} {e : List (List AV)} {sz : Nat}  (hT : TabOk cfg (ctab [(17, fewMC), (20, putReqMC), (21, putReqMC), (18, putRepMC), (19, putRepMC), (10, Ai.trueC)])) (H : ∃ (l1 : List Fld) (b2 : List UInt8) (sz3 : Nat), szOk sz3 2 (List.length l1) ∧ (∀ (f4 : Fld), f4 ∈ l1 → (↑(List.length (Fld.name f4)) : Int) ≤ 9223372036854775807) ∧ [AV.sl sz (stripss 0 [] e) none, AV.str b] = [AV.sl sz3 (encFs l1) none, AV.str b2] ∧ ifP (!fewM l1 b2) (true = true ∧ AV.bool true = v) (ifP (decide ((↑(List.length m) : Int) > 3000)) (true = true ∧ AV.bool true = v) (ifP (decide ((↑(List.length t) : Int) > 3000)) (true = true ∧ AV.bool true = v) (∃ (r6 : Req) (sz7 : Nat), okReq r6 ∧ szOk sz7 2 (List.length (Req.fs r6)) ∧ [AV.agg [AV.str m, AV.str t, AV.int IntKind.i64 mi, AV.sl sz (stripss 0 [] e) none, AV.str b]] = [AV.agg [AV.str (Req.m r6), AV.str (Req.t r6), AV.int IntKind.i64 (Req.mi r6), AV.sl sz7 (encFs (Req.fs r6)) none, AV.str (Req.b r6)]] ∧ ∃ (r10 : Req) (sz11 : Nat), okReq r10 ∧ szOk sz11 2 (List.length (Req.fs r10)) ∧ [AV.agg [AV.str m, AV.str t, AV.int IntKind.i64 mi, AV.sl sz (stripss 0 [] e) none, AV.str b]] = [AV.agg [AV.str (Req.m r10), AV.str (Req.t r10), AV.int IntKind.i64 (Req.mi r10), AV.sl sz11 (encFs (Req.fs r10)) none, AV.str (Req.b r10)]] ∧ ifP (Prod.fst (putReqM r6) == Prod.fst (putReqM r10)) (ifP (Prod.snd (putReqM r6) == Prod.snd (putReqM r10)) (true = true ∧ AV.bool true = v) (AV.bool false = v)) (AV.bool false = v))))) : ToEnd cfg 5 (bodyOf Tryz.f5) (RetIs Tryz.prog Tryz.f5 v) ([.code []]) .normal ([(0, true, .agg [.str m, .str t, .int .i64 mi, .sl sz e none, .str b])]) ([]) := by
  exact unr_ok (pl := ⟨[], []⟩) hT 100000 _ _ _ _ (unr_use H (by kernel_rfl))

theorem t4 {v : AV} {t b : List UInt8} {st mi : Int} {e : List (List AV)} {sz : Nat} {hd : Bool} (hT : TabOk cfg (ctab [(17, fewMC), (20, putReqMC), (21, putReqMC), (18, putRepMC), (19, putRepMC), (10, Ai.trueC)])) (H : ∃ (l1 : List Fld) (b2 : List UInt8) (sz3 : Nat), szOk sz3 2 (List.length l1) ∧ (∀ (f4 : Fld), f4 ∈ l1 → (↑(List.length (Fld.name f4)) : Int) ≤ 9223372036854775807) ∧ [AV.sl sz (stripss 0 [] e) none, AV.str b] = [AV.sl sz3 (encFs l1) none, AV.str b2] ∧ ifP (!fewM l1 b2) (true = true ∧ AV.bool true = v) (ifP (decide ((↑(List.length t) : Int) > 3000)) (true = true ∧ AV.bool true = v) (∃ (r6 : Rep) (sz7 : Nat) (hd8 : Bool), okRep r6 ∧ szOk sz7 2 (List.length (Rep.fs r6)) ∧ [AV.agg [AV.int IntKind.i64 st, AV.str t, AV.int IntKind.i64 mi, AV.sl sz (stripss 0 [] e) none, AV.str b], AV.bool hd] = [AV.agg [AV.int IntKind.i64 (Rep.st r6), AV.str (Rep.rs r6), AV.int IntKind.i64 (Rep.mi r6), AV.sl sz7 (encFs (Rep.fs r6)) none, AV.str (Rep.b r6)], AV.bool hd8] ∧ ∃ (r11 : Rep) (sz12 : Nat) (hd13 : Bool), okRep r11 ∧ szOk sz12 2 (List.length (Rep.fs r11)) ∧ [AV.agg [AV.int IntKind.i64 st, AV.str t, AV.int IntKind.i64 mi, AV.sl sz (stripss 0 [] e) none, AV.str b], AV.bool hd] = [AV.agg [AV.int IntKind.i64 (Rep.st r11), AV.str (Rep.rs r11), AV.int IntKind.i64 (Rep.mi r11), AV.sl sz12 (encFs (Rep.fs r11)) none, AV.str (Rep.b r11)], AV.bool hd13] ∧ ifP (Prod.fst (putRepM r6 hd8) == Prod.fst (putRepM r11 hd13)) (ifP (Prod.snd (putRepM r6 hd8) == Prod.snd (putRepM r11 hd13)) (true = true ∧ AV.bool true = v) (AV.bool false = v)) (AV.bool false = v)))) : ToEnd cfg 4 (bodyOf Tryz.f4) (RetIs Tryz.prog Tryz.f4 v) ([.code []]) .normal ([(0, true, .agg [.int .i64 st, .str t, .int .i64 mi, .sl sz e none, .str b]), (1, true, .bool hd)]) ([]) := by
  exact unr_ok (pl := ⟨[], []⟩) hT 100000 _ _ _ _ (unr_use H (by kernel_rfl))

end Go.Proofs.YtnncfdlpogjlkaaGreatDoor
end

section
namespace Go.Proofs.YtnncfdlpogjlkaaGreatDoor
open Go.Ai Go
set_option maxRecDepth 100000
set_option linter.unusedVariables false
theorem t104x {K : AV → Hp → Prop} {f0 g0 g2 g3 : Nat} {a b : List UInt8} {c d s : List UInt8} (hT : TabOk cfg (ctab [(105, likeC)])) (H : ∃ (a1 : List UInt8) (b2 : List UInt8), List.length a1 ≤ 10000000 ∧ List.length b2 ≤ 10000000 ∧ [AV.str s, AV.str c] = [AV.str a1, AV.str b2] ∧ K (AV.bool (lowS a1 == lowS b2)) [Blk.grow f0 2 63, Blk.grow g0 1 9, Blk.mem 51 [AV.sl 1 [[AV.str [99, 111, 110, 116, 101, 110, 116, 45, 108, 101, 110, 103, 116, 104]], [AV.str [116, 114, 97, 110, 115, 102, 101, 114, 45, 101, 110, 99, 111, 100, 105, 110, 103]]] (some 1)], Blk.grow g2 2 63, Blk.grow g3 2 63, Blk.mem 63 [AV.str a, AV.str b], Blk.mem 63 [AV.str c, AV.str d]]) : ToEnd cfg 104 (bodyOf Tryz.f104) (RetIn Tryz.prog Tryz.f104 7 K) ([.code []]) .normal ([(0, true, .str s), (1, true, .ptr 6 0)]) (d6x f0 g0 g2 g3 a b c d) := by
  exact unr_ok (pl := ⟨[], []⟩) hT 100000 _ _ _ _ (unr_use H (by kernel_rfl))

theorem t143x {K : AV → Hp → Prop} {f0 g0 g2 g3 : Nat} {a b : List UInt8} {c d : List UInt8} (hT : TabOk cfg (ctab [(104, nm1Cx)])) (H : ∃ (s1 : List UInt8), [AV.str [99, 111, 110, 116, 101, 110, 116, 45, 108, 101, 110, 103, 116, 104]] = [AV.str s1] ∧ ∃ (f02 : Nat) (g03 : Nat) (g24 : Nat) (g35 : Nat) (a6 : List UInt8) (b7 : List UInt8) (c8 : List UInt8) (d9 : List UInt8) (s10 : List UInt8), [Blk.grow f0 2 63, Blk.grow g0 1 9, Blk.mem 51 [AV.sl 1 [[AV.str [99, 111, 110, 116, 101, 110, 116, 45, 108, 101, 110, 103, 116, 104]], [AV.str [116, 114, 97, 110, 115, 102, 101, 114, 45, 101, 110, 99, 111, 100, 105, 110, 103]]] (some 1)], Blk.grow g2 2 63, Blk.grow g3 2 63, Blk.mem 63 [AV.str a, AV.str b], Blk.mem 63 [AV.str c, AV.str d]] = [Blk.grow f02 2 63, Blk.grow g03 1 9, Blk.mem 51 [AV.sl 1 [[AV.str [99, 111, 110, 116, 101, 110, 116, 45, 108, 101, 110, 103, 116, 104]], [AV.str [116, 114, 97, 110, 115, 102, 101, 114, 45, 101, 110, 99, 111, 100, 105, 110, 103]]] (some 1)], Blk.grow g24 2 63, Blk.grow g35 2 63, Blk.mem 63 [AV.str a6, AV.str b7], Blk.mem 63 [AV.str c8, AV.str d9]] ∧ List.length s10 ≤ 20000 ∧ List.length c8 ≤ 20000 ∧ [AV.str s1, AV.ptr 6 0] = [AV.str s10, AV.ptr 6 0] ∧ ifP (lowS s10 == lowS c8) (K (AV.int IntKind.i64 0) [Blk.grow f02 2 63, Blk.grow g03 1 9, Blk.mem 51 [AV.sl 1 [[AV.str [99, 111, 110, 116, 101, 110, 116, 45, 108, 101, 110, 103, 116, 104]], [AV.str [116, 114, 97, 110, 115, 102, 101, 114, 45, 101, 110, 99, 111, 100, 105, 110, 103]]] (some 1)], Blk.grow g24 2 63, Blk.grow g35 2 63, Blk.mem 63 [AV.str a6, AV.str b7], Blk.mem 63 [AV.str c8, AV.str d9]]) (∃ (s11 : List UInt8), [AV.str [116, 114, 97, 110, 115, 102, 101, 114, 45, 101, 110, 99, 111, 100, 105, 110, 103]] = [AV.str s11] ∧ ∃ (f012 : Nat) (g013 : Nat) (g214 : Nat) (g315 : Nat) (a16 : List UInt8) (b17 : List UInt8) (c18 : List UInt8) (d19 : List UInt8) (s20 : List UInt8), [Blk.grow f02 2 63, Blk.grow g03 1 9, Blk.mem 51 [AV.sl 1 [[AV.str [99, 111, 110, 116, 101, 110, 116, 45, 108, 101, 110, 103, 116, 104]], [AV.str [116, 114, 97, 110, 115, 102, 101, 114, 45, 101, 110, 99, 111, 100, 105, 110, 103]]] (some 1)], Blk.grow g24 2 63, Blk.grow g35 2 63, Blk.mem 63 [AV.str a6, AV.str b7], Blk.mem 63 [AV.str c8, AV.str d9]] = [Blk.grow f012 2 63, Blk.grow g013 1 9, Blk.mem 51 [AV.sl 1 [[AV.str [99, 111, 110, 116, 101, 110, 116, 45, 108, 101, 110, 103, 116, 104]], [AV.str [116, 114, 97, 110, 115, 102, 101, 114, 45, 101, 110, 99, 111, 100, 105, 110, 103]]] (some 1)], Blk.grow g214 2 63, Blk.grow g315 2 63, Blk.mem 63 [AV.str a16, AV.str b17], Blk.mem 63 [AV.str c18, AV.str d19]] ∧ List.length s20 ≤ 20000 ∧ List.length c18 ≤ 20000 ∧ [AV.str s11, AV.ptr 6 0] = [AV.str s20, AV.ptr 6 0] ∧ ifP (lowS s20 == lowS c18) (K (AV.int IntKind.i64 1) [Blk.grow f012 2 63, Blk.grow g013 1 9, Blk.mem 51 [AV.sl 1 [[AV.str [99, 111, 110, 116, 101, 110, 116, 45, 108, 101, 110, 103, 116, 104]], [AV.str [116, 114, 97, 110, 115, 102, 101, 114, 45, 101, 110, 99, 111, 100, 105, 110, 103]]] (some 1)], Blk.grow g214 2 63, Blk.grow g315 2 63, Blk.mem 63 [AV.str a16, AV.str b17], Blk.mem 63 [AV.str c18, AV.str d19]]) (K (AV.int IntKind.i64 (-1)) [Blk.grow f012 2 63, Blk.grow g013 1 9, Blk.mem 51 [AV.sl 1 [[AV.str [99, 111, 110, 116, 101, 110, 116, 45, 108, 101, 110, 103, 116, 104]], [AV.str [116, 114, 97, 110, 115, 102, 101, 114, 45, 101, 110, 99, 111, 100, 105, 110, 103]]] (some 1)], Blk.grow g214 2 63, Blk.grow g315 2 63, Blk.mem 63 [AV.str a16, AV.str b17], Blk.mem 63 [AV.str c18, AV.str d19]]))) : ToEnd cfg 143 (bodyOf Tryz.f143) (RetIn Tryz.prog Tryz.f143 7 K) ([.code []]) .normal ([(0, true, .sl 1 [[.str clS], [.str teS]] (some 1)), (1, true, .fn (.func 104) [] [.ptr 6 0])]) (d6x f0 g0 g2 g3 a b c d) := by
  exact unr_ok (pl := ⟨[], [([0, 1, 0, 0, 1, 1, 0, 0, 1, 0, 1], 3, [.str])]⟩) hT 100000 _ _ _ _ (unr_use H (by kernel_rfl))

theorem t103x {K : AV → Hp → Prop} {f0 g0 g2 g3 : Nat} {a b : List UInt8} {c d : List UInt8} (hT : TabOk cfg (ctab [(143, nmICx)])) (H : ∃ (f01 : Nat) (g02 : Nat) (g23 : Nat) (g34 : Nat) (a5 : List UInt8) (b6 : List UInt8) (c7 : List UInt8) (d8 : List UInt8), [Blk.grow f0 2 63, Blk.grow g0 1 9, Blk.mem 51 [AV.sl 1 [[AV.str [99, 111, 110, 116, 101, 110, 116, 45, 108, 101, 110, 103, 116, 104]], [AV.str [116, 114, 97, 110, 115, 102, 101, 114, 45, 101, 110, 99, 111, 100, 105, 110, 103]]] (some 1)], Blk.grow g2 2 63, Blk.grow g3 2 63, Blk.mem 63 [AV.str a, AV.str b], Blk.mem 63 [AV.str c, AV.str d]] = [Blk.grow f01 2 63, Blk.grow g02 1 9, Blk.mem 51 [AV.sl 1 [[AV.str [99, 111, 110, 116, 101, 110, 116, 45, 108, 101, 110, 103, 116, 104]], [AV.str [116, 114, 97, 110, 115, 102, 101, 114, 45, 101, 110, 99, 111, 100, 105, 110, 103]]] (some 1)], Blk.grow g23 2 63, Blk.grow g34 2 63, Blk.mem 63 [AV.str a5, AV.str b6], Blk.mem 63 [AV.str c7, AV.str d8]] ∧ List.length c7 ≤ 20000 ∧ [AV.sl 1 [[AV.str [99, 111, 110, 116, 101, 110, 116, 45, 108, 101, 110, 103, 116, 104]], [AV.str [116, 114, 97, 110, 115, 102, 101, 114, 45, 101, 110, 99, 111, 100, 105, 110, 103]]] (some 1), AV.fn (Fn.func 104) [] [AV.ptr 6 0]] = [AV.sl 1 [[AV.str [99, 111, 110, 116, 101, 110, 116, 45, 108, 101, 110, 103, 116, 104]], [AV.str [116, 114, 97, 110, 115, 102, 101, 114, 45, 101, 110, 99, 111, 100, 105, 110, 103]]] (some 1), AV.fn (Fn.func 104) [] [AV.ptr 6 0]] ∧ K (AV.bool (decide ((if ([99, 111, 110, 116, 101, 110, 116, 45, 108, 101, 110, 103, 116, 104] == lowS c7) = true then 0 else if ([116, 114, 97, 110, 115, 102, 101, 114, 45, 101, 110, 99, 111, 100, 105, 110, 103] == lowS c7) = true then 1 else -1) ≥ 0))) [Blk.grow f01 2 63, Blk.grow g02 1 9, Blk.mem 51 [AV.sl 1 [[AV.str [99, 111, 110, 116, 101, 110, 116, 45, 108, 101, 110, 103, 116, 104]], [AV.str [116, 114, 97, 110, 115, 102, 101, 114, 45, 101, 110, 99, 111, 100, 105, 110, 103]]] (some 1)], Blk.grow g23 2 63, Blk.grow g34 2 63, Blk.mem 63 [AV.str a5, AV.str b6], Blk.mem 63 [AV.str c7, AV.str d8]]) : ToEnd cfg 103 (bodyOf Tryz.f103) (RetIn Tryz.prog Tryz.f103 7 K) ([.code []]) .normal ([(0, true, .sl 1 [[.str clS], [.str teS]] (some 1)), (1, true, .fn (.func 104) [] [.ptr 6 0])]) (d6x f0 g0 g2 g3 a b c d) := by
  exact unr_ok (pl := ⟨[], []⟩) hT 100000 _ _ _ _ (unr_use H (by kernel_rfl))

theorem t102x {K : AV → Hp → Prop} {f0 g0 g2 g3 : Nat} {a b : List UInt8} {c d : List UInt8} (hT : TabOk cfg (ctab [(103, nmBCx)])) (H : ∃ (f01 : Nat) (g02 : Nat) (g23 : Nat) (g34 : Nat) (a5 : List UInt8) (b6 : List UInt8) (c7 : List UInt8) (d8 : List UInt8), [Blk.grow f0 2 63, Blk.grow g0 1 9, Blk.mem 51 [AV.sl 1 [[AV.str [99, 111, 110, 116, 101, 110, 116, 45, 108, 101, 110, 103, 116, 104]], [AV.str [116, 114, 97, 110, 115, 102, 101, 114, 45, 101, 110, 99, 111, 100, 105, 110, 103]]] (some 1)], Blk.grow g2 2 63, Blk.grow g3 2 63, Blk.mem 63 [AV.str a, AV.str b], Blk.mem 63 [AV.str c, AV.str d]] = [Blk.grow f01 2 63, Blk.grow g02 1 9, Blk.mem 51 [AV.sl 1 [[AV.str [99, 111, 110, 116, 101, 110, 116, 45, 108, 101, 110, 103, 116, 104]], [AV.str [116, 114, 97, 110, 115, 102, 101, 114, 45, 101, 110, 99, 111, 100, 105, 110, 103]]] (some 1)], Blk.grow g23 2 63, Blk.grow g34 2 63, Blk.mem 63 [AV.str a5, AV.str b6], Blk.mem 63 [AV.str c7, AV.str d8]] ∧ List.length c7 ≤ 20000 ∧ [AV.sl 1 [[AV.str [99, 111, 110, 116, 101, 110, 116, 45, 108, 101, 110, 103, 116, 104]], [AV.str [116, 114, 97, 110, 115, 102, 101, 114, 45, 101, 110, 99, 111, 100, 105, 110, 103]]] (some 1), AV.fn (Fn.func 104) [] [AV.ptr 6 0]] = [AV.sl 1 [[AV.str [99, 111, 110, 116, 101, 110, 116, 45, 108, 101, 110, 103, 116, 104]], [AV.str [116, 114, 97, 110, 115, 102, 101, 114, 45, 101, 110, 99, 111, 100, 105, 110, 103]]] (some 1), AV.fn (Fn.func 104) [] [AV.ptr 6 0]] ∧ K (AV.bool !clsB c7) [Blk.grow f01 2 63, Blk.grow g02 1 9, Blk.mem 51 [AV.sl 1 [[AV.str [99, 111, 110, 116, 101, 110, 116, 45, 108, 101, 110, 103, 116, 104]], [AV.str [116, 114, 97, 110, 115, 102, 101, 114, 45, 101, 110, 99, 111, 100, 105, 110, 103]]] (some 1)], Blk.grow g23 2 63, Blk.grow g34 2 63, Blk.mem 63 [AV.str a5, AV.str b6]]) : ToEnd cfg 102 (bodyOf Tryz.f102) (RetIn Tryz.prog Tryz.f102 6 K) ([.code []]) .normal ([(0, true, .agg [.str c, .str d]), (1, true, .ptr 2 0)]) (d5x f0 g0 g2 g3 a b) := by
  exact unr_ok (pl := ⟨[], []⟩) hT 100000 _ _ _ _ (unr_use H (by kernel_rfl))

theorem t101xa {K : AV → Hp → Prop} {f0 g0 g2 : Nat} {e : List (List AV)} {sz : Nat} (hT : TabOk cfg (ctab [(102, nm2Cx)])) (H : ToEnd cfg 101 (bodyOf Tryz.f101) (RetInG Tryz.prog Tryz.f101 4 K) [Fm.code [0, 1, 0, 1], Fm.block 0, Fm.code [1, 1]] XT.normal [(1, true, AV.fn (Fn.func 102) [] [AV.ptr 2 0]), (4, true, AV.sl 2 [] (some 4)), (7, true, AV.sl sz e none), (8, true, AV.int IntKind.i64 (↑(List.length e) : Int)), (9, true, AV.int IntKind.i64 0)] [Blk.grow f0 2 63, Blk.grow g0 1 9, Blk.mem 51 [AV.sl 1 [[AV.str [99, 111, 110, 116, 101, 110, 116, 45, 108, 101, 110, 103, 116, 104]], [AV.str [116, 114, 97, 110, 115, 102, 101, 114, 45, 101, 110, 99, 111, 100, 105, 110, 103]]] (some 1)], Blk.grow g2 2 63, Blk.grow 0 2 63]) : ToEnd cfg 101 (bodyOf Tryz.f101) (RetInG Tryz.prog Tryz.f101 4 K) ([.code []]) .normal ([(0, true, .sl sz e none), (1, true, .fn (.func 102) [] [.ptr 2 0])]) ([.grow f0 2 63, .grow g0 1 9, .mem 51 [.sl 1 [[.str clS], [.str teS]] (some 1)], .grow g2 2 63]) := by
  exact unr_ok (pl := ⟨[[0, 1, 0, 1]], [([0, 0, 0, 1, 1, 0, 0, 1, 0, 1], 0, [.str, .str])]⟩) hT 100000 _ _ _ _ (unr_use H (by kernel_rfl))

theorem t101xb {K : AV → Hp → Prop} {f0 g0 g2 m : Nat} {o : List (List AV)} {len i : Int} {e : List (List AV)} {sz : Nat} (hT : TabOk cfg (ctab [(102, nm2Cx)])) (H : ifP (decide (i < len)) (gAnd (inR i (List.length e) && Nat.beq sz 2 && Nat.ble 1 sz) (∃ (s1 : List UInt8) (s2 : List UInt8), getE e i = [AV.str s1, AV.str s2] ∧ ∃ (f03 : Nat) (g04 : Nat) (g25 : Nat) (g36 : Nat) (a7 : List UInt8) (b8 : List UInt8) (c9 : List UInt8) (d10 : List UInt8), [Blk.grow f0 2 63, Blk.grow g0 1 9, Blk.mem 51 [AV.sl 1 [[AV.str [99, 111, 110, 116, 101, 110, 116, 45, 108, 101, 110, 103, 116, 104]], [AV.str [116, 114, 97, 110, 115, 102, 101, 114, 45, 101, 110, 99, 111, 100, 105, 110, 103]]] (some 1)], Blk.grow g2 2 63, Blk.grow m 2 63, Blk.mem 63 [AV.str s1, AV.str s2]] = [Blk.grow f03 2 63, Blk.grow g04 1 9, Blk.mem 51 [AV.sl 1 [[AV.str [99, 111, 110, 116, 101, 110, 116, 45, 108, 101, 110, 103, 116, 104]], [AV.str [116, 114, 97, 110, 115, 102, 101, 114, 45, 101, 110, 99, 111, 100, 105, 110, 103]]] (some 1)], Blk.grow g25 2 63, Blk.grow g36 2 63, Blk.mem 63 [AV.str a7, AV.str b8]] ∧ List.length c9 ≤ 20000 ∧ [AV.agg [AV.str s1, AV.str s2], AV.ptr 2 0] = [AV.agg [AV.str c9, AV.str d10], AV.ptr 2 0] ∧ ifP (!clsB c9) (gAnd (tagOk [Blk.grow f03 2 63, Blk.grow g04 1 9, Blk.mem 51 [AV.sl 1 [[AV.str [99, 111, 110, 116, 101, 110, 116, 45, 108, 101, 110, 103, 116, 104]], [AV.str [116, 114, 97, 110, 115, 102, 101, 114, 45, 101, 110, 99, 111, 100, 105, 110, 103]]] (some 1)], Blk.grow g25 2 63, Blk.grow g36 2 63, Blk.mem 63 [AV.str a7, AV.str b8], Blk.grow 1 2 63] (List.length o) 2 63 (some 4) && true && true && true && decide ((List.length o + 1) * 32 ≤ 140737488355328) && true && true) (gAnd (lowVss 5 (o ++ [[AV.str a7, AV.str b8]]) && true && (lowVss 5 e && true && true) && true) (ToEnd cfg 101 (bodyOf Tryz.f101) (RetInG Tryz.prog Tryz.f101 4 K) [Fm.code [0, 1, 0, 1], Fm.block 0, Fm.code [1, 1]] XT.normal [(1, true, AV.fn (Fn.func 102) [] [AV.ptr 2 0]), (4, true, AV.sl 2 (o ++ [[AV.str a7, AV.str b8]]) (some 4)), (7, true, AV.sl sz e none), (8, true, AV.int IntKind.i64 len), (9, true, AV.int IntKind.i64 (IntKind.wrap IntKind.i64 (i + 1)))] [Blk.grow f03 2 63, Blk.grow g04 1 9, Blk.mem 51 [AV.sl 1 [[AV.str [99, 111, 110, 116, 101, 110, 116, 45, 108, 101, 110, 103, 116, 104]], [AV.str [116, 114, 97, 110, 115, 102, 101, 114, 45, 101, 110, 99, 111, 100, 105, 110, 103]]] (some 1)], Blk.grow g25 2 63, Blk.grow (List.length o + 1) 2 63]))) (gAnd (lowVss 5 o && true && (lowVss 5 e && true && true) && true) (ToEnd cfg 101 (bodyOf Tryz.f101) (RetInG Tryz.prog Tryz.f101 4 K) [Fm.code [0, 1, 0, 1], Fm.block 0, Fm.code [1, 1]] XT.normal [(1, true, AV.fn (Fn.func 102) [] [AV.ptr 2 0]), (4, true, AV.sl 2 o (some 4)), (7, true, AV.sl sz e none), (8, true, AV.int IntKind.i64 len), (9, true, AV.int IntKind.i64 (IntKind.wrap IntKind.i64 (i + 1)))] [Blk.grow f03 2 63, Blk.grow g04 1 9, Blk.mem 51 [AV.sl 1 [[AV.str [99, 111, 110, 116, 101, 110, 116, 45, 108, 101, 110, 103, 116, 104]], [AV.str [116, 114, 97, 110, 115, 102, 101, 114, 45, 101, 110, 99, 111, 100, 105, 110, 103]]] (some 1)], Blk.grow g25 2 63, Blk.grow g36 2 63])))) (K (AV.sl 2 (stripss (keepM true 4 5 (AV.sl 2 o (some 4))) [Blk.grow f0 2 63, Blk.grow g0 1 9, Blk.mem 51 [AV.sl 1 [[AV.str [99, 111, 110, 116, 101, 110, 116, 45, 108, 101, 110, 103, 116, 104]], [AV.str [116, 114, 97, 110, 115, 102, 101, 114, 45, 101, 110, 99, 111, 100, 105, 110, 103]]] (some 1)], Blk.grow g2 2 63, Blk.grow m 2 63] o) (some 4)) [Blk.grow f0 2 63, Blk.grow g0 1 9, Blk.mem 51 [AV.sl 1 [[AV.str [99, 111, 110, 116, 101, 110, 116, 45, 108, 101, 110, 103, 116, 104]], [AV.str [116, 114, 97, 110, 115, 102, 101, 114, 45, 101, 110, 99, 111, 100, 105, 110, 103]]] (some 1)], Blk.grow g2 2 63, Blk.grow m 2 63])) : ToEnd cfg 101 (bodyOf Tryz.f101) (RetInG Tryz.prog Tryz.f101 4 K) ([.code [0, 1, 0, 1], .block 0, .code [1, 1]]) .normal ([(1, true, .fn (.func 102) [] [.ptr 2 0]), (4, true, .sl 2 o (some 4)), (7, true, .sl sz e none), (8, true, .int .i64 len), (9, true, .int .i64 i)]) ([.grow f0 2 63, .grow g0 1 9, .mem 51 [.sl 1 [[.str clS], [.str teS]] (some 1)], .grow g2 2 63, .grow m 2 63]) := by
  exact ends_round (pl := ⟨[[0, 1, 0, 1]], [([0, 0, 0, 1, 1, 0, 0, 1, 0, 1], 0, [.str, .str])]⟩) hT 100000 (by kernel_rfl) (unr_use H (by kernel_rfl))

theorem t61x {K : AV → Hp → Prop} {f0 g0 : Nat} {e : List (List AV)} {sz : Nat} (hT : TabOk cfg (ctab [(101, keptCx)])) (H : ∃ (f01 : Nat) (g02 : Nat) (g23 : Nat) (sz4 : Nat) (l5 : List Fld), [Blk.grow f0 2 63, Blk.grow g0 1 9, Blk.mem 51 [AV.sl 1 [[AV.str [99, 111, 110, 116, 101, 110, 116, 45, 108, 101, 110, 103, 116, 104]], [AV.str [116, 114, 97, 110, 115, 102, 101, 114, 45, 101, 110, 99, 111, 100, 105, 110, 103]]] (some 1)], Blk.grow 0 2 63] = [Blk.grow f01 2 63, Blk.grow g02 1 9, Blk.mem 51 [AV.sl 1 [[AV.str [99, 111, 110, 116, 101, 110, 116, 45, 108, 101, 110, 103, 116, 104]], [AV.str [116, 114, 97, 110, 115, 102, 101, 114, 45, 101, 110, 99, 111, 100, 105, 110, 103]]] (some 1)], Blk.grow g23 2 63] ∧ okPs l5 ∧ szOk sz4 2 (List.length l5) ∧ [AV.sl sz e none, AV.fn (Fn.func 102) [] [AV.ptr 2 0]] = [AV.sl sz4 (encFs l5) none, AV.fn (Fn.func 102) [] [AV.ptr 2 0]] ∧ K (AV.sl 2 (stripss (keepM true 2 5 (AV.sl 2 (encFs (delF l5)) (some 4))) [Blk.grow f01 2 63, Blk.grow g02 1 9, Blk.mem 51 [AV.sl 1 [[AV.str [99, 111, 110, 116, 101, 110, 116, 45, 108, 101, 110, 103, 116, 104]], [AV.str [116, 114, 97, 110, 115, 102, 101, 114, 45, 101, 110, 99, 111, 100, 105, 110, 103]]] (some 1)], Blk.grow g23 2 63, Blk.grow (List.length (delF l5)) 2 63] (encFs (delF l5))) (some 4)) [Blk.grow f01 2 63, Blk.grow g02 1 9, Blk.mem 51 [AV.sl 1 [[AV.str [99, 111, 110, 116, 101, 110, 116, 45, 108, 101, 110, 103, 116, 104]], [AV.str [116, 114, 97, 110, 115, 102, 101, 114, 45, 101, 110, 99, 111, 100, 105, 110, 103]]] (some 1)], Blk.grow g23 2 63, Blk.grow (List.length (delF l5)) 2 63]) : ToEnd cfg 61 (bodyOf Tryz.f61) (RetInG Tryz.prog Tryz.f61 2 K) ([.code []]) .normal ([(0, true, .sl sz e none), (1, true, .sl 1 [[.str clS], [.str teS]] (some 1))]) ([.grow f0 2 63, .grow g0 1 9]) := by
  exact unr_ok (pl := ⟨[], []⟩) hT 100000 _ _ _ _ (unr_use H (by kernel_rfl))

end Go.Proofs.YtnncfdlpogjlkaaGreatDoor
end

section
namespace Go.Proofs.YtnncfdlpogjlkaaGreatDoor
open Go.Ai Go
set_option linter.unusedSimpArgs false
set_option linter.unusedVariables false
set_option linter.unnecessarySimpa false
set_option maxRecDepth 100000

theorem c104x : COk cfg 104 nm1Cx := by
  refine cok_heap hf104 fun vs h K ht => ?_
  obtain ⟨f0, g0, g2, g3, a, b, c, d, s, rfl, hs, hc, rfl, hk⟩ := ht
  exact t104x (ctab_ok (ctab_cons c105 ctab_nil)) ⟨s, c, by omega, by omega, rfl, hk⟩
theorem c143x : COk cfg 143 nmICx := by
  refine cok_heap hf143 fun vs h K ht => ?_
  obtain ⟨f0, g0, g2, g3, a, b, c, d, rfl, hc, rfl, hk⟩ := ht
  refine t143x (ctab_ok (ctab_cons c104x ctab_nil)) ⟨clS, rfl, f0, g0, g2, g3, a, b, c, d, clS, rfl, by decide, hc, rfl, ifP_intro (fun x => ?_) fun x => ⟨teS, rfl, f0, g0, g2, g3, a, b, c, d, teS, rfl, by decide, hc, rfl, ifP_intro (fun y => ?_) fun y => ?_⟩⟩
  · rw [low_names.1] at x
    rw [if_pos x] at hk; exact hk
  · rw [low_names.1] at x
    rw [low_names.2] at y
    rw [if_neg (by rw [x]; simp), if_pos y] at hk; exact hk
  · rw [low_names.1] at x
    rw [low_names.2] at y
    rw [if_neg (by rw [x]; simp), if_neg (by rw [y]; simp)] at hk; exact hk
theorem c103x : COk cfg 103 nmBCx := by
  refine cok_heap hf103 fun vs h K ht => ?_
  obtain ⟨f0, g0, g2, g3, a, b, c, d, rfl, hc, rfl, hk⟩ := ht
  refine t103x (ctab_ok (ctab_cons c143x ctab_nil)) ⟨f0, g0, g2, g3, a, b, c, d, rfl, hc, rfl, ?_⟩
  rw [← ge_cls] at hk
  exact hk
theorem c102x : COk cfg 102 nm2Cx := by
  refine cok_heap hf102 fun vs h K ht => ?_
  obtain ⟨f0, g0, g2, g3, a, b, c, d, rfl, hc, rfl, hk⟩ := ht
  exact t102x (ctab_ok (ctab_cons c103x ctab_nil)) ⟨f0, g0, g2, g3, a, b, c, d, rfl, hc, rfl, hk⟩
theorem tab101x : TabOk cfg (ctab [(102, nm2Cx)]) := ctab_ok (ctab_cons c102x ctab_nil)
theorem loop101x {sz f0 g0 g2 : Nat} {K : AV → Hp → Prop} : ∀ (r pre acc : List Fld), okPs (pre ++ r) → szOk sz 2 (pre ++ r).length → acc.length ≤ pre.length →
    K (.sl 2 (encFs (acc ++ delF r)) (some 4)) [.grow f0 2 63, .grow g0 1 9, .mem 51 [.sl 1 nmsE (some 1)], .grow g2 2 63, .grow (acc ++ delF r).length 2 63] →
    ToEnd cfg 101 (bodyOf Tryz.f101) (RetInG Tryz.prog Tryz.f101 4 K) [.code [0, 1, 0, 1], .block 0, .code [1, 1]] .normal
      [(1, true, .fn (.func 102) [] [.ptr 2 0]), (4, true, .sl 2 (encFs acc) (some 4)), (7, true, .sl sz (encFs (pre ++ r)) none), (8, true, .int .i64 (pre ++ r).length), (9, true, .int .i64 pre.length)]
      [.grow f0 2 63, .grow g0 1 9, .mem 51 [.sl 1 [[.str clS], [.str teS]] (some 1)], .grow g2 2 63, .grow acc.length 2 63] := by
  intro r
  induction r with
  | nil =>
    intro pre acc ho hs ha hk
    refine t101xb tab101x (ifP_intro (fun c => by simp at c) fun _ => ?_)
    rw [stripss_encFs]
    have e0 : acc ++ delF [] = acc := by simp [delF]
    rw [e0] at hk
    exact hk
  | cons x r ih =>
    intro pre acc ho hs ha hk
    have hlen : (pre ++ x :: r).length ≤ 100000 := ho.1
    have hx := okPs_mem ho (f := x) (by simp)
    have hin : (inR (pre.length : Int) (encFs (pre ++ x :: r)).length && Nat.beq sz 2 && Nat.ble 1 sz) = true := by
      rw [encFs_len, inR_nat (by simp), Bool.true_and]
      exact hs.beq (by simp; omega) (by decide)
    have hpl : pre.length ≤ 100000 := by simp at hlen; omega
    have e : pre ++ x :: r = (pre ++ [x]) ++ r := by simp
    have hw : IntKind.wrap .i64 ((pre.length : Int) + 1) = (((pre ++ [x]).length : Nat) : Int) := by rw [wrap_in (by omega) (by omega)]; simp
    rw [delF_cons] at hk
    refine t101xb tab101x (ifP_intro (fun _ => gAnd_intro hin ⟨x.name, x.value, getE_fs _ _ _, f0, g0, g2, acc.length, x.name, x.value, x.name, x.value, rfl, hx.1, rfl, ifP_intro (fun a => gAnd_intro ?_ (gAnd_intro ?_ ?_)) fun a => gAnd_intro ?_ ?_⟩) fun c => by simp at c; omega)
    · rw [encFs_len, tag_ok rfl, decide_eq_true (by omega)]; rfl
    · rw [encFs_snoc, low_encFs, low_encFs]; rfl
    · have a : clsB x.name = false := by simpa using a
      rw [if_neg (by rw [a]; simp)] at hk
      have := ih (pre ++ [x]) (acc ++ [x]) (by rw [← e]; exact ho) (by rw [← e]; exact hs) (by simp; omega) (by simpa using hk)
      rw [← e] at this
      rw [encFs_snoc, hw, encFs_len]
      have el : acc.length + 1 = (acc ++ [x]).length := by simp
      rw [el]
      exact this
    · rw [low_encFs, low_encFs]; rfl
    · have a : clsB x.name = true := by simpa using a
      rw [if_pos a] at hk
      have := ih (pre ++ [x]) acc (by rw [← e]; exact ho) (by rw [← e]; exact hs) (by simp; omega) hk
      rw [← e] at this
      rw [hw]
      exact this
theorem c101x : COk cfg 101 keptCx := by
  refine cok_give gf101 fun vs h K ht => ?_
  obtain ⟨f0, g0, g2, sz, l, rfl, h0, h1, rfl, hk⟩ := ht
  refine t101xa tab101x ?_
  rw [encFs_len]
  exact loop101x (sz := sz) l [] [] h0 h1 (by simp) (by simpa using hk)
theorem c61x : COk cfg 61 delCx := by
  refine cok_give gf61 fun vs h K ht => ?_
  obtain ⟨f0, g0, sz, l, rfl, h0, h1, rfl, hk⟩ := ht
  refine t61x (ctab_ok (ctab_cons c101x ctab_nil)) ⟨f0, g0, 0, sz, l, rfl, h0, h1, rfl, ?_⟩
  rw [stripss_encFs]
  exact hk

theorem pf23 : pureFn cfg 23 Tryz.f23 := ⟨by kernel_rfl, by kernel_rfl, by kernel_rfl, by kernel_rfl, by kernel_rfl, by kernel_rfl⟩
theorem pf15 : pureFn cfg 15 Tryz.f15 := ⟨by kernel_rfl, by kernel_rfl, by kernel_rfl, by kernel_rfl, by kernel_rfl, by kernel_rfl⟩
theorem pf16 : pureFn cfg 16 Tryz.f16 := ⟨by kernel_rfl, by kernel_rfl, by kernel_rfl, by kernel_rfl, by kernel_rfl, by kernel_rfl⟩
theorem pf17 : pureFn cfg 17 Tryz.f17 := ⟨by kernel_rfl, by kernel_rfl, by kernel_rfl, by kernel_rfl, by kernel_rfl, by kernel_rfl⟩
theorem pf26 : pureFn cfg 26 Tryz.f26 := ⟨by kernel_rfl, by kernel_rfl, by kernel_rfl, by kernel_rfl, by kernel_rfl, by kernel_rfl⟩
theorem pf24 : pureFn cfg 24 Tryz.f24 := ⟨by kernel_rfl, by kernel_rfl, by kernel_rfl, by kernel_rfl, by kernel_rfl, by kernel_rfl⟩
theorem pf10 : pureFn cfg 10 Tryz.f10 := ⟨by kernel_rfl, by kernel_rfl, by kernel_rfl, by kernel_rfl, by kernel_rfl, by kernel_rfl⟩
theorem pf4 : pureFn cfg 4 Tryz.f4 := ⟨by kernel_rfl, by kernel_rfl, by kernel_rfl, by kernel_rfl, by kernel_rfl, by kernel_rfl⟩
theorem pf5 : pureFn cfg 5 Tryz.f5 := ⟨by kernel_rfl, by kernel_rfl, by kernel_rfl, by kernel_rfl, by kernel_rfl, by kernel_rfl⟩
theorem c23 : COk cfg 23 plainC := by
  refine cok_pure pf23 fun vs h K ht => ?_
  obtain ⟨l, sz, h0, h1, rfl, hk⟩ := ht
  refine ⟨_, hk, t23 (ctab_ok (ctab_cons c61x ctab_nil)) ⟨0, 2, sz, l, rfl, h0, h1, rfl, ?_⟩⟩
  rw [stripss_encFs]
theorem c15 : COk cfg 15 sameReqC := by
  refine cok_pure pf15 fun vs h K ht => ?_
  obtain ⟨a, b, sz, sy, hl, h0, h1, rfl, hk⟩ := ht
  refine ⟨_, hk, t15 (ctab_ok (ctab_cons c52 ctab_nil)) (ifP_intro (fun x => ifP_intro (fun y => ifP_intro (fun z => ifP_intro (fun w => ⟨a.fs, b.fs, sz, sy, hl, h0, h1, by rw [stripss_encFs, stripss_encFs], ?_⟩) fun w => ?_) fun z => ?_) fun y => ?_) fun x => ?_)⟩
  · simp only [sameReq, x, y, z, w, Bool.true_and]
  · simp only [sameReq, x, y, z, w, Bool.true_and, Bool.false_and]
  · simp only [sameReq, x, y, z, Bool.true_and, Bool.false_and]
  · simp only [sameReq, x, y, Bool.true_and, Bool.false_and]
  · simp only [sameReq, x, Bool.false_and]
theorem c16 : COk cfg 16 sameRepC := by
  refine cok_pure pf16 fun vs h K ht => ?_
  obtain ⟨a, b, sz, sy, hl, h0, h1, rfl, hk⟩ := ht
  refine ⟨_, hk, t16 (ctab_ok (ctab_cons c52 ctab_nil)) (ifP_intro (fun x => ifP_intro (fun y => ifP_intro (fun z => ifP_intro (fun w => ⟨a.fs, b.fs, sz, sy, hl, h0, h1, by rw [stripss_encFs, stripss_encFs], ?_⟩) fun w => ?_) fun z => ?_) fun y => ?_) fun x => ?_)⟩
  · simp only [sameRep, x, y, z, w, Bool.true_and]
  · simp only [sameRep, x, y, z, w, Bool.true_and, Bool.false_and]
  · simp only [sameRep, x, y, z, Bool.true_and, Bool.false_and]
  · simp only [sameRep, x, y, Bool.true_and, Bool.false_and]
  · simp only [sameRep, x, Bool.false_and]
theorem sameReq_refl (a : Req) : sameReq a a = true := by simp [sameReq, sameFs_refl]
theorem sameRep_refl (a : Rep) : sameRep a a = true := by simp [sameRep, sameFs_refl]

theorem loop17 {sz : Nat} : ∀ (r pre : List Fld) (n : Int), 0 ≤ n → n ≤ 12000 → (pre ++ r).length ≤ 80 → szOk sz 2 (pre ++ r).length → (∀ f ∈ r, (f.name.length : Int) ≤ 9223372036854775807) →
    ToEnd cfg 17 (bodyOf Tryz.f17) (RetIs Tryz.prog Tryz.f17 (.bool (fewG n r))) [.code [0, 1, 0, 1, 1, 1], .block 0, .code [1, 1, 1, 1]] .normal
      [(0, true, .sl sz (encFs (pre ++ r)) none), (5, true, .int .i64 n), (6, true, .int .i64 pre.length)] [] := by
  intro r
  induction r with
  | nil =>
    intro pre n h0 h1 hl hs _
    refine t17b (ctab_ok ctab_nil) (ifP_intro (fun c => ?_) fun _ => rfl)
    simp [encFs_len] at c
  | cons x r ih =>
    intro pre n h0 h1 hl hs hb
    have hlen : pre.length ≤ 80 := by simp at hl; omega
    have hx := hb x (by simp)
    have hin : (inR (pre.length : Int) (encFs (pre ++ x :: r)).length && Nat.beq sz 2 && Nat.ble 1 sz) = true := by
      rw [encFs_len, inR_nat (by simp), Bool.true_and]
      exact hs.beq (by simp; omega) (by decide)
    refine t17b (ctab_ok ctab_nil) (ifP_intro (fun _ => gAnd_intro hin ⟨x.name, x.value, getE_fs _ _ _, ifP_intro (fun b => ?_) fun b => gAnd_intro hin ⟨x.name, x.value, getE_fs _ _ _, gAnd_intro hin ⟨x.name, x.value, getE_fs _ _ _, ifP_intro (fun c => ?_) fun c => gAnd_intro hin ⟨x.name, x.value, getE_fs _ _ _, gAnd_intro hin ⟨x.name, x.value, getE_fs _ _ _, ?_⟩⟩⟩⟩⟩) fun c => ?_)
    · simp only [decide_eq_true_eq] at b
      rw [fewG, if_pos (.inl b)]
    · simp only [decide_eq_false_iff_not] at b
      rw [wrap_in (by omega) (by omega)] at c
      simp only [decide_eq_true_eq] at c
      rw [fewG, if_pos (.inr c)]
    · simp only [decide_eq_false_iff_not] at b
      rw [wrap_in (by omega) (by omega)] at c
      simp only [decide_eq_false_iff_not] at c
      rw [fewG, if_neg (by omega), wrap_n (by unfold lim; omega), wrap_in (n := n - (x.name.length : Int)) (by omega) (by omega), wrap_in (by omega) (by omega)]
      have := ih (pre ++ [x]) (n - x.name.length - x.value.length) (by omega) (by omega) (by simpa using hl) (by simpa using hs) (fun f hf => hb f (by simp [hf]))
      simpa using this
    · simp [encFs_len] at c; omega
theorem c17 : COk cfg 17 fewMC := by
  refine cok_pure pf17 fun vs h K ht => ?_
  obtain ⟨l, b, sz, hs, hb, rfl, hk⟩ := ht
  refine ⟨_, hk, t17a (ctab_ok ctab_nil) (ifP_intro (fun c => ?_) fun c => ifP_intro (fun d => ?_) fun d => ?_)⟩
  · rw [encFs_len] at c
    simp only [gt_iff_lt, decide_eq_true_eq] at c
    rw [fewM, if_pos (by omega)]
  · rw [encFs_len] at c
    simp only [gt_iff_lt, decide_eq_false_iff_not] at c
    simp only [gt_iff_lt, decide_eq_true_eq] at d
    rw [fewM, if_neg (by omega), if_pos (by omega)]
  · rw [encFs_len] at c
    simp only [gt_iff_lt, decide_eq_false_iff_not] at c d
    rw [fewM, if_neg (by omega), if_neg (by omega)]
    exact loop17 l [] 12000 (by omega) (by omega) (by simp; omega) hs hb
theorem fewM_ok {l : List Fld} {b : List UInt8} (h : fewM l b = true) : l.length ≤ 80 ∧ b.length ≤ 3000 ∧ okPs l := by
  unfold fewM at h
  split at h
  · cases h
  · split at h
    · cases h
    · refine ⟨by omega, by omega, by omega, fun f hf => ?_⟩
      have := fewG_ok l 12000 h f hf
      omega

theorem c68 : COk cfg 68 replC := by
  refine cok_prim (by kernel_rfl) (by kernel_rfl) (by kernel_rfl : cfg.prim 68 = some pReplaceAll) (by kernel_rfl) fun vs h K ht => ?_
  obtain ⟨s, o, n, hb, rfl, hk⟩ := ht
  refine ⟨.str (replS s o n), hk, ?_⟩
  simp only [pReplaceAll, hb]
theorem c26 : COk cfg 26 linesC := by
  refine cok_pure pf26 fun vs h K ht => ?_
  obtain ⟨s, hb, rfl, hk⟩ := ht
  simp only [okLn, Bool.and_eq_true] at hb
  obtain ⟨h0, h1, h2⟩ := hb
  have h0 := Nat.le_of_ble_eq_true h0
  have h1 := Nat.le_of_ble_eq_true h1
  refine ⟨_, hk, t26 (ctab_ok (ctab_cons c68 ctab_nil)) ⟨s, [32, 47, 32], [13, 10], ?_, rfl, rfl⟩⟩
  simp only [Bool.and_eq_true]
  exact ⟨⟨Nat.ble_eq_true_of_le (by omega), by decide⟩, Nat.ble_eq_true_of_le (by simp only [List.length_cons, List.length_nil]; omega)⟩
theorem c24 : COk cfg 24 asksC := by
  refine cok_pure pf24 fun vs h K ht => ?_
  obtain ⟨s, m, t, b, u, w, hb, rfl, hk⟩ := ht
  have hb2 := hb
  simp only [okLn, Bool.and_eq_true] at hb2
  have h2 := Nat.le_of_ble_eq_true hb2.2.2
  refine ⟨_, hk, t24 (ctab_ok (ctab_cons c26 (ctab_cons c11 ctab_nil))) ⟨s, hb, rfl, lnS s, by omega, rfl, ?_⟩⟩
  unfold asksB
  refine ifP_intro (fun x => ifP_intro (fun y => ifP_intro (fun z => ifP_intro (fun q => ?_) fun q => ?_) fun z => ?_) fun y => ?_) fun x => ?_
  · simp only [x, y, z, q, Bool.true_and]
  · simp only [x, y, z, q, Bool.true_and, Bool.false_and]
  · simp only [x, y, z, Bool.true_and, Bool.false_and]
  · simp only [x, y, Bool.true_and, Bool.false_and]
  · simp only [x, Bool.false_and]
theorem c10 : COk cfg 10 Ai.trueC := by
  refine cok_pure pf10 fun vs h K ht => ?_
  obtain ⟨hv, hk⟩ := ht
  obtain rfl : vs = [] := by cases vs with | nil => rfl | cons => cases hv
  refine ⟨_, hk, t10 (ctab_ok (ctab_cons c24 ctab_nil)) ⟨_, _, _, _, _, _, ?_, rfl, ?_⟩⟩
  · kernel_rfl
  · rw [show asksB [71, 69, 84, 32, 47, 97, 32, 72, 84, 84, 80, 47, 49, 46, 49, 32, 47, 32, 72, 111, 115, 116, 58, 32, 104, 32, 47, 32, 32, 47, 32, 120, 121] [71, 69, 84] [47, 97] [] 28 0 = true by kernel_rfl]
    refine ⟨_, _, _, _, _, _, ?_, rfl, ?_⟩
    · kernel_rfl
    · rw [show asksB [80, 79, 83, 84, 32, 47, 98, 32, 72, 84, 84, 80, 47, 49, 46, 49, 32, 47, 32, 67, 111, 110, 116, 101, 110, 116, 45, 76, 101, 110, 103, 116, 104, 58, 32, 50, 32, 47, 32, 32, 47, 32, 97] [] [] [] 0 6 = true by kernel_rfl]

theorem tabP : TabOk cfg (ctab [(17, fewMC), (20, putReqMC), (21, putReqMC), (18, putRepMC), (19, putRepMC), (10, Ai.trueC)]) :=
  ctab_ok (ctab_cons c17 (ctab_cons c20 (ctab_cons c21 (ctab_cons c18 (ctab_cons c19 (ctab_cons c10 ctab_nil))))))
theorem c5 : COk cfg 5 (fun vs h K => ∃ r : Req, fitQ r ∧ vs = [.agg (encReq r 2)] ∧ K (.bool true) h) := by
  refine cok_pure pf5 fun vs h K ht => ?_
  obtain ⟨r, hf, rfl, hk⟩ := ht
  refine ⟨_, hk, t5 tabP ⟨r.fs, r.b, 2, .inl rfl, hf.1, by rw [stripss_encFs], ifP_intro (fun _ => ⟨rfl, rfl⟩) fun a => ifP_intro (fun _ => ⟨rfl, rfl⟩) fun b => ifP_intro (fun _ => ⟨rfl, rfl⟩) fun c => ?_⟩⟩
  obtain ⟨k1, k2, k3⟩ := fewM_ok (by simpa using a)
  have b : r.m.length ≤ 3000 := by simp at b; omega
  have c : r.t.length ≤ 3000 := by simp at c; omega
  have ho : okReq r := ⟨k3, by omega, by omega, by omega, by omega, hf.2.1, hf.2.2⟩
  refine ⟨r, 2, ho, .inl rfl, by rw [stripss_encFs], r, 2, ho, .inl rfl, by rw [stripss_encFs], ?_⟩
  exact ifP_intro (fun _ => ifP_intro (fun _ => ⟨rfl, rfl⟩) fun a => by simp at a) fun a => by simp at a
theorem c4 : COk cfg 4 (fun vs h K => ∃ (r : Rep) (hd : Bool), fitP r ∧ vs = [.agg (encRep r 2), .bool hd] ∧ K (.bool true) h) := by
  refine cok_pure pf4 fun vs h K ht => ?_
  obtain ⟨r, hd, hf, rfl, hk⟩ := ht
  refine ⟨_, hk, t4 tabP ⟨r.fs, r.b, 2, .inl rfl, hf.1, by rw [stripss_encFs], ifP_intro (fun _ => ⟨rfl, rfl⟩) fun a => ifP_intro (fun _ => ⟨rfl, rfl⟩) fun b => ?_⟩⟩
  obtain ⟨k1, k2, k3⟩ := fewM_ok (by simpa using a)
  have b : r.rs.length ≤ 3000 := by simp at b; omega
  have ho : okRep r := ⟨k3, by omega, by omega, by omega, hf.2.1, hf.2.2.1, hf.2.2.2⟩
  refine ⟨r, 2, hd, ho, .inl rfl, by rw [stripss_encFs], r, 2, hd, ho, .inl rfl, by rw [stripss_encFs], ?_⟩
  exact ifP_intro (fun _ => ifP_intro (fun _ => ⟨rfl, rfl⟩) fun a => by simp at a) fun a => by simp at a
end Go.Proofs.YtnncfdlpogjlkaaGreatDoor
end

section
namespace Go.Proofs.YtnncfdlpogjlkaaGreatDoor
open Go.Ai Go
set_option maxRecDepth 100000
set_option linter.unusedVariables false
theorem t9 {v : AV}  (hT : TabOk cfg (ctab [(10, Ai.trueC), (24, asksC), (25, repC), (26, linesC), (13, repMC), (11, reqMC), (20, putReqMC), (18, putRepMC)])) (H : true = true ∧ ∃ (s1 : List UInt8) (m2 : List UInt8) (t3 : List UInt8) (b4 : List UInt8) (u5 : Int) (w6 : Int), okLn s1 = true ∧ [AV.str [80, 79, 83, 84, 32, 47, 98, 32, 72, 84, 84, 80, 47, 49, 46, 49, 32, 47, 32, 67, 111, 110, 116, 101, 110, 116, 45, 76, 101, 110, 103, 116, 104, 58, 32, 50, 32, 47, 32, 32, 47, 32, 97, 98], AV.str [80, 79, 83, 84], AV.str [47, 98], AV.str [97, 98], AV.int IntKind.i64 41, AV.int IntKind.i64 0] = [AV.str s1, AV.str m2, AV.str t3, AV.str b4, AV.int IntKind.i64 u5, AV.int IntKind.i64 w6] ∧ ifP (!asksB s1 m2 t3 b4 u5 w6) (AV.bool false = v) (∃ (s7 : List UInt8) (m8 : List UInt8) (t9 : List UInt8) (b10 : List UInt8) (u11 : Int) (w12 : Int), okLn s7 = true ∧ [AV.str [], AV.str [], AV.str [], AV.str [], AV.int IntKind.i64 0, AV.int IntKind.i64 6] = [AV.str s7, AV.str m8, AV.str t9, AV.str b10, AV.int IntKind.i64 u11, AV.int IntKind.i64 w12] ∧ ifP (!asksB s7 m8 t9 b10 u11 w12) (AV.bool false = v) (∃ (s13 : List UInt8) (m14 : List UInt8) (t15 : List UInt8) (b16 : List UInt8) (u17 : Int) (w18 : Int), okLn s13 = true ∧ [AV.str [71, 69, 84, 32, 47, 98, 32, 72, 84, 84, 80, 47, 49, 46, 49, 32, 47, 32], AV.str [], AV.str [], AV.str [], AV.int IntKind.i64 0, AV.int IntKind.i64 6] = [AV.str s13, AV.str m14, AV.str t15, AV.str b16, AV.int IntKind.i64 u17, AV.int IntKind.i64 w18] ∧ ifP (!asksB s13 m14 t15 b16 u17 w18) (AV.bool false = v) (∃ (s19 : List UInt8) (n20 : Nat), List.length s19 ≤ 1000 ∧ n20 ≤ 100000 ∧ [AV.str [97], AV.int IntKind.i64 8192] = [AV.str s19, AV.int IntKind.i64 (↑n20 : Int)] ∧ ∃ (s21 : List UInt8) (m22 : List UInt8) (t23 : List UInt8) (b24 : List UInt8) (u25 : Int) (w26 : Int), okLn s21 = true ∧ [AV.str (Lib.repeatL s19 n20), AV.str [], AV.str [], AV.str [], AV.int IntKind.i64 0, AV.int IntKind.i64 3] = [AV.str s21, AV.str m22, AV.str t23, AV.str b24, AV.int IntKind.i64 u25, AV.int IntKind.i64 w26] ∧ ifP (!asksB s21 m22 t23 b24 u25 w26) (AV.bool false = v) (∃ (s27 : List UInt8) (m28 : List UInt8) (t29 : List UInt8) (b30 : List UInt8) (u31 : Int) (w32 : Int), okLn s27 = true ∧ [AV.str [32, 47, 32, 32, 47, 32], AV.str [], AV.str [], AV.str [], AV.int IntKind.i64 0, AV.int IntKind.i64 4] = [AV.str s27, AV.str m28, AV.str t29, AV.str b30, AV.int IntKind.i64 u31, AV.int IntKind.i64 w32] ∧ ifP (!asksB s27 m28 t29 b30 u31 w32) (AV.bool false = v) (∃ (s33 : List UInt8), okLn s33 = true ∧ [AV.str [72, 84, 84, 80, 47, 49, 46, 49, 32, 50, 48, 48, 32, 79, 75, 32, 47, 32, 32, 47, 32, 97, 98, 99]] = [AV.str s33] ∧ ∃ (s34 : List UInt8) (hd35 : Bool), List.length s34 ≤ 10000000 ∧ [AV.str (lnS s33), AV.bool false] = [AV.str s34, AV.bool hd35] ∧ ∃ (s36 : List UInt8), okLn s36 = true ∧ [AV.str [72, 84, 84, 80, 47, 49, 46, 49, 32, 50, 48, 48, 32, 79, 75, 32, 47, 32, 32, 47, 32, 97, 98, 99]] = [AV.str s36] ∧ ∃ (s37 : List UInt8) (hd38 : Bool), List.length s37 ≤ 10000000 ∧ [AV.str (lnS s36), AV.bool true] = [AV.str s37, AV.bool hd38] ∧ ∃ (s39 : List UInt8), okLn s39 = true ∧ [AV.str [80, 85, 84, 32, 47, 98, 32, 72, 84, 84, 80, 47, 49, 46, 48, 32, 47, 32, 84, 114, 97, 110, 115, 102, 101, 114, 45, 69, 110, 99, 111, 100, 105, 110, 103, 58, 32, 99, 104, 117, 110, 107, 101, 100, 32, 47, 32, 32, 47, 32, 50, 32, 47, 32, 97, 98, 32, 47, 32, 48, 32, 47, 32, 88, 58, 32, 121, 32, 47, 32, 32, 47, 32, 122]] = [AV.str s39] ∧ ∃ (s40 : List UInt8), List.length s40 ≤ 10000000 ∧ [AV.str (lnS s39)] = [AV.str s40] ∧ ifP (!Rep.b (Prod.fst (repM s34 hd35)) == [97, 98, 99]) (AV.bool false = v) (ifP ((↑(Prod.fst (Prod.snd (repM s34 hd35))) : Int) != 22) (AV.bool false = v) (ifP (Prod.snd (Prod.snd (repM s34 hd35)) != 0) (AV.bool false = v) (ifP (!Rep.b (Prod.fst (repM s37 hd38)) == []) (AV.bool false = v) (ifP ((↑(Prod.fst (Prod.snd (repM s37 hd38))) : Int) != 19) (AV.bool false = v) (ifP (Prod.snd (Prod.snd (repM s37 hd38)) != 0) (AV.bool false = v) (ifP (!Req.b (Prod.fst (reqM s40)) == [97, 98]) (AV.bool false = v) (ifP (Req.mi (Prod.fst (reqM s40)) != 0) (AV.bool false = v) (ifP ((↑(List.length (encFs (Req.fs (Prod.fst (reqM s40))))) : Int) != 1) (AV.bool false = v) (ifP ((↑(Prod.fst (Prod.snd (reqM s40))) : Int) != 65) (AV.bool false = v) (ifP (Prod.snd (Prod.snd (reqM s40)) != 0) (AV.bool false = v) (∃ (r41 : Req) (sz42 : Nat), okReq r41 ∧ szOk sz42 2 (List.length (Req.fs r41)) ∧ [AV.agg [AV.str [80, 85, 84], AV.str [47, 97], AV.int IntKind.i64 1, AV.sl 2 [[AV.str [99, 111, 110, 116, 101, 110, 116, 45, 108, 101, 110, 103, 116, 104], AV.str [57]]] none, AV.str []]] = [AV.agg [AV.str (Req.m r41), AV.str (Req.t r41), AV.int IntKind.i64 (Req.mi r41), AV.sl sz42 (encFs (Req.fs r41)) none, AV.str (Req.b r41)]] ∧ ∃ (r45 : Rep) (sz46 : Nat) (hd47 : Bool), okRep r45 ∧ szOk sz46 2 (List.length (Rep.fs r45)) ∧ [AV.agg [AV.int IntKind.i64 204, AV.str [], AV.int IntKind.i64 1, AV.sl 2 [] none, AV.str [120]], AV.bool false] = [AV.agg [AV.int IntKind.i64 (Rep.st r45), AV.str (Rep.rs r45), AV.int IntKind.i64 (Rep.mi r45), AV.sl sz46 (encFs (Rep.fs r45)) none, AV.str (Rep.b r45)], AV.bool hd47] ∧ ∃ (r50 : Rep) (sz51 : Nat) (hd52 : Bool), okRep r50 ∧ szOk sz51 2 (List.length (Rep.fs r50)) ∧ [AV.agg [AV.int IntKind.i64 200, AV.str [78, 111], AV.int IntKind.i64 1, AV.sl 2 [[AV.str [88], AV.str [121]]] none, AV.str [97, 98]], AV.bool true] = [AV.agg [AV.int IntKind.i64 (Rep.st r50), AV.str (Rep.rs r50), AV.int IntKind.i64 (Rep.mi r50), AV.sl sz51 (encFs (Rep.fs r50)) none, AV.str (Rep.b r50)], AV.bool hd52] ∧ ∃ (r55 : Rep) (sz56 : Nat) (hd57 : Bool), okRep r55 ∧ szOk sz56 2 (List.length (Rep.fs r55)) ∧ [AV.agg [AV.int IntKind.i64 304, AV.str [], AV.int IntKind.i64 1, AV.sl 2 [] none, AV.str []], AV.bool false] = [AV.agg [AV.int IntKind.i64 (Rep.st r55), AV.str (Rep.rs r55), AV.int IntKind.i64 (Rep.mi r55), AV.sl sz56 (encFs (Rep.fs r55)) none, AV.str (Rep.b r55)], AV.bool hd57] ∧ ifP (Prod.fst (putReqM r41) == [80, 85, 84, 32, 47, 97, 32, 72, 84, 84, 80, 47, 49, 46, 49, 13, 10, 67, 111, 110, 116, 101, 110, 116, 45, 76, 101, 110, 103, 116, 104, 58, 32, 48, 13, 10, 13, 10]) (ifP (Prod.snd (putReqM r41) == 0) (ifP (Prod.snd (putRepM r45 hd47) == 2) (ifP (Prod.fst (putRepM r50 hd52) == [72, 84, 84, 80, 47, 49, 46, 49, 32, 50, 48, 48, 32, 78, 111, 13, 10, 88, 58, 32, 121, 13, 10, 67, 111, 110, 116, 101, 110, 116, 45, 76, 101, 110, 103, 116, 104, 58, 32, 50, 13, 10, 13, 10]) (ifP (Prod.snd (putRepM r50 hd52) == 0) (ifP (Prod.fst (putRepM r55 hd57) == [72, 84, 84, 80, 47, 49, 46, 49, 32, 51, 48, 52, 32, 13, 10, 13, 10]) (ifP (Prod.snd (putRepM r55 hd57) == 0) (true = true ∧ AV.bool true = v) (AV.bool false = v)) (AV.bool false = v)) (AV.bool false = v)) (AV.bool false = v)) (AV.bool false = v)) (AV.bool false = v)) (AV.bool false = v)))))))))))))))))) : ToEnd cfg 9 (bodyOf Tryz.f9) (RetIs Tryz.prog Tryz.f9 v) ([.code []]) .normal ([]) ([]) := by
  exact unr_ok (pl := ⟨[], []⟩) hT 100000 _ _ _ _ (unr_use H (by kernel_rfl))

end Go.Proofs.YtnncfdlpogjlkaaGreatDoor
end

section
namespace Go.Proofs.YtnncfdlpogjlkaaGreatDoor
open Go.Ai Go
set_option linter.unusedSimpArgs false
set_option linter.unusedVariables false
set_option linter.unnecessarySimpa false
set_option maxRecDepth 100000

theorem ifP_mkf {b : Bool} {p q : Prop} (h : b = false) (hq : q) : ifP b p q := by subst h; exact hq
theorem ifP_mkt {b : Bool} {p q : Prop} (h : b = true) (hp : p) : ifP b p q := by subst h; exact hp

theorem lnS_same {s : List UInt8} (h : ∀ c ∈ s, c ≠ 32) : cntS s [32, 47, 32] = 0 ∧ lnS s = s := by
  have hf : fnd [32, 47, 32] s = none := by
    refine fnd_no (fun m hm => ?_) (by simp)
    cases hp : ([32, 47, 32] : List UInt8).isPrefixOf (s.drop m) with
    | false => rfl
    | true =>
      exfalso
      have := (List.isPrefixOf_iff_prefix.1 hp).subset (show (32 : UInt8) ∈ [32, 47, 32] by simp)
      exact h 32 (List.mem_of_mem_drop this) rfl
  have hi : idxB s [32, 47, 32] 0 = -1 := by rw [idxB_fnd, hf]
  have hc : cntS s [32, 47, 32] = 0 := by
    unfold cntS cntB
    rw [hi]; rfl
  refine ⟨hc, ?_⟩
  unfold lnS replS
  rw [hc]
  rfl
theorem many_len (n : Nat) : (Lib.repeatL [97] n).length = n := by rw [Lib.repeatL_length]; simp
theorem many_mem : ∀ (n : Nat), ∀ c ∈ Lib.repeatL [97] n, c = 97
  | 0, c, h => by cases h
  | n + 1, c, h => by
    rcases List.mem_append.1 h with h | h
    · simpa using h
    · exact many_mem n c h
theorem many_ok : okLn (Lib.repeatL [97] 8192) = true ∧ asksB (Lib.repeatL [97] 8192) [] [] [] 0 3 = true := by
  obtain ⟨h1, h2⟩ := lnS_same (s := Lib.repeatL [97] 8192) fun c hc => by rw [many_mem _ c hc]; decide
  have hl := many_len 8192
  have h13 : ∀ c ∈ Lib.repeatL [97] 8192, c ≠ 13 := fun c hc => by rw [many_mem _ c hc]; decide
  generalize Lib.repeatL [97] 8192 = z at *
  constructor
  · unfold okLn
    rw [h1, h2, hl]
    rfl
  · have hf : fnd crlf2 (z.take 8192) = none := by
      refine fnd_no (fun m hm => ?_) crlf2_ne
      cases hp : crlf2.isPrefixOf ((z.take 8192).drop m) with
      | false => rfl
      | true =>
        exfalso
        have := (List.isPrefixOf_iff_prefix.1 hp).subset (show (13 : UInt8) ∈ crlf2 by simp [crlf2])
        exact h13 13 (List.mem_of_mem_take (List.mem_of_mem_drop this)) rfl
    unfold asksB
    rw [h2, reqM_e1 (by rw [headM_none hf, if_pos (by omega)]; simp), headM_none hf, if_pos (by omega)]
    rfl

theorem pf9 : pureFn cfg 9 Tryz.f9 := ⟨by kernel_rfl, by kernel_rfl, by kernel_rfl, by kernel_rfl, by kernel_rfl, by kernel_rfl⟩
theorem c25 : COk cfg 25 repC := by
  refine cok_prim (by kernel_rfl) (by kernel_rfl) (by kernel_rfl : cfg.prim 25 = some pRepeat) (by kernel_rfl) fun vs h K ht => ?_
  obtain ⟨s, n, hs, hn, rfl, hk⟩ := ht
  refine ⟨.str (Lib.repeatL s n), hk, ?_⟩
  have h1 : s.length * n ≤ 1000 * 100000 := Nat.mul_le_mul hs hn
  simp only [pRepeat, Int.toNat_natCast, decide_eq_true (by omega : (0 : Int) ≤ (n : Int)), decide_eq_true (by omega : (n : Int) ≤ 9223372036854775807), Nat.ble_eq_true_of_le (by omega : s.length * n ≤ 140737488355328), Bool.and_self]
theorem tab9 : TabOk cfg (ctab [(10, Ai.trueC), (24, asksC), (25, repC), (26, linesC), (13, repMC), (11, reqMC), (20, putReqMC), (18, putRepMC)]) :=
  ctab_ok (ctab_cons c10 (ctab_cons c24 (ctab_cons c25 (ctab_cons c26 (ctab_cons c13 (ctab_cons c11 (ctab_cons c20 (ctab_cons c18 ctab_nil))))))))
theorem ln_lim {s : List UInt8} (h : okLn s = true) : (lnS s).length ≤ 10000000 := by
  simp only [okLn, Bool.and_eq_true] at h
  have := Nat.le_of_ble_eq_true h.2.2
  omega

theorem nilPs : okPs [] := ⟨by simp, fun f hf => by cases hf⟩

theorem c9 : COk cfg 9 Ai.trueC := by
  refine cok_pure pf9 fun vs h K ht => ?_
  obtain ⟨hv, hk⟩ := ht
  obtain rfl : vs = [] := by cases vs with | nil => rfl | cons => cases hv
  refine ⟨_, hk, t9 tab9 ?_⟩
  refine ⟨rfl, ?_⟩
  refine ⟨_, _, _, _, _, _, ?_, rfl, ?_⟩
  · kernel_rfl
  refine ifP_mkf ?_ ?_
  · kernel_rfl
  refine ⟨_, _, _, _, _, _, ?_, rfl, ?_⟩
  · kernel_rfl
  refine ifP_mkf ?_ ?_
  · kernel_rfl
  refine ⟨_, _, _, _, _, _, ?_, rfl, ?_⟩
  · kernel_rfl
  refine ifP_mkf ?_ ?_
  · kernel_rfl
  refine ⟨[97], 8192, by decide, by omega, rfl, ?_⟩
  have hm := many_ok
  generalize Lib.repeatL [97] 8192 = z at hm ⊢
  refine ⟨_, _, _, _, _, _, hm.1, rfl, ?_⟩
  rw [hm.2]
  refine ifP_mkf rfl ?_
  refine ⟨_, _, _, _, _, _, ?_, rfl, ?_⟩
  · kernel_rfl
  refine ifP_mkf ?_ ?_
  · kernel_rfl
  refine ⟨_, ?_, rfl, _, _, ln_lim ?_, rfl, _, ?_, rfl, _, _, ln_lim ?_, rfl, _, ?_, rfl, _, ln_lim ?_, rfl, ?_⟩
  · kernel_rfl
  · kernel_rfl
  · kernel_rfl
  · kernel_rfl
  · kernel_rfl
  · kernel_rfl
  refine ifP_mkf ?_ ?_
  · kernel_rfl
  refine ifP_mkf ?_ ?_
  · kernel_rfl
  refine ifP_mkf ?_ ?_
  · kernel_rfl
  refine ifP_mkf ?_ ?_
  · kernel_rfl
  refine ifP_mkf ?_ ?_
  · kernel_rfl
  refine ifP_mkf ?_ ?_
  · kernel_rfl
  refine ifP_mkf ?_ ?_
  · kernel_rfl
  refine ifP_mkf ?_ ?_
  · kernel_rfl
  refine ifP_mkf ?_ ?_
  · kernel_rfl
  refine ifP_mkf ?_ ?_
  · kernel_rfl
  refine ifP_mkf ?_ ?_
  · kernel_rfl
  refine ⟨⟨[80, 85, 84], [47, 97], 1, [⟨clS, [57]⟩], []⟩, 2, ⟨⟨by decide, fun f hf => by obtain rfl := List.mem_singleton.1 hf; exact ⟨by decide, by decide⟩⟩, by decide, by decide, by decide, by decide, by decide, by decide⟩, .inl rfl, rfl, ?_⟩
  refine ⟨⟨204, [], 1, [], [120]⟩, 2, false, ⟨nilPs, by decide, by decide, by decide, ⟨by decide, by decide⟩, by decide, by decide⟩, .inl rfl, rfl, ?_⟩
  refine ⟨⟨200, [78, 111], 1, [⟨[88], [121]⟩], [97, 98]⟩, 2, true, ⟨⟨by decide, fun f hf => by obtain rfl := List.mem_singleton.1 hf; exact ⟨by decide, by decide⟩⟩, by decide, by decide, by decide, ⟨by decide, by decide⟩, by decide, by decide⟩, .inl rfl, rfl, ?_⟩
  refine ⟨⟨304, [], 1, [], []⟩, 2, false, ⟨nilPs, by decide, by decide, by decide, ⟨by decide, by decide⟩, by decide, by decide⟩, .inl rfl, rfl, ?_⟩
  refine ifP_mkt ?_ ?_
  · kernel_rfl
  refine ifP_mkt ?_ ?_
  · kernel_rfl
  refine ifP_mkt ?_ ?_
  · kernel_rfl
  refine ifP_mkt ?_ ?_
  · kernel_rfl
  refine ifP_mkt ?_ ?_
  · kernel_rfl
  refine ifP_mkt ?_ ?_
  · kernel_rfl
  refine ifP_mkt ?_ ?_
  · kernel_rfl
  exact ⟨rfl, rfl⟩
end Go.Proofs.YtnncfdlpogjlkaaGreatDoor
end

section
namespace Go.Proofs.YtnncfdlpogjlkaaGreatDoor
open Go.Ai Go
set_option maxRecDepth 100000
set_option linter.unusedVariables false
theorem t8 {v : AV} {s : List UInt8} (hT : TabOk cfg (ctab [(11, reqMC), (13, repMC), (15, sameReqC), (16, sameRepC), (20, putReqMC), (18, putRepMC), (23, plainC), (10, Ai.trueC)])) (H : ifP (decide ((↑(List.length s) : Int) > 7000)) (true = true ∧ AV.bool true = v) (∃ (s1 : List UInt8), List.length s1 ≤ 10000000 ∧ [AV.str s] = [AV.str s1] ∧ ifP (Prod.snd (Prod.snd (reqM s1)) == 0) (∃ (r2 : Req) (sz3 : Nat), okReq r2 ∧ szOk sz3 2 (List.length (Req.fs r2)) ∧ [AV.agg [AV.str (Req.m (Prod.fst (reqM s1))), AV.str (Req.t (Prod.fst (reqM s1))), AV.int IntKind.i64 (Req.mi (Prod.fst (reqM s1))), AV.sl 2 (stripss 0 [] (encFs (Req.fs (Prod.fst (reqM s1))))) none, AV.str (Req.b (Prod.fst (reqM s1)))]] = [AV.agg [AV.str (Req.m r2), AV.str (Req.t r2), AV.int IntKind.i64 (Req.mi r2), AV.sl sz3 (encFs (Req.fs r2)) none, AV.str (Req.b r2)]] ∧ ∃ (s6 : List UInt8), List.length s6 ≤ 10000000 ∧ [AV.str (Prod.fst (putReqM r2))] = [AV.str s6] ∧ ifP (Prod.snd (putReqM r2) != 0) (ifP (Prod.snd (putReqM r2) != 3) (AV.bool false = v) (ifP (Prod.snd (putReqM r2) == 0) (ifP (Prod.snd (Prod.snd (reqM s6)) != 0) (AV.bool false = v) (ifP ((↑(Prod.fst (Prod.snd (reqM s6))) : Int) != (↑(List.length (Prod.fst (putReqM r2))) : Int)) (AV.bool false = v) (ifP (!Req.b (Prod.fst (reqM s6)) == Req.b (Prod.fst (reqM s1))) (AV.bool false = v) (ifP (!Req.t (Prod.fst (reqM s6)) == Req.t (Prod.fst (reqM s1))) (AV.bool false = v) (∃ (l7 : List Fld) (sz8 : Nat), okPs l7 ∧ szOk sz8 2 (List.length l7) ∧ [AV.sl 2 (stripss 0 [] (encFs (Req.fs (Prod.fst (reqM s6))))) none] = [AV.sl sz8 (encFs l7) none] ∧ ∃ (l11 : List Fld) (sz12 : Nat), okPs l11 ∧ szOk sz12 2 (List.length l11) ∧ [AV.sl 2 (stripss 0 [] (encFs (Req.fs (Prod.fst (reqM s1))))) none] = [AV.sl sz12 (encFs l11) none] ∧ ifP ((↑(List.length (encFs (delF l7))) : Int) != (↑(List.length (encFs (delF l11))) : Int)) (AV.bool false = v) (∃ (s15 : List UInt8) (hd16 : Bool), List.length s15 ≤ 10000000 ∧ [AV.str s, AV.bool false] = [AV.str s15, AV.bool hd16] ∧ ifP (Prod.snd (Prod.snd (repM s15 hd16)) != 0) (true = true ∧ AV.bool true = v) (∃ (r17 : Rep) (sz18 : Nat) (hd19 : Bool), okRep r17 ∧ szOk sz18 2 (List.length (Rep.fs r17)) ∧ [AV.agg [AV.int IntKind.i64 (Rep.st (Prod.fst (repM s15 hd16))), AV.str (Rep.rs (Prod.fst (repM s15 hd16))), AV.int IntKind.i64 (Rep.mi (Prod.fst (repM s15 hd16))), AV.sl 2 (stripss 0 [] (encFs (Rep.fs (Prod.fst (repM s15 hd16))))) none, AV.str (Rep.b (Prod.fst (repM s15 hd16)))], AV.bool false] = [AV.agg [AV.int IntKind.i64 (Rep.st r17), AV.str (Rep.rs r17), AV.int IntKind.i64 (Rep.mi r17), AV.sl sz18 (encFs (Rep.fs r17)) none, AV.str (Rep.b r17)], AV.bool hd19] ∧ ∃ (s22 : List UInt8) (hd23 : Bool), List.length s22 ≤ 10000000 ∧ [AV.str (Prod.fst (putRepM r17 hd19)), AV.bool false] = [AV.str s22, AV.bool hd23] ∧ ifP (Prod.snd (putRepM r17 hd19) == 3) (true = true ∧ AV.bool true = v) (ifP (Prod.snd (putRepM r17 hd19) == 0) (ifP (Prod.snd (Prod.snd (repM s22 hd23)) == 0) (ifP ((↑(Prod.fst (Prod.snd (repM s22 hd23))) : Int) == (↑(List.length (Prod.fst (putRepM r17 hd19))) : Int)) (ifP (Rep.b (Prod.fst (repM s22 hd23)) == Rep.b (Prod.fst (repM s15 hd16))) (ifP (Rep.rs (Prod.fst (repM s22 hd23)) == Rep.rs (Prod.fst (repM s15 hd16))) (ifP (Rep.st (Prod.fst (repM s22 hd23)) == Rep.st (Prod.fst (repM s15 hd16))) (∃ (l24 : List Fld) (sz25 : Nat), okPs l24 ∧ szOk sz25 2 (List.length l24) ∧ [AV.sl 2 (stripss 0 [] (encFs (Rep.fs (Prod.fst (repM s22 hd23))))) none] = [AV.sl sz25 (encFs l24) none] ∧ ∃ (l28 : List Fld) (sz29 : Nat), okPs l28 ∧ szOk sz29 2 (List.length l28) ∧ [AV.sl 2 (stripss 0 [] (encFs (Rep.fs (Prod.fst (repM s15 hd16))))) none] = [AV.sl sz29 (encFs l28) none] ∧ ifP ((↑(List.length (encFs (delF l24))) : Int) == (↑(List.length (encFs (delF l28))) : Int)) (true = true ∧ AV.bool true = v) (AV.bool false = v)) (AV.bool false = v)) (AV.bool false = v)) (AV.bool false = v)) (AV.bool false = v)) (AV.bool false = v)) (AV.bool false = v))))))))) (∃ (s32 : List UInt8) (hd33 : Bool), List.length s32 ≤ 10000000 ∧ [AV.str s, AV.bool false] = [AV.str s32, AV.bool hd33] ∧ ifP (Prod.snd (Prod.snd (repM s32 hd33)) != 0) (true = true ∧ AV.bool true = v) (∃ (r34 : Rep) (sz35 : Nat) (hd36 : Bool), okRep r34 ∧ szOk sz35 2 (List.length (Rep.fs r34)) ∧ [AV.agg [AV.int IntKind.i64 (Rep.st (Prod.fst (repM s32 hd33))), AV.str (Rep.rs (Prod.fst (repM s32 hd33))), AV.int IntKind.i64 (Rep.mi (Prod.fst (repM s32 hd33))), AV.sl 2 (stripss 0 [] (encFs (Rep.fs (Prod.fst (repM s32 hd33))))) none, AV.str (Rep.b (Prod.fst (repM s32 hd33)))], AV.bool false] = [AV.agg [AV.int IntKind.i64 (Rep.st r34), AV.str (Rep.rs r34), AV.int IntKind.i64 (Rep.mi r34), AV.sl sz35 (encFs (Rep.fs r34)) none, AV.str (Rep.b r34)], AV.bool hd36] ∧ ∃ (s39 : List UInt8) (hd40 : Bool), List.length s39 ≤ 10000000 ∧ [AV.str (Prod.fst (putRepM r34 hd36)), AV.bool false] = [AV.str s39, AV.bool hd40] ∧ ifP (Prod.snd (putRepM r34 hd36) == 3) (true = true ∧ AV.bool true = v) (ifP (Prod.snd (putRepM r34 hd36) == 0) (ifP (Prod.snd (Prod.snd (repM s39 hd40)) == 0) (ifP ((↑(Prod.fst (Prod.snd (repM s39 hd40))) : Int) == (↑(List.length (Prod.fst (putRepM r34 hd36))) : Int)) (ifP (Rep.b (Prod.fst (repM s39 hd40)) == Rep.b (Prod.fst (repM s32 hd33))) (ifP (Rep.rs (Prod.fst (repM s39 hd40)) == Rep.rs (Prod.fst (repM s32 hd33))) (ifP (Rep.st (Prod.fst (repM s39 hd40)) == Rep.st (Prod.fst (repM s32 hd33))) (∃ (l41 : List Fld) (sz42 : Nat), okPs l41 ∧ szOk sz42 2 (List.length l41) ∧ [AV.sl 2 (stripss 0 [] (encFs (Rep.fs (Prod.fst (repM s39 hd40))))) none] = [AV.sl sz42 (encFs l41) none] ∧ ∃ (l45 : List Fld) (sz46 : Nat), okPs l45 ∧ szOk sz46 2 (List.length l45) ∧ [AV.sl 2 (stripss 0 [] (encFs (Rep.fs (Prod.fst (repM s32 hd33))))) none] = [AV.sl sz46 (encFs l45) none] ∧ ifP ((↑(List.length (encFs (delF l41))) : Int) == (↑(List.length (encFs (delF l45))) : Int)) (true = true ∧ AV.bool true = v) (AV.bool false = v)) (AV.bool false = v)) (AV.bool false = v)) (AV.bool false = v)) (AV.bool false = v)) (AV.bool false = v)) (AV.bool false = v)))))) (ifP (Prod.snd (putReqM r2) == 0) (ifP (Prod.snd (Prod.snd (reqM s6)) != 0) (AV.bool false = v) (ifP ((↑(Prod.fst (Prod.snd (reqM s6))) : Int) != (↑(List.length (Prod.fst (putReqM r2))) : Int)) (AV.bool false = v) (ifP (!Req.b (Prod.fst (reqM s6)) == Req.b (Prod.fst (reqM s1))) (AV.bool false = v) (ifP (!Req.t (Prod.fst (reqM s6)) == Req.t (Prod.fst (reqM s1))) (AV.bool false = v) (∃ (l49 : List Fld) (sz50 : Nat), okPs l49 ∧ szOk sz50 2 (List.length l49) ∧ [AV.sl 2 (stripss 0 [] (encFs (Req.fs (Prod.fst (reqM s6))))) none] = [AV.sl sz50 (encFs l49) none] ∧ ∃ (l53 : List Fld) (sz54 : Nat), okPs l53 ∧ szOk sz54 2 (List.length l53) ∧ [AV.sl 2 (stripss 0 [] (encFs (Req.fs (Prod.fst (reqM s1))))) none] = [AV.sl sz54 (encFs l53) none] ∧ ifP ((↑(List.length (encFs (delF l49))) : Int) != (↑(List.length (encFs (delF l53))) : Int)) (AV.bool false = v) (∃ (s57 : List UInt8) (hd58 : Bool), List.length s57 ≤ 10000000 ∧ [AV.str s, AV.bool false] = [AV.str s57, AV.bool hd58] ∧ ifP (Prod.snd (Prod.snd (repM s57 hd58)) != 0) (true = true ∧ AV.bool true = v) (∃ (r59 : Rep) (sz60 : Nat) (hd61 : Bool), okRep r59 ∧ szOk sz60 2 (List.length (Rep.fs r59)) ∧ [AV.agg [AV.int IntKind.i64 (Rep.st (Prod.fst (repM s57 hd58))), AV.str (Rep.rs (Prod.fst (repM s57 hd58))), AV.int IntKind.i64 (Rep.mi (Prod.fst (repM s57 hd58))), AV.sl 2 (stripss 0 [] (encFs (Rep.fs (Prod.fst (repM s57 hd58))))) none, AV.str (Rep.b (Prod.fst (repM s57 hd58)))], AV.bool false] = [AV.agg [AV.int IntKind.i64 (Rep.st r59), AV.str (Rep.rs r59), AV.int IntKind.i64 (Rep.mi r59), AV.sl sz60 (encFs (Rep.fs r59)) none, AV.str (Rep.b r59)], AV.bool hd61] ∧ ∃ (s64 : List UInt8) (hd65 : Bool), List.length s64 ≤ 10000000 ∧ [AV.str (Prod.fst (putRepM r59 hd61)), AV.bool false] = [AV.str s64, AV.bool hd65] ∧ ifP (Prod.snd (putRepM r59 hd61) == 3) (true = true ∧ AV.bool true = v) (ifP (Prod.snd (putRepM r59 hd61) == 0) (ifP (Prod.snd (Prod.snd (repM s64 hd65)) == 0) (ifP ((↑(Prod.fst (Prod.snd (repM s64 hd65))) : Int) == (↑(List.length (Prod.fst (putRepM r59 hd61))) : Int)) (ifP (Rep.b (Prod.fst (repM s64 hd65)) == Rep.b (Prod.fst (repM s57 hd58))) (ifP (Rep.rs (Prod.fst (repM s64 hd65)) == Rep.rs (Prod.fst (repM s57 hd58))) (ifP (Rep.st (Prod.fst (repM s64 hd65)) == Rep.st (Prod.fst (repM s57 hd58))) (∃ (l66 : List Fld) (sz67 : Nat), okPs l66 ∧ szOk sz67 2 (List.length l66) ∧ [AV.sl 2 (stripss 0 [] (encFs (Rep.fs (Prod.fst (repM s64 hd65))))) none] = [AV.sl sz67 (encFs l66) none] ∧ ∃ (l70 : List Fld) (sz71 : Nat), okPs l70 ∧ szOk sz71 2 (List.length l70) ∧ [AV.sl 2 (stripss 0 [] (encFs (Rep.fs (Prod.fst (repM s57 hd58))))) none] = [AV.sl sz71 (encFs l70) none] ∧ ifP ((↑(List.length (encFs (delF l66))) : Int) == (↑(List.length (encFs (delF l70))) : Int)) (true = true ∧ AV.bool true = v) (AV.bool false = v)) (AV.bool false = v)) (AV.bool false = v)) (AV.bool false = v)) (AV.bool false = v)) (AV.bool false = v)) (AV.bool false = v))))))))) (∃ (s74 : List UInt8) (hd75 : Bool), List.length s74 ≤ 10000000 ∧ [AV.str s, AV.bool false] = [AV.str s74, AV.bool hd75] ∧ ifP (Prod.snd (Prod.snd (repM s74 hd75)) != 0) (true = true ∧ AV.bool true = v) (∃ (r76 : Rep) (sz77 : Nat) (hd78 : Bool), okRep r76 ∧ szOk sz77 2 (List.length (Rep.fs r76)) ∧ [AV.agg [AV.int IntKind.i64 (Rep.st (Prod.fst (repM s74 hd75))), AV.str (Rep.rs (Prod.fst (repM s74 hd75))), AV.int IntKind.i64 (Rep.mi (Prod.fst (repM s74 hd75))), AV.sl 2 (stripss 0 [] (encFs (Rep.fs (Prod.fst (repM s74 hd75))))) none, AV.str (Rep.b (Prod.fst (repM s74 hd75)))], AV.bool false] = [AV.agg [AV.int IntKind.i64 (Rep.st r76), AV.str (Rep.rs r76), AV.int IntKind.i64 (Rep.mi r76), AV.sl sz77 (encFs (Rep.fs r76)) none, AV.str (Rep.b r76)], AV.bool hd78] ∧ ∃ (s81 : List UInt8) (hd82 : Bool), List.length s81 ≤ 10000000 ∧ [AV.str (Prod.fst (putRepM r76 hd78)), AV.bool false] = [AV.str s81, AV.bool hd82] ∧ ifP (Prod.snd (putRepM r76 hd78) == 3) (true = true ∧ AV.bool true = v) (ifP (Prod.snd (putRepM r76 hd78) == 0) (ifP (Prod.snd (Prod.snd (repM s81 hd82)) == 0) (ifP ((↑(Prod.fst (Prod.snd (repM s81 hd82))) : Int) == (↑(List.length (Prod.fst (putRepM r76 hd78))) : Int)) (ifP (Rep.b (Prod.fst (repM s81 hd82)) == Rep.b (Prod.fst (repM s74 hd75))) (ifP (Rep.rs (Prod.fst (repM s81 hd82)) == Rep.rs (Prod.fst (repM s74 hd75))) (ifP (Rep.st (Prod.fst (repM s81 hd82)) == Rep.st (Prod.fst (repM s74 hd75))) (∃ (l83 : List Fld) (sz84 : Nat), okPs l83 ∧ szOk sz84 2 (List.length l83) ∧ [AV.sl 2 (stripss 0 [] (encFs (Rep.fs (Prod.fst (repM s81 hd82))))) none] = [AV.sl sz84 (encFs l83) none] ∧ ∃ (l87 : List Fld) (sz88 : Nat), okPs l87 ∧ szOk sz88 2 (List.length l87) ∧ [AV.sl 2 (stripss 0 [] (encFs (Rep.fs (Prod.fst (repM s74 hd75))))) none] = [AV.sl sz88 (encFs l87) none] ∧ ifP ((↑(List.length (encFs (delF l83))) : Int) == (↑(List.length (encFs (delF l87))) : Int)) (true = true ∧ AV.bool true = v) (AV.bool false = v)) (AV.bool false = v)) (AV.bool false = v)) (AV.bool false = v)) (AV.bool false = v)) (AV.bool false = v)) (AV.bool false = v)))))) (∃ (s91 : List UInt8) (hd92 : Bool), List.length s91 ≤ 10000000 ∧ [AV.str s, AV.bool false] = [AV.str s91, AV.bool hd92] ∧ ifP (Prod.snd (Prod.snd (repM s91 hd92)) != 0) (true = true ∧ AV.bool true = v) (∃ (r93 : Rep) (sz94 : Nat) (hd95 : Bool), okRep r93 ∧ szOk sz94 2 (List.length (Rep.fs r93)) ∧ [AV.agg [AV.int IntKind.i64 (Rep.st (Prod.fst (repM s91 hd92))), AV.str (Rep.rs (Prod.fst (repM s91 hd92))), AV.int IntKind.i64 (Rep.mi (Prod.fst (repM s91 hd92))), AV.sl 2 (stripss 0 [] (encFs (Rep.fs (Prod.fst (repM s91 hd92))))) none, AV.str (Rep.b (Prod.fst (repM s91 hd92)))], AV.bool false] = [AV.agg [AV.int IntKind.i64 (Rep.st r93), AV.str (Rep.rs r93), AV.int IntKind.i64 (Rep.mi r93), AV.sl sz94 (encFs (Rep.fs r93)) none, AV.str (Rep.b r93)], AV.bool hd95] ∧ ∃ (s98 : List UInt8) (hd99 : Bool), List.length s98 ≤ 10000000 ∧ [AV.str (Prod.fst (putRepM r93 hd95)), AV.bool false] = [AV.str s98, AV.bool hd99] ∧ ifP (Prod.snd (putRepM r93 hd95) == 3) (true = true ∧ AV.bool true = v) (ifP (Prod.snd (putRepM r93 hd95) == 0) (ifP (Prod.snd (Prod.snd (repM s98 hd99)) == 0) (ifP ((↑(Prod.fst (Prod.snd (repM s98 hd99))) : Int) == (↑(List.length (Prod.fst (putRepM r93 hd95))) : Int)) (ifP (Rep.b (Prod.fst (repM s98 hd99)) == Rep.b (Prod.fst (repM s91 hd92))) (ifP (Rep.rs (Prod.fst (repM s98 hd99)) == Rep.rs (Prod.fst (repM s91 hd92))) (ifP (Rep.st (Prod.fst (repM s98 hd99)) == Rep.st (Prod.fst (repM s91 hd92))) (∃ (l100 : List Fld) (sz101 : Nat), okPs l100 ∧ szOk sz101 2 (List.length l100) ∧ [AV.sl 2 (stripss 0 [] (encFs (Rep.fs (Prod.fst (repM s98 hd99))))) none] = [AV.sl sz101 (encFs l100) none] ∧ ∃ (l104 : List Fld) (sz105 : Nat), okPs l104 ∧ szOk sz105 2 (List.length l104) ∧ [AV.sl 2 (stripss 0 [] (encFs (Rep.fs (Prod.fst (repM s91 hd92))))) none] = [AV.sl sz105 (encFs l104) none] ∧ ifP ((↑(List.length (encFs (delF l100))) : Int) == (↑(List.length (encFs (delF l104))) : Int)) (true = true ∧ AV.bool true = v) (AV.bool false = v)) (AV.bool false = v)) (AV.bool false = v)) (AV.bool false = v)) (AV.bool false = v)) (AV.bool false = v)) (AV.bool false = v)))))) : ToEnd cfg 8 (bodyOf Tryz.f8) (RetIs Tryz.prog Tryz.f8 v) ([.code []]) .normal ([(0, true, .str s)]) ([]) := by
  exact unr_ok (pl := ⟨[], []⟩) hT 100000 _ _ _ _ (unr_use H (by kernel_rfl))

theorem t7 {v : AV} {m1 t1 b1 : List UInt8} {mi1 : Int} {e1 : List (List AV)} {sz1 : Nat} {t2 b2 : List UInt8} {st2 mi2 : Int} {e2 : List (List AV)} {sz2 : Nat} {x : List UInt8} {cu : Int} (hT : TabOk cfg (ctab [(17, fewMC), (11, reqMC), (13, repMC), (15, sameReqC), (16, sameRepC), (20, putReqMC), (18, putRepMC), (23, plainC), (10, Ai.trueC)])) (H : ∃ (l1 : List Fld) (b2_1 : List UInt8) (sz3 : Nat), szOk sz3 2 (List.length l1) ∧ (∀ (f4 : Fld), f4 ∈ l1 → (↑(List.length (Fld.name f4)) : Int) ≤ 9223372036854775807) ∧ [AV.sl sz1 (stripss 0 [] e1) none, AV.str b1] = [AV.sl sz3 (encFs l1) none, AV.str b2_1] ∧ ifP (!fewM l1 b2_1) (true = true ∧ AV.bool true = v) (ifP (decide ((↑(List.length m1) : Int) > 3000)) (true = true ∧ AV.bool true = v) (ifP (decide ((↑(List.length t1) : Int) > 3000)) (true = true ∧ AV.bool true = v) (∃ (l6 : List Fld) (b7 : List UInt8) (sz8 : Nat), szOk sz8 2 (List.length l6) ∧ (∀ (f9 : Fld), f9 ∈ l6 → (↑(List.length (Fld.name f9)) : Int) ≤ 9223372036854775807) ∧ [AV.sl sz2 (stripss 0 [] e2) none, AV.str b2] = [AV.sl sz8 (encFs l6) none, AV.str b7] ∧ ifP (!fewM l6 b7) (true = true ∧ AV.bool true = v) (ifP (decide ((↑(List.length t2) : Int) > 3000)) (true = true ∧ AV.bool true = v) (ifP (decide ((↑(List.length x) : Int) > 3000)) (true = true ∧ AV.bool true = v) (∃ (r11 : Req) (sz12 : Nat), okReq r11 ∧ szOk sz12 2 (List.length (Req.fs r11)) ∧ [AV.agg [AV.str m1, AV.str t1, AV.int IntKind.i64 mi1, AV.sl sz1 (stripss 0 [] e1) none, AV.str b1]] = [AV.agg [AV.str (Req.m r11), AV.str (Req.t r11), AV.int IntKind.i64 (Req.mi r11), AV.sl sz12 (encFs (Req.fs r11)) none, AV.str (Req.b r11)]] ∧ ifP (Prod.snd (putReqM r11) == 0) (ifP (Prod.fst (putReqM r11) == []) (AV.bool false = v) (ifP (Prod.snd (putReqM r11) == 0) (gAnd (decide (List.length (Prod.fst (putReqM r11)) + List.length x ≤ 9223372036854775807)) (∃ (s15 : List UInt8), List.length s15 ≤ 10000000 ∧ [AV.str (Prod.fst (putReqM r11) ++ x)] = [AV.str s15] ∧ ∃ (l16 : List Fld) (sz17 : Nat), okPs l16 ∧ szOk sz17 2 (List.length l16) ∧ [AV.sl 2 (stripss 0 [] (encFs (Req.fs (Prod.fst (reqM s15))))) none] = [AV.sl sz17 (encFs l16) none] ∧ ∃ (l20 : List Fld) (sz21 : Nat), okPs l20 ∧ szOk sz21 2 (List.length l20) ∧ [AV.sl sz1 (stripss 0 [] e1) none] = [AV.sl sz21 (encFs l20) none] ∧ gAnd (!decide ((↑(List.length (Prod.fst (putReqM r11))) : Int) = 0)) (gAnd (cutOb (List.length (Prod.fst (putReqM r11))) none (some (Int.tmod (IntKind.wrap IntKind.i64 cu) (↑(List.length (Prod.fst (putReqM r11))) : Int)))) (∃ (s24 : List UInt8), List.length s24 ≤ 10000000 ∧ [AV.str (cutL (Prod.fst (putReqM r11)) none (some (Int.tmod (IntKind.wrap IntKind.i64 cu) (↑(List.length (Prod.fst (putReqM r11))) : Int))))] = [AV.str s24] ∧ ifP (Prod.snd (Prod.snd (reqM s15)) != 0) (AV.bool false = v) (ifP ((↑(Prod.fst (Prod.snd (reqM s15))) : Int) != (↑(List.length (Prod.fst (putReqM r11))) : Int)) (AV.bool false = v) (∃ (a25 : Req) (b26 : Req) (sz27 : Nat) (sy28 : Nat), List.length (Req.fs a25) ≤ 10000000 ∧ szOk sz27 2 (List.length (Req.fs a25)) ∧ szOk sy28 2 (List.length (Req.fs b26)) ∧ [AV.agg [AV.str (Req.m (Prod.fst (reqM s15))), AV.str (Req.t (Prod.fst (reqM s15))), AV.int IntKind.i64 (Req.mi (Prod.fst (reqM s15))), AV.sl 2 (stripss 0 [] (encFs (delF l16))) none, AV.str (Req.b (Prod.fst (reqM s15)))], AV.agg [AV.str m1, AV.str t1, AV.int IntKind.i64 mi1, AV.sl 2 (stripss 0 [] (encFs (delF l20))) none, AV.str b1]] = [AV.agg [AV.str (Req.m a25), AV.str (Req.t a25), AV.int IntKind.i64 (Req.mi a25), AV.sl sz27 (encFs (Req.fs a25)) none, AV.str (Req.b a25)], AV.agg [AV.str (Req.m b26), AV.str (Req.t b26), AV.int IntKind.i64 (Req.mi b26), AV.sl sy28 (encFs (Req.fs b26)) none, AV.str (Req.b b26)]] ∧ ifP (!sameReq a25 b26) (AV.bool false = v) (ifP (Prod.snd (Prod.snd (reqM s24)) != 6) (AV.bool false = v) (∃ (r29 : Rep) (sz30 : Nat) (hd31 : Bool), okRep r29 ∧ szOk sz30 2 (List.length (Rep.fs r29)) ∧ [AV.agg [AV.int IntKind.i64 st2, AV.str t2, AV.int IntKind.i64 mi2, AV.sl sz2 (stripss 0 [] e2) none, AV.str b2], AV.bool false] = [AV.agg [AV.int IntKind.i64 (Rep.st r29), AV.str (Rep.rs r29), AV.int IntKind.i64 (Rep.mi r29), AV.sl sz30 (encFs (Rep.fs r29)) none, AV.str (Rep.b r29)], AV.bool hd31] ∧ ifP (Prod.snd (putRepM r29 hd31) != 0) (ifP (Prod.snd (putReqM r11) == 0) (ifP (Prod.fst (putRepM r29 hd31) == []) (true = true ∧ AV.bool true = v) (AV.bool false = v)) (ifP (Prod.fst (putReqM r11) == []) (ifP (Prod.fst (putRepM r29 hd31) == []) (true = true ∧ AV.bool true = v) (AV.bool false = v)) (AV.bool false = v))) (ifP (Prod.fst (putRepM r29 hd31) == []) (AV.bool false = v) (gAnd (decide (List.length (Prod.fst (putRepM r29 hd31)) + List.length x ≤ 9223372036854775807)) (∃ (s34 : List UInt8) (hd35 : Bool), List.length s34 ≤ 10000000 ∧ [AV.str (Prod.fst (putRepM r29 hd31) ++ x), AV.bool false] = [AV.str s34, AV.bool hd35] ∧ ∃ (l36 : List Fld) (sz37 : Nat), okPs l36 ∧ szOk sz37 2 (List.length l36) ∧ [AV.sl 2 (stripss 0 [] (encFs (Rep.fs (Prod.fst (repM s34 hd35))))) none] = [AV.sl sz37 (encFs l36) none] ∧ ∃ (l40 : List Fld) (sz41 : Nat), okPs l40 ∧ szOk sz41 2 (List.length l40) ∧ [AV.sl sz2 (stripss 0 [] e2) none] = [AV.sl sz41 (encFs l40) none] ∧ gAnd (!decide ((↑(List.length (Prod.fst (putRepM r29 hd31))) : Int) = 0)) (gAnd (cutOb (List.length (Prod.fst (putRepM r29 hd31))) none (some (Int.tmod (IntKind.wrap IntKind.i64 cu) (↑(List.length (Prod.fst (putRepM r29 hd31))) : Int)))) (∃ (s44 : List UInt8) (hd45 : Bool), List.length s44 ≤ 10000000 ∧ [AV.str (cutL (Prod.fst (putRepM r29 hd31)) none (some (Int.tmod (IntKind.wrap IntKind.i64 cu) (↑(List.length (Prod.fst (putRepM r29 hd31))) : Int)))), AV.bool false] = [AV.str s44, AV.bool hd45] ∧ ifP (Prod.snd (Prod.snd (repM s34 hd35)) == 0) (ifP ((↑(Prod.fst (Prod.snd (repM s34 hd35))) : Int) == (↑(List.length (Prod.fst (putRepM r29 hd31))) : Int)) (∃ (a46 : Rep) (b47 : Rep) (sz48 : Nat) (sy49 : Nat), List.length (Rep.fs a46) ≤ 10000000 ∧ szOk sz48 2 (List.length (Rep.fs a46)) ∧ szOk sy49 2 (List.length (Rep.fs b47)) ∧ [AV.agg [AV.int IntKind.i64 (Rep.st (Prod.fst (repM s34 hd35))), AV.str (Rep.rs (Prod.fst (repM s34 hd35))), AV.int IntKind.i64 (Rep.mi (Prod.fst (repM s34 hd35))), AV.sl 2 (stripss 0 [] (encFs (delF l36))) none, AV.str (Rep.b (Prod.fst (repM s34 hd35)))], AV.agg [AV.int IntKind.i64 st2, AV.str t2, AV.int IntKind.i64 mi2, AV.sl 2 (stripss 0 [] (encFs (delF l40))) none, AV.str b2]] = [AV.agg [AV.int IntKind.i64 (Rep.st a46), AV.str (Rep.rs a46), AV.int IntKind.i64 (Rep.mi a46), AV.sl sz48 (encFs (Rep.fs a46)) none, AV.str (Rep.b a46)], AV.agg [AV.int IntKind.i64 (Rep.st b47), AV.str (Rep.rs b47), AV.int IntKind.i64 (Rep.mi b47), AV.sl sy49 (encFs (Rep.fs b47)) none, AV.str (Rep.b b47)]] ∧ ifP (sameRep a46 b47) (ifP (Prod.snd (Prod.snd (repM s44 hd45)) == 6) (true = true ∧ AV.bool true = v) (AV.bool false = v)) (AV.bool false = v)) (AV.bool false = v)) (AV.bool false = v)))))))))))))) (∃ (r50 : Rep) (sz51 : Nat) (hd52 : Bool), okRep r50 ∧ szOk sz51 2 (List.length (Rep.fs r50)) ∧ [AV.agg [AV.int IntKind.i64 st2, AV.str t2, AV.int IntKind.i64 mi2, AV.sl sz2 (stripss 0 [] e2) none, AV.str b2], AV.bool false] = [AV.agg [AV.int IntKind.i64 (Rep.st r50), AV.str (Rep.rs r50), AV.int IntKind.i64 (Rep.mi r50), AV.sl sz51 (encFs (Rep.fs r50)) none, AV.str (Rep.b r50)], AV.bool hd52] ∧ ifP (Prod.snd (putRepM r50 hd52) != 0) (ifP (Prod.snd (putReqM r11) == 0) (ifP (Prod.fst (putRepM r50 hd52) == []) (true = true ∧ AV.bool true = v) (AV.bool false = v)) (ifP (Prod.fst (putReqM r11) == []) (ifP (Prod.fst (putRepM r50 hd52) == []) (true = true ∧ AV.bool true = v) (AV.bool false = v)) (AV.bool false = v))) (ifP (Prod.fst (putRepM r50 hd52) == []) (AV.bool false = v) (gAnd (decide (List.length (Prod.fst (putRepM r50 hd52)) + List.length x ≤ 9223372036854775807)) (∃ (s55 : List UInt8) (hd56 : Bool), List.length s55 ≤ 10000000 ∧ [AV.str (Prod.fst (putRepM r50 hd52) ++ x), AV.bool false] = [AV.str s55, AV.bool hd56] ∧ ∃ (l57 : List Fld) (sz58 : Nat), okPs l57 ∧ szOk sz58 2 (List.length l57) ∧ [AV.sl 2 (stripss 0 [] (encFs (Rep.fs (Prod.fst (repM s55 hd56))))) none] = [AV.sl sz58 (encFs l57) none] ∧ ∃ (l61 : List Fld) (sz62 : Nat), okPs l61 ∧ szOk sz62 2 (List.length l61) ∧ [AV.sl sz2 (stripss 0 [] e2) none] = [AV.sl sz62 (encFs l61) none] ∧ gAnd (!decide ((↑(List.length (Prod.fst (putRepM r50 hd52))) : Int) = 0)) (gAnd (cutOb (List.length (Prod.fst (putRepM r50 hd52))) none (some (Int.tmod (IntKind.wrap IntKind.i64 cu) (↑(List.length (Prod.fst (putRepM r50 hd52))) : Int)))) (∃ (s65 : List UInt8) (hd66 : Bool), List.length s65 ≤ 10000000 ∧ [AV.str (cutL (Prod.fst (putRepM r50 hd52)) none (some (Int.tmod (IntKind.wrap IntKind.i64 cu) (↑(List.length (Prod.fst (putRepM r50 hd52))) : Int)))), AV.bool false] = [AV.str s65, AV.bool hd66] ∧ ifP (Prod.snd (Prod.snd (repM s55 hd56)) == 0) (ifP ((↑(Prod.fst (Prod.snd (repM s55 hd56))) : Int) == (↑(List.length (Prod.fst (putRepM r50 hd52))) : Int)) (∃ (a67 : Rep) (b68 : Rep) (sz69 : Nat) (sy70 : Nat), List.length (Rep.fs a67) ≤ 10000000 ∧ szOk sz69 2 (List.length (Rep.fs a67)) ∧ szOk sy70 2 (List.length (Rep.fs b68)) ∧ [AV.agg [AV.int IntKind.i64 (Rep.st (Prod.fst (repM s55 hd56))), AV.str (Rep.rs (Prod.fst (repM s55 hd56))), AV.int IntKind.i64 (Rep.mi (Prod.fst (repM s55 hd56))), AV.sl 2 (stripss 0 [] (encFs (delF l57))) none, AV.str (Rep.b (Prod.fst (repM s55 hd56)))], AV.agg [AV.int IntKind.i64 st2, AV.str t2, AV.int IntKind.i64 mi2, AV.sl 2 (stripss 0 [] (encFs (delF l61))) none, AV.str b2]] = [AV.agg [AV.int IntKind.i64 (Rep.st a67), AV.str (Rep.rs a67), AV.int IntKind.i64 (Rep.mi a67), AV.sl sz69 (encFs (Rep.fs a67)) none, AV.str (Rep.b a67)], AV.agg [AV.int IntKind.i64 (Rep.st b68), AV.str (Rep.rs b68), AV.int IntKind.i64 (Rep.mi b68), AV.sl sy70 (encFs (Rep.fs b68)) none, AV.str (Rep.b b68)]] ∧ ifP (sameRep a67 b68) (ifP (Prod.snd (Prod.snd (repM s65 hd66)) == 6) (true = true ∧ AV.bool true = v) (AV.bool false = v)) (AV.bool false = v)) (AV.bool false = v)) (AV.bool false = v))))))))) (ifP (Prod.snd (putReqM r11) == 0) (gAnd (decide (List.length (Prod.fst (putReqM r11)) + List.length x ≤ 9223372036854775807)) (∃ (s71 : List UInt8), List.length s71 ≤ 10000000 ∧ [AV.str (Prod.fst (putReqM r11) ++ x)] = [AV.str s71] ∧ ∃ (l72 : List Fld) (sz73 : Nat), okPs l72 ∧ szOk sz73 2 (List.length l72) ∧ [AV.sl 2 (stripss 0 [] (encFs (Req.fs (Prod.fst (reqM s71))))) none] = [AV.sl sz73 (encFs l72) none] ∧ ∃ (l76 : List Fld) (sz77 : Nat), okPs l76 ∧ szOk sz77 2 (List.length l76) ∧ [AV.sl sz1 (stripss 0 [] e1) none] = [AV.sl sz77 (encFs l76) none] ∧ gAnd (!decide ((↑(List.length (Prod.fst (putReqM r11))) : Int) = 0)) (gAnd (cutOb (List.length (Prod.fst (putReqM r11))) none (some (Int.tmod (IntKind.wrap IntKind.i64 cu) (↑(List.length (Prod.fst (putReqM r11))) : Int)))) (∃ (s80 : List UInt8), List.length s80 ≤ 10000000 ∧ [AV.str (cutL (Prod.fst (putReqM r11)) none (some (Int.tmod (IntKind.wrap IntKind.i64 cu) (↑(List.length (Prod.fst (putReqM r11))) : Int))))] = [AV.str s80] ∧ ifP (Prod.snd (Prod.snd (reqM s71)) != 0) (AV.bool false = v) (ifP ((↑(Prod.fst (Prod.snd (reqM s71))) : Int) != (↑(List.length (Prod.fst (putReqM r11))) : Int)) (AV.bool false = v) (∃ (a81 : Req) (b82 : Req) (sz83 : Nat) (sy84 : Nat), List.length (Req.fs a81) ≤ 10000000 ∧ szOk sz83 2 (List.length (Req.fs a81)) ∧ szOk sy84 2 (List.length (Req.fs b82)) ∧ [AV.agg [AV.str (Req.m (Prod.fst (reqM s71))), AV.str (Req.t (Prod.fst (reqM s71))), AV.int IntKind.i64 (Req.mi (Prod.fst (reqM s71))), AV.sl 2 (stripss 0 [] (encFs (delF l72))) none, AV.str (Req.b (Prod.fst (reqM s71)))], AV.agg [AV.str m1, AV.str t1, AV.int IntKind.i64 mi1, AV.sl 2 (stripss 0 [] (encFs (delF l76))) none, AV.str b1]] = [AV.agg [AV.str (Req.m a81), AV.str (Req.t a81), AV.int IntKind.i64 (Req.mi a81), AV.sl sz83 (encFs (Req.fs a81)) none, AV.str (Req.b a81)], AV.agg [AV.str (Req.m b82), AV.str (Req.t b82), AV.int IntKind.i64 (Req.mi b82), AV.sl sy84 (encFs (Req.fs b82)) none, AV.str (Req.b b82)]] ∧ ifP (!sameReq a81 b82) (AV.bool false = v) (ifP (Prod.snd (Prod.snd (reqM s80)) != 6) (AV.bool false = v) (∃ (r85 : Rep) (sz86 : Nat) (hd87 : Bool), okRep r85 ∧ szOk sz86 2 (List.length (Rep.fs r85)) ∧ [AV.agg [AV.int IntKind.i64 st2, AV.str t2, AV.int IntKind.i64 mi2, AV.sl sz2 (stripss 0 [] e2) none, AV.str b2], AV.bool false] = [AV.agg [AV.int IntKind.i64 (Rep.st r85), AV.str (Rep.rs r85), AV.int IntKind.i64 (Rep.mi r85), AV.sl sz86 (encFs (Rep.fs r85)) none, AV.str (Rep.b r85)], AV.bool hd87] ∧ ifP (Prod.snd (putRepM r85 hd87) != 0) (ifP (Prod.snd (putReqM r11) == 0) (ifP (Prod.fst (putRepM r85 hd87) == []) (true = true ∧ AV.bool true = v) (AV.bool false = v)) (ifP (Prod.fst (putReqM r11) == []) (ifP (Prod.fst (putRepM r85 hd87) == []) (true = true ∧ AV.bool true = v) (AV.bool false = v)) (AV.bool false = v))) (ifP (Prod.fst (putRepM r85 hd87) == []) (AV.bool false = v) (gAnd (decide (List.length (Prod.fst (putRepM r85 hd87)) + List.length x ≤ 9223372036854775807)) (∃ (s90 : List UInt8) (hd91 : Bool), List.length s90 ≤ 10000000 ∧ [AV.str (Prod.fst (putRepM r85 hd87) ++ x), AV.bool false] = [AV.str s90, AV.bool hd91] ∧ ∃ (l92 : List Fld) (sz93 : Nat), okPs l92 ∧ szOk sz93 2 (List.length l92) ∧ [AV.sl 2 (stripss 0 [] (encFs (Rep.fs (Prod.fst (repM s90 hd91))))) none] = [AV.sl sz93 (encFs l92) none] ∧ ∃ (l96 : List Fld) (sz97 : Nat), okPs l96 ∧ szOk sz97 2 (List.length l96) ∧ [AV.sl sz2 (stripss 0 [] e2) none] = [AV.sl sz97 (encFs l96) none] ∧ gAnd (!decide ((↑(List.length (Prod.fst (putRepM r85 hd87))) : Int) = 0)) (gAnd (cutOb (List.length (Prod.fst (putRepM r85 hd87))) none (some (Int.tmod (IntKind.wrap IntKind.i64 cu) (↑(List.length (Prod.fst (putRepM r85 hd87))) : Int)))) (∃ (s100 : List UInt8) (hd101 : Bool), List.length s100 ≤ 10000000 ∧ [AV.str (cutL (Prod.fst (putRepM r85 hd87)) none (some (Int.tmod (IntKind.wrap IntKind.i64 cu) (↑(List.length (Prod.fst (putRepM r85 hd87))) : Int)))), AV.bool false] = [AV.str s100, AV.bool hd101] ∧ ifP (Prod.snd (Prod.snd (repM s90 hd91)) == 0) (ifP ((↑(Prod.fst (Prod.snd (repM s90 hd91))) : Int) == (↑(List.length (Prod.fst (putRepM r85 hd87))) : Int)) (∃ (a102 : Rep) (b103 : Rep) (sz104 : Nat) (sy105 : Nat), List.length (Rep.fs a102) ≤ 10000000 ∧ szOk sz104 2 (List.length (Rep.fs a102)) ∧ szOk sy105 2 (List.length (Rep.fs b103)) ∧ [AV.agg [AV.int IntKind.i64 (Rep.st (Prod.fst (repM s90 hd91))), AV.str (Rep.rs (Prod.fst (repM s90 hd91))), AV.int IntKind.i64 (Rep.mi (Prod.fst (repM s90 hd91))), AV.sl 2 (stripss 0 [] (encFs (delF l92))) none, AV.str (Rep.b (Prod.fst (repM s90 hd91)))], AV.agg [AV.int IntKind.i64 st2, AV.str t2, AV.int IntKind.i64 mi2, AV.sl 2 (stripss 0 [] (encFs (delF l96))) none, AV.str b2]] = [AV.agg [AV.int IntKind.i64 (Rep.st a102), AV.str (Rep.rs a102), AV.int IntKind.i64 (Rep.mi a102), AV.sl sz104 (encFs (Rep.fs a102)) none, AV.str (Rep.b a102)], AV.agg [AV.int IntKind.i64 (Rep.st b103), AV.str (Rep.rs b103), AV.int IntKind.i64 (Rep.mi b103), AV.sl sy105 (encFs (Rep.fs b103)) none, AV.str (Rep.b b103)]] ∧ ifP (sameRep a102 b103) (ifP (Prod.snd (Prod.snd (repM s100 hd101)) == 6) (true = true ∧ AV.bool true = v) (AV.bool false = v)) (AV.bool false = v)) (AV.bool false = v)) (AV.bool false = v)))))))))))))) (∃ (r106 : Rep) (sz107 : Nat) (hd108 : Bool), okRep r106 ∧ szOk sz107 2 (List.length (Rep.fs r106)) ∧ [AV.agg [AV.int IntKind.i64 st2, AV.str t2, AV.int IntKind.i64 mi2, AV.sl sz2 (stripss 0 [] e2) none, AV.str b2], AV.bool false] = [AV.agg [AV.int IntKind.i64 (Rep.st r106), AV.str (Rep.rs r106), AV.int IntKind.i64 (Rep.mi r106), AV.sl sz107 (encFs (Rep.fs r106)) none, AV.str (Rep.b r106)], AV.bool hd108] ∧ ifP (Prod.snd (putRepM r106 hd108) != 0) (ifP (Prod.snd (putReqM r11) == 0) (ifP (Prod.fst (putRepM r106 hd108) == []) (true = true ∧ AV.bool true = v) (AV.bool false = v)) (ifP (Prod.fst (putReqM r11) == []) (ifP (Prod.fst (putRepM r106 hd108) == []) (true = true ∧ AV.bool true = v) (AV.bool false = v)) (AV.bool false = v))) (ifP (Prod.fst (putRepM r106 hd108) == []) (AV.bool false = v) (gAnd (decide (List.length (Prod.fst (putRepM r106 hd108)) + List.length x ≤ 9223372036854775807)) (∃ (s111 : List UInt8) (hd112 : Bool), List.length s111 ≤ 10000000 ∧ [AV.str (Prod.fst (putRepM r106 hd108) ++ x), AV.bool false] = [AV.str s111, AV.bool hd112] ∧ ∃ (l113 : List Fld) (sz114 : Nat), okPs l113 ∧ szOk sz114 2 (List.length l113) ∧ [AV.sl 2 (stripss 0 [] (encFs (Rep.fs (Prod.fst (repM s111 hd112))))) none] = [AV.sl sz114 (encFs l113) none] ∧ ∃ (l117 : List Fld) (sz118 : Nat), okPs l117 ∧ szOk sz118 2 (List.length l117) ∧ [AV.sl sz2 (stripss 0 [] e2) none] = [AV.sl sz118 (encFs l117) none] ∧ gAnd (!decide ((↑(List.length (Prod.fst (putRepM r106 hd108))) : Int) = 0)) (gAnd (cutOb (List.length (Prod.fst (putRepM r106 hd108))) none (some (Int.tmod (IntKind.wrap IntKind.i64 cu) (↑(List.length (Prod.fst (putRepM r106 hd108))) : Int)))) (∃ (s121 : List UInt8) (hd122 : Bool), List.length s121 ≤ 10000000 ∧ [AV.str (cutL (Prod.fst (putRepM r106 hd108)) none (some (Int.tmod (IntKind.wrap IntKind.i64 cu) (↑(List.length (Prod.fst (putRepM r106 hd108))) : Int)))), AV.bool false] = [AV.str s121, AV.bool hd122] ∧ ifP (Prod.snd (Prod.snd (repM s111 hd112)) == 0) (ifP ((↑(Prod.fst (Prod.snd (repM s111 hd112))) : Int) == (↑(List.length (Prod.fst (putRepM r106 hd108))) : Int)) (∃ (a123 : Rep) (b124 : Rep) (sz125 : Nat) (sy126 : Nat), List.length (Rep.fs a123) ≤ 10000000 ∧ szOk sz125 2 (List.length (Rep.fs a123)) ∧ szOk sy126 2 (List.length (Rep.fs b124)) ∧ [AV.agg [AV.int IntKind.i64 (Rep.st (Prod.fst (repM s111 hd112))), AV.str (Rep.rs (Prod.fst (repM s111 hd112))), AV.int IntKind.i64 (Rep.mi (Prod.fst (repM s111 hd112))), AV.sl 2 (stripss 0 [] (encFs (delF l113))) none, AV.str (Rep.b (Prod.fst (repM s111 hd112)))], AV.agg [AV.int IntKind.i64 st2, AV.str t2, AV.int IntKind.i64 mi2, AV.sl 2 (stripss 0 [] (encFs (delF l117))) none, AV.str b2]] = [AV.agg [AV.int IntKind.i64 (Rep.st a123), AV.str (Rep.rs a123), AV.int IntKind.i64 (Rep.mi a123), AV.sl sz125 (encFs (Rep.fs a123)) none, AV.str (Rep.b a123)], AV.agg [AV.int IntKind.i64 (Rep.st b124), AV.str (Rep.rs b124), AV.int IntKind.i64 (Rep.mi b124), AV.sl sy126 (encFs (Rep.fs b124)) none, AV.str (Rep.b b124)]] ∧ ifP (sameRep a123 b124) (ifP (Prod.snd (Prod.snd (repM s121 hd122)) == 6) (true = true ∧ AV.bool true = v) (AV.bool false = v)) (AV.bool false = v)) (AV.bool false = v)) (AV.bool false = v))))))))))))))) : ToEnd cfg 7 (bodyOf Tryz.f7) (RetIs Tryz.prog Tryz.f7 v) ([.code []]) .normal ([(0, true, .agg [.str m1, .str t1, .int .i64 mi1, .sl sz1 e1 none, .str b1]), (1, true, .agg [.int .i64 st2, .str t2, .int .i64 mi2, .sl sz2 e2 none, .str b2]), (2, true, .agg [.str x, .int .u16 cu])]) ([]) := by
  exact unr_ok (pl := ⟨[], []⟩) hT 100000 _ _ _ _ (unr_use H (by kernel_rfl))

end Go.Proofs.YtnncfdlpogjlkaaGreatDoor
end

section
namespace Go.Proofs.YtnncfdlpogjlkaaGreatDoor
open Go.Ai Go
set_option linter.unusedSimpArgs false
set_option linter.unusedVariables false
set_option linter.unnecessarySimpa false
set_option maxRecDepth 100000

theorem pf7 : pureFn cfg 7 Tryz.f7 := ⟨by kernel_rfl, by kernel_rfl, by kernel_rfl, by kernel_rfl, by kernel_rfl, by kernel_rfl⟩
theorem pf8 : pureFn cfg 8 Tryz.f8 := ⟨by kernel_rfl, by kernel_rfl, by kernel_rfl, by kernel_rfl, by kernel_rfl, by kernel_rfl⟩

theorem okL_okPs {o : List Fld} (h : okL o) (hl : o.length ≤ 64) : okPs o := ⟨by omega, fun f hf => by
  have := (h f hf).2
  simp only [longF, decide_eq_false_iff_not] at this
  omega⟩
theorem reqM_okQ {s : List UInt8} (hs : s.length ≤ 700000) (h : (reqM s).2.2 = 0) : okReq (reqM s).1 := by
  obtain ⟨h1, h2, h3, h4⟩ := reqM_ok h
  obtain ⟨k1, k2, k3, k4, v, d, hi⟩ := req_read h2
  have hm := congrArg List.length hi.eq
  simp only [List.length_append, List.length_cons] at hm
  have hp := parseF_mem (headM s).lines
  have hq := parseF_okP (headM s).lines
  rw [h3] at hp hq
  have hb := bodyM_len (asksF (parseF (headM s).lines).1).1 (asksF (parseF (headM s).lines).1).2.1 (s.drop (headM s).n) 65536
  rw [← h4, List.length_drop] at hb
  have hp2 : (reqM s).1.fs.length ≤ 64 := hp.2
  exact ⟨hq, by omega, by omega, by omega, by omega, by omega, by omega⟩
theorem repM_okP {s : List UInt8} {hd : Bool} (hs : s.length ≤ 700000) (h : (repM s hd).2.2 = 0) : okRep (repM s hd).1 := by
  obtain ⟨h1, h2, h3, h0, h4⟩ := repM_ok h
  obtain ⟨k1, k3, k4, v, c0, c1, c2, d, hi, hc⟩ := st_read h2
  have hm := congrArg List.length hi.eq
  simp only [List.length_append, List.length_cons] at hm
  have hp := parseF_mem (headM s).lines
  have hq := parseF_okP (headM s).lines
  rw [h3] at hp hq
  have hb := bodyM_len (tellsF (parseF (headM s).lines).1 (stP (headM s).start).1 hd).1 (tellsF (parseF (headM s).lines).1 (stP (headM s).start).1 hd).2.1 (s.drop (headM s).n) 262144
  rw [← h4, List.length_drop] at hb
  have hr := stP_range (headM s).start
  rw [h2] at hr
  have hp2 : (repM s hd).1.fs.length ≤ 64 := hp.2
  exact ⟨hq, by omega, by omega, by omega, hr, by omega, by omega⟩
theorem HeadIs.size {s st b : List UInt8} {o : List Fld} (h : HeadIs s st o b) : s.length ≤ 8192 + b.length := by
  have := congrArg List.length h.eq
  rw [List.length_append (bs := b)] at this
  have := h.short
  omega
theorem putReqM_len (r : Req) : (putReqM r).1.length ≤ 100000 := by
  by_cases h : (putReqM r).2 = 0
  · obtain ⟨st, _, hb, hh⟩ := putReqM_ok (r := r) (s := (putReqM r).1) (by rw [← h])
    have := HeadIs.size hh
    omega
  · rw [Ai.putReqM_err h]; simp
theorem putRepM_len (r : Rep) : (putRepM r false).1.length ≤ 300000 := by
  by_cases h : (putRepM r false).2 = 0
  · obtain ⟨st, _, hb, _, hh⟩ := putRepM_ok (q := r) (s := (putRepM r false).1) (by rw [← h])
    have := HeadIs.size hh
    omega
  · rw [Ai.putRepM_err h]; simp

theorem tab8 : TabOk cfg (ctab [(11, reqMC), (13, repMC), (15, sameReqC), (16, sameRepC), (20, putReqMC), (18, putRepMC), (23, plainC), (10, Ai.trueC)]) :=
  ctab_ok (ctab_cons c11 (ctab_cons c13 (ctab_cons c15 (ctab_cons c16 (ctab_cons c20 (ctab_cons c18 (ctab_cons c23 (ctab_cons c10 ctab_nil))))))))
theorem c8 : COk cfg 8 (fun vs h K => ∃ s : List UInt8, vs = [.str s] ∧ K (.bool true) h) := by
  refine cok_pure pf8 fun vs h K ht => ?_
  obtain ⟨s, rfl, hk⟩ := ht
  refine ⟨_, hk, t8 tab8 (ifP_intro (fun _ => ⟨rfl, rfl⟩) fun c => ?_)⟩
  have hs : s.length ≤ 7000 := by simp at c; omega
  refine ⟨s, by omega, rfl, ifP_intro (fun a => ?_) fun a => ?_⟩
  · have a : (reqM s).2.2 = 0 := by simpa using a
    have ho := reqM_okQ (by omega) a
    have hl := putReqM_len (reqM s).1
    refine ⟨(reqM s).1, 2, ho, .inl rfl, by rw [stripss_encFs], (putReqM (reqM s).1).1, by omega, rfl, ifP_intro (fun b => ?_) fun b => ?_⟩
    · have b : (putReqM (reqM s).1).2 ≠ 0 := by simpa using b
      have b3 := (again_reqM a).resolve_left b
      refine ifP_mkf (by rw [b3]; rfl) (ifP_mkf (by rw [b3]; rfl) ?_)
      refine ⟨s, false, by omega, rfl, ifP_intro (fun _ => ⟨rfl, rfl⟩) fun d => ?_⟩
      have d : (repM s false).2.2 = 0 := by simpa using d
      have hp := repM_okP (by omega) d
      have hl := putRepM_len (repM s false).1
      refine ⟨(repM s false).1, 2, false, hp, .inl rfl, by rw [stripss_encFs], (putRepM (repM s false).1 false).1, false, by omega, rfl, ifP_intro (fun _ => ⟨rfl, rfl⟩) fun e => ?_⟩
      have e : (putRepM (repM s false).1 false).2 = 0 := (again_repM d).resolve_right fun h3 => by rw [h3] at e; cases e
      have hb : putRepM (repM s false).1 false = ((putRepM (repM s false).1 false).1, 0) := by rw [← e]
      have k := rep_back hb []
      rw [List.append_nil] at k
      obtain ⟨st, _, _, _, hh⟩ := putRepM_ok hb
      have hd : (encFs (delF (outF (repM s false).1.fs (lenR (repM s false).1)))).length = (encFs (delF (repM s false).1.fs)).length := by rw [delF_out]
      refine ifP_mkt (by rw [e]; rfl) ?_
      rw [k]
      exact ifP_mkt (by rfl) (ifP_mkt (by simp) (ifP_mkt (by simp) (ifP_mkt (by simp) (ifP_mkt (by simp) ⟨outF (repM s false).1.fs (lenR (repM s false).1), 2, okL_okPs hh.ok hh.len, .inl rfl, by rw [stripss_encFs], (repM s false).1.fs, 2, hp.1, .inl rfl, by rw [stripss_encFs], ifP_mkt (by rw [hd]; simp) ⟨rfl, rfl⟩⟩))))
    · have b : (putReqM (reqM s).1).2 = 0 := by simpa using b
      have hb : putReqM (reqM s).1 = ((putReqM (reqM s).1).1, 0) := by rw [← b]
      have k := req_back hb []
      rw [List.append_nil] at k
      obtain ⟨st, _, _, hh⟩ := putReqM_ok hb
      have hd : (encFs (delF (outF (reqM s).1.fs (lenQ (reqM s).1)))).length = (encFs (delF (reqM s).1.fs)).length := by rw [delF_out]
      refine ifP_mkt (by rw [b]; rfl) ?_
      rw [k]
      refine ifP_mkf (by rfl) (ifP_mkf (by simp) (ifP_mkf (by simp) (ifP_mkf (by simp) ⟨outF (reqM s).1.fs (lenQ (reqM s).1), 2, okL_okPs hh.ok hh.len, .inl rfl, by rw [stripss_encFs], (reqM s).1.fs, 2, ho.1, .inl rfl, by rw [stripss_encFs], ifP_mkf (by rw [hd]; simp) ?_⟩)))
      refine ⟨s, false, by omega, rfl, ifP_intro (fun _ => ⟨rfl, rfl⟩) fun d => ?_⟩
      have d : (repM s false).2.2 = 0 := by simpa using d
      have hp := repM_okP (by omega) d
      have hl := putRepM_len (repM s false).1
      refine ⟨(repM s false).1, 2, false, hp, .inl rfl, by rw [stripss_encFs], (putRepM (repM s false).1 false).1, false, by omega, rfl, ifP_intro (fun _ => ⟨rfl, rfl⟩) fun e => ?_⟩
      have e : (putRepM (repM s false).1 false).2 = 0 := (again_repM d).resolve_right fun h3 => by rw [h3] at e; cases e
      have hb : putRepM (repM s false).1 false = ((putRepM (repM s false).1 false).1, 0) := by rw [← e]
      have k := rep_back hb []
      rw [List.append_nil] at k
      obtain ⟨st, _, _, _, hh⟩ := putRepM_ok hb
      have hd : (encFs (delF (outF (repM s false).1.fs (lenR (repM s false).1)))).length = (encFs (delF (repM s false).1.fs)).length := by rw [delF_out]
      refine ifP_mkt (by rw [e]; rfl) ?_
      rw [k]
      exact ifP_mkt (by rfl) (ifP_mkt (by simp) (ifP_mkt (by simp) (ifP_mkt (by simp) (ifP_mkt (by simp) ⟨outF (repM s false).1.fs (lenR (repM s false).1), 2, okL_okPs hh.ok hh.len, .inl rfl, by rw [stripss_encFs], (repM s false).1.fs, 2, hp.1, .inl rfl, by rw [stripss_encFs], ifP_mkt (by rw [hd]; simp) ⟨rfl, rfl⟩⟩))))
  · refine ⟨s, false, by omega, rfl, ifP_intro (fun _ => ⟨rfl, rfl⟩) fun d => ?_⟩
    have d : (repM s false).2.2 = 0 := by simpa using d
    have hp := repM_okP (by omega) d
    have hl := putRepM_len (repM s false).1
    refine ⟨(repM s false).1, 2, false, hp, .inl rfl, by rw [stripss_encFs], (putRepM (repM s false).1 false).1, false, by omega, rfl, ifP_intro (fun _ => ⟨rfl, rfl⟩) fun e => ?_⟩
    have e : (putRepM (repM s false).1 false).2 = 0 := (again_repM d).resolve_right fun h3 => by rw [h3] at e; cases e
    have hb : putRepM (repM s false).1 false = ((putRepM (repM s false).1 false).1, 0) := by rw [← e]
    have k := rep_back hb []
    rw [List.append_nil] at k
    obtain ⟨st, _, _, _, hh⟩ := putRepM_ok hb
    have hd : (encFs (delF (outF (repM s false).1.fs (lenR (repM s false).1)))).length = (encFs (delF (repM s false).1.fs)).length := by rw [delF_out]
    refine ifP_mkt (by rw [e]; rfl) ?_
    rw [k]
    exact ifP_mkt (by rfl) (ifP_mkt (by simp) (ifP_mkt (by simp) (ifP_mkt (by simp) (ifP_mkt (by simp) ⟨outF (repM s false).1.fs (lenR (repM s false).1), 2, okL_okPs hh.ok hh.len, .inl rfl, by rw [stripss_encFs], (repM s false).1.fs, 2, hp.1, .inl rfl, by rw [stripss_encFs], ifP_mkt (by rw [hd]; simp) ⟨rfl, rfl⟩⟩))))

theorem tab7 : TabOk cfg (ctab [(17, fewMC), (11, reqMC), (13, repMC), (15, sameReqC), (16, sameRepC), (20, putReqMC), (18, putRepMC), (23, plainC), (10, Ai.trueC)]) :=
  ctab_ok (ctab_cons c17 (ctab_cons c11 (ctab_cons c13 (ctab_cons c15 (ctab_cons c16 (ctab_cons c20 (ctab_cons c18 (ctab_cons c23 (ctab_cons c10 ctab_nil)))))))))
theorem mod_cut {cu : Nat} (h : cu < 65536) {s : List UInt8} (hs : s ≠ []) : Int.tmod (IntKind.wrap .i64 (cu : Int)) (s.length : Int) = ((cu % s.length : Nat) : Int) ∧ cu % s.length < s.length := by
  have hl : 0 < s.length := List.length_pos_iff.2 hs
  rw [wrap_in (by omega) (by omega), Int.tmod_eq_emod_of_nonneg (by omega)]
  exact ⟨(Int.natCast_emod cu s.length).symm, Nat.mod_lt _ hl⟩
theorem len_ne {s : List UInt8} (hs : s ≠ []) : (!decide ((s.length : Int) = 0)) = true := by
  have hl : 0 < s.length := List.length_pos_iff.2 hs
  simp; exact hs
theorem bne_nil {s : List UInt8} (hs : s ≠ []) : (s == []) = false := by simpa using hs
theorem c7 : COk cfg 7 (fun vs h K => ∃ (r : Req) (q : Rep) (x : List UInt8) (cu : Nat), fitQ r ∧ fitP q ∧ cu < 65536 ∧ vs = [.agg (encReq r 2), .agg (encRep q 2), .agg [.str x, .int .u16 cu]] ∧ K (.bool true) h) := by
  refine cok_pure pf7 fun vs h K ht => ?_
  obtain ⟨r, q, x, cu, hfr, hfq, hcu, rfl, hk⟩ := ht
  refine ⟨_, hk, t7 tab7 ⟨r.fs, r.b, 2, .inl rfl, hfr.1, by rw [stripss_encFs], ifP_intro (fun _ => ⟨rfl, rfl⟩) fun a => ifP_intro (fun _ => ⟨rfl, rfl⟩) fun b => ifP_intro (fun _ => ⟨rfl, rfl⟩) fun c => ⟨q.fs, q.b, 2, .inl rfl, hfq.1, by rw [stripss_encFs], ifP_intro (fun _ => ⟨rfl, rfl⟩) fun d => ifP_intro (fun _ => ⟨rfl, rfl⟩) fun e => ifP_intro (fun _ => ⟨rfl, rfl⟩) fun f => ?_⟩⟩⟩
  obtain ⟨r1, r2, r3⟩ := fewM_ok (l := r.fs) (b := r.b) (by simpa using a)
  obtain ⟨q1, q2, q3⟩ := fewM_ok (l := q.fs) (b := q.b) (by simpa using d)
  have b : r.m.length ≤ 3000 := by simp at b; omega
  have c : r.t.length ≤ 3000 := by simp at c; omega
  have e : q.rs.length ≤ 3000 := by simp at e; omega
  have f : x.length ≤ 3000 := by simp at f; omega
  have hor : okReq r := ⟨r3, by omega, by omega, by omega, by omega, hfr.2.1, hfr.2.2⟩
  have hop : okRep q := ⟨q3, by omega, by omega, by omega, hfq.2.1, hfq.2.2.1, hfq.2.2.2⟩
  have hlr := putReqM_len r
  have hlp := putRepM_len q
  refine ⟨r, 2, hor, .inl rfl, by rw [stripss_encFs], ifP_intro (fun g => ?_) fun g => ?_⟩
  · have g' : (putReqM r).2 = 0 := by simpa using g
    have hb : putReqM r = ((putReqM r).1, 0) := by rw [← g']
    obtain ⟨st, _, _, hh⟩ := putReqM_ok hb
    have hne := put_ne hh
    obtain ⟨m1, m2⟩ := mod_cut hcu hne
    have k := req_back hb x
    have kc := req_cut hb m2
    have hsame : sameReq ⟨r.m, r.t, r.mi, delF (outF r.fs (lenQ r)), r.b⟩ ⟨r.m, r.t, r.mi, delF r.fs, r.b⟩ = true := by rw [delF_out]; exact sameReq_refl _
    have hdl := delF_len (outF r.fs (lenQ r))
    have ho64 := hh.len
    refine ifP_mkf (bne_nil hne) (ifP_mkt g (gAnd_intro (decide_eq_true (by omega)) ⟨(putReqM r).1 ++ x, by rw [List.length_append]; omega, rfl, ?_⟩))
    rw [k, m1]
    refine ⟨outF r.fs (lenQ r), 2, okL_okPs hh.ok hh.len, .inl rfl, by rw [stripss_encFs], r.fs, 2, hor.1, .inl rfl, by rw [stripss_encFs], gAnd_intro (len_ne hne) (gAnd_intro (cutOb_to' (by omega)) ⟨(putReqM r).1.take (cu % (putReqM r).1.length), by rw [List.length_take]; omega, by rw [cut_to'], ifP_mkf (by rfl) (ifP_mkf (by simp) ⟨⟨r.m, r.t, r.mi, delF (outF r.fs (lenQ r)), r.b⟩, ⟨r.m, r.t, r.mi, delF r.fs, r.b⟩, 2, 2, by simp only; omega, .inl rfl, .inl rfl, by rw [stripss_encFs, stripss_encFs], ifP_mkf (by rw [hsame]; rfl) (ifP_mkf (by rw [kc]; rfl) ?_)⟩)⟩)⟩
    refine ⟨q, 2, false, hop, .inl rfl, by rw [stripss_encFs], ifP_intro (fun z => ?_) fun z => ?_⟩
    · have z : (putRepM q false).2 ≠ 0 := by simpa using z
      have z1 := Ai.putRepM_err z
      refine ifP_intro (fun _ => ifP_mkt (by rw [z1]; rfl) ⟨rfl, rfl⟩) fun w => ifP_mkt ?_ (ifP_mkt (by rw [z1]; rfl) ⟨rfl, rfl⟩)
      rw [Ai.putReqM_err (by simpa using w)]; rfl
    · have z : (putRepM q false).2 = 0 := by simpa using z
      have hb : putRepM q false = ((putRepM q false).1, 0) := by rw [← z]
      obtain ⟨st, _, _, _, hh⟩ := putRepM_ok hb
      have hne := put_ne hh
      obtain ⟨m1, m2⟩ := mod_cut hcu hne
      have k := rep_back hb x
      have kc := rep_cut hb m2
      have hsame : sameRep ⟨q.st, q.rs, q.mi, delF (outF q.fs (lenR q)), q.b⟩ ⟨q.st, q.rs, q.mi, delF q.fs, q.b⟩ = true := by rw [delF_out]; exact sameRep_refl _
      have hdl := delF_len (outF q.fs (lenR q))
      have ho64 := hh.len
      refine ifP_mkf (bne_nil hne) (gAnd_intro (decide_eq_true (by omega)) ⟨(putRepM q false).1 ++ x, false, by rw [List.length_append]; omega, rfl, ?_⟩)
      rw [k, m1]
      exact ⟨outF q.fs (lenR q), 2, okL_okPs hh.ok hh.len, .inl rfl, by rw [stripss_encFs], q.fs, 2, hop.1, .inl rfl, by rw [stripss_encFs], gAnd_intro (len_ne hne) (gAnd_intro (cutOb_to' (by omega)) ⟨(putRepM q false).1.take (cu % (putRepM q false).1.length), false, by rw [List.length_take]; omega, by rw [cut_to'], ifP_mkt (by rfl) (ifP_mkt (by simp) ⟨⟨q.st, q.rs, q.mi, delF (outF q.fs (lenR q)), q.b⟩, ⟨q.st, q.rs, q.mi, delF q.fs, q.b⟩, 2, 2, by simp only; omega, .inl rfl, .inl rfl, by rw [stripss_encFs, stripss_encFs], ifP_mkt hsame (ifP_mkt (by rw [kc]; rfl) ⟨rfl, rfl⟩)⟩)⟩)⟩
  · refine ifP_mkf g ?_
    refine ⟨q, 2, false, hop, .inl rfl, by rw [stripss_encFs], ifP_intro (fun z => ?_) fun z => ?_⟩
    · have z : (putRepM q false).2 ≠ 0 := by simpa using z
      have z1 := Ai.putRepM_err z
      refine ifP_intro (fun _ => ifP_mkt (by rw [z1]; rfl) ⟨rfl, rfl⟩) fun w => ifP_mkt ?_ (ifP_mkt (by rw [z1]; rfl) ⟨rfl, rfl⟩)
      rw [Ai.putReqM_err (by simpa using w)]; rfl
    · have z : (putRepM q false).2 = 0 := by simpa using z
      have hb : putRepM q false = ((putRepM q false).1, 0) := by rw [← z]
      obtain ⟨st, _, _, _, hh⟩ := putRepM_ok hb
      have hne := put_ne hh
      obtain ⟨m1, m2⟩ := mod_cut hcu hne
      have k := rep_back hb x
      have kc := rep_cut hb m2
      have hsame : sameRep ⟨q.st, q.rs, q.mi, delF (outF q.fs (lenR q)), q.b⟩ ⟨q.st, q.rs, q.mi, delF q.fs, q.b⟩ = true := by rw [delF_out]; exact sameRep_refl _
      have hdl := delF_len (outF q.fs (lenR q))
      have ho64 := hh.len
      refine ifP_mkf (bne_nil hne) (gAnd_intro (decide_eq_true (by omega)) ⟨(putRepM q false).1 ++ x, false, by rw [List.length_append]; omega, rfl, ?_⟩)
      rw [k, m1]
      exact ⟨outF q.fs (lenR q), 2, okL_okPs hh.ok hh.len, .inl rfl, by rw [stripss_encFs], q.fs, 2, hop.1, .inl rfl, by rw [stripss_encFs], gAnd_intro (len_ne hne) (gAnd_intro (cutOb_to' (by omega)) ⟨(putRepM q false).1.take (cu % (putRepM q false).1.length), false, by rw [List.length_take]; omega, by rw [cut_to'], ifP_mkt (by rfl) (ifP_mkt (by simp) ⟨⟨q.st, q.rs, q.mi, delF (outF q.fs (lenR q)), q.b⟩, ⟨q.st, q.rs, q.mi, delF q.fs, q.b⟩, 2, 2, by simp only; omega, .inl rfl, .inl rfl, by rw [stripss_encFs, stripss_encFs], ifP_mkt hsame (ifP_mkt (by rw [kc]; rfl) ⟨rfl, rfl⟩)⟩)⟩)⟩

end Go.Proofs.YtnncfdlpogjlkaaGreatDoor
end
