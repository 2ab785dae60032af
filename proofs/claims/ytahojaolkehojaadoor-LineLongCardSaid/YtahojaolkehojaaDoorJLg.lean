/-
  Runs of functions of start lines, printed by a home tool; each is the kernel's word.
  LineLong's contract: texts of so many bytes, all alike, are put and read as start lines without harm.
-/
import Derived.Test.YtahojaolkehojaaDoorCfg
import Derived.Test.YtahojaolkehojaaDoorJLa
import Derived.Test.YtahojaolkehojaaDoorJLe
section
namespace Go.Proofs.YtahojaolkehojaaDoor
open Go.Ai Go
set_option maxRecDepth 100000
set_option linter.unusedVariables false
theorem t5a {v : AV} {n m : Int} (hT : TabOk cfg (ctab [(3, lineReadsC), (4, linePutsC), (9, Ai.trueC)])) (H :
    gAnd (decide (0 ≤ IntKind.wrap IntKind.i64 (Int.tmod n 1100)) && decide (IntKind.wrap IntKind.i64 (Int.tmod n 1100) = IntKind.wrap IntKind.i64 (Int.tmod n 1100)) && decide (1 * IntKind.wrap IntKind.i64 (Int.tmod n 1100) ≤ 281474976710656) && decide (IntKind.wrap IntKind.i64 (Int.tmod n 1100) ≤ 9223372036854775807) && true && true && true) (ToEnd cfg 5 (bodyOf Tryd.f5) (RetIs Tryd.prog Tryd.f5 v) [Fm.code [0, 1, 0, 1, 1], Fm.block 0, Fm.code [1, 1, 1]] XT.normal [(1, true, AV.int IntKind.u16 m), (5, true, AV.osl 0 0 (Int.toNat (IntKind.wrap IntKind.i64 (Int.tmod n 1100))) 1), (6, true, AV.int IntKind.i64 0)] [Blk.mem 5 (List.replicate (Int.toNat (IntKind.wrap IntKind.i64 (Int.tmod n 1100))) (ofConst (Value.int IntKind.u8 0)))])) :
    ToEnd cfg 5 (bodyOf Tryd.f5) (RetIs Tryd.prog Tryd.f5 v) ([.code []]) .normal ([(0, true, .int .u16 n), (1, true, .int .u16 m)]) ([]) := by
  have e : unr cfg 5 (bodyOf Tryd.f5) (ctab [(3, lineReadsC), (4, linePutsC), (9, Ai.trueC)]) ⟨[[0, 1, 0, 1, 1], [0, 1, 0, 1, 1, 1, 1]], []⟩ (RetIs Tryd.prog Tryd.f5 v) 100000 ([.code []]) .normal ([(0, true, .int .u16 n), (1, true, .int .u16 m)]) ([]) =
    (gAnd (decide (0 ≤ IntKind.wrap IntKind.i64 (Int.tmod n 1100)) && decide (IntKind.wrap IntKind.i64 (Int.tmod n 1100) = IntKind.wrap IntKind.i64 (Int.tmod n 1100)) && decide (1 * IntKind.wrap IntKind.i64 (Int.tmod n 1100) ≤ 281474976710656) && decide (IntKind.wrap IntKind.i64 (Int.tmod n 1100) ≤ 9223372036854775807) && true && true && true) (ToEnd cfg 5 (bodyOf Tryd.f5) (RetIs Tryd.prog Tryd.f5 v) [Fm.code [0, 1, 0, 1, 1], Fm.block 0, Fm.code [1, 1, 1]] XT.normal [(1, true, AV.int IntKind.u16 m), (5, true, AV.osl 0 0 (Int.toNat (IntKind.wrap IntKind.i64 (Int.tmod n 1100))) 1), (6, true, AV.int IntKind.i64 0)] [Blk.mem 5 (List.replicate (Int.toNat (IntKind.wrap IntKind.i64 (Int.tmod n 1100))) (ofConst (Value.int IntKind.u8 0)))])) := by kernel_rfl
  exact unr_ok hT 100000 _ _ _ _ (e.mpr H)

theorem t5b {v : AV} {m : Int} {N : Nat} {i : Int} {cs : List AV} (hT : TabOk cfg (ctab [(3, lineReadsC), (4, linePutsC), (9, Ai.trueC)])) (H :
    ifP (decide (i < (↑N : Int))) (gAnd (inR i N && true && true) (gAnd (Nat.ble (0 + Int.toNat i * 1 + 1) (List.length cs)) (ToEnd cfg 5 (bodyOf Tryd.f5) (RetIs Tryd.prog Tryd.f5 v) [Fm.code [0, 1, 0, 1, 1], Fm.block 0, Fm.code [1, 1, 1]] XT.normal [(1, true, AV.int IntKind.u16 m), (5, true, AV.osl 0 0 N 1), (6, true, AV.int IntKind.i64 (IntKind.wrap IntKind.i64 (i + 1)))] [Blk.mem 5 (splice cs (0 + Int.toNat i * 1) [ofConst (Value.int IntKind.u8 97)])]))) (gAnd (decide (0 ≤ IntKind.wrap IntKind.i64 (Int.tmod m 1100)) && decide (IntKind.wrap IntKind.i64 (Int.tmod m 1100) = IntKind.wrap IntKind.i64 (Int.tmod m 1100)) && decide (1 * IntKind.wrap IntKind.i64 (Int.tmod m 1100) ≤ 281474976710656) && decide (IntKind.wrap IntKind.i64 (Int.tmod m 1100) ≤ 9223372036854775807) && true && true && true) (ToEnd cfg 5 (bodyOf Tryd.f5) (RetIs Tryd.prog Tryd.f5 v) [Fm.code [0, 1, 0, 1, 1, 1, 1], Fm.block 2, Fm.code [1, 1, 1, 1, 1]] XT.normal [(5, true, AV.osl 0 0 N 1), (7, true, AV.osl 1 0 (Int.toNat (IntKind.wrap IntKind.i64 (Int.tmod m 1100))) 1), (8, true, AV.int IntKind.i64 0)] [Blk.mem 5 cs, Blk.mem 5 (List.replicate (Int.toNat (IntKind.wrap IntKind.i64 (Int.tmod m 1100))) (ofConst (Value.int IntKind.u8 0)))]))) :
    ToEnd cfg 5 (bodyOf Tryd.f5) (RetIs Tryd.prog Tryd.f5 v) ([.code [0, 1, 0, 1, 1], .block 0, .code [1, 1, 1]]) .normal ([(1, true, .int .u16 m), (5, true, .osl 0 0 N 1), (6, true, .int .i64 i)]) ([.mem 5 cs]) := by
  have e : unr cfg 5 (bodyOf Tryd.f5) (ctab [(3, lineReadsC), (4, linePutsC), (9, Ai.trueC)]) ⟨[[0, 1, 0, 1, 1], [0, 1, 0, 1, 1, 1, 1]], []⟩ (RetIs Tryd.prog Tryd.f5 v) 100000 ([.code [0, 0, 1, 0, 1, 1], .loop [0, 1, 0, 1, 1] 1, .block 0, .code [1, 1, 1]]) .normal ([(1, true, .int .u16 m), (5, true, .osl 0 0 N 1), (6, true, .int .i64 i)]) ([.mem 5 cs]) =
    (ifP (decide (i < (↑N : Int))) (gAnd (inR i N && true && true) (gAnd (Nat.ble (0 + Int.toNat i * 1 + 1) (List.length cs)) (ToEnd cfg 5 (bodyOf Tryd.f5) (RetIs Tryd.prog Tryd.f5 v) [Fm.code [0, 1, 0, 1, 1], Fm.block 0, Fm.code [1, 1, 1]] XT.normal [(1, true, AV.int IntKind.u16 m), (5, true, AV.osl 0 0 N 1), (6, true, AV.int IntKind.i64 (IntKind.wrap IntKind.i64 (i + 1)))] [Blk.mem 5 (splice cs (0 + Int.toNat i * 1) [ofConst (Value.int IntKind.u8 97)])]))) (gAnd (decide (0 ≤ IntKind.wrap IntKind.i64 (Int.tmod m 1100)) && decide (IntKind.wrap IntKind.i64 (Int.tmod m 1100) = IntKind.wrap IntKind.i64 (Int.tmod m 1100)) && decide (1 * IntKind.wrap IntKind.i64 (Int.tmod m 1100) ≤ 281474976710656) && decide (IntKind.wrap IntKind.i64 (Int.tmod m 1100) ≤ 9223372036854775807) && true && true && true) (ToEnd cfg 5 (bodyOf Tryd.f5) (RetIs Tryd.prog Tryd.f5 v) [Fm.code [0, 1, 0, 1, 1, 1, 1], Fm.block 2, Fm.code [1, 1, 1, 1, 1]] XT.normal [(5, true, AV.osl 0 0 N 1), (7, true, AV.osl 1 0 (Int.toNat (IntKind.wrap IntKind.i64 (Int.tmod m 1100))) 1), (8, true, AV.int IntKind.i64 0)] [Blk.mem 5 cs, Blk.mem 5 (List.replicate (Int.toNat (IntKind.wrap IntKind.i64 (Int.tmod m 1100))) (ofConst (Value.int IntKind.u8 0)))]))) := by kernel_rfl
  exact ends_round hT 100000 (by kernel_rfl) (e.mpr H)

theorem t5c {v : AV} {N M : Nat} {i : Int} {cs ds : List AV} (hT : TabOk cfg (ctab [(3, lineReadsC), (4, linePutsC), (9, Ai.trueC)])) (H :
    ifP (decide (i < (↑M : Int))) (gAnd (inR i M && true && true) (gAnd (Nat.ble (0 + Int.toNat i * 1 + 1) (List.length ds)) (ToEnd cfg 5 (bodyOf Tryd.f5) (RetIs Tryd.prog Tryd.f5 v) [Fm.code [0, 1, 0, 1, 1, 1, 1], Fm.block 2, Fm.code [1, 1, 1, 1, 1]] XT.normal [(5, true, AV.osl 0 0 N 1), (7, true, AV.osl 1 0 M 1), (8, true, AV.int IntKind.i64 (IntKind.wrap IntKind.i64 (i + 1)))] [Blk.mem 5 cs, Blk.mem 5 (splice ds (0 + Int.toNat i * 1) [ofConst (Value.int IntKind.u8 77)])]))) (gAnd (cellsB (List.take M (List.drop 0 ds))) (gAnd (cellsB (List.take N (List.drop 0 cs))) (∃ (a1 : List UInt8), ∃ (b2 : List UInt8), ∃ (n03 : Int), ∃ (n14 : Int), (-9223372036854775808 ≤ n03 ∧ n03 ≤ 9223372036854775807) ∧ (-9223372036854775808 ≤ n14 ∧ n14 ≤ 9223372036854775807) ∧ [AV.str (List.map cellV (List.take M (List.drop 0 ds))), AV.str (List.map cellV (List.take N (List.drop 0 cs))), AV.agg [AV.int IntKind.i64 1, AV.int IntKind.i64 200]] = [AV.str a1, AV.str b2, AV.agg [AV.int IntKind.i64 n03, AV.int IntKind.i64 n14]] ∧ gAnd (cellsB (List.take M (List.drop 0 ds))) (gAnd (decide (List.length (List.map cellV (List.take M (List.drop 0 ds))) + 1 ≤ 9223372036854775807)) (gAnd (cellsB (List.take N (List.drop 0 cs))) (gAnd (decide (List.length (List.map cellV (List.take M (List.drop 0 ds)) ++ [32]) + List.length (List.map cellV (List.take N (List.drop 0 cs))) ≤ 9223372036854775807)) (gAnd (decide (List.length (List.map cellV (List.take M (List.drop 0 ds)) ++ [32] ++ List.map cellV (List.take N (List.drop 0 cs))) + 9 ≤ 9223372036854775807)) (∃ (s5 : List UInt8), [AV.str (List.map cellV (List.take M (List.drop 0 ds)) ++ [32] ++ List.map cellV (List.take N (List.drop 0 cs)) ++ [32, 72, 84, 84, 80, 47, 49, 46, 49])] = [AV.str s5] ∧ gAnd (cellsB (List.take N (List.drop 0 cs))) (gAnd (decide (13 + List.length (List.map cellV (List.take N (List.drop 0 cs))) ≤ 9223372036854775807)) (gAnd (cellsB (List.take M (List.drop 0 ds))) (gAnd (decide (List.length (72 :: 84 :: 84 :: 80 :: 47 :: 49 :: 46 :: 49 :: 32 :: 50 :: 48 :: 48 :: 32 :: List.append [] (List.map cellV (List.take N (List.drop 0 cs)))) + List.length (List.map cellV (List.take M (List.drop 0 ds))) ≤ 9223372036854775807)) (gAnd (cellsB (List.take N (List.drop 0 cs))) (gAnd (decide (List.length (72 :: 84 :: 84 :: 80 :: 47 :: 49 :: 46 :: 49 :: 32 :: 50 :: 48 :: 48 :: 32 :: List.append (List.append [] (List.map cellV (List.take N (List.drop 0 cs)))) (List.map cellV (List.take M (List.drop 0 ds)))) + List.length (List.map cellV (List.take N (List.drop 0 cs))) ≤ 9223372036854775807)) (∃ (s6 : List UInt8), [AV.str (72 :: 84 :: 84 :: 80 :: 47 :: 49 :: 46 :: 49 :: 32 :: 50 :: 48 :: 48 :: 32 :: List.append (List.append (List.append [] (List.map cellV (List.take N (List.drop 0 cs)))) (List.map cellV (List.take M (List.drop 0 ds)))) (List.map cellV (List.take N (List.drop 0 cs))))] = [AV.str s6] ∧ true = true ∧ AV.bool true = v))))))))))))))) :
    ToEnd cfg 5 (bodyOf Tryd.f5) (RetIs Tryd.prog Tryd.f5 v) ([.code [0, 1, 0, 1, 1, 1, 1], .block 2, .code [1, 1, 1, 1, 1]]) .normal ([(5, true, .osl 0 0 N 1), (7, true, .osl 1 0 M 1), (8, true, .int .i64 i)]) ([.mem 5 cs, .mem 5 ds]) := by
  have e : unr cfg 5 (bodyOf Tryd.f5) (ctab [(3, lineReadsC), (4, linePutsC), (9, Ai.trueC)]) ⟨[[0, 1, 0, 1, 1], [0, 1, 0, 1, 1, 1, 1]], []⟩ (RetIs Tryd.prog Tryd.f5 v) 100000 ([.code [0, 0, 1, 0, 1, 1, 1, 1], .loop [0, 1, 0, 1, 1, 1, 1] 2, .block 2, .code [1, 1, 1, 1, 1]]) .normal ([(5, true, .osl 0 0 N 1), (7, true, .osl 1 0 M 1), (8, true, .int .i64 i)]) ([.mem 5 cs, .mem 5 ds]) =
    (ifP (decide (i < (↑M : Int))) (gAnd (inR i M && true && true) (gAnd (Nat.ble (0 + Int.toNat i * 1 + 1) (List.length ds)) (ToEnd cfg 5 (bodyOf Tryd.f5) (RetIs Tryd.prog Tryd.f5 v) [Fm.code [0, 1, 0, 1, 1, 1, 1], Fm.block 2, Fm.code [1, 1, 1, 1, 1]] XT.normal [(5, true, AV.osl 0 0 N 1), (7, true, AV.osl 1 0 M 1), (8, true, AV.int IntKind.i64 (IntKind.wrap IntKind.i64 (i + 1)))] [Blk.mem 5 cs, Blk.mem 5 (splice ds (0 + Int.toNat i * 1) [ofConst (Value.int IntKind.u8 77)])]))) (gAnd (cellsB (List.take M (List.drop 0 ds))) (gAnd (cellsB (List.take N (List.drop 0 cs))) (∃ (a1 : List UInt8), ∃ (b2 : List UInt8), ∃ (n03 : Int), ∃ (n14 : Int), (-9223372036854775808 ≤ n03 ∧ n03 ≤ 9223372036854775807) ∧ (-9223372036854775808 ≤ n14 ∧ n14 ≤ 9223372036854775807) ∧ [AV.str (List.map cellV (List.take M (List.drop 0 ds))), AV.str (List.map cellV (List.take N (List.drop 0 cs))), AV.agg [AV.int IntKind.i64 1, AV.int IntKind.i64 200]] = [AV.str a1, AV.str b2, AV.agg [AV.int IntKind.i64 n03, AV.int IntKind.i64 n14]] ∧ gAnd (cellsB (List.take M (List.drop 0 ds))) (gAnd (decide (List.length (List.map cellV (List.take M (List.drop 0 ds))) + 1 ≤ 9223372036854775807)) (gAnd (cellsB (List.take N (List.drop 0 cs))) (gAnd (decide (List.length (List.map cellV (List.take M (List.drop 0 ds)) ++ [32]) + List.length (List.map cellV (List.take N (List.drop 0 cs))) ≤ 9223372036854775807)) (gAnd (decide (List.length (List.map cellV (List.take M (List.drop 0 ds)) ++ [32] ++ List.map cellV (List.take N (List.drop 0 cs))) + 9 ≤ 9223372036854775807)) (∃ (s5 : List UInt8), [AV.str (List.map cellV (List.take M (List.drop 0 ds)) ++ [32] ++ List.map cellV (List.take N (List.drop 0 cs)) ++ [32, 72, 84, 84, 80, 47, 49, 46, 49])] = [AV.str s5] ∧ gAnd (cellsB (List.take N (List.drop 0 cs))) (gAnd (decide (13 + List.length (List.map cellV (List.take N (List.drop 0 cs))) ≤ 9223372036854775807)) (gAnd (cellsB (List.take M (List.drop 0 ds))) (gAnd (decide (List.length (72 :: 84 :: 84 :: 80 :: 47 :: 49 :: 46 :: 49 :: 32 :: 50 :: 48 :: 48 :: 32 :: List.append [] (List.map cellV (List.take N (List.drop 0 cs)))) + List.length (List.map cellV (List.take M (List.drop 0 ds))) ≤ 9223372036854775807)) (gAnd (cellsB (List.take N (List.drop 0 cs))) (gAnd (decide (List.length (72 :: 84 :: 84 :: 80 :: 47 :: 49 :: 46 :: 49 :: 32 :: 50 :: 48 :: 48 :: 32 :: List.append (List.append [] (List.map cellV (List.take N (List.drop 0 cs)))) (List.map cellV (List.take M (List.drop 0 ds)))) + List.length (List.map cellV (List.take N (List.drop 0 cs))) ≤ 9223372036854775807)) (∃ (s6 : List UInt8), [AV.str (72 :: 84 :: 84 :: 80 :: 47 :: 49 :: 46 :: 49 :: 32 :: 50 :: 48 :: 48 :: 32 :: List.append (List.append (List.append [] (List.map cellV (List.take N (List.drop 0 cs)))) (List.map cellV (List.take M (List.drop 0 ds)))) (List.map cellV (List.take N (List.drop 0 cs))))] = [AV.str s6] ∧ true = true ∧ AV.bool true = v))))))))))))))) := by kernel_rfl
  exact ends_round hT 100000 (by kernel_rfl) (e.mpr H)

end Go.Proofs.YtahojaolkehojaaDoor
end

section
namespace Go.Proofs.YtahojaolkehojaaDoor
open Go.Ai Go
set_option linter.unusedSimpArgs false
set_option linter.unusedVariables false
set_option maxRecDepth 100000

theorem pf5 : pureFn cfg 5 Tryd.f5 := ⟨by kernel_rfl, by kernel_rfl, by kernel_rfl, by kernel_rfl, by kernel_rfl, by kernel_rfl⟩
theorem tmodN (a b : Nat) : Int.tmod (a : Int) (b : Int) = ((a % b : Nat) : Int) := by
  rw [Int.tmod_eq_emod_of_nonneg (by omega)]
  exact (Int.natCast_emod a b).symm
theorem cells_splice {cs : List AV} (h : cellsB cs = true) (o : Nat) {c : Int} (h0 : 0 ≤ c) (h1 : c < 256) : cellsB (splice cs o [AV.int .u8 c]) = true := by
  unfold cellsB at h ⊢
  rw [List.all_eq_true] at h ⊢
  intro x hx
  simp only [splice, List.mem_append, List.mem_singleton] at hx
  rcases hx with (hx | rfl) | hx
  · exact h x (List.mem_of_mem_take hx)
  · simp only [cellB, Bool.and_eq_true, decide_eq_true_eq]; omega
  · exact h x (List.mem_of_mem_drop hx)
theorem splice_len {cs : List AV} {o : Nat} {x : AV} (h : o < cs.length) : (splice cs o [x]).length = cs.length := by
  simp only [splice, List.length_append, List.length_take, List.length_drop, List.length_singleton]
  omega
theorem cells_zeros (n : Nat) : cellsB (List.replicate n (ofConst (Value.int IntKind.u8 0))) = true := by
  unfold cellsB
  rw [List.all_eq_true]
  intro x hx
  rw [List.eq_of_mem_replicate hx]
  rfl
theorem tab5 : TabOk cfg (ctab [(3, lineReadsC), (4, linePutsC), (9, Ai.trueC)]) := ctab_ok (ctab_cons c3 (ctab_cons c4 (ctab_cons c9 ctab_nil)))
theorem all_of {cs : List AV} {N : Nat} (h : cs.length = N) : List.take N (List.drop 0 cs) = cs := by
  rw [List.drop_zero, List.take_of_length_le (by omega)]

theorem loop5c {N M : Nat} (hN : N < 1100) (hM : M < 1100) : ∀ (k : Nat) (i : Int) (cs ds : List AV), 0 ≤ i → i + k = M → cs.length = N → ds.length = M → cellsB cs = true → cellsB ds = true →
    ToEnd cfg 5 (bodyOf Tryd.f5) (RetIs Tryd.prog Tryd.f5 (.bool true)) ([.code [0, 1, 0, 1, 1, 1, 1], .block 2, .code [1, 1, 1, 1, 1]]) .normal ([(5, true, .osl 0 0 N 1), (7, true, .osl 1 0 M 1), (8, true, .int .i64 i)]) ([.mem 5 cs, .mem 5 ds]) := by
  intro k
  induction k with
  | zero =>
    intro i cs ds h0 hi hc hd kc kd
    refine t5c tab5 (ifP_intro (fun a => ?_) fun a => ?_)
    · rw [decide_eq_true_eq] at a; omega
    · rw [all_of hc, all_of hd]
      have lc : (List.map cellV cs).length = N := by rw [List.length_map, hc]
      have ld : (List.map cellV ds).length = M := by rw [List.length_map, hd]
      generalize List.map cellV cs = x at *
      generalize List.map cellV ds = y at *
      refine gAnd_intro kd (gAnd_intro kc ?_)
      refine ⟨y, x, 1, 200, ⟨by decide, by decide⟩, ⟨by decide, by decide⟩, rfl, ?_⟩
      refine gAnd_intro kd (gAnd_intro ?_ (gAnd_intro kc (gAnd_intro ?_ (gAnd_intro ?_ ⟨_, rfl, ?_⟩))))
      · rw [decide_eq_true_eq]; omega
      · rw [decide_eq_true_eq]; simp only [List.length_append, List.length_singleton]; omega
      · rw [decide_eq_true_eq]; simp only [List.length_append, List.length_singleton]; omega
      refine gAnd_intro kc (gAnd_intro ?_ (gAnd_intro kd (gAnd_intro ?_ (gAnd_intro kc (gAnd_intro ?_ ⟨_, rfl, rfl, rfl⟩)))))
      · rw [decide_eq_true_eq]; omega
      · rw [decide_eq_true_eq]; simp only [List.append_eq, List.nil_append, List.length_append, List.length_cons]; omega
      · rw [decide_eq_true_eq]; simp only [List.append_eq, List.nil_append, List.length_append, List.length_cons]; omega
  | succ k ih =>
    intro i cs ds h0 hi hc hd kc kd
    refine t5c tab5 (ifP_intro (fun a => ?_) fun a => ?_)
    · have hin : inR i M = true := inR_of h0 (by omega)
      refine gAnd_intro (by rw [hin]; rfl) (gAnd_intro (Nat.ble_eq_true_of_le (by omega)) ?_)
      rw [wrap_in (by omega) (by omega)]
      have e : 0 + i.toNat * 1 < ds.length := by omega
      exact ih (i + 1) cs _ (by omega) (by omega) hc (by rw [splice_len e]; exact hd) kc (cells_splice kd _ (by decide) (by decide))
    · rw [decide_eq_false_iff_not] at a; omega

theorem loop5b {N : Nat} {m : Nat} (hN : N < 1100) : ∀ (k : Nat) (i : Int) (cs : List AV), 0 ≤ i → i + k = N → cs.length = N → cellsB cs = true →
    ToEnd cfg 5 (bodyOf Tryd.f5) (RetIs Tryd.prog Tryd.f5 (.bool true)) ([.code [0, 1, 0, 1, 1], .block 0, .code [1, 1, 1]]) .normal ([(1, true, .int .u16 (m : Int)), (5, true, .osl 0 0 N 1), (6, true, .int .i64 i)]) ([.mem 5 cs]) := by
  intro k
  induction k with
  | zero =>
    intro i cs h0 hi hc kc
    refine t5b tab5 (ifP_intro (fun a => ?_) fun a => ?_)
    · rw [decide_eq_true_eq] at a; omega
    · have e : Int.tmod (m : Int) 1100 = ((m % 1100 : Nat) : Int) := tmodN m 1100
      have hm : m % 1100 < 1100 := Nat.mod_lt _ (by decide)
      rw [e, wrap_in (by omega) (by omega)]
      generalize m % 1100 = M at *
      refine gAnd_intro ?_ ?_
      · simp only [Bool.and_eq_true, decide_eq_true_eq, and_true]; omega
      rw [Int.toNat_natCast]
      exact loop5c hN hm M 0 cs _ (by decide) (by omega) hc List.length_replicate kc (cells_zeros _)
  | succ k ih =>
    intro i cs h0 hi hc kc
    refine t5b tab5 (ifP_intro (fun a => ?_) fun a => ?_)
    · have hin : inR i N = true := inR_of h0 (by omega)
      refine gAnd_intro (by rw [hin]; rfl) (gAnd_intro (Nat.ble_eq_true_of_le (by omega)) ?_)
      rw [wrap_in (by omega) (by omega)]
      have e : 0 + i.toNat * 1 < cs.length := by omega
      exact ih (i + 1) _ (by omega) (by omega) (by rw [splice_len e]; exact hc) (cells_splice kc _ (by decide) (by decide))
    · rw [decide_eq_false_iff_not] at a; omega

theorem c5 : COk cfg 5 (fun vs h K => ∃ n m : Nat, vs = [.int .u16 (n : Int), .int .u16 (m : Int)] ∧ K (.bool true) h) := by
  refine cok_pure pf5 fun vs h K ht => ?_
  obtain ⟨n, m, rfl, hk⟩ := ht
  refine ⟨_, hk, t5a tab5 ?_⟩
  have e : Int.tmod (n : Int) 1100 = ((n % 1100 : Nat) : Int) := tmodN n 1100
  have hn : n % 1100 < 1100 := Nat.mod_lt _ (by decide)
  rw [e, wrap_in (by omega) (by omega)]
  generalize n % 1100 = N at *
  refine gAnd_intro ?_ ?_
  · simp only [Bool.and_eq_true, decide_eq_true_eq, and_true]; omega
  rw [Int.toNat_natCast]
  exact loop5b hn N 0 _ (by decide) (by omega) List.length_replicate (cells_zeros _)
end Go.Proofs.YtahojaolkehojaaDoor
end
