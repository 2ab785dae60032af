/-
  The run of the statement on long texts, printed by a home tool; it is the kernel's word.
  A closed test, run by the kernel.
  The statement on long texts: the function keeps to its contract.
  Arguments of the statement on long texts, by their types.
-/
import Derived.Test.YtafflebdjmnihaaDoorCfg
import Derived.Test.YtafflebdjmnihaaDoorJPd
import Derived.Test.YtafflebdjmnihaaDoorJPf
section
namespace Go.Proofs.YtafflebdjmnihaaDoor
open Go.Ai Go
set_option maxRecDepth 100000
set_option linter.unusedVariables false
theorem t3 {v : AV} {n k : Int} (hT : TabOk cfg (ctab [(4, tellZC), (5, tellZC), (6, Ai.trueC)])) (H :
    gAnd (decide (0 ≤ Int.tmod n 131072) && decide (Int.tmod n 131072 = Int.tmod n 131072) && decide (1 * Int.tmod n 131072 ≤ 281474976710656) && decide (Int.tmod n 131072 ≤ 9223372036854775807) && true && true && true)
  (∃ (cs1 : List AV),
    cs1 = List.replicate (Int.toNat (Int.tmod n 131072)) (ofConst (Value.int IntKind.u8 0)) ∧
      gAnd (cellsB (List.take (Int.toNat (Int.tmod n 131072)) (List.drop 0 cs1)))
        (ifP (Int.tmod k 3 == 0) (∃ (k2 : Nat), ∃ (n3 : Nat), k2 < 3 ∧ n3 ≤ 1000000 ∧ [AV.agg [AV.int IntKind.i64 1, AV.int IntKind.i64 0, AV.str [], AV.sl 3 [] none, AV.sl 5 [[AV.int IntKind.i64 2, AV.int IntKind.i64 0, AV.str (List.map cellV (List.take (Int.toNat (Int.tmod n 131072)) (List.drop 0 cs1))), AV.sl 3 [] none, AV.sl 5 [] none]] none]] = [AV.agg [AV.int IntKind.i64 1, AV.int IntKind.i64 0, AV.str [], AV.sl 3 [] none, AV.sl 5 [encN (lf k2 n3)] none]] ∧ ∃ (k4 : Nat), ∃ (n5 : Nat), k4 < 3 ∧ n5 ≤ 1000000 ∧ [AV.agg [AV.int IntKind.i64 1, AV.int IntKind.i64 0, AV.str [], AV.sl 3 [] none, AV.sl 5 [[AV.int IntKind.i64 2, AV.int IntKind.i64 0, AV.str (List.map cellV (List.take (Int.toNat (Int.tmod n 131072)) (List.drop 0 cs1))), AV.sl 3 [] none, AV.sl 5 [] none]] none]] = [AV.agg [AV.int IntKind.i64 1, AV.int IntKind.i64 0, AV.str [], AV.sl 3 [] none, AV.sl 5 [encN (lf k4 n5)] none]] ∧ ifP (ansS k2 n3 == ansS k4 n5) (ifP (ansE k2 n3 == ansE k4 n5) (true = true ∧ AV.bool true = v) (AV.bool false = v)) (AV.bool false = v)) (ifP (Int.tmod k 3 == 1) (∃ (k6 : Nat), ∃ (n7 : Nat), k6 < 3 ∧ n7 ≤ 1000000 ∧ [AV.agg [AV.int IntKind.i64 1, AV.int IntKind.i64 0, AV.str [], AV.sl 3 [] none, AV.sl 5 [[AV.int IntKind.i64 5, AV.int IntKind.i64 0, AV.str (List.map cellV (List.take (Int.toNat (Int.tmod n 131072)) (List.drop 0 cs1))), AV.sl 3 [] none, AV.sl 5 [] none]] none]] = [AV.agg [AV.int IntKind.i64 1, AV.int IntKind.i64 0, AV.str [], AV.sl 3 [] none, AV.sl 5 [encN (lf k6 n7)] none]] ∧ ∃ (k8 : Nat), ∃ (n9 : Nat), k8 < 3 ∧ n9 ≤ 1000000 ∧ [AV.agg [AV.int IntKind.i64 1, AV.int IntKind.i64 0, AV.str [], AV.sl 3 [] none, AV.sl 5 [[AV.int IntKind.i64 5, AV.int IntKind.i64 0, AV.str (List.map cellV (List.take (Int.toNat (Int.tmod n 131072)) (List.drop 0 cs1))), AV.sl 3 [] none, AV.sl 5 [] none]] none]] = [AV.agg [AV.int IntKind.i64 1, AV.int IntKind.i64 0, AV.str [], AV.sl 3 [] none, AV.sl 5 [encN (lf k8 n9)] none]] ∧ ifP (ansS k6 n7 == ansS k8 n9) (ifP (ansE k6 n7 == ansE k8 n9) (true = true ∧ AV.bool true = v) (AV.bool false = v)) (AV.bool false = v)) (ifP (Int.tmod k 3 == 2) (∃ (k10 : Nat), ∃ (n11 : Nat), k10 < 3 ∧ n11 ≤ 1000000 ∧ [AV.agg [AV.int IntKind.i64 1, AV.int IntKind.i64 0, AV.str [], AV.sl 3 [] none, AV.sl 5 [[AV.int IntKind.i64 6, AV.int IntKind.i64 0, AV.str [], AV.sl 3 [[AV.str [116, 101, 120, 116], AV.str (List.map cellV (List.take (Int.toNat (Int.tmod n 131072)) (List.drop 0 cs1))), AV.int IntKind.i64 0]] none, AV.sl 5 [] none]] none]] = [AV.agg [AV.int IntKind.i64 1, AV.int IntKind.i64 0, AV.str [], AV.sl 3 [] none, AV.sl 5 [encN (lf k10 n11)] none]] ∧ ∃ (k12 : Nat), ∃ (n13 : Nat), k12 < 3 ∧ n13 ≤ 1000000 ∧ [AV.agg [AV.int IntKind.i64 1, AV.int IntKind.i64 0, AV.str [], AV.sl 3 [] none, AV.sl 5 [[AV.int IntKind.i64 6, AV.int IntKind.i64 0, AV.str [], AV.sl 3 [[AV.str [116, 101, 120, 116], AV.str (List.map cellV (List.take (Int.toNat (Int.tmod n 131072)) (List.drop 0 cs1))), AV.int IntKind.i64 0]] none, AV.sl 5 [] none]] none]] = [AV.agg [AV.int IntKind.i64 1, AV.int IntKind.i64 0, AV.str [], AV.sl 3 [] none, AV.sl 5 [encN (lf k12 n13)] none]] ∧ ifP (ansS k10 n11 == ansS k12 n13) (ifP (ansE k10 n11 == ansE k12 n13) (true = true ∧ AV.bool true = v) (AV.bool false = v)) (AV.bool false = v)) (∃ (k14 : Nat), ∃ (n15 : Nat), k14 < 3 ∧ n15 ≤ 1000000 ∧ [AV.agg [AV.int IntKind.i64 1, AV.int IntKind.i64 0, AV.str [], AV.sl 3 [] none, AV.sl 5 [] none]] = [AV.agg [AV.int IntKind.i64 1, AV.int IntKind.i64 0, AV.str [], AV.sl 3 [] none, AV.sl 5 [encN (lf k14 n15)] none]] ∧ ∃ (k16 : Nat), ∃ (n17 : Nat), k16 < 3 ∧ n17 ≤ 1000000 ∧ [AV.agg [AV.int IntKind.i64 1, AV.int IntKind.i64 0, AV.str [], AV.sl 3 [] none, AV.sl 5 [] none]] = [AV.agg [AV.int IntKind.i64 1, AV.int IntKind.i64 0, AV.str [], AV.sl 3 [] none, AV.sl 5 [encN (lf k16 n17)] none]] ∧ ifP (ansS k14 n15 == ansS k16 n17) (ifP (ansE k14 n15 == ansE k16 n17) (true = true ∧ AV.bool true = v) (AV.bool false = v)) (AV.bool false = v))))))) :
    ToEnd cfg 3 (bodyOf Tryd.f3) (RetIs Tryd.prog Tryd.f3 v) ([.code []]) .normal ([(0, true, .int .u32 n), (1, true, .int .u8 k)]) ([]) := by
  have e : unr cfg 3 (bodyOf Tryd.f3) (ctab [(4, tellZC), (5, tellZC), (6, Ai.trueC)]) ⟨[], [([0,1], 2, [.av])]⟩ (RetIs Tryd.prog Tryd.f3 v) 100000 ([.code []]) .normal ([(0, true, .int .u32 n), (1, true, .int .u8 k)]) ([]) =
    (gAnd (decide (0 ≤ Int.tmod n 131072) && decide (Int.tmod n 131072 = Int.tmod n 131072) && decide (1 * Int.tmod n 131072 ≤ 281474976710656) && decide (Int.tmod n 131072 ≤ 9223372036854775807) && true && true && true)
  (∃ (cs1 : List AV),
    cs1 = List.replicate (Int.toNat (Int.tmod n 131072)) (ofConst (Value.int IntKind.u8 0)) ∧
      gAnd (cellsB (List.take (Int.toNat (Int.tmod n 131072)) (List.drop 0 cs1)))
        (ifP (Int.tmod k 3 == 0) (∃ (k2 : Nat), ∃ (n3 : Nat), k2 < 3 ∧ n3 ≤ 1000000 ∧ [AV.agg [AV.int IntKind.i64 1, AV.int IntKind.i64 0, AV.str [], AV.sl 3 [] none, AV.sl 5 [[AV.int IntKind.i64 2, AV.int IntKind.i64 0, AV.str (List.map cellV (List.take (Int.toNat (Int.tmod n 131072)) (List.drop 0 cs1))), AV.sl 3 [] none, AV.sl 5 [] none]] none]] = [AV.agg [AV.int IntKind.i64 1, AV.int IntKind.i64 0, AV.str [], AV.sl 3 [] none, AV.sl 5 [encN (lf k2 n3)] none]] ∧ ∃ (k4 : Nat), ∃ (n5 : Nat), k4 < 3 ∧ n5 ≤ 1000000 ∧ [AV.agg [AV.int IntKind.i64 1, AV.int IntKind.i64 0, AV.str [], AV.sl 3 [] none, AV.sl 5 [[AV.int IntKind.i64 2, AV.int IntKind.i64 0, AV.str (List.map cellV (List.take (Int.toNat (Int.tmod n 131072)) (List.drop 0 cs1))), AV.sl 3 [] none, AV.sl 5 [] none]] none]] = [AV.agg [AV.int IntKind.i64 1, AV.int IntKind.i64 0, AV.str [], AV.sl 3 [] none, AV.sl 5 [encN (lf k4 n5)] none]] ∧ ifP (ansS k2 n3 == ansS k4 n5) (ifP (ansE k2 n3 == ansE k4 n5) (true = true ∧ AV.bool true = v) (AV.bool false = v)) (AV.bool false = v)) (ifP (Int.tmod k 3 == 1) (∃ (k6 : Nat), ∃ (n7 : Nat), k6 < 3 ∧ n7 ≤ 1000000 ∧ [AV.agg [AV.int IntKind.i64 1, AV.int IntKind.i64 0, AV.str [], AV.sl 3 [] none, AV.sl 5 [[AV.int IntKind.i64 5, AV.int IntKind.i64 0, AV.str (List.map cellV (List.take (Int.toNat (Int.tmod n 131072)) (List.drop 0 cs1))), AV.sl 3 [] none, AV.sl 5 [] none]] none]] = [AV.agg [AV.int IntKind.i64 1, AV.int IntKind.i64 0, AV.str [], AV.sl 3 [] none, AV.sl 5 [encN (lf k6 n7)] none]] ∧ ∃ (k8 : Nat), ∃ (n9 : Nat), k8 < 3 ∧ n9 ≤ 1000000 ∧ [AV.agg [AV.int IntKind.i64 1, AV.int IntKind.i64 0, AV.str [], AV.sl 3 [] none, AV.sl 5 [[AV.int IntKind.i64 5, AV.int IntKind.i64 0, AV.str (List.map cellV (List.take (Int.toNat (Int.tmod n 131072)) (List.drop 0 cs1))), AV.sl 3 [] none, AV.sl 5 [] none]] none]] = [AV.agg [AV.int IntKind.i64 1, AV.int IntKind.i64 0, AV.str [], AV.sl 3 [] none, AV.sl 5 [encN (lf k8 n9)] none]] ∧ ifP (ansS k6 n7 == ansS k8 n9) (ifP (ansE k6 n7 == ansE k8 n9) (true = true ∧ AV.bool true = v) (AV.bool false = v)) (AV.bool false = v)) (ifP (Int.tmod k 3 == 2) (∃ (k10 : Nat), ∃ (n11 : Nat), k10 < 3 ∧ n11 ≤ 1000000 ∧ [AV.agg [AV.int IntKind.i64 1, AV.int IntKind.i64 0, AV.str [], AV.sl 3 [] none, AV.sl 5 [[AV.int IntKind.i64 6, AV.int IntKind.i64 0, AV.str [], AV.sl 3 [[AV.str [116, 101, 120, 116], AV.str (List.map cellV (List.take (Int.toNat (Int.tmod n 131072)) (List.drop 0 cs1))), AV.int IntKind.i64 0]] none, AV.sl 5 [] none]] none]] = [AV.agg [AV.int IntKind.i64 1, AV.int IntKind.i64 0, AV.str [], AV.sl 3 [] none, AV.sl 5 [encN (lf k10 n11)] none]] ∧ ∃ (k12 : Nat), ∃ (n13 : Nat), k12 < 3 ∧ n13 ≤ 1000000 ∧ [AV.agg [AV.int IntKind.i64 1, AV.int IntKind.i64 0, AV.str [], AV.sl 3 [] none, AV.sl 5 [[AV.int IntKind.i64 6, AV.int IntKind.i64 0, AV.str [], AV.sl 3 [[AV.str [116, 101, 120, 116], AV.str (List.map cellV (List.take (Int.toNat (Int.tmod n 131072)) (List.drop 0 cs1))), AV.int IntKind.i64 0]] none, AV.sl 5 [] none]] none]] = [AV.agg [AV.int IntKind.i64 1, AV.int IntKind.i64 0, AV.str [], AV.sl 3 [] none, AV.sl 5 [encN (lf k12 n13)] none]] ∧ ifP (ansS k10 n11 == ansS k12 n13) (ifP (ansE k10 n11 == ansE k12 n13) (true = true ∧ AV.bool true = v) (AV.bool false = v)) (AV.bool false = v)) (∃ (k14 : Nat), ∃ (n15 : Nat), k14 < 3 ∧ n15 ≤ 1000000 ∧ [AV.agg [AV.int IntKind.i64 1, AV.int IntKind.i64 0, AV.str [], AV.sl 3 [] none, AV.sl 5 [] none]] = [AV.agg [AV.int IntKind.i64 1, AV.int IntKind.i64 0, AV.str [], AV.sl 3 [] none, AV.sl 5 [encN (lf k14 n15)] none]] ∧ ∃ (k16 : Nat), ∃ (n17 : Nat), k16 < 3 ∧ n17 ≤ 1000000 ∧ [AV.agg [AV.int IntKind.i64 1, AV.int IntKind.i64 0, AV.str [], AV.sl 3 [] none, AV.sl 5 [] none]] = [AV.agg [AV.int IntKind.i64 1, AV.int IntKind.i64 0, AV.str [], AV.sl 3 [] none, AV.sl 5 [encN (lf k16 n17)] none]] ∧ ifP (ansS k14 n15 == ansS k16 n17) (ifP (ansE k14 n15 == ansE k16 n17) (true = true ∧ AV.bool true = v) (AV.bool false = v)) (AV.bool false = v))))))) := by kernel_rfl
  exact unr_ok hT 100000 _ _ _ _ (e.mpr H)

end Go.Proofs.YtafflebdjmnihaaDoor
end

section
namespace Go.Proofs.YtafflebdjmnihaaDoor
open Go.Ai Go
set_option maxRecDepth 100000
theorem pf6 : pureFn cfg 6 Tryd.f6 := ⟨by kernel_rfl, by kernel_rfl, by kernel_rfl, by kernel_rfl, by kernel_rfl, by kernel_rfl⟩
theorem works_eval : isTrue (call cfg false 100000 6 [] []) = true := by kernel_rfl
theorem c6 : COk cfg 6 trueC := cok_true pf6 works_eval
end Go.Proofs.YtafflebdjmnihaaDoor
end

section
namespace Go.Proofs.YtafflebdjmnihaaDoor
open Go.Ai Go
set_option linter.unusedSimpArgs false
set_option linter.unusedVariables false
set_option maxRecDepth 100000

theorem pf3 : pureFn cfg 3 Tryd.f3 := ⟨by kernel_rfl, by kernel_rfl, by kernel_rfl, by kernel_rfl, by kernel_rfl, by kernel_rfl⟩
theorem cells_zeros (n : Nat) : cellsB (List.replicate n (ofConst (Value.int IntKind.u8 0))) = true := by
  unfold cellsB
  rw [List.all_eq_true]
  intro x hx
  rw [List.eq_of_mem_replicate hx]
  rfl
theorem vals_zeros (n : Nat) : List.map cellV (List.replicate n (ofConst (Value.int IntKind.u8 0))) = zs n := by
  rw [List.map_replicate]; rfl
theorem same_end {k n : Nat} {b : AV} : ifP (ansS k n == ansS k n) (ifP (ansE k n == ansE k n) (true = true ∧ AV.bool true = AV.bool true) (AV.bool false = AV.bool true)) (AV.bool false = AV.bool true) :=
  ifP_intro (fun _ => ifP_intro (fun _ => ⟨rfl, rfl⟩) fun h => by simp at h) fun h => by simp at h
theorem c3 : COk cfg 3 (fun vs h K => ∃ n k : Nat, n < 4294967296 ∧ k < 256 ∧ vs = [.int .u32 n, .int .u8 k] ∧ K (.bool true) h) := by
  refine cok_pure pf3 fun vs h K ht => ?_
  obtain ⟨n, k, hn, hk256, rfl, hk⟩ := ht
  have hT : TabOk cfg (ctab [(4, tellZC), (5, tellZC), (6, Ai.trueC)]) := ctab_ok (ctab_cons c4 (ctab_cons c5 (ctab_cons c6 ctab_nil)))
  refine ⟨_, hk, t3 hT ?_⟩
  have e : Int.tmod (n : Int) 131072 = ((n % 131072 : Nat) : Int) := by
    rw [Int.tmod_eq_emod_of_nonneg (by omega)]
    exact (Int.natCast_emod n 131072).symm
  have e3 : Int.tmod (k : Int) 3 = ((k % 3 : Nat) : Int) := by
    rw [Int.tmod_eq_emod_of_nonneg (by omega)]
    exact (Int.natCast_emod k 3).symm
  rw [e, e3]
  have hN : n % 131072 < 131072 := Nat.mod_lt _ (by omega)
  have hK : k % 3 < 3 := Nat.mod_lt _ (by omega)
  generalize n % 131072 = N at *
  generalize k % 3 = j at *
  refine gAnd_intro (by rw [decide_eq_true (by omega), decide_eq_true rfl, decide_eq_true (by omega), decide_eq_true (by omega)]; rfl) ⟨_, rfl, ?_⟩
  rw [Int.toNat_natCast, List.drop_zero, List.take_of_length_le (by rw [List.length_replicate]; omega)]
  refine gAnd_intro (cells_zeros N) ?_
  rw [vals_zeros]
  have hN' : N ≤ 1000000 := by omega
  rcases k3 hK with rfl | rfl | rfl
  · exact ⟨0, N, by decide, hN', rfl, 0, N, by decide, hN', rfl, same_end (b := .top)⟩
  · exact ⟨1, N, by decide, hN', rfl, 1, N, by decide, hN', rfl, same_end (b := .top)⟩
  · exact ⟨2, N, by decide, hN', rfl, 2, N, by decide, hN', rfl, same_end (b := .top)⟩
end Go.Proofs.YtafflebdjmnihaaDoor
end

section
namespace Go.Proofs.YtafflebdjmnihaaDoor
open Go.Ai Go
set_option linter.unusedVariables false
set_option maxRecDepth 100000
def plainS : List TypeId := [5, 22]
theorem plainS_ok : closedT Tryd.prog plainS plainS = true := by kernel_rfl
theorem arg_u8 {n : Nat} {v : AV} (h : argOf Tryd.prog n 5 v) : ∃ k : Nat, k < 256 ∧ v = .int .u8 k := by
  have h := (show wt Tryd.prog n 5 [v] from h)
  cases n with
  | zero => exact h.elim
  | succ n =>
    simp only [wt, Tryd.underlying5] at h
    obtain ⟨z, h1, h⟩ := h
    injection h with h _
    have hw : 0 ≤ z ∧ z ≤ 255 := by simpa [Lit.wf, IntKind.min, IntKind.max, IntKind.signed, IntKind.bits] using h1
    obtain ⟨k, rfl⟩ := Int.eq_ofNat_of_zero_le (show 0 ≤ z by omega)
    exact ⟨k, by omega, h⟩
theorem arg_u32 {n : Nat} {v : AV} (h : argOf Tryd.prog n 22 v) : ∃ k : Nat, k < 4294967296 ∧ v = .int .u32 k := by
  have h := (show wt Tryd.prog n 22 [v] from h)
  cases n with
  | zero => exact h.elim
  | succ n =>
    simp only [wt, Tryd.underlying22] at h
    obtain ⟨z, h1, h⟩ := h
    injection h with h _
    have hw : 0 ≤ z ∧ z ≤ 4294967295 := by simpa [Lit.wf, IntKind.min, IntKind.max, IntKind.signed, IntKind.bits] using h1
    obtain ⟨k, rfl⟩ := Int.eq_ofNat_of_zero_le (show 0 ≤ z by omega)
    exact ⟨k, by omega, h⟩
end Go.Proofs.YtafflebdjmnihaaDoor
end
