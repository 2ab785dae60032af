/-
  Runs of the functions of trees, printed by a home tool; each is the kernel's word.
-/
import Derived.Test.YtpfbpidlglelgaaCfg
import Derived.Test.YtpfbpidlglelgaaJNa
section
namespace Go.Proofs.Ytpfbpidlglelgaa
open Go.Ai Go
set_option maxRecDepth 100000
set_option linter.unusedVariables false
theorem t23a {N : Nat} {v : AV} {xk xp : Int} {xt : List UInt8} {xa xs : List (List AV)} (hT : TabOk cfg (ctab [(23, depthC N)])) (H :
    ToEnd cfg 23 (bodyOf Try.f23) (RetIs Try.prog Try.f23 v) [Fm.code [0, 1, 0, 1, 1], Fm.block 0, Fm.code [1, 1, 1]] XT.normal [(1, true, AV.ptr 0 0), (3, true, AV.int IntKind.i64 0), (4, true, AV.int IntKind.i64 0)] [Blk.mem 25 [AV.int IntKind.i64 xk, AV.int IntKind.i64 xp, AV.str xt, AV.sl 3 xa none, AV.sl 5 xs none]]) :
    ToEnd cfg 23 (bodyOf Try.f23) (RetIs Try.prog Try.f23 v) ([.code []]) .normal ([(0, true, .agg [.int .i64 xk, .int .i64 xp, .str xt, .sl 3 xa none, .sl 5 xs none])]) ([]) := by
  have e : unr cfg 23 (bodyOf Try.f23) (ctab [(23, depthC N)]) ⟨[[0, 1, 0, 1, 1]], [([0, 0, 0, 1, 0, 0, 1, 0, 1, 1], 3, [.int .i64, .int .i64, .str, .sl 3, .sl 5]), ([0, 0, 1, 0, 0, 1, 0, 0, 1, 0, 1, 1], 3, [.int .i64, .int .i64, .str, .sl 3, .sl 5])]⟩ (RetIs Try.prog Try.f23 v) 100000 ([.code []]) .normal ([(0, true, .agg [.int .i64 xk, .int .i64 xp, .str xt, .sl 3 xa none, .sl 5 xs none])]) ([]) =
    (ToEnd cfg 23 (bodyOf Try.f23) (RetIs Try.prog Try.f23 v) [Fm.code [0, 1, 0, 1, 1], Fm.block 0, Fm.code [1, 1, 1]] XT.normal [(1, true, AV.ptr 0 0), (3, true, AV.int IntKind.i64 0), (4, true, AV.int IntKind.i64 0)] [Blk.mem 25 [AV.int IntKind.i64 xk, AV.int IntKind.i64 xp, AV.str xt, AV.sl 3 xa none, AV.sl 5 xs none]]) := by kernel_rfl
  exact unr_ok hT 100000 _ _ _ _ (e.mpr H)

theorem t23b {N : Nat} {v : AV} {xk xp : Int} {xt : List UInt8} {xa xs : List (List AV)} {i3 : Int} {i4 : Int} (hT : TabOk cfg (ctab [(23, depthC N)])) (H :
    ifP (decide (i4 < (↑(List.length xs) : Int))) (gAnd (inR i4 (List.length xs) && true && true) (∃ (z1 : Int), ∃ (z2 : Int), ∃ (s3 : List UInt8), ∃ (es4 : List (List AV)), ∃ (es5 : List (List AV)), getE xs i4 = [AV.int IntKind.i64 z1, AV.int IntKind.i64 z2, AV.str s3, AV.sl 3 es4 none, AV.sl 5 es5 none] ∧ ∃ (nd6 : Nd), Nd.size nd6 < N ∧ [AV.agg [AV.int IntKind.i64 z1, AV.int IntKind.i64 z2, AV.str s3, AV.sl 3 (stripss 0 [] es4) none, AV.sl 5 (stripss 0 [] es5) none]] = [AV.agg (encN nd6)] ∧ gAnd (inR i4 (List.length xs) && true && true) (∃ (z7 : Int), ∃ (z8 : Int), ∃ (s9 : List UInt8), ∃ (es10 : List (List AV)), ∃ (es11 : List (List AV)), getE xs i4 = [AV.int IntKind.i64 z7, AV.int IntKind.i64 z8, AV.str s9, AV.sl 3 es10 none, AV.sl 5 es11 none] ∧ ifP (z7 != 2) (ifP (decide (IntKind.wrap IntKind.i64 ((↑(Nd.depth nd6) : Int) + 1) > i3)) (gAnd (lowVss 1 xa && true && (lowVss 1 xs && true && true) && true) (ToEnd cfg 23 (bodyOf Try.f23) (RetIs Try.prog Try.f23 v) [Fm.code [0, 1, 0, 1, 1], Fm.block 0, Fm.code [1, 1, 1]] XT.normal [(1, true, AV.ptr 0 0), (3, true, AV.int IntKind.i64 (IntKind.wrap IntKind.i64 ((↑(Nd.depth nd6) : Int) + 1))), (4, true, AV.int IntKind.i64 (IntKind.wrap IntKind.i64 (i4 + 1)))] [Blk.mem 25 [AV.int IntKind.i64 xk, AV.int IntKind.i64 xp, AV.str xt, AV.sl 3 xa none, AV.sl 5 xs none]])) (gAnd (lowVss 1 xa && true && (lowVss 1 xs && true && true) && true) (ToEnd cfg 23 (bodyOf Try.f23) (RetIs Try.prog Try.f23 v) [Fm.code [0, 1, 0, 1, 1], Fm.block 0, Fm.code [1, 1, 1]] XT.normal [(1, true, AV.ptr 0 0), (3, true, AV.int IntKind.i64 i3), (4, true, AV.int IntKind.i64 (IntKind.wrap IntKind.i64 (i4 + 1)))] [Blk.mem 25 [AV.int IntKind.i64 xk, AV.int IntKind.i64 xp, AV.str xt, AV.sl 3 xa none, AV.sl 5 xs none]]))) (ifP (decide ((↑(Nd.depth nd6) : Int) > i3)) (gAnd (lowVss 1 xa && true && (lowVss 1 xs && true && true) && true) (ToEnd cfg 23 (bodyOf Try.f23) (RetIs Try.prog Try.f23 v) [Fm.code [0, 1, 0, 1, 1], Fm.block 0, Fm.code [1, 1, 1]] XT.normal [(1, true, AV.ptr 0 0), (3, true, AV.int IntKind.i64 (↑(Nd.depth nd6) : Int)), (4, true, AV.int IntKind.i64 (IntKind.wrap IntKind.i64 (i4 + 1)))] [Blk.mem 25 [AV.int IntKind.i64 xk, AV.int IntKind.i64 xp, AV.str xt, AV.sl 3 xa none, AV.sl 5 xs none]])) (gAnd (lowVss 1 xa && true && (lowVss 1 xs && true && true) && true) (ToEnd cfg 23 (bodyOf Try.f23) (RetIs Try.prog Try.f23 v) [Fm.code [0, 1, 0, 1, 1], Fm.block 0, Fm.code [1, 1, 1]] XT.normal [(1, true, AV.ptr 0 0), (3, true, AV.int IntKind.i64 i3), (4, true, AV.int IntKind.i64 (IntKind.wrap IntKind.i64 (i4 + 1)))] [Blk.mem 25 [AV.int IntKind.i64 xk, AV.int IntKind.i64 xp, AV.str xt, AV.sl 3 xa none, AV.sl 5 xs none]])))))) (AV.int IntKind.i64 i3 = v)) :
    ToEnd cfg 23 (bodyOf Try.f23) (RetIs Try.prog Try.f23 v) ([.code [0, 1, 0, 1, 1], Fm.block 0, Fm.code [1, 1, 1]]) .normal ([(1, true, AV.ptr 0 0), (3, true, AV.int IntKind.i64 i3), (4, true, AV.int IntKind.i64 i4)]) ([Blk.mem 25 [AV.int IntKind.i64 xk, AV.int IntKind.i64 xp, AV.str xt, AV.sl 3 xa none, AV.sl 5 xs none]]) := by
  have e : unr cfg 23 (bodyOf Try.f23) (ctab [(23, depthC N)]) ⟨[[0, 1, 0, 1, 1]], [([0, 0, 0, 1, 0, 0, 1, 0, 1, 1], 3, [.int .i64, .int .i64, .str, .sl 3, .sl 5]), ([0, 0, 1, 0, 0, 1, 0, 0, 1, 0, 1, 1], 3, [.int .i64, .int .i64, .str, .sl 3, .sl 5])]⟩ (RetIs Try.prog Try.f23 v) 100000 ([.code [0, 0, 1, 0, 1, 1], .loop [0, 1, 0, 1, 1] 1, Fm.block 0, Fm.code [1, 1, 1]]) .normal ([(1, true, AV.ptr 0 0), (3, true, AV.int IntKind.i64 i3), (4, true, AV.int IntKind.i64 i4)]) ([Blk.mem 25 [AV.int IntKind.i64 xk, AV.int IntKind.i64 xp, AV.str xt, AV.sl 3 xa none, AV.sl 5 xs none]]) =
    (ifP (decide (i4 < (↑(List.length xs) : Int))) (gAnd (inR i4 (List.length xs) && true && true) (∃ (z1 : Int), ∃ (z2 : Int), ∃ (s3 : List UInt8), ∃ (es4 : List (List AV)), ∃ (es5 : List (List AV)), getE xs i4 = [AV.int IntKind.i64 z1, AV.int IntKind.i64 z2, AV.str s3, AV.sl 3 es4 none, AV.sl 5 es5 none] ∧ ∃ (nd6 : Nd), Nd.size nd6 < N ∧ [AV.agg [AV.int IntKind.i64 z1, AV.int IntKind.i64 z2, AV.str s3, AV.sl 3 (stripss 0 [] es4) none, AV.sl 5 (stripss 0 [] es5) none]] = [AV.agg (encN nd6)] ∧ gAnd (inR i4 (List.length xs) && true && true) (∃ (z7 : Int), ∃ (z8 : Int), ∃ (s9 : List UInt8), ∃ (es10 : List (List AV)), ∃ (es11 : List (List AV)), getE xs i4 = [AV.int IntKind.i64 z7, AV.int IntKind.i64 z8, AV.str s9, AV.sl 3 es10 none, AV.sl 5 es11 none] ∧ ifP (z7 != 2) (ifP (decide (IntKind.wrap IntKind.i64 ((↑(Nd.depth nd6) : Int) + 1) > i3)) (gAnd (lowVss 1 xa && true && (lowVss 1 xs && true && true) && true) (ToEnd cfg 23 (bodyOf Try.f23) (RetIs Try.prog Try.f23 v) [Fm.code [0, 1, 0, 1, 1], Fm.block 0, Fm.code [1, 1, 1]] XT.normal [(1, true, AV.ptr 0 0), (3, true, AV.int IntKind.i64 (IntKind.wrap IntKind.i64 ((↑(Nd.depth nd6) : Int) + 1))), (4, true, AV.int IntKind.i64 (IntKind.wrap IntKind.i64 (i4 + 1)))] [Blk.mem 25 [AV.int IntKind.i64 xk, AV.int IntKind.i64 xp, AV.str xt, AV.sl 3 xa none, AV.sl 5 xs none]])) (gAnd (lowVss 1 xa && true && (lowVss 1 xs && true && true) && true) (ToEnd cfg 23 (bodyOf Try.f23) (RetIs Try.prog Try.f23 v) [Fm.code [0, 1, 0, 1, 1], Fm.block 0, Fm.code [1, 1, 1]] XT.normal [(1, true, AV.ptr 0 0), (3, true, AV.int IntKind.i64 i3), (4, true, AV.int IntKind.i64 (IntKind.wrap IntKind.i64 (i4 + 1)))] [Blk.mem 25 [AV.int IntKind.i64 xk, AV.int IntKind.i64 xp, AV.str xt, AV.sl 3 xa none, AV.sl 5 xs none]]))) (ifP (decide ((↑(Nd.depth nd6) : Int) > i3)) (gAnd (lowVss 1 xa && true && (lowVss 1 xs && true && true) && true) (ToEnd cfg 23 (bodyOf Try.f23) (RetIs Try.prog Try.f23 v) [Fm.code [0, 1, 0, 1, 1], Fm.block 0, Fm.code [1, 1, 1]] XT.normal [(1, true, AV.ptr 0 0), (3, true, AV.int IntKind.i64 (↑(Nd.depth nd6) : Int)), (4, true, AV.int IntKind.i64 (IntKind.wrap IntKind.i64 (i4 + 1)))] [Blk.mem 25 [AV.int IntKind.i64 xk, AV.int IntKind.i64 xp, AV.str xt, AV.sl 3 xa none, AV.sl 5 xs none]])) (gAnd (lowVss 1 xa && true && (lowVss 1 xs && true && true) && true) (ToEnd cfg 23 (bodyOf Try.f23) (RetIs Try.prog Try.f23 v) [Fm.code [0, 1, 0, 1, 1], Fm.block 0, Fm.code [1, 1, 1]] XT.normal [(1, true, AV.ptr 0 0), (3, true, AV.int IntKind.i64 i3), (4, true, AV.int IntKind.i64 (IntKind.wrap IntKind.i64 (i4 + 1)))] [Blk.mem 25 [AV.int IntKind.i64 xk, AV.int IntKind.i64 xp, AV.str xt, AV.sl 3 xa none, AV.sl 5 xs none]])))))) (AV.int IntKind.i64 i3 = v)) := by kernel_rfl
  exact ends_round hT 100000 (by kernel_rfl) (e.mpr H)

theorem t19a {N : Nat} {v : AV} {xk xp : Int} {xt : List UInt8} {xa xs : List (List AV)} (hT : TabOk cfg (ctab [(19, depthC N)])) (H :
    ToEnd cfg 19 (bodyOf Try.f19) (RetIs Try.prog Try.f19 v) [Fm.code [0, 1, 0, 1, 1], Fm.block 0, Fm.code [1, 1, 1]] XT.normal [(3, true, AV.int IntKind.i64 0), (8, true, AV.sl 5 xs none), (9, true, AV.int IntKind.i64 (↑(List.length xs) : Int)), (10, true, AV.int IntKind.i64 0)] [Blk.mem 25 [AV.int IntKind.i64 xk, AV.int IntKind.i64 xp, AV.str xt, AV.sl 3 xa none, AV.sl 5 xs none]]) :
    ToEnd cfg 19 (bodyOf Try.f19) (RetIs Try.prog Try.f19 v) ([.code []]) .normal ([(0, true, .agg [.int .i64 xk, .int .i64 xp, .str xt, .sl 3 xa none, .sl 5 xs none])]) ([]) := by
  have e : unr cfg 19 (bodyOf Try.f19) (ctab [(19, depthC N)]) ⟨[[0, 1, 0, 1, 1]], [([0, 0, 0, 1, 1, 0, 0, 1, 0, 1, 1], 0, [.int .i64, .int .i64, .str, .sl 3, .sl 5])]⟩ (RetIs Try.prog Try.f19 v) 100000 ([.code []]) .normal ([(0, true, .agg [.int .i64 xk, .int .i64 xp, .str xt, .sl 3 xa none, .sl 5 xs none])]) ([]) =
    (ToEnd cfg 19 (bodyOf Try.f19) (RetIs Try.prog Try.f19 v) [Fm.code [0, 1, 0, 1, 1], Fm.block 0, Fm.code [1, 1, 1]] XT.normal [(3, true, AV.int IntKind.i64 0), (8, true, AV.sl 5 xs none), (9, true, AV.int IntKind.i64 (↑(List.length xs) : Int)), (10, true, AV.int IntKind.i64 0)] [Blk.mem 25 [AV.int IntKind.i64 xk, AV.int IntKind.i64 xp, AV.str xt, AV.sl 3 xa none, AV.sl 5 xs none]]) := by kernel_rfl
  exact unr_ok hT 100000 _ _ _ _ (e.mpr H)

theorem t19b {N : Nat} {v : AV} {xk xp : Int} {xt : List UInt8} {xa xs : List (List AV)} {i3 : Int} {i9 : Int} {i10 : Int} (hT : TabOk cfg (ctab [(19, depthC N)])) (H :
    ifP (decide (i10 < i9)) (gAnd (inR i10 (List.length xs) && true && true) (∃ (z1 : Int), ∃ (z2 : Int), ∃ (s3 : List UInt8), ∃ (es4 : List (List AV)), ∃ (es5 : List (List AV)), getE xs i10 = [AV.int IntKind.i64 z1, AV.int IntKind.i64 z2, AV.str s3, AV.sl 3 es4 none, AV.sl 5 es5 none] ∧ ∃ (nd6 : Nd), Nd.size nd6 < N ∧ [AV.agg [AV.int IntKind.i64 z1, AV.int IntKind.i64 z2, AV.str s3, AV.sl 3 (stripss 0 [] es4) none, AV.sl 5 (stripss 0 [] es5) none]] = [AV.agg (encN nd6)] ∧ ifP (z1 != 2) (gAnd (lowVss 1 xs && true && true && (lowVss 1 xa && true && (lowVss 1 xs && true && true) && true)) (ToEnd cfg 19 (bodyOf Try.f19) (RetIs Try.prog Try.f19 v) [Fm.code [0, 1, 0, 1, 1], Fm.block 0, Fm.code [1, 1, 1]] XT.normal [(3, true, AV.int IntKind.i64 (max i3 (IntKind.wrap IntKind.i64 ((↑(Nd.depth nd6) : Int) + 1)))), (8, true, AV.sl 5 xs none), (9, true, AV.int IntKind.i64 i9), (10, true, AV.int IntKind.i64 (IntKind.wrap IntKind.i64 (i10 + 1)))] [Blk.mem 25 [AV.int IntKind.i64 xk, AV.int IntKind.i64 xp, AV.str xt, AV.sl 3 xa none, AV.sl 5 xs none]])) (gAnd (lowVss 1 xs && true && true && (lowVss 1 xa && true && (lowVss 1 xs && true && true) && true)) (ToEnd cfg 19 (bodyOf Try.f19) (RetIs Try.prog Try.f19 v) [Fm.code [0, 1, 0, 1, 1], Fm.block 0, Fm.code [1, 1, 1]] XT.normal [(3, true, AV.int IntKind.i64 (max i3 (↑(Nd.depth nd6) : Int))), (8, true, AV.sl 5 xs none), (9, true, AV.int IntKind.i64 i9), (10, true, AV.int IntKind.i64 (IntKind.wrap IntKind.i64 (i10 + 1)))] [Blk.mem 25 [AV.int IntKind.i64 xk, AV.int IntKind.i64 xp, AV.str xt, AV.sl 3 xa none, AV.sl 5 xs none]])))) (AV.int IntKind.i64 i3 = v)) :
    ToEnd cfg 19 (bodyOf Try.f19) (RetIs Try.prog Try.f19 v) ([.code [0, 1, 0, 1, 1], Fm.block 0, Fm.code [1, 1, 1]]) .normal ([(3, true, AV.int IntKind.i64 i3), (8, true, AV.sl 5 xs none), (9, true, AV.int IntKind.i64 i9), (10, true, AV.int IntKind.i64 i10)]) ([Blk.mem 25 [AV.int IntKind.i64 xk, AV.int IntKind.i64 xp, AV.str xt, AV.sl 3 xa none, AV.sl 5 xs none]]) := by
  have e : unr cfg 19 (bodyOf Try.f19) (ctab [(19, depthC N)]) ⟨[[0, 1, 0, 1, 1]], [([0, 0, 0, 1, 1, 0, 0, 1, 0, 1, 1], 0, [.int .i64, .int .i64, .str, .sl 3, .sl 5])]⟩ (RetIs Try.prog Try.f19 v) 100000 ([.code [0, 0, 1, 0, 1, 1], .loop [0, 1, 0, 1, 1] 1, Fm.block 0, Fm.code [1, 1, 1]]) .normal ([(3, true, AV.int IntKind.i64 i3), (8, true, AV.sl 5 xs none), (9, true, AV.int IntKind.i64 i9), (10, true, AV.int IntKind.i64 i10)]) ([Blk.mem 25 [AV.int IntKind.i64 xk, AV.int IntKind.i64 xp, AV.str xt, AV.sl 3 xa none, AV.sl 5 xs none]]) =
    (ifP (decide (i10 < i9)) (gAnd (inR i10 (List.length xs) && true && true) (∃ (z1 : Int), ∃ (z2 : Int), ∃ (s3 : List UInt8), ∃ (es4 : List (List AV)), ∃ (es5 : List (List AV)), getE xs i10 = [AV.int IntKind.i64 z1, AV.int IntKind.i64 z2, AV.str s3, AV.sl 3 es4 none, AV.sl 5 es5 none] ∧ ∃ (nd6 : Nd), Nd.size nd6 < N ∧ [AV.agg [AV.int IntKind.i64 z1, AV.int IntKind.i64 z2, AV.str s3, AV.sl 3 (stripss 0 [] es4) none, AV.sl 5 (stripss 0 [] es5) none]] = [AV.agg (encN nd6)] ∧ ifP (z1 != 2) (gAnd (lowVss 1 xs && true && true && (lowVss 1 xa && true && (lowVss 1 xs && true && true) && true)) (ToEnd cfg 19 (bodyOf Try.f19) (RetIs Try.prog Try.f19 v) [Fm.code [0, 1, 0, 1, 1], Fm.block 0, Fm.code [1, 1, 1]] XT.normal [(3, true, AV.int IntKind.i64 (max i3 (IntKind.wrap IntKind.i64 ((↑(Nd.depth nd6) : Int) + 1)))), (8, true, AV.sl 5 xs none), (9, true, AV.int IntKind.i64 i9), (10, true, AV.int IntKind.i64 (IntKind.wrap IntKind.i64 (i10 + 1)))] [Blk.mem 25 [AV.int IntKind.i64 xk, AV.int IntKind.i64 xp, AV.str xt, AV.sl 3 xa none, AV.sl 5 xs none]])) (gAnd (lowVss 1 xs && true && true && (lowVss 1 xa && true && (lowVss 1 xs && true && true) && true)) (ToEnd cfg 19 (bodyOf Try.f19) (RetIs Try.prog Try.f19 v) [Fm.code [0, 1, 0, 1, 1], Fm.block 0, Fm.code [1, 1, 1]] XT.normal [(3, true, AV.int IntKind.i64 (max i3 (↑(Nd.depth nd6) : Int))), (8, true, AV.sl 5 xs none), (9, true, AV.int IntKind.i64 i9), (10, true, AV.int IntKind.i64 (IntKind.wrap IntKind.i64 (i10 + 1)))] [Blk.mem 25 [AV.int IntKind.i64 xk, AV.int IntKind.i64 xp, AV.str xt, AV.sl 3 xa none, AV.sl 5 xs none]])))) (AV.int IntKind.i64 i3 = v)) := by kernel_rfl
  exact ends_round hT 100000 (by kernel_rfl) (e.mpr H)

theorem t25a {N : Nat} {v : AV} {xk xp : Int} {xt : List UInt8} {xa xs : List (List AV)} {l : Int} (hT : TabOk cfg (ctab [(25, leftC N)])) (H :
    ToEnd cfg 25 (bodyOf Try.f25) (RetIs Try.prog Try.f25 v) [Fm.code [0, 1, 0, 1, 1], Fm.block 0, Fm.code [1, 1, 1]] XT.normal [(1, true, AV.int IntKind.i64 (IntKind.wrap IntKind.i64 (IntKind.wrap IntKind.i64 (l - 1) - IntKind.wrap IntKind.i64 (Int.tdiv (↑(List.length xt) : Int) 20)))), (2, true, AV.ptr 0 0), (5, true, AV.int IntKind.i64 0)] [Blk.mem 25 [AV.int IntKind.i64 xk, AV.int IntKind.i64 xp, AV.str xt, AV.sl 3 xa none, AV.sl 5 xs none]]) :
    ToEnd cfg 25 (bodyOf Try.f25) (RetIs Try.prog Try.f25 v) ([.code []]) .normal ([(0, true, .agg [.int .i64 xk, .int .i64 xp, .str xt, .sl 3 xa none, .sl 5 xs none]), (1, true, .int .i64 l)]) ([]) := by
  have e : unr cfg 25 (bodyOf Try.f25) (ctab [(25, leftC N)]) ⟨[[0, 1, 0, 1, 1], [0, 1, 0, 1, 1, 1]], [([0, 0, 1, 0, 0, 1, 0, 1, 1], 5, [.str, .str, .int .i64]), ([0, 0, 1, 0, 0, 1, 0, 1, 1], 14, [.str, .str, .int .i64]), ([0, 0, 1, 0, 0, 1, 0, 1, 1, 1], 3, [.int .i64, .int .i64, .str, .sl 3, .sl 5])]⟩ (RetIs Try.prog Try.f25 v) 100000 ([.code []]) .normal ([(0, true, .agg [.int .i64 xk, .int .i64 xp, .str xt, .sl 3 xa none, .sl 5 xs none]), (1, true, .int .i64 l)]) ([]) =
    (ToEnd cfg 25 (bodyOf Try.f25) (RetIs Try.prog Try.f25 v) [Fm.code [0, 1, 0, 1, 1], Fm.block 0, Fm.code [1, 1, 1]] XT.normal [(1, true, AV.int IntKind.i64 (IntKind.wrap IntKind.i64 (IntKind.wrap IntKind.i64 (l - 1) - IntKind.wrap IntKind.i64 (Int.tdiv (↑(List.length xt) : Int) 20)))), (2, true, AV.ptr 0 0), (5, true, AV.int IntKind.i64 0)] [Blk.mem 25 [AV.int IntKind.i64 xk, AV.int IntKind.i64 xp, AV.str xt, AV.sl 3 xa none, AV.sl 5 xs none]]) := by kernel_rfl
  exact unr_ok hT 100000 _ _ _ _ (e.mpr H)

theorem t25b {N : Nat} {v : AV} {xk xp : Int} {xt : List UInt8} {xa xs : List (List AV)}  {i1 : Int} {i5 : Int} (hT : TabOk cfg (ctab [(25, leftC N)])) (H :
    ifP (decide (i5 < (↑(List.length xa) : Int))) (ifP (decide (i1 > 0)) (gAnd (inR i5 (List.length xa) && true && true) (∃ (s1 : List UInt8), ∃ (s2 : List UInt8), ∃ (z3 : Int), getE xa i5 = [AV.str s1, AV.str s2, AV.int IntKind.i64 z3] ∧ gAnd (inR i5 (List.length xa) && true && true) (∃ (s4 : List UInt8), ∃ (s5 : List UInt8), ∃ (z6 : Int), getE xa i5 = [AV.str s4, AV.str s5, AV.int IntKind.i64 z6] ∧ gAnd (lowVss 1 xa && true && (lowVss 1 xs && true && true) && true) (ToEnd cfg 25 (bodyOf Try.f25) (RetIs Try.prog Try.f25 v) [Fm.code [0, 1, 0, 1, 1], Fm.block 0, Fm.code [1, 1, 1]] XT.normal [(1, true, AV.int IntKind.i64 (IntKind.wrap IntKind.i64 (IntKind.wrap IntKind.i64 (IntKind.wrap IntKind.i64 (i1 - 1) - IntKind.wrap IntKind.i64 (Int.tdiv (↑(List.length s1) : Int) 20)) - IntKind.wrap IntKind.i64 (Int.tdiv (↑(List.length s5) : Int) 20)))), (2, true, AV.ptr 0 0), (5, true, AV.int IntKind.i64 (IntKind.wrap IntKind.i64 (i5 + 1)))] [Blk.mem 25 [AV.int IntKind.i64 xk, AV.int IntKind.i64 xp, AV.str xt, AV.sl 3 xa none, AV.sl 5 xs none]])))) (ToEnd cfg 25 (bodyOf Try.f25) (RetIs Try.prog Try.f25 v) [Fm.code [0, 1, 0, 1, 1, 1], Fm.block 2, Fm.code [1, 1, 1, 1]] XT.normal [(1, true, AV.int IntKind.i64 i1), (2, true, AV.ptr 0 0), (6, true, AV.int IntKind.i64 0)] [Blk.mem 25 [AV.int IntKind.i64 xk, AV.int IntKind.i64 xp, AV.str xt, AV.sl 3 xa none, AV.sl 5 xs none]])) (ToEnd cfg 25 (bodyOf Try.f25) (RetIs Try.prog Try.f25 v) [Fm.code [0, 1, 0, 1, 1, 1], Fm.block 2, Fm.code [1, 1, 1, 1]] XT.normal [(1, true, AV.int IntKind.i64 i1), (2, true, AV.ptr 0 0), (6, true, AV.int IntKind.i64 0)] [Blk.mem 25 [AV.int IntKind.i64 xk, AV.int IntKind.i64 xp, AV.str xt, AV.sl 3 xa none, AV.sl 5 xs none]])) :
    ToEnd cfg 25 (bodyOf Try.f25) (RetIs Try.prog Try.f25 v) ([.code [0, 1, 0, 1, 1], Fm.block 0, Fm.code [1, 1, 1]]) .normal ([(1, true, AV.int IntKind.i64 i1), (2, true, AV.ptr 0 0), (5, true, AV.int IntKind.i64 i5)]) ([Blk.mem 25 [AV.int IntKind.i64 xk, AV.int IntKind.i64 xp, AV.str xt, AV.sl 3 xa none, AV.sl 5 xs none]]) := by
  have e : unr cfg 25 (bodyOf Try.f25) (ctab [(25, leftC N)]) ⟨[[0, 1, 0, 1, 1], [0, 1, 0, 1, 1, 1]], [([0, 0, 1, 0, 0, 1, 0, 1, 1], 5, [.str, .str, .int .i64]), ([0, 0, 1, 0, 0, 1, 0, 1, 1], 14, [.str, .str, .int .i64]), ([0, 0, 1, 0, 0, 1, 0, 1, 1, 1], 3, [.int .i64, .int .i64, .str, .sl 3, .sl 5])]⟩ (RetIs Try.prog Try.f25 v) 100000 ([.code [0, 0, 1, 0, 1, 1], .loop [0, 1, 0, 1, 1] 1, Fm.block 0, Fm.code [1, 1, 1]]) .normal ([(1, true, AV.int IntKind.i64 i1), (2, true, AV.ptr 0 0), (5, true, AV.int IntKind.i64 i5)]) ([Blk.mem 25 [AV.int IntKind.i64 xk, AV.int IntKind.i64 xp, AV.str xt, AV.sl 3 xa none, AV.sl 5 xs none]]) =
    (ifP (decide (i5 < (↑(List.length xa) : Int))) (ifP (decide (i1 > 0)) (gAnd (inR i5 (List.length xa) && true && true) (∃ (s1 : List UInt8), ∃ (s2 : List UInt8), ∃ (z3 : Int), getE xa i5 = [AV.str s1, AV.str s2, AV.int IntKind.i64 z3] ∧ gAnd (inR i5 (List.length xa) && true && true) (∃ (s4 : List UInt8), ∃ (s5 : List UInt8), ∃ (z6 : Int), getE xa i5 = [AV.str s4, AV.str s5, AV.int IntKind.i64 z6] ∧ gAnd (lowVss 1 xa && true && (lowVss 1 xs && true && true) && true) (ToEnd cfg 25 (bodyOf Try.f25) (RetIs Try.prog Try.f25 v) [Fm.code [0, 1, 0, 1, 1], Fm.block 0, Fm.code [1, 1, 1]] XT.normal [(1, true, AV.int IntKind.i64 (IntKind.wrap IntKind.i64 (IntKind.wrap IntKind.i64 (IntKind.wrap IntKind.i64 (i1 - 1) - IntKind.wrap IntKind.i64 (Int.tdiv (↑(List.length s1) : Int) 20)) - IntKind.wrap IntKind.i64 (Int.tdiv (↑(List.length s5) : Int) 20)))), (2, true, AV.ptr 0 0), (5, true, AV.int IntKind.i64 (IntKind.wrap IntKind.i64 (i5 + 1)))] [Blk.mem 25 [AV.int IntKind.i64 xk, AV.int IntKind.i64 xp, AV.str xt, AV.sl 3 xa none, AV.sl 5 xs none]])))) (ToEnd cfg 25 (bodyOf Try.f25) (RetIs Try.prog Try.f25 v) [Fm.code [0, 1, 0, 1, 1, 1], Fm.block 2, Fm.code [1, 1, 1, 1]] XT.normal [(1, true, AV.int IntKind.i64 i1), (2, true, AV.ptr 0 0), (6, true, AV.int IntKind.i64 0)] [Blk.mem 25 [AV.int IntKind.i64 xk, AV.int IntKind.i64 xp, AV.str xt, AV.sl 3 xa none, AV.sl 5 xs none]])) (ToEnd cfg 25 (bodyOf Try.f25) (RetIs Try.prog Try.f25 v) [Fm.code [0, 1, 0, 1, 1, 1], Fm.block 2, Fm.code [1, 1, 1, 1]] XT.normal [(1, true, AV.int IntKind.i64 i1), (2, true, AV.ptr 0 0), (6, true, AV.int IntKind.i64 0)] [Blk.mem 25 [AV.int IntKind.i64 xk, AV.int IntKind.i64 xp, AV.str xt, AV.sl 3 xa none, AV.sl 5 xs none]])) := by kernel_rfl
  exact ends_round hT 100000 (by kernel_rfl) (e.mpr H)

theorem t25c {N : Nat} {v : AV} {xk xp : Int} {xt : List UInt8} {xa xs : List (List AV)}  {i1 : Int}  {i6 : Int} (hT : TabOk cfg (ctab [(25, leftC N)])) (H :
    ifP (decide (i6 < (↑(List.length xs) : Int))) (ifP (decide (i1 > 0)) (gAnd (inR i6 (List.length xs) && true && true) (∃ (z1 : Int), ∃ (z2 : Int), ∃ (s3 : List UInt8), ∃ (es4 : List (List AV)), ∃ (es5 : List (List AV)), getE xs i6 = [AV.int IntKind.i64 z1, AV.int IntKind.i64 z2, AV.str s3, AV.sl 3 es4 none, AV.sl 5 es5 none] ∧ ∃ (nd6 : Nd), ∃ (l7 : Int), Nd.size nd6 < N ∧ Nd.fit nd6 ∧ 0 < l7 ∧ l7 ≤ 600 ∧ [AV.agg [AV.int IntKind.i64 z1, AV.int IntKind.i64 z2, AV.str s3, AV.sl 3 (stripss 0 [] es4) none, AV.sl 5 (stripss 0 [] es5) none], AV.int IntKind.i64 i1] = [AV.agg (encN nd6), AV.int IntKind.i64 l7] ∧ gAnd (lowVss 1 xa && true && (lowVss 1 xs && true && true) && true) (ToEnd cfg 25 (bodyOf Try.f25) (RetIs Try.prog Try.f25 v) [Fm.code [0, 1, 0, 1, 1, 1], Fm.block 2, Fm.code [1, 1, 1, 1]] XT.normal [(1, true, AV.int IntKind.i64 (Nd.left nd6 l7)), (2, true, AV.ptr 0 0), (6, true, AV.int IntKind.i64 (IntKind.wrap IntKind.i64 (i6 + 1)))] [Blk.mem 25 [AV.int IntKind.i64 xk, AV.int IntKind.i64 xp, AV.str xt, AV.sl 3 xa none, AV.sl 5 xs none]]))) (AV.int IntKind.i64 i1 = v)) (AV.int IntKind.i64 i1 = v)) :
    ToEnd cfg 25 (bodyOf Try.f25) (RetIs Try.prog Try.f25 v) ([.code [0, 1, 0, 1, 1, 1], Fm.block 2, Fm.code [1, 1, 1, 1]]) .normal ([(1, true, AV.int IntKind.i64 i1), (2, true, AV.ptr 0 0), (6, true, AV.int IntKind.i64 i6)]) ([Blk.mem 25 [AV.int IntKind.i64 xk, AV.int IntKind.i64 xp, AV.str xt, AV.sl 3 xa none, AV.sl 5 xs none]]) := by
  have e : unr cfg 25 (bodyOf Try.f25) (ctab [(25, leftC N)]) ⟨[[0, 1, 0, 1, 1], [0, 1, 0, 1, 1, 1]], [([0, 0, 1, 0, 0, 1, 0, 1, 1], 5, [.str, .str, .int .i64]), ([0, 0, 1, 0, 0, 1, 0, 1, 1], 14, [.str, .str, .int .i64]), ([0, 0, 1, 0, 0, 1, 0, 1, 1, 1], 3, [.int .i64, .int .i64, .str, .sl 3, .sl 5])]⟩ (RetIs Try.prog Try.f25 v) 100000 ([.code [0, 0, 1, 0, 1, 1, 1], .loop [0, 1, 0, 1, 1, 1] 1, Fm.block 2, Fm.code [1, 1, 1, 1]]) .normal ([(1, true, AV.int IntKind.i64 i1), (2, true, AV.ptr 0 0), (6, true, AV.int IntKind.i64 i6)]) ([Blk.mem 25 [AV.int IntKind.i64 xk, AV.int IntKind.i64 xp, AV.str xt, AV.sl 3 xa none, AV.sl 5 xs none]]) =
    (ifP (decide (i6 < (↑(List.length xs) : Int))) (ifP (decide (i1 > 0)) (gAnd (inR i6 (List.length xs) && true && true) (∃ (z1 : Int), ∃ (z2 : Int), ∃ (s3 : List UInt8), ∃ (es4 : List (List AV)), ∃ (es5 : List (List AV)), getE xs i6 = [AV.int IntKind.i64 z1, AV.int IntKind.i64 z2, AV.str s3, AV.sl 3 es4 none, AV.sl 5 es5 none] ∧ ∃ (nd6 : Nd), ∃ (l7 : Int), Nd.size nd6 < N ∧ Nd.fit nd6 ∧ 0 < l7 ∧ l7 ≤ 600 ∧ [AV.agg [AV.int IntKind.i64 z1, AV.int IntKind.i64 z2, AV.str s3, AV.sl 3 (stripss 0 [] es4) none, AV.sl 5 (stripss 0 [] es5) none], AV.int IntKind.i64 i1] = [AV.agg (encN nd6), AV.int IntKind.i64 l7] ∧ gAnd (lowVss 1 xa && true && (lowVss 1 xs && true && true) && true) (ToEnd cfg 25 (bodyOf Try.f25) (RetIs Try.prog Try.f25 v) [Fm.code [0, 1, 0, 1, 1, 1], Fm.block 2, Fm.code [1, 1, 1, 1]] XT.normal [(1, true, AV.int IntKind.i64 (Nd.left nd6 l7)), (2, true, AV.ptr 0 0), (6, true, AV.int IntKind.i64 (IntKind.wrap IntKind.i64 (i6 + 1)))] [Blk.mem 25 [AV.int IntKind.i64 xk, AV.int IntKind.i64 xp, AV.str xt, AV.sl 3 xa none, AV.sl 5 xs none]]))) (AV.int IntKind.i64 i1 = v)) (AV.int IntKind.i64 i1 = v)) := by kernel_rfl
  exact ends_round hT 100000 (by kernel_rfl) (e.mpr H)

theorem t7a {N : Nat} {v : AV} {xk xp : Int} {xt : List UInt8} {xa xs : List (List AV)} (hT : TabOk cfg (ctab [(25, leftC N)])) (H :
    ∃ (nd1 : Nd), ∃ (l2 : Int), Nd.size nd1 < N ∧ Nd.fit nd1 ∧ 0 < l2 ∧ l2 ≤ 600 ∧ [AV.agg [AV.int IntKind.i64 xk, AV.int IntKind.i64 xp, AV.str xt, AV.sl 3 (stripss 0 [] xa) none, AV.sl 5 (stripss 0 [] xs) none], AV.int IntKind.i64 600] = [AV.agg (encN nd1), AV.int IntKind.i64 l2] ∧ AV.bool (decide (Nd.left nd1 l2 > 0)) = v) :
    ToEnd cfg 7 (bodyOf Try.f7) (RetIs Try.prog Try.f7 v) ([.code []]) .normal ([(0, true, .agg [.int .i64 xk, .int .i64 xp, .str xt, .sl 3 xa none, .sl 5 xs none])]) ([]) := by
  have e : unr cfg 7 (bodyOf Try.f7) (ctab [(25, leftC N)]) ⟨[], []⟩ (RetIs Try.prog Try.f7 v) 100000 ([.code []]) .normal ([(0, true, .agg [.int .i64 xk, .int .i64 xp, .str xt, .sl 3 xa none, .sl 5 xs none])]) ([]) =
    (∃ (nd1 : Nd), ∃ (l2 : Int), Nd.size nd1 < N ∧ Nd.fit nd1 ∧ 0 < l2 ∧ l2 ≤ 600 ∧ [AV.agg [AV.int IntKind.i64 xk, AV.int IntKind.i64 xp, AV.str xt, AV.sl 3 (stripss 0 [] xa) none, AV.sl 5 (stripss 0 [] xs) none], AV.int IntKind.i64 600] = [AV.agg (encN nd1), AV.int IntKind.i64 l2] ∧ AV.bool (decide (Nd.left nd1 l2 > 0)) = v) := by kernel_rfl
  exact unr_ok hT 100000 _ _ _ _ (e.mpr H)

theorem t22a  {v : AV} {xk xp : Int} {xt : List UInt8} {xa xs : List (List AV)} {nm : List UInt8} (hT : TabOk cfg (ctab [])) (H :
    ToEnd cfg 22 (bodyOf Try.f22) (RetIs Try.prog Try.f22 v) [Fm.code [0, 1, 0, 1], Fm.block 0, Fm.code [1, 1]] XT.normal [(1, true, AV.str nm), (2, true, AV.ptr 0 0), (6, true, AV.int IntKind.i64 0)] [Blk.mem 25 [AV.int IntKind.i64 xk, AV.int IntKind.i64 xp, AV.str xt, AV.sl 3 xa none, AV.sl 5 xs none]]) :
    ToEnd cfg 22 (bodyOf Try.f22) (RetIs Try.prog Try.f22 v) ([.code []]) .normal ([(0, true, .agg [.int .i64 xk, .int .i64 xp, .str xt, .sl 3 xa none, .sl 5 xs none]), (1, true, .str nm)]) ([]) := by
  have e : unr cfg 22 (bodyOf Try.f22) (ctab []) ⟨[[0, 1, 0, 1]], [([0, 0, 0, 1, 0, 0, 1, 0, 1], 3, [.str, .str, .int .i64]), ([0, 0, 1, 0, 0, 1, 0, 0, 1, 0, 1], 3, [.str, .str, .int .i64])]⟩ (RetIs Try.prog Try.f22 v) 100000 ([.code []]) .normal ([(0, true, .agg [.int .i64 xk, .int .i64 xp, .str xt, .sl 3 xa none, .sl 5 xs none]), (1, true, .str nm)]) ([]) =
    (ToEnd cfg 22 (bodyOf Try.f22) (RetIs Try.prog Try.f22 v) [Fm.code [0, 1, 0, 1], Fm.block 0, Fm.code [1, 1]] XT.normal [(1, true, AV.str nm), (2, true, AV.ptr 0 0), (6, true, AV.int IntKind.i64 0)] [Blk.mem 25 [AV.int IntKind.i64 xk, AV.int IntKind.i64 xp, AV.str xt, AV.sl 3 xa none, AV.sl 5 xs none]]) := by kernel_rfl
  exact unr_ok hT 100000 _ _ _ _ (e.mpr H)

theorem t22b  {v : AV} {xk xp : Int} {xt : List UInt8} {xa xs : List (List AV)}  {s1 : List UInt8} {i6 : Int} (hT : TabOk cfg (ctab [])) (H :
    ifP (decide (i6 < (↑(List.length xa) : Int))) (gAnd (inR i6 (List.length xa) && true && true) (∃ (s1_1 : List UInt8), ∃ (s2 : List UInt8), ∃ (z3 : Int), getE xa i6 = [AV.str s1_1, AV.str s2, AV.int IntKind.i64 z3] ∧ ifP (s1_1 == s1) (gAnd (inR i6 (List.length xa) && true && true) (∃ (s4 : List UInt8), ∃ (s5 : List UInt8), ∃ (z6 : Int), getE xa i6 = [AV.str s4, AV.str s5, AV.int IntKind.i64 z6] ∧ AV.tup [AV.str s5, AV.bool true] = v)) (gAnd (lowVss 1 xa && true && (lowVss 1 xs && true && true) && true) (ToEnd cfg 22 (bodyOf Try.f22) (RetIs Try.prog Try.f22 v) [Fm.code [0, 1, 0, 1], Fm.block 0, Fm.code [1, 1]] XT.normal [(1, true, AV.str s1), (2, true, AV.ptr 0 0), (6, true, AV.int IntKind.i64 (IntKind.wrap IntKind.i64 (i6 + 1)))] [Blk.mem 25 [AV.int IntKind.i64 xk, AV.int IntKind.i64 xp, AV.str xt, AV.sl 3 xa none, AV.sl 5 xs none]])))) (AV.tup [AV.str [], AV.bool false] = v)) :
    ToEnd cfg 22 (bodyOf Try.f22) (RetIs Try.prog Try.f22 v) ([.code [0, 1, 0, 1], Fm.block 0, Fm.code [1, 1]]) .normal ([(1, true, AV.str s1), (2, true, AV.ptr 0 0), (6, true, AV.int IntKind.i64 i6)]) ([Blk.mem 25 [AV.int IntKind.i64 xk, AV.int IntKind.i64 xp, AV.str xt, AV.sl 3 xa none, AV.sl 5 xs none]]) := by
  have e : unr cfg 22 (bodyOf Try.f22) (ctab []) ⟨[[0, 1, 0, 1]], [([0, 0, 0, 1, 0, 0, 1, 0, 1], 3, [.str, .str, .int .i64]), ([0, 0, 1, 0, 0, 1, 0, 0, 1, 0, 1], 3, [.str, .str, .int .i64])]⟩ (RetIs Try.prog Try.f22 v) 100000 ([.code [0, 0, 1, 0, 1], .loop [0, 1, 0, 1] 1, Fm.block 0, Fm.code [1, 1]]) .normal ([(1, true, AV.str s1), (2, true, AV.ptr 0 0), (6, true, AV.int IntKind.i64 i6)]) ([Blk.mem 25 [AV.int IntKind.i64 xk, AV.int IntKind.i64 xp, AV.str xt, AV.sl 3 xa none, AV.sl 5 xs none]]) =
    (ifP (decide (i6 < (↑(List.length xa) : Int))) (gAnd (inR i6 (List.length xa) && true && true) (∃ (s1_1 : List UInt8), ∃ (s2 : List UInt8), ∃ (z3 : Int), getE xa i6 = [AV.str s1_1, AV.str s2, AV.int IntKind.i64 z3] ∧ ifP (s1_1 == s1) (gAnd (inR i6 (List.length xa) && true && true) (∃ (s4 : List UInt8), ∃ (s5 : List UInt8), ∃ (z6 : Int), getE xa i6 = [AV.str s4, AV.str s5, AV.int IntKind.i64 z6] ∧ AV.tup [AV.str s5, AV.bool true] = v)) (gAnd (lowVss 1 xa && true && (lowVss 1 xs && true && true) && true) (ToEnd cfg 22 (bodyOf Try.f22) (RetIs Try.prog Try.f22 v) [Fm.code [0, 1, 0, 1], Fm.block 0, Fm.code [1, 1]] XT.normal [(1, true, AV.str s1), (2, true, AV.ptr 0 0), (6, true, AV.int IntKind.i64 (IntKind.wrap IntKind.i64 (i6 + 1)))] [Blk.mem 25 [AV.int IntKind.i64 xk, AV.int IntKind.i64 xp, AV.str xt, AV.sl 3 xa none, AV.sl 5 xs none]])))) (AV.tup [AV.str [], AV.bool false] = v)) := by kernel_rfl
  exact ends_round hT 100000 (by kernel_rfl) (e.mpr H)

theorem t30a {v : AV} {an av bn bv : List UInt8} {ai bi : Int} (hT : TabOk cfg (ctab [])) (H :
    ifP (an == bn) (AV.bool (av == bv) = v) (AV.bool false = v)) :
    ToEnd cfg 30 (bodyOf Try.f30) (RetIs Try.prog Try.f30 v) ([.code []]) .normal ([(0, true, .agg [.str an, .str av, .int .i64 ai]), (1, true, .agg [.str bn, .str bv, .int .i64 bi])]) ([]) := by
  have e : unr cfg 30 (bodyOf Try.f30) (ctab []) ⟨[], []⟩ (RetIs Try.prog Try.f30 v) 100000 ([.code []]) .normal ([(0, true, .agg [.str an, .str av, .int .i64 ai]), (1, true, .agg [.str bn, .str bv, .int .i64 bi])]) ([]) =
    (ifP (an == bn) (AV.bool (av == bv) = v) (AV.bool false = v)) := by kernel_rfl
  exact unr_ok hT 100000 _ _ _ _ (e.mpr H)

theorem t31a {v : AV} {ea eb : List (List AV)} (hT : TabOk cfg (ctab [(30, alikeC)])) (H :
    ifP ((↑(List.length ea) : Int) != (↑(List.length eb) : Int)) (AV.bool false = v) (ToEnd cfg 31 (bodyOf Try.f31) (RetIs Try.prog Try.f31 v) [Fm.code [0, 1, 0, 1, 1], Fm.block 0, Fm.code [1, 1, 1]] XT.normal [(1, true, AV.sl 3 eb none), (2, true, AV.fn (Fn.func 30) [] []), (15, true, AV.sl 3 ea none), (16, true, AV.int IntKind.i64 (↑(List.length ea) : Int)), (17, true, AV.int IntKind.i64 0)] [])) :
    ToEnd cfg 31 (bodyOf Try.f31) (RetIs Try.prog Try.f31 v) ([.code []]) .normal ([(0, true, .sl 3 ea none), (1, true, .sl 3 eb none), (2, true, .fn (.func 30) [] [])]) ([]) := by
  have e : unr cfg 31 (bodyOf Try.f31) (ctab [(30, alikeC)]) ⟨[[0, 1, 0, 1, 1]], [([0, 0, 0, 1, 1, 0, 0, 1, 0, 1, 1], 1, [.str, .str, .int .i64]), ([0, 1, 0, 0, 1, 1, 0, 0, 1, 0, 1, 1], 2, [.str, .str, .int .i64])]⟩ (RetIs Try.prog Try.f31 v) 100000 ([.code []]) .normal ([(0, true, .sl 3 ea none), (1, true, .sl 3 eb none), (2, true, .fn (.func 30) [] [])]) ([]) =
    (ifP ((↑(List.length ea) : Int) != (↑(List.length eb) : Int)) (AV.bool false = v) (ToEnd cfg 31 (bodyOf Try.f31) (RetIs Try.prog Try.f31 v) [Fm.code [0, 1, 0, 1, 1], Fm.block 0, Fm.code [1, 1, 1]] XT.normal [(1, true, AV.sl 3 eb none), (2, true, AV.fn (Fn.func 30) [] []), (15, true, AV.sl 3 ea none), (16, true, AV.int IntKind.i64 (↑(List.length ea) : Int)), (17, true, AV.int IntKind.i64 0)] [])) := by kernel_rfl
  exact unr_ok hT 100000 _ _ _ _ (e.mpr H)

theorem t31b {v : AV} {ea eb : List (List AV)} {i16 : Int} {i17 : Int} (hT : TabOk cfg (ctab [(30, alikeC)])) (H :
    ifP (decide (i17 < i16)) (gAnd (inR i17 (List.length ea) && true && true) (∃ (s1 : List UInt8), ∃ (s2 : List UInt8), ∃ (z3 : Int), getE ea i17 = [AV.str s1, AV.str s2, AV.int IntKind.i64 z3] ∧ gAnd (inR i17 (List.length eb) && true && true) (∃ (s4 : List UInt8), ∃ (s5 : List UInt8), ∃ (z6 : Int), getE eb i17 = [AV.str s4, AV.str s5, AV.int IntKind.i64 z6] ∧ ∃ (a7 : Att), ∃ (b8 : Att), [AV.agg [AV.str s1, AV.str s2, AV.int IntKind.i64 z3], AV.agg [AV.str s4, AV.str s5, AV.int IntKind.i64 z6]] = [AV.agg [AV.str (Att.name a7), AV.str (Att.value a7), AV.int IntKind.i64 (Att.pl a7)], AV.agg [AV.str (Att.name b8), AV.str (Att.value b8), AV.int IntKind.i64 (Att.pl b8)]] ∧ ifP (!alike a7 b8) (AV.bool false = v) (gAnd (lowVss 0 eb && true && (lowVss 0 ea && true && true) && true) (ToEnd cfg 31 (bodyOf Try.f31) (RetIs Try.prog Try.f31 v) [Fm.code [0, 1, 0, 1, 1], Fm.block 0, Fm.code [1, 1, 1]] XT.normal [(1, true, AV.sl 3 eb none), (2, true, AV.fn (Fn.func 30) [] []), (15, true, AV.sl 3 ea none), (16, true, AV.int IntKind.i64 i16), (17, true, AV.int IntKind.i64 (IntKind.wrap IntKind.i64 (i17 + 1)))] []))))) (AV.bool true = v)) :
    ToEnd cfg 31 (bodyOf Try.f31) (RetIs Try.prog Try.f31 v) ([.code [0, 1, 0, 1, 1], Fm.block 0, Fm.code [1, 1, 1]]) .normal ([(1, true, AV.sl 3 eb none), (2, true, AV.fn (Fn.func 30) [] []), (15, true, AV.sl 3 ea none), (16, true, AV.int IntKind.i64 i16), (17, true, AV.int IntKind.i64 i17)]) ([]) := by
  have e : unr cfg 31 (bodyOf Try.f31) (ctab [(30, alikeC)]) ⟨[[0, 1, 0, 1, 1]], [([0, 0, 0, 1, 1, 0, 0, 1, 0, 1, 1], 1, [.str, .str, .int .i64]), ([0, 1, 0, 0, 1, 1, 0, 0, 1, 0, 1, 1], 2, [.str, .str, .int .i64])]⟩ (RetIs Try.prog Try.f31 v) 100000 ([.code [0, 0, 1, 0, 1, 1], .loop [0, 1, 0, 1, 1] 0, Fm.block 0, Fm.code [1, 1, 1]]) .normal ([(1, true, AV.sl 3 eb none), (2, true, AV.fn (Fn.func 30) [] []), (15, true, AV.sl 3 ea none), (16, true, AV.int IntKind.i64 i16), (17, true, AV.int IntKind.i64 i17)]) ([]) =
    (ifP (decide (i17 < i16)) (gAnd (inR i17 (List.length ea) && true && true) (∃ (s1 : List UInt8), ∃ (s2 : List UInt8), ∃ (z3 : Int), getE ea i17 = [AV.str s1, AV.str s2, AV.int IntKind.i64 z3] ∧ gAnd (inR i17 (List.length eb) && true && true) (∃ (s4 : List UInt8), ∃ (s5 : List UInt8), ∃ (z6 : Int), getE eb i17 = [AV.str s4, AV.str s5, AV.int IntKind.i64 z6] ∧ ∃ (a7 : Att), ∃ (b8 : Att), [AV.agg [AV.str s1, AV.str s2, AV.int IntKind.i64 z3], AV.agg [AV.str s4, AV.str s5, AV.int IntKind.i64 z6]] = [AV.agg [AV.str (Att.name a7), AV.str (Att.value a7), AV.int IntKind.i64 (Att.pl a7)], AV.agg [AV.str (Att.name b8), AV.str (Att.value b8), AV.int IntKind.i64 (Att.pl b8)]] ∧ ifP (!alike a7 b8) (AV.bool false = v) (gAnd (lowVss 0 eb && true && (lowVss 0 ea && true && true) && true) (ToEnd cfg 31 (bodyOf Try.f31) (RetIs Try.prog Try.f31 v) [Fm.code [0, 1, 0, 1, 1], Fm.block 0, Fm.code [1, 1, 1]] XT.normal [(1, true, AV.sl 3 eb none), (2, true, AV.fn (Fn.func 30) [] []), (15, true, AV.sl 3 ea none), (16, true, AV.int IntKind.i64 i16), (17, true, AV.int IntKind.i64 (IntKind.wrap IntKind.i64 (i17 + 1)))] []))))) (AV.bool true = v)) := by kernel_rfl
  exact ends_round hT 100000 (by kernel_rfl) (e.mpr H)

theorem t32a {N : Nat} {v : AV} {ea eb : List (List AV)} (hT : TabOk cfg (ctab [(21, sameC N)])) (H :
    ifP ((↑(List.length ea) : Int) != (↑(List.length eb) : Int)) (AV.bool false = v) (ToEnd cfg 32 (bodyOf Try.f32) (RetIs Try.prog Try.f32 v) [Fm.code [0, 1, 0, 1, 1], Fm.block 0, Fm.code [1, 1, 1]] XT.normal [(1, true, AV.sl 5 eb none), (2, true, AV.fn (Fn.func 21) [] []), (15, true, AV.sl 5 ea none), (16, true, AV.int IntKind.i64 (↑(List.length ea) : Int)), (17, true, AV.int IntKind.i64 0)] [])) :
    ToEnd cfg 32 (bodyOf Try.f32) (RetIs Try.prog Try.f32 v) ([.code []]) .normal ([(0, true, .sl 5 ea none), (1, true, .sl 5 eb none), (2, true, .fn (.func 21) [] [])]) ([]) := by
  have e : unr cfg 32 (bodyOf Try.f32) (ctab [(21, sameC N)]) ⟨[[0, 1, 0, 1, 1]], [([0, 0, 0, 1, 1, 0, 0, 1, 0, 1, 1], 1, [.int .i64, .int .i64, .str, .sl 3, .sl 5]), ([0, 1, 0, 0, 1, 1, 0, 0, 1, 0, 1, 1], 2, [.int .i64, .int .i64, .str, .sl 3, .sl 5])]⟩ (RetIs Try.prog Try.f32 v) 100000 ([.code []]) .normal ([(0, true, .sl 5 ea none), (1, true, .sl 5 eb none), (2, true, .fn (.func 21) [] [])]) ([]) =
    (ifP ((↑(List.length ea) : Int) != (↑(List.length eb) : Int)) (AV.bool false = v) (ToEnd cfg 32 (bodyOf Try.f32) (RetIs Try.prog Try.f32 v) [Fm.code [0, 1, 0, 1, 1], Fm.block 0, Fm.code [1, 1, 1]] XT.normal [(1, true, AV.sl 5 eb none), (2, true, AV.fn (Fn.func 21) [] []), (15, true, AV.sl 5 ea none), (16, true, AV.int IntKind.i64 (↑(List.length ea) : Int)), (17, true, AV.int IntKind.i64 0)] [])) := by kernel_rfl
  exact unr_ok hT 100000 _ _ _ _ (e.mpr H)

theorem t32b {N : Nat} {v : AV} {ea eb : List (List AV)} {i16 : Int} {i17 : Int} (hT : TabOk cfg (ctab [(21, sameC N)])) (H :
    ifP (decide (i17 < i16)) (gAnd (inR i17 (List.length ea) && true && true) (∃ (z1 : Int), ∃ (z2 : Int), ∃ (s3 : List UInt8), ∃ (es4 : List (List AV)), ∃ (es5 : List (List AV)), getE ea i17 = [AV.int IntKind.i64 z1, AV.int IntKind.i64 z2, AV.str s3, AV.sl 3 es4 none, AV.sl 5 es5 none] ∧ gAnd (inR i17 (List.length eb) && true && true) (∃ (z6 : Int), ∃ (z7 : Int), ∃ (s8 : List UInt8), ∃ (es9 : List (List AV)), ∃ (es10 : List (List AV)), getE eb i17 = [AV.int IntKind.i64 z6, AV.int IntKind.i64 z7, AV.str s8, AV.sl 3 es9 none, AV.sl 5 es10 none] ∧ ∃ (a11 : Nd), ∃ (b12 : Nd), Nd.size a11 < N ∧ Nd.fit a11 ∧ Nd.fit b12 ∧ [AV.agg [AV.int IntKind.i64 z1, AV.int IntKind.i64 z2, AV.str s3, AV.sl 3 (stripss 0 [] es4) none, AV.sl 5 (stripss 0 [] es5) none], AV.agg [AV.int IntKind.i64 z6, AV.int IntKind.i64 z7, AV.str s8, AV.sl 3 (stripss 0 [] es9) none, AV.sl 5 (stripss 0 [] es10) none]] = [AV.agg (encN a11), AV.agg (encN b12)] ∧ ifP (!Nd.same a11 b12) (AV.bool false = v) (gAnd (lowVss 0 eb && true && (lowVss 0 ea && true && true) && true) (ToEnd cfg 32 (bodyOf Try.f32) (RetIs Try.prog Try.f32 v) [Fm.code [0, 1, 0, 1, 1], Fm.block 0, Fm.code [1, 1, 1]] XT.normal [(1, true, AV.sl 5 eb none), (2, true, AV.fn (Fn.func 21) [] []), (15, true, AV.sl 5 ea none), (16, true, AV.int IntKind.i64 i16), (17, true, AV.int IntKind.i64 (IntKind.wrap IntKind.i64 (i17 + 1)))] []))))) (AV.bool true = v)) :
    ToEnd cfg 32 (bodyOf Try.f32) (RetIs Try.prog Try.f32 v) ([.code [0, 1, 0, 1, 1], Fm.block 0, Fm.code [1, 1, 1]]) .normal ([(1, true, AV.sl 5 eb none), (2, true, AV.fn (Fn.func 21) [] []), (15, true, AV.sl 5 ea none), (16, true, AV.int IntKind.i64 i16), (17, true, AV.int IntKind.i64 i17)]) ([]) := by
  have e : unr cfg 32 (bodyOf Try.f32) (ctab [(21, sameC N)]) ⟨[[0, 1, 0, 1, 1]], [([0, 0, 0, 1, 1, 0, 0, 1, 0, 1, 1], 1, [.int .i64, .int .i64, .str, .sl 3, .sl 5]), ([0, 1, 0, 0, 1, 1, 0, 0, 1, 0, 1, 1], 2, [.int .i64, .int .i64, .str, .sl 3, .sl 5])]⟩ (RetIs Try.prog Try.f32 v) 100000 ([.code [0, 0, 1, 0, 1, 1], .loop [0, 1, 0, 1, 1] 0, Fm.block 0, Fm.code [1, 1, 1]]) .normal ([(1, true, AV.sl 5 eb none), (2, true, AV.fn (Fn.func 21) [] []), (15, true, AV.sl 5 ea none), (16, true, AV.int IntKind.i64 i16), (17, true, AV.int IntKind.i64 i17)]) ([]) =
    (ifP (decide (i17 < i16)) (gAnd (inR i17 (List.length ea) && true && true) (∃ (z1 : Int), ∃ (z2 : Int), ∃ (s3 : List UInt8), ∃ (es4 : List (List AV)), ∃ (es5 : List (List AV)), getE ea i17 = [AV.int IntKind.i64 z1, AV.int IntKind.i64 z2, AV.str s3, AV.sl 3 es4 none, AV.sl 5 es5 none] ∧ gAnd (inR i17 (List.length eb) && true && true) (∃ (z6 : Int), ∃ (z7 : Int), ∃ (s8 : List UInt8), ∃ (es9 : List (List AV)), ∃ (es10 : List (List AV)), getE eb i17 = [AV.int IntKind.i64 z6, AV.int IntKind.i64 z7, AV.str s8, AV.sl 3 es9 none, AV.sl 5 es10 none] ∧ ∃ (a11 : Nd), ∃ (b12 : Nd), Nd.size a11 < N ∧ Nd.fit a11 ∧ Nd.fit b12 ∧ [AV.agg [AV.int IntKind.i64 z1, AV.int IntKind.i64 z2, AV.str s3, AV.sl 3 (stripss 0 [] es4) none, AV.sl 5 (stripss 0 [] es5) none], AV.agg [AV.int IntKind.i64 z6, AV.int IntKind.i64 z7, AV.str s8, AV.sl 3 (stripss 0 [] es9) none, AV.sl 5 (stripss 0 [] es10) none]] = [AV.agg (encN a11), AV.agg (encN b12)] ∧ ifP (!Nd.same a11 b12) (AV.bool false = v) (gAnd (lowVss 0 eb && true && (lowVss 0 ea && true && true) && true) (ToEnd cfg 32 (bodyOf Try.f32) (RetIs Try.prog Try.f32 v) [Fm.code [0, 1, 0, 1, 1], Fm.block 0, Fm.code [1, 1, 1]] XT.normal [(1, true, AV.sl 5 eb none), (2, true, AV.fn (Fn.func 21) [] []), (15, true, AV.sl 5 ea none), (16, true, AV.int IntKind.i64 i16), (17, true, AV.int IntKind.i64 (IntKind.wrap IntKind.i64 (i17 + 1)))] []))))) (AV.bool true = v)) := by kernel_rfl
  exact ends_round hT 100000 (by kernel_rfl) (e.mpr H)

theorem t21a {N : Nat} {v : AV} {xk xp : Int} {xt : List UInt8} {xa xs : List (List AV)} {yk yp : Int} {yt : List UInt8} {ya ys : List (List AV)} (hT : TabOk cfg (ctab [(31, alikesC 30), (32, samesC 21 N)])) (H :
    ifP (xk == yk) (ifP (xt == yt) (∃ (al1 : List Att), ∃ (bl2 : List Att), List.length al1 ≤ 9223372036854775807 ∧ List.length bl2 ≤ 9223372036854775807 ∧ [AV.sl 3 (stripss 0 [] xa) none, AV.sl 3 (stripss 0 [] ya) none, AV.fn (Fn.func 30) [] []] = [AV.sl 3 (List.map encA al1) none, AV.sl 3 (List.map encA bl2) none, AV.fn (Fn.func 30) [] []] ∧ ifP (alikes al1 bl2) (∃ (al3 : List Nd), ∃ (bl4 : List Nd), sizes al3 < N ∧ fits al3 ∧ fits bl4 ∧ List.length al3 ≤ 9223372036854775807 ∧ List.length bl4 ≤ 9223372036854775807 ∧ [AV.sl 5 (stripss 0 [] xs) none, AV.sl 5 (stripss 0 [] ys) none, AV.fn (Fn.func 21) [] []] = [AV.sl 5 (encNs al3) none, AV.sl 5 (encNs bl4) none, AV.fn (Fn.func 21) [] []] ∧ AV.bool (sames al3 bl4) = v) (AV.bool false = v)) (AV.bool false = v)) (AV.bool false = v)) :
    ToEnd cfg 21 (bodyOf Try.f21) (RetIs Try.prog Try.f21 v) ([.code []]) .normal ([(0, true, .agg [.int .i64 xk, .int .i64 xp, .str xt, .sl 3 xa none, .sl 5 xs none]), (1, true, .agg [.int .i64 yk, .int .i64 yp, .str yt, .sl 3 ya none, .sl 5 ys none])]) ([]) := by
  have e : unr cfg 21 (bodyOf Try.f21) (ctab [(31, alikesC 30), (32, samesC 21 N)]) ⟨[], []⟩ (RetIs Try.prog Try.f21 v) 100000 ([.code []]) .normal ([(0, true, .agg [.int .i64 xk, .int .i64 xp, .str xt, .sl 3 xa none, .sl 5 xs none]), (1, true, .agg [.int .i64 yk, .int .i64 yp, .str yt, .sl 3 ya none, .sl 5 ys none])]) ([]) =
    (ifP (xk == yk) (ifP (xt == yt) (∃ (al1 : List Att), ∃ (bl2 : List Att), List.length al1 ≤ 9223372036854775807 ∧ List.length bl2 ≤ 9223372036854775807 ∧ [AV.sl 3 (stripss 0 [] xa) none, AV.sl 3 (stripss 0 [] ya) none, AV.fn (Fn.func 30) [] []] = [AV.sl 3 (List.map encA al1) none, AV.sl 3 (List.map encA bl2) none, AV.fn (Fn.func 30) [] []] ∧ ifP (alikes al1 bl2) (∃ (al3 : List Nd), ∃ (bl4 : List Nd), sizes al3 < N ∧ fits al3 ∧ fits bl4 ∧ List.length al3 ≤ 9223372036854775807 ∧ List.length bl4 ≤ 9223372036854775807 ∧ [AV.sl 5 (stripss 0 [] xs) none, AV.sl 5 (stripss 0 [] ys) none, AV.fn (Fn.func 21) [] []] = [AV.sl 5 (encNs al3) none, AV.sl 5 (encNs bl4) none, AV.fn (Fn.func 21) [] []] ∧ AV.bool (sames al3 bl4) = v) (AV.bool false = v)) (AV.bool false = v)) (AV.bool false = v)) := by kernel_rfl
  exact unr_ok hT 100000 _ _ _ _ (e.mpr H)

theorem t24a {N : Nat} {v : AV} {xk xp : Int} {xt : List UInt8} {xa xs : List (List AV)} {yk yp : Int} {yt : List UInt8} {ya ys : List (List AV)} (hT : TabOk cfg (ctab [(24, sameC N)])) (H :
    ifP (xk != yk) (AV.bool false = v) (ifP (!xt == yt) (AV.bool false = v) (ifP ((↑(List.length xa) : Int) != (↑(List.length ya) : Int)) (AV.bool false = v) (ifP ((↑(List.length xs) : Int) != (↑(List.length ys) : Int)) (AV.bool false = v) (ToEnd cfg 24 (bodyOf Try.f24) (RetIs Try.prog Try.f24 v) [Fm.code [0, 1, 0, 1, 1], Fm.block 0, Fm.code [1, 1, 1]] XT.normal [(2, true, AV.ptr 0 0), (3, true, AV.ptr 1 0), (5, true, AV.int IntKind.i64 0)] [Blk.mem 25 [AV.int IntKind.i64 xk, AV.int IntKind.i64 xp, AV.str xt, AV.sl 3 xa none, AV.sl 5 xs none], Blk.mem 25 [AV.int IntKind.i64 yk, AV.int IntKind.i64 yp, AV.str yt, AV.sl 3 ya none, AV.sl 5 ys none]]))))) :
    ToEnd cfg 24 (bodyOf Try.f24) (RetIs Try.prog Try.f24 v) ([.code []]) .normal ([(0, true, .agg [.int .i64 xk, .int .i64 xp, .str xt, .sl 3 xa none, .sl 5 xs none]), (1, true, .agg [.int .i64 yk, .int .i64 yp, .str yt, .sl 3 ya none, .sl 5 ys none])]) ([]) := by
  have e : unr cfg 24 (bodyOf Try.f24) (ctab [(24, sameC N)]) ⟨[[0, 1, 0, 1, 1], [0, 1, 0, 1, 1, 1]], [([0, 0, 0, 1, 0, 0, 1, 0, 1, 1], 3, [.str, .str, .int .i64]), ([0, 0, 0, 1, 0, 0, 1, 0, 1, 1], 9, [.str, .str, .int .i64]), ([0, 0, 0, 1, 0, 0, 1, 0, 1, 1], 17, [.str, .str, .int .i64]), ([0, 0, 0, 1, 0, 0, 1, 0, 1, 1], 23, [.str, .str, .int .i64]), ([0, 0, 0, 1, 0, 0, 1, 0, 1, 1, 1], 3, [.int .i64, .int .i64, .str, .sl 3, .sl 5]), ([0, 0, 0, 1, 0, 0, 1, 0, 1, 1, 1], 8, [.int .i64, .int .i64, .str, .sl 3, .sl 5])]⟩ (RetIs Try.prog Try.f24 v) 100000 ([.code []]) .normal ([(0, true, .agg [.int .i64 xk, .int .i64 xp, .str xt, .sl 3 xa none, .sl 5 xs none]), (1, true, .agg [.int .i64 yk, .int .i64 yp, .str yt, .sl 3 ya none, .sl 5 ys none])]) ([]) =
    (ifP (xk != yk) (AV.bool false = v) (ifP (!xt == yt) (AV.bool false = v) (ifP ((↑(List.length xa) : Int) != (↑(List.length ya) : Int)) (AV.bool false = v) (ifP ((↑(List.length xs) : Int) != (↑(List.length ys) : Int)) (AV.bool false = v) (ToEnd cfg 24 (bodyOf Try.f24) (RetIs Try.prog Try.f24 v) [Fm.code [0, 1, 0, 1, 1], Fm.block 0, Fm.code [1, 1, 1]] XT.normal [(2, true, AV.ptr 0 0), (3, true, AV.ptr 1 0), (5, true, AV.int IntKind.i64 0)] [Blk.mem 25 [AV.int IntKind.i64 xk, AV.int IntKind.i64 xp, AV.str xt, AV.sl 3 xa none, AV.sl 5 xs none], Blk.mem 25 [AV.int IntKind.i64 yk, AV.int IntKind.i64 yp, AV.str yt, AV.sl 3 ya none, AV.sl 5 ys none]]))))) := by kernel_rfl
  exact unr_ok hT 100000 _ _ _ _ (e.mpr H)

theorem t24b {N : Nat} {v : AV} {xk xp : Int} {xt : List UInt8} {xa xs : List (List AV)} {yk yp : Int} {yt : List UInt8} {ya ys : List (List AV)} {i5 : Int} (hT : TabOk cfg (ctab [(24, sameC N)])) (H :
    ifP (decide (i5 < (↑(List.length xa) : Int))) (gAnd (inR i5 (List.length xa) && true && true) (∃ (s1 : List UInt8), ∃ (s2 : List UInt8), ∃ (z3 : Int), getE xa i5 = [AV.str s1, AV.str s2, AV.int IntKind.i64 z3] ∧ gAnd (inR i5 (List.length ya) && true && true) (∃ (s4 : List UInt8), ∃ (s5 : List UInt8), ∃ (z6 : Int), getE ya i5 = [AV.str s4, AV.str s5, AV.int IntKind.i64 z6] ∧ ifP (!s1 == s4) (AV.bool false = v) (gAnd (inR i5 (List.length xa) && true && true) (∃ (s7 : List UInt8), ∃ (s8 : List UInt8), ∃ (z9 : Int), getE xa i5 = [AV.str s7, AV.str s8, AV.int IntKind.i64 z9] ∧ gAnd (inR i5 (List.length ya) && true && true) (∃ (s10 : List UInt8), ∃ (s11 : List UInt8), ∃ (z12 : Int), getE ya i5 = [AV.str s10, AV.str s11, AV.int IntKind.i64 z12] ∧ ifP (!s8 == s11) (AV.bool false = v) (gAnd (lowVss 2 xa && true && (lowVss 2 xs && true && true) && (lowVss 2 ya && true && (lowVss 2 ys && true && true) && true)) (ToEnd cfg 24 (bodyOf Try.f24) (RetIs Try.prog Try.f24 v) [Fm.code [0, 1, 0, 1, 1], Fm.block 0, Fm.code [1, 1, 1]] XT.normal [(2, true, AV.ptr 0 0), (3, true, AV.ptr 1 0), (5, true, AV.int IntKind.i64 (IntKind.wrap IntKind.i64 (i5 + 1)))] [Blk.mem 25 [AV.int IntKind.i64 xk, AV.int IntKind.i64 xp, AV.str xt, AV.sl 3 xa none, AV.sl 5 xs none], Blk.mem 25 [AV.int IntKind.i64 yk, AV.int IntKind.i64 yp, AV.str yt, AV.sl 3 ya none, AV.sl 5 ys none]])))))))) (ToEnd cfg 24 (bodyOf Try.f24) (RetIs Try.prog Try.f24 v) [Fm.code [0, 1, 0, 1, 1, 1], Fm.block 2, Fm.code [1, 1, 1, 1]] XT.normal [(2, true, AV.ptr 0 0), (3, true, AV.ptr 1 0), (6, true, AV.int IntKind.i64 0)] [Blk.mem 25 [AV.int IntKind.i64 xk, AV.int IntKind.i64 xp, AV.str xt, AV.sl 3 xa none, AV.sl 5 xs none], Blk.mem 25 [AV.int IntKind.i64 yk, AV.int IntKind.i64 yp, AV.str yt, AV.sl 3 ya none, AV.sl 5 ys none]])) :
    ToEnd cfg 24 (bodyOf Try.f24) (RetIs Try.prog Try.f24 v) ([.code [0, 1, 0, 1, 1], Fm.block 0, Fm.code [1, 1, 1]]) .normal ([(2, true, AV.ptr 0 0), (3, true, AV.ptr 1 0), (5, true, AV.int IntKind.i64 i5)]) ([Blk.mem 25 [AV.int IntKind.i64 xk, AV.int IntKind.i64 xp, AV.str xt, AV.sl 3 xa none, AV.sl 5 xs none], Blk.mem 25 [AV.int IntKind.i64 yk, AV.int IntKind.i64 yp, AV.str yt, AV.sl 3 ya none, AV.sl 5 ys none]]) := by
  have e : unr cfg 24 (bodyOf Try.f24) (ctab [(24, sameC N)]) ⟨[[0, 1, 0, 1, 1], [0, 1, 0, 1, 1, 1]], [([0, 0, 0, 1, 0, 0, 1, 0, 1, 1], 3, [.str, .str, .int .i64]), ([0, 0, 0, 1, 0, 0, 1, 0, 1, 1], 9, [.str, .str, .int .i64]), ([0, 0, 0, 1, 0, 0, 1, 0, 1, 1], 17, [.str, .str, .int .i64]), ([0, 0, 0, 1, 0, 0, 1, 0, 1, 1], 23, [.str, .str, .int .i64]), ([0, 0, 0, 1, 0, 0, 1, 0, 1, 1, 1], 3, [.int .i64, .int .i64, .str, .sl 3, .sl 5]), ([0, 0, 0, 1, 0, 0, 1, 0, 1, 1, 1], 8, [.int .i64, .int .i64, .str, .sl 3, .sl 5])]⟩ (RetIs Try.prog Try.f24 v) 100000 ([.code [0, 0, 1, 0, 1, 1], .loop [0, 1, 0, 1, 1] 2, Fm.block 0, Fm.code [1, 1, 1]]) .normal ([(2, true, AV.ptr 0 0), (3, true, AV.ptr 1 0), (5, true, AV.int IntKind.i64 i5)]) ([Blk.mem 25 [AV.int IntKind.i64 xk, AV.int IntKind.i64 xp, AV.str xt, AV.sl 3 xa none, AV.sl 5 xs none], Blk.mem 25 [AV.int IntKind.i64 yk, AV.int IntKind.i64 yp, AV.str yt, AV.sl 3 ya none, AV.sl 5 ys none]]) =
    (ifP (decide (i5 < (↑(List.length xa) : Int))) (gAnd (inR i5 (List.length xa) && true && true) (∃ (s1 : List UInt8), ∃ (s2 : List UInt8), ∃ (z3 : Int), getE xa i5 = [AV.str s1, AV.str s2, AV.int IntKind.i64 z3] ∧ gAnd (inR i5 (List.length ya) && true && true) (∃ (s4 : List UInt8), ∃ (s5 : List UInt8), ∃ (z6 : Int), getE ya i5 = [AV.str s4, AV.str s5, AV.int IntKind.i64 z6] ∧ ifP (!s1 == s4) (AV.bool false = v) (gAnd (inR i5 (List.length xa) && true && true) (∃ (s7 : List UInt8), ∃ (s8 : List UInt8), ∃ (z9 : Int), getE xa i5 = [AV.str s7, AV.str s8, AV.int IntKind.i64 z9] ∧ gAnd (inR i5 (List.length ya) && true && true) (∃ (s10 : List UInt8), ∃ (s11 : List UInt8), ∃ (z12 : Int), getE ya i5 = [AV.str s10, AV.str s11, AV.int IntKind.i64 z12] ∧ ifP (!s8 == s11) (AV.bool false = v) (gAnd (lowVss 2 xa && true && (lowVss 2 xs && true && true) && (lowVss 2 ya && true && (lowVss 2 ys && true && true) && true)) (ToEnd cfg 24 (bodyOf Try.f24) (RetIs Try.prog Try.f24 v) [Fm.code [0, 1, 0, 1, 1], Fm.block 0, Fm.code [1, 1, 1]] XT.normal [(2, true, AV.ptr 0 0), (3, true, AV.ptr 1 0), (5, true, AV.int IntKind.i64 (IntKind.wrap IntKind.i64 (i5 + 1)))] [Blk.mem 25 [AV.int IntKind.i64 xk, AV.int IntKind.i64 xp, AV.str xt, AV.sl 3 xa none, AV.sl 5 xs none], Blk.mem 25 [AV.int IntKind.i64 yk, AV.int IntKind.i64 yp, AV.str yt, AV.sl 3 ya none, AV.sl 5 ys none]])))))))) (ToEnd cfg 24 (bodyOf Try.f24) (RetIs Try.prog Try.f24 v) [Fm.code [0, 1, 0, 1, 1, 1], Fm.block 2, Fm.code [1, 1, 1, 1]] XT.normal [(2, true, AV.ptr 0 0), (3, true, AV.ptr 1 0), (6, true, AV.int IntKind.i64 0)] [Blk.mem 25 [AV.int IntKind.i64 xk, AV.int IntKind.i64 xp, AV.str xt, AV.sl 3 xa none, AV.sl 5 xs none], Blk.mem 25 [AV.int IntKind.i64 yk, AV.int IntKind.i64 yp, AV.str yt, AV.sl 3 ya none, AV.sl 5 ys none]])) := by kernel_rfl
  exact ends_round hT 100000 (by kernel_rfl) (e.mpr H)

theorem t24c {N : Nat} {v : AV} {xk xp : Int} {xt : List UInt8} {xa xs : List (List AV)} {yk yp : Int} {yt : List UInt8} {ya ys : List (List AV)}  {i6 : Int} (hT : TabOk cfg (ctab [(24, sameC N)])) (H :
    ifP (decide (i6 < (↑(List.length xs) : Int))) (gAnd (inR i6 (List.length xs) && true && true) (∃ (z1 : Int), ∃ (z2 : Int), ∃ (s3 : List UInt8), ∃ (es4 : List (List AV)), ∃ (es5 : List (List AV)), getE xs i6 = [AV.int IntKind.i64 z1, AV.int IntKind.i64 z2, AV.str s3, AV.sl 3 es4 none, AV.sl 5 es5 none] ∧ gAnd (inR i6 (List.length ys) && true && true) (∃ (z6 : Int), ∃ (z7 : Int), ∃ (s8 : List UInt8), ∃ (es9 : List (List AV)), ∃ (es10 : List (List AV)), getE ys i6 = [AV.int IntKind.i64 z6, AV.int IntKind.i64 z7, AV.str s8, AV.sl 3 es9 none, AV.sl 5 es10 none] ∧ ∃ (a11 : Nd), ∃ (b12 : Nd), Nd.size a11 < N ∧ Nd.fit a11 ∧ Nd.fit b12 ∧ [AV.agg [AV.int IntKind.i64 z1, AV.int IntKind.i64 z2, AV.str s3, AV.sl 3 (stripss 0 [] es4) none, AV.sl 5 (stripss 0 [] es5) none], AV.agg [AV.int IntKind.i64 z6, AV.int IntKind.i64 z7, AV.str s8, AV.sl 3 (stripss 0 [] es9) none, AV.sl 5 (stripss 0 [] es10) none]] = [AV.agg (encN a11), AV.agg (encN b12)] ∧ ifP (!Nd.same a11 b12) (AV.bool false = v) (gAnd (lowVss 2 xa && true && (lowVss 2 xs && true && true) && (lowVss 2 ya && true && (lowVss 2 ys && true && true) && true)) (ToEnd cfg 24 (bodyOf Try.f24) (RetIs Try.prog Try.f24 v) [Fm.code [0, 1, 0, 1, 1, 1], Fm.block 2, Fm.code [1, 1, 1, 1]] XT.normal [(2, true, AV.ptr 0 0), (3, true, AV.ptr 1 0), (6, true, AV.int IntKind.i64 (IntKind.wrap IntKind.i64 (i6 + 1)))] [Blk.mem 25 [AV.int IntKind.i64 xk, AV.int IntKind.i64 xp, AV.str xt, AV.sl 3 xa none, AV.sl 5 xs none], Blk.mem 25 [AV.int IntKind.i64 yk, AV.int IntKind.i64 yp, AV.str yt, AV.sl 3 ya none, AV.sl 5 ys none]]))))) (AV.bool true = v)) :
    ToEnd cfg 24 (bodyOf Try.f24) (RetIs Try.prog Try.f24 v) ([.code [0, 1, 0, 1, 1, 1], Fm.block 2, Fm.code [1, 1, 1, 1]]) .normal ([(2, true, AV.ptr 0 0), (3, true, AV.ptr 1 0), (6, true, AV.int IntKind.i64 i6)]) ([Blk.mem 25 [AV.int IntKind.i64 xk, AV.int IntKind.i64 xp, AV.str xt, AV.sl 3 xa none, AV.sl 5 xs none], Blk.mem 25 [AV.int IntKind.i64 yk, AV.int IntKind.i64 yp, AV.str yt, AV.sl 3 ya none, AV.sl 5 ys none]]) := by
  have e : unr cfg 24 (bodyOf Try.f24) (ctab [(24, sameC N)]) ⟨[[0, 1, 0, 1, 1], [0, 1, 0, 1, 1, 1]], [([0, 0, 0, 1, 0, 0, 1, 0, 1, 1], 3, [.str, .str, .int .i64]), ([0, 0, 0, 1, 0, 0, 1, 0, 1, 1], 9, [.str, .str, .int .i64]), ([0, 0, 0, 1, 0, 0, 1, 0, 1, 1], 17, [.str, .str, .int .i64]), ([0, 0, 0, 1, 0, 0, 1, 0, 1, 1], 23, [.str, .str, .int .i64]), ([0, 0, 0, 1, 0, 0, 1, 0, 1, 1, 1], 3, [.int .i64, .int .i64, .str, .sl 3, .sl 5]), ([0, 0, 0, 1, 0, 0, 1, 0, 1, 1, 1], 8, [.int .i64, .int .i64, .str, .sl 3, .sl 5])]⟩ (RetIs Try.prog Try.f24 v) 100000 ([.code [0, 0, 1, 0, 1, 1, 1], .loop [0, 1, 0, 1, 1, 1] 2, Fm.block 2, Fm.code [1, 1, 1, 1]]) .normal ([(2, true, AV.ptr 0 0), (3, true, AV.ptr 1 0), (6, true, AV.int IntKind.i64 i6)]) ([Blk.mem 25 [AV.int IntKind.i64 xk, AV.int IntKind.i64 xp, AV.str xt, AV.sl 3 xa none, AV.sl 5 xs none], Blk.mem 25 [AV.int IntKind.i64 yk, AV.int IntKind.i64 yp, AV.str yt, AV.sl 3 ya none, AV.sl 5 ys none]]) =
    (ifP (decide (i6 < (↑(List.length xs) : Int))) (gAnd (inR i6 (List.length xs) && true && true) (∃ (z1 : Int), ∃ (z2 : Int), ∃ (s3 : List UInt8), ∃ (es4 : List (List AV)), ∃ (es5 : List (List AV)), getE xs i6 = [AV.int IntKind.i64 z1, AV.int IntKind.i64 z2, AV.str s3, AV.sl 3 es4 none, AV.sl 5 es5 none] ∧ gAnd (inR i6 (List.length ys) && true && true) (∃ (z6 : Int), ∃ (z7 : Int), ∃ (s8 : List UInt8), ∃ (es9 : List (List AV)), ∃ (es10 : List (List AV)), getE ys i6 = [AV.int IntKind.i64 z6, AV.int IntKind.i64 z7, AV.str s8, AV.sl 3 es9 none, AV.sl 5 es10 none] ∧ ∃ (a11 : Nd), ∃ (b12 : Nd), Nd.size a11 < N ∧ Nd.fit a11 ∧ Nd.fit b12 ∧ [AV.agg [AV.int IntKind.i64 z1, AV.int IntKind.i64 z2, AV.str s3, AV.sl 3 (stripss 0 [] es4) none, AV.sl 5 (stripss 0 [] es5) none], AV.agg [AV.int IntKind.i64 z6, AV.int IntKind.i64 z7, AV.str s8, AV.sl 3 (stripss 0 [] es9) none, AV.sl 5 (stripss 0 [] es10) none]] = [AV.agg (encN a11), AV.agg (encN b12)] ∧ ifP (!Nd.same a11 b12) (AV.bool false = v) (gAnd (lowVss 2 xa && true && (lowVss 2 xs && true && true) && (lowVss 2 ya && true && (lowVss 2 ys && true && true) && true)) (ToEnd cfg 24 (bodyOf Try.f24) (RetIs Try.prog Try.f24 v) [Fm.code [0, 1, 0, 1, 1, 1], Fm.block 2, Fm.code [1, 1, 1, 1]] XT.normal [(2, true, AV.ptr 0 0), (3, true, AV.ptr 1 0), (6, true, AV.int IntKind.i64 (IntKind.wrap IntKind.i64 (i6 + 1)))] [Blk.mem 25 [AV.int IntKind.i64 xk, AV.int IntKind.i64 xp, AV.str xt, AV.sl 3 xa none, AV.sl 5 xs none], Blk.mem 25 [AV.int IntKind.i64 yk, AV.int IntKind.i64 yp, AV.str yt, AV.sl 3 ya none, AV.sl 5 ys none]]))))) (AV.bool true = v)) := by kernel_rfl
  exact ends_round hT 100000 (by kernel_rfl) (e.mpr H)

end Go.Proofs.Ytpfbpidlglelgaa
end

section
namespace Go.Proofs.Ytpfbpidlglelgaa
open Go.Ai Go
set_option linter.unusedSimpArgs false
set_option linter.unusedVariables false

theorem pf7 : pureFn cfg 7 Try.f7 := ⟨by kernel_rfl, by kernel_rfl, by kernel_rfl, by kernel_rfl, by kernel_rfl, by kernel_rfl⟩
theorem pf22 : pureFn cfg 22 Try.f22 := ⟨by kernel_rfl, by kernel_rfl, by kernel_rfl, by kernel_rfl, by kernel_rfl, by kernel_rfl⟩
theorem pf25 : pureFn cfg 25 Try.f25 := ⟨by kernel_rfl, by kernel_rfl, by kernel_rfl, by kernel_rfl, by kernel_rfl, by kernel_rfl⟩
theorem pf21 : pureFn cfg 21 Try.f21 := ⟨by kernel_rfl, by kernel_rfl, by kernel_rfl, by kernel_rfl, by kernel_rfl, by kernel_rfl⟩
theorem pf24 : pureFn cfg 24 Try.f24 := ⟨by kernel_rfl, by kernel_rfl, by kernel_rfl, by kernel_rfl, by kernel_rfl, by kernel_rfl⟩
theorem pf30 : pureFn cfg 30 Try.f30 := ⟨by kernel_rfl, by kernel_rfl, by kernel_rfl, by kernel_rfl, by kernel_rfl, by kernel_rfl⟩
theorem pf31 : pureFn cfg 31 Try.f31 := ⟨by kernel_rfl, by kernel_rfl, by kernel_rfl, by kernel_rfl, by kernel_rfl, by kernel_rfl⟩
theorem pf32 : pureFn cfg 32 Try.f32 := ⟨by kernel_rfl, by kernel_rfl, by kernel_rfl, by kernel_rfl, by kernel_rfl, by kernel_rfl⟩

theorem wrap_succ {n : Nat} (h : n < lim) : IntKind.wrap .i64 ((n : Int) + 1) = ((n + 1 : Nat) : Int) := by
  unfold lim at h; rw [wrap_in] <;> omega
theorem tdiv20 (n : Nat) (h : n ≤ lim) : IntKind.wrap .i64 (Int.tdiv (n : Int) 20) = ((n / 20 : Nat) : Int) := by
  unfold lim at h
  rw [Int.tdiv_eq_ediv_of_nonneg (by omega), wrap_in] <;> omega
theorem wrap_sub {a b : Int} (h1 : -9223372036854775808 ≤ a - b) (h2 : a - b ≤ 9223372036854775807) : IntKind.wrap .i64 (a - b) = a - b := wrap_in h1 h2

/-! Size -/
theorem loop25c {N : Nat} (hT : TabOk cfg (ctab [(25, leftC N)])) (k p : Int) (t : List UInt8) (al : List Att) : ∀ (r pre : List Nd) (l : Int), low0 ≤ l → l ≤ 600 → sizes (pre ++ r) < N → fits (pre ++ r) → (pre ++ r).length ≤ lim →
    ToEnd cfg 25 (bodyOf Try.f25) (RetIs Try.prog Try.f25 (.int .i64 (lefts r l))) [.code [0, 1, 0, 1, 1, 1], .block 2, .code [1, 1, 1, 1]] .normal
      [(1, true, .int .i64 l), (2, true, .ptr 0 0), (6, true, .int .i64 pre.length)] [.mem 25 [.int .i64 k, .int .i64 p, .str t, .sl 3 (al.map encA) none, .sl 5 (encNs (pre ++ r)) none]] := by
  intro r
  induction r with
  | nil =>
    intro pre l h1 h2 hs hf hl
    refine t25c hT (ifP_intro (fun hc => ?_) fun _ => rfl)
    simp [encNs_length] at hc
  | cons x r ih =>
    intro pre l h1 h2 hs hf hl
    have hx := (fits_append.1 hf).2.1
    have hsz := sizes_mem (l := pre ++ x :: r) (n := x) (by simp)
    have hlen : pre.length < lim := by simp at hl; omega
    refine t25c hT (ifP_intro (fun _ => ifP_intro (fun hg => ?_) fun hg => ?_) fun hc => ?_)
    · simp only [gt_iff_lt, decide_eq_true_eq] at hg
      refine gAnd_intro (by rw [encNs_length, inR_of (by omega) (by simp; omega)]; rfl) ⟨x.kind, x.pl, x.text, x.attrs.map encA, encNs x.kids, by rw [getE_encNs, encN_eq], x, l, by omega, hx, hg, h2, by rw [stripss_encAs, stripss_encNs, encN_eq], ?_⟩
      refine gAnd_intro (by simp only [low_encAs, low_encNs, Bool.and_true]) ?_
      rw [wrap_succ hlen]
      have := ih (pre ++ [x]) (x.left l) (x.left_low hx hg) (by have := (x.left_size (l := l)).2; omega) (by simpa using hs) (by simpa using hf) (by simpa using hl)
      simpa [lefts, hg] using this
    · simp only [gt_iff_lt, decide_eq_false_iff_not] at hg
      rw [lefts, if_neg hg]
    · simp [encNs_length] at hc; omega

theorem loop25b {N : Nat} (hT : TabOk cfg (ctab [(25, leftC N)])) (k p : Int) (t : List UInt8) (ks : List Nd) (hN : sizes ks < N) (hf : fits ks) (hk : ks.length ≤ lim) : ∀ (r pre : List Att) (l : Int), low0 ≤ l → l ≤ 600 → (∀ a ∈ r, a.fit) → (pre ++ r).length ≤ lim →
    ToEnd cfg 25 (bodyOf Try.f25) (RetIs Try.prog Try.f25 (.int .i64 (lefts ks (attsG r l)))) [.code [0, 1, 0, 1, 1], .block 0, .code [1, 1, 1]] .normal
      [(1, true, .int .i64 l), (2, true, .ptr 0 0), (5, true, .int .i64 pre.length)] [.mem 25 [.int .i64 k, .int .i64 p, .str t, .sl 3 ((pre ++ r).map encA) none, .sl 5 (encNs ks) none]] := by
  intro r
  induction r with
  | nil =>
    intro pre l h1 h2 _ hl
    refine t25b hT (ifP_intro (fun hc => ?_) fun _ => ?_)
    · simp at hc
    · exact loop25c hT k p t _ ks [] l h1 h2 hN hf hk
  | cons x r ih =>
    intro pre l h1 h2 ha hl
    have hlen : pre.length < lim := by simp at hl; omega
    have hx := ha x (by simp)
    refine t25b hT (ifP_intro (fun _ => ifP_intro (fun hg => ?_) fun hg => ?_) fun hc => ?_)
    · simp only [gt_iff_lt, decide_eq_true_eq] at hg
      have hin : inR (pre.length : Int) ((pre ++ x :: r).map encA).length = true := inR_of (by omega) (by simp; omega)
      refine gAnd_intro (by rw [hin]; rfl) ⟨x.name, x.value, x.pl, getE_pre _ _ _ _, gAnd_intro (by rw [hin]; rfl) ⟨x.name, x.value, x.pl, getE_pre _ _ _ _, gAnd_intro (by simp only [low_encAs, low_encNs, Bool.and_true]) ?_⟩⟩
      rw [wrap_succ hlen, tdiv20 _ hx.1, tdiv20 _ hx.2]
      have e : IntKind.wrap .i64 (IntKind.wrap .i64 (IntKind.wrap .i64 (l - 1) - (x.name.length / 20 : Nat)) - (x.value.length / 20 : Nat)) = attG x l := by
        obtain ⟨q1, q2⟩ := hx
        unfold lim at q1 q2
        unfold low0 at h1
        rw [wrap_in (n := l - 1) (by omega) (by omega), wrap_sub (a := l - 1) (by omega) (by omega), wrap_sub (by omega) (by omega)]
        rfl
      rw [e]
      have := ih (pre ++ [x]) (attG x l) (attG_low hx hg) (by have := attG_le (a := x) (l := l); omega) (fun a h => ha a (by simp [h])) (by simpa using hl)
      simpa [attsG, hg] using this
    · simp only [gt_iff_lt, decide_eq_false_iff_not] at hg
      rw [attsG, if_neg hg]
      exact loop25c hT k p t _ ks [] l h1 h2 hN hf hk
    · simp at hc; omega

theorem c25 : ∀ N, COk cfg 25 (leftC N)
  | 0 => fun l h K ht => by obtain ⟨nd, l, h, _⟩ := ht; omega
  | N + 1 => by
    have hT := ctab_ok (ctab_cons (c25 N) ctab_nil)
    refine cok_pure pf25 fun vs h K ht => ?_
    obtain ⟨nd, l, hs, hf, h0, h6, rfl, hk⟩ := ht
    refine ⟨_, hk, ?_⟩
    rw [encN_eq]
    refine t25a hT ?_
    rw [Nd.fit_eq] at hf
    obtain ⟨q1, q2, q3, q4, q5⟩ := hf
    rw [Nd.size_eq] at hs
    rw [Nd.left_eq, tdiv20 _ q1]
    have e : IntKind.wrap .i64 (IntKind.wrap .i64 (l - 1) - (nd.text.length / 20 : Nat)) = l - 1 - (nd.text.length / 20 : Nat) := by
      unfold lim at q1
      rw [wrap_in (n := l - 1) (by omega) (by omega), wrap_sub (by omega) (by omega)]
    rw [e]
    exact loop25b hT _ _ _ nd.kids (by omega) q5 q4 nd.attrs [] _ (by unfold lim at q1; unfold low0; omega) (by omega) q3 q2

theorem c7 : COk cfg 7 fewC := by
  refine cok_pure pf7 fun vs h K ht => ?_
  obtain ⟨nd, hf, rfl, hk⟩ := ht
  refine ⟨_, hk, ?_⟩
  have hT := ctab_ok (ctab_cons (c25 (nd.size + 1)) ctab_nil)
  rw [encN_eq]
  exact t7a hT ⟨nd, 600, by omega, hf, by omega, by omega, by rw [stripss_encAs, stripss_encNs, encN_eq], rfl⟩

/-! Attr, the document's -/
theorem loop22 (hT : TabOk cfg (ctab [])) (k p : Int) (t nm : List UInt8) (ks : List Nd) : ∀ (r pre : List Att), (pre ++ r).length ≤ lim →
    ToEnd cfg 22 (bodyOf Try.f22) (RetIs Try.prog Try.f22 (.tup [.str (attrOf r nm).1, .bool (attrOf r nm).2])) [.code [0, 1, 0, 1], .block 0, .code [1, 1]] .normal
      [(1, true, .str nm), (2, true, .ptr 0 0), (6, true, .int .i64 pre.length)] [.mem 25 [.int .i64 k, .int .i64 p, .str t, .sl 3 ((pre ++ r).map encA) none, .sl 5 (encNs ks) none]] := by
  intro r
  induction r with
  | nil =>
    intro pre hl
    refine t22b hT (ifP_intro (fun hc => ?_) fun _ => rfl)
    simp at hc
  | cons x r ih =>
    intro pre hl
    have hlen : pre.length < lim := by simp at hl; omega
    have hin : inR (pre.length : Int) ((pre ++ x :: r).map encA).length = true := inR_of (by omega) (by simp; omega)
    refine t22b hT (ifP_intro (fun _ => ?_) fun hc => ?_)
    · refine gAnd_intro (by rw [hin]; rfl) ⟨x.name, x.value, x.pl, getE_pre _ _ _ _, ifP_intro (fun hq => ?_) fun hq => ?_⟩
      · refine gAnd_intro (by rw [hin]; rfl) ⟨x.name, x.value, x.pl, getE_pre _ _ _ _, ?_⟩
        simp only [attrOf, hq, cond_true]
      · refine gAnd_intro (by simp only [low_encAs, low_encNs, Bool.and_true]) ?_
        rw [wrap_succ hlen]
        have := ih (pre ++ [x]) (by simpa using hl)
        simpa [attrOf, hq] using this
    · simp at hc; omega

theorem c22 : COk cfg 22 attrC := by
  refine cok_pure pf22 fun vs h K ht => ?_
  obtain ⟨nd, nm, hf, rfl, hk⟩ := ht
  refine ⟨_, hk, ?_⟩
  have hT := ctab_ok (C := cfg) ctab_nil
  rw [encN_eq]
  rw [Nd.fit_eq] at hf
  exact t22a hT (loop22 hT _ _ _ nm nd.kids nd.attrs [] hf.2.1)

/-! The same attributes -/
theorem c30 : COk cfg 30 alikeC := by
  refine cok_pure pf30 fun vs h K ht => ?_
  obtain ⟨a, b, rfl, hk⟩ := ht
  refine ⟨_, hk, t30a (ctab_ok ctab_nil) ?_⟩
  refine ifP_intro (fun h1 => ?_) fun h1 => ?_ <;> simp [alike, h1]

theorem loop31 (hT : TabOk cfg (ctab [(30, alikeC)])) : ∀ (r s pre pre' : List Att), pre.length = pre'.length → r.length = s.length → (pre ++ r).length ≤ lim →
    ToEnd cfg 31 (bodyOf Try.f31) (RetIs Try.prog Try.f31 (.bool (alikes r s))) [.code [0, 1, 0, 1, 1], .block 0, .code [1, 1, 1]] .normal
      [(1, true, .sl 3 ((pre' ++ s).map encA) none), (2, true, .fn (.func 30) [] []), (15, true, .sl 3 ((pre ++ r).map encA) none), (16, true, .int .i64 ((pre ++ r).length : Nat)), (17, true, .int .i64 pre.length)] [] := by
  intro r
  induction r with
  | nil =>
    intro s pre pre' hp hr hl
    obtain rfl : s = [] := by simpa using hr.symm
    refine t31b hT (ifP_intro (fun hc => ?_) fun _ => rfl)
    simp at hc
  | cons x r ih =>
    intro s pre pre' hp hr hl
    obtain ⟨y, s, rfl⟩ : ∃ y s', s = y :: s' := by cases s with | nil => simp at hr | cons y s => exact ⟨y, s, rfl⟩
    have hlen : pre.length < lim := by simp at hl; omega
    have hin : inR (pre.length : Int) ((pre ++ x :: r).map encA).length = true := inR_of (by omega) (by simp; omega)
    have hin' : inR (pre.length : Int) ((pre' ++ y :: s).map encA).length = true := by rw [hp]; exact inR_of (by omega) (by simp; omega)
    refine t31b hT (ifP_intro (fun _ => ?_) fun hc => ?_)
    · refine gAnd_intro (by rw [hin]; rfl) ⟨x.name, x.value, x.pl, getE_pre _ _ _ _, gAnd_intro (by rw [hin']; rfl) ⟨y.name, y.value, y.pl, by rw [hp]; exact getE_pre _ _ _ _, x, y, rfl, ifP_intro (fun hq => ?_) fun hq => ?_⟩⟩
      · simp only [Bool.not_eq_true'] at hq
        simp [alikes, hq]
      · simp only [Bool.not_eq_false'] at hq
        refine gAnd_intro (by simp only [low_encAs, Bool.and_true]) ?_
        rw [wrap_succ hlen]
        have := ih s (pre ++ [x]) (pre' ++ [y]) (by simpa using hp) (by simpa using hr) (by simpa using hl)
        simpa [alikes, hq] using this
    · simp at hc; omega

theorem alikes_len : ∀ {r s : List Att}, r.length ≠ s.length → alikes r s = false
  | [], [], h => by simp at h
  | [], _ :: _, _ => rfl
  | _ :: _, [], _ => rfl
  | a :: r, b :: s, h => by simp only [alikes, alikes_len (r := r) (s := s) (by simpa using h), Bool.and_false]

theorem c31 : COk cfg 31 (alikesC 30) := by
  refine cok_pure pf31 fun vs h K ht => ?_
  obtain ⟨al, bl, h1, h2, rfl, hk⟩ := ht
  refine ⟨_, hk, ?_⟩
  have hT := ctab_ok (ctab_cons c30 ctab_nil)
  refine t31a hT (ifP_intro (fun hc => ?_) fun hc => ?_)
  · rw [alikes_len (by have h : ¬(al.length : Int) = bl.length := by simpa using hc
                       omega)]
  · have hc' : al.length = bl.length := by
      have h : (al.length : Int) = bl.length := by simpa using hc
      omega
    have := loop31 hT al bl [] [] rfl hc' h1
    simpa using this

theorem sames_len : ∀ {r s : List Nd}, r.length ≠ s.length → sames r s = false
  | [], [], h => by simp at h
  | [], _ :: _, _ => rfl
  | _ :: _, [], _ => rfl
  | a :: r, b :: s, h => by simp only [sames, sames_len (r := r) (s := s) (by simpa using h), Bool.and_false]

theorem loop32 {N : Nat} (hT : TabOk cfg (ctab [(21, sameC N)])) : ∀ (r s pre pre' : List Nd), pre.length = pre'.length → r.length = s.length → (pre ++ r).length ≤ lim → sizes r < N → fits r → fits s →
    ToEnd cfg 32 (bodyOf Try.f32) (RetIs Try.prog Try.f32 (.bool (sames r s))) [.code [0, 1, 0, 1, 1], .block 0, .code [1, 1, 1]] .normal
      [(1, true, .sl 5 (encNs (pre' ++ s)) none), (2, true, .fn (.func 21) [] []), (15, true, .sl 5 (encNs (pre ++ r)) none), (16, true, .int .i64 ((pre ++ r).length : Nat)), (17, true, .int .i64 pre.length)] [] := by
  intro r
  induction r with
  | nil =>
    intro s pre pre' hp hr hl hs hf hf'
    obtain rfl : s = [] := by simpa using hr.symm
    refine t32b hT (ifP_intro (fun hc => ?_) fun _ => rfl)
    simp at hc
  | cons x r ih =>
    intro s pre pre' hp hr hl hs hf hf'
    obtain ⟨y, s, rfl⟩ : ∃ y s', s = y :: s' := by cases s with | nil => simp at hr | cons y s => exact ⟨y, s, rfl⟩
    have hlen : pre.length < lim := by simp at hl; omega
    have hin : inR (pre.length : Int) (encNs (pre ++ x :: r)).length = true := by rw [encNs_length]; exact inR_of (by omega) (by simp; omega)
    have hin' : inR (pre.length : Int) (encNs (pre' ++ y :: s)).length = true := by rw [hp, encNs_length]; exact inR_of (by omega) (by simp; omega)
    rw [sizes] at hs
    refine t32b hT (ifP_intro (fun _ => ?_) fun hc => ?_)
    · refine gAnd_intro (by rw [hin]; rfl) ⟨x.kind, x.pl, x.text, x.attrs.map encA, encNs x.kids, by rw [getE_encNs, encN_eq],
        gAnd_intro (by rw [hin']; rfl) ⟨y.kind, y.pl, y.text, y.attrs.map encA, encNs y.kids, by rw [hp, getE_encNs, encN_eq], x, y, by omega, hf.1, hf'.1, by simp only [stripss_encAs, stripss_encNs, encN_eq], ifP_intro (fun hq => ?_) fun hq => ?_⟩⟩
      · simp only [Bool.not_eq_true'] at hq
        simp [sames, hq]
      · simp only [Bool.not_eq_false'] at hq
        refine gAnd_intro (by simp only [low_encNs, Bool.and_true]) ?_
        rw [wrap_succ hlen]
        have := ih s (pre ++ [x]) (pre' ++ [y]) (by simpa using hp) (by simpa using hr) (by simpa using hl) (by omega) hf.2 hf'.2
        simpa [sames, hq] using this
    · simp at hc; omega

theorem c32 {N : Nat} (h21 : COk cfg 21 (sameC N)) : COk cfg 32 (samesC 21 N) := by
  refine cok_pure pf32 fun vs h K ht => ?_
  obtain ⟨al, bl, h0, hf, hf', h1, h2, rfl, hk⟩ := ht
  refine ⟨_, hk, ?_⟩
  have hT := ctab_ok (ctab_cons h21 ctab_nil)
  refine t32a hT (ifP_intro (fun hc => ?_) fun hc => ?_)
  · rw [sames_len (by have h : ¬(al.length : Int) = bl.length := by simpa [encNs_length] using hc
                      omega)]
  · have hc' : al.length = bl.length := by
      have h : (al.length : Int) = bl.length := by simpa [encNs_length] using hc
      omega
    have := loop32 hT al bl [] [] rfl hc' h1 h0 hf hf'
    simpa [encNs_length] using this

theorem c21 : ∀ N, COk cfg 21 (sameC N)
  | 0 => fun l h K ht => by obtain ⟨nd, l, h, _⟩ := ht; omega
  | N + 1 => by
    have hT := ctab_ok (ctab_cons c31 (ctab_cons (c32 (c21 N)) ctab_nil))
    refine cok_pure pf21 fun vs h K ht => ?_
    obtain ⟨a, b, hs, hf, hf', rfl, hk⟩ := ht
    refine ⟨_, hk, ?_⟩
    rw [Nd.fit_eq] at hf hf'
    rw [Nd.size_eq] at hs
    simp only [encN_eq]
    refine t21a hT ?_
    rw [Nd.same_eq]
    refine ifP_intro (fun h1 => ifP_intro (fun h2 => ⟨a.attrs, b.attrs, hf.2.1, hf'.2.1, by simp only [stripss_encAs], ifP_intro (fun h3 => ⟨a.kids, b.kids, by omega, hf.2.2.2.2, hf'.2.2.2.2, hf.2.2.2.1, hf'.2.2.2.1, by simp only [stripss_encNs], ?_⟩) fun h3 => ?_⟩) fun h2 => ?_) fun h1 => ?_
    all_goals simp_all

/-! Same, the document's -/
theorem loop24c {N : Nat} (hT : TabOk cfg (ctab [(24, sameC N)])) (k p k' p' : Int) (t t' : List UInt8) (al al' : List Att) : ∀ (r s pre pre' : List Nd), pre.length = pre'.length → r.length = s.length → (pre ++ r).length ≤ lim → sizes r < N → fits r → fits s →
    ToEnd cfg 24 (bodyOf Try.f24) (RetIs Try.prog Try.f24 (.bool (sames r s))) [.code [0, 1, 0, 1, 1, 1], .block 2, .code [1, 1, 1, 1]] .normal
      [(2, true, .ptr 0 0), (3, true, .ptr 1 0), (6, true, .int .i64 pre.length)] [.mem 25 [.int .i64 k, .int .i64 p, .str t, .sl 3 (al.map encA) none, .sl 5 (encNs (pre ++ r)) none], .mem 25 [.int .i64 k', .int .i64 p', .str t', .sl 3 (al'.map encA) none, .sl 5 (encNs (pre' ++ s)) none]] := by
  intro r
  induction r with
  | nil =>
    intro s pre pre' hp hr hl hs hf hf'
    obtain rfl : s = [] := by simpa using hr.symm
    refine t24c hT (ifP_intro (fun hc => ?_) fun _ => rfl)
    simp [encNs_length] at hc
  | cons x r ih =>
    intro s pre pre' hp hr hl hs hf hf'
    obtain ⟨y, s, rfl⟩ : ∃ y s', s = y :: s' := by cases s with | nil => simp at hr | cons y s => exact ⟨y, s, rfl⟩
    have hlen : pre.length < lim := by simp at hl; omega
    have hin : inR (pre.length : Int) (encNs (pre ++ x :: r)).length = true := by rw [encNs_length]; exact inR_of (by omega) (by simp; omega)
    have hin' : inR (pre.length : Int) (encNs (pre' ++ y :: s)).length = true := by rw [hp, encNs_length]; exact inR_of (by omega) (by simp; omega)
    rw [sizes] at hs
    refine t24c hT (ifP_intro (fun _ => ?_) fun hc => ?_)
    · refine gAnd_intro (by rw [hin]; rfl) ⟨x.kind, x.pl, x.text, x.attrs.map encA, encNs x.kids, by rw [getE_encNs, encN_eq],
        gAnd_intro (by rw [hin']; rfl) ⟨y.kind, y.pl, y.text, y.attrs.map encA, encNs y.kids, by rw [hp, getE_encNs, encN_eq], x, y, by omega, hf.1, hf'.1, by simp only [stripss_encAs, stripss_encNs, encN_eq], ifP_intro (fun hq => ?_) fun hq => ?_⟩⟩
      · simp only [Bool.not_eq_true'] at hq
        simp [sames, hq]
      · simp only [Bool.not_eq_false'] at hq
        refine gAnd_intro (by simp only [low_encAs, low_encNs, Bool.and_true]) ?_
        rw [wrap_succ hlen]
        have := ih s (pre ++ [x]) (pre' ++ [y]) (by simpa using hp) (by simpa using hr) (by simpa using hl) (by omega) hf.2 hf'.2
        simpa [sames, hq] using this
    · simp [encNs_length] at hc; omega

theorem loop24b {N : Nat} (hT : TabOk cfg (ctab [(24, sameC N)])) (k p k' p' : Int) (t t' : List UInt8) (ks ks' : List Nd) (hk : ks.length = ks'.length) (hkl : ks.length ≤ lim) (hN : sizes ks < N) (hf : fits ks) (hf' : fits ks') : ∀ (r s pre pre' : List Att), pre.length = pre'.length → r.length = s.length → (pre ++ r).length ≤ lim →
    ToEnd cfg 24 (bodyOf Try.f24) (RetIs Try.prog Try.f24 (.bool (alikes r s && sames ks ks'))) [.code [0, 1, 0, 1, 1], .block 0, .code [1, 1, 1]] .normal
      [(2, true, .ptr 0 0), (3, true, .ptr 1 0), (5, true, .int .i64 pre.length)] [.mem 25 [.int .i64 k, .int .i64 p, .str t, .sl 3 ((pre ++ r).map encA) none, .sl 5 (encNs ks) none], .mem 25 [.int .i64 k', .int .i64 p', .str t', .sl 3 ((pre' ++ s).map encA) none, .sl 5 (encNs ks') none]] := by
  intro r
  induction r with
  | nil =>
    intro s pre pre' hp hr hl
    obtain rfl : s = [] := by simpa using hr.symm
    refine t24b hT (ifP_intro (fun hc => ?_) fun _ => ?_)
    · simp at hc
    · have := loop24c hT k p k' p' t t' (pre ++ []) (pre' ++ []) ks ks' [] [] rfl hk hkl hN hf hf'
      simpa [alikes] using this
  | cons x r ih =>
    intro s pre pre' hp hr hl
    obtain ⟨y, s, rfl⟩ : ∃ y s', s = y :: s' := by cases s with | nil => simp at hr | cons y s => exact ⟨y, s, rfl⟩
    have hlen : pre.length < lim := by simp at hl; omega
    have hin : inR (pre.length : Int) ((pre ++ x :: r).map encA).length = true := inR_of (by omega) (by simp; omega)
    have hin' : inR (pre.length : Int) ((pre' ++ y :: s).map encA).length = true := by rw [hp]; exact inR_of (by omega) (by simp; omega)
    refine t24b hT (ifP_intro (fun _ => ?_) fun hc => ?_)
    · refine gAnd_intro (by rw [hin]; rfl) ⟨x.name, x.value, x.pl, getE_pre _ _ _ _, gAnd_intro (by rw [hin']; rfl) ⟨y.name, y.value, y.pl, by rw [hp]; exact getE_pre _ _ _ _, ifP_intro (fun hq => ?_) fun hq => ?_⟩⟩
      · simp only [Bool.not_eq_true'] at hq
        simp [alikes, alike, hq]
      · simp only [Bool.not_eq_false'] at hq
        refine gAnd_intro (by rw [hin]; rfl) ⟨x.name, x.value, x.pl, getE_pre _ _ _ _, gAnd_intro (by rw [hin']; rfl) ⟨y.name, y.value, y.pl, by rw [hp]; exact getE_pre _ _ _ _, ifP_intro (fun hw => ?_) fun hw => ?_⟩⟩
        · simp only [Bool.not_eq_true'] at hw
          simp [alikes, alike, hw]
        · simp only [Bool.not_eq_false'] at hw
          refine gAnd_intro (by simp only [low_encAs, low_encNs, Bool.and_true]) ?_
          rw [wrap_succ hlen]
          have := ih s (pre ++ [x]) (pre' ++ [y]) (by simpa using hp) (by simpa using hr) (by simpa using hl)
          simpa [alikes, alike, hq, hw] using this
    · simp at hc; omega

theorem c24 : ∀ N, COk cfg 24 (sameC N)
  | 0 => fun l h K ht => by obtain ⟨nd, l, h, _⟩ := ht; omega
  | N + 1 => by
    have hT := ctab_ok (ctab_cons (c24 N) ctab_nil)
    refine cok_pure pf24 fun vs h K ht => ?_
    obtain ⟨a, b, hs, hf, hf', rfl, hk⟩ := ht
    refine ⟨_, hk, ?_⟩
    rw [Nd.fit_eq] at hf hf'
    rw [Nd.size_eq] at hs
    simp only [encN_eq]
    refine t24a hT ?_
    rw [Nd.same_eq]
    refine ifP_intro (fun h1 => ?_) (fun h1 => ifP_intro (fun h2 => ?_) fun h2 => ifP_intro (fun h3 => ?_) fun h3 => ifP_intro (fun h4 => ?_) fun h4 => ?_)
    · have : (a.kind == b.kind) = false := by simpa using h1
      simp [this]
    · have : (a.text == b.text) = false := by simpa using h2
      simp [this]
    · rw [alikes_len (by have h : ¬(a.attrs.length : Int) = b.attrs.length := by simpa using h3
                         omega)]
      simp
    · rw [sames_len (by have h : ¬(a.kids.length : Int) = b.kids.length := by simpa [encNs_length] using h4
                        omega)]
      simp
    · have e1 : (a.kind == b.kind) = true := by simpa using h1
      have e2 : (a.text == b.text) = true := by simpa using h2
      have e3 : (a.attrs.length : Int) = b.attrs.length := by simpa using h3
      have e4 : (a.kids.length : Int) = b.kids.length := by simpa [encNs_length] using h4
      have := loop24b hT a.kind a.pl b.kind b.pl a.text b.text a.kids b.kids (by omega) hf.2.2.2.1 (by omega) hf.2.2.2.2 hf'.2.2.2.2 a.attrs b.attrs [] [] rfl (by omega) hf.2.1
      simpa [e1, e2] using this

/-! Depth, the document's and the program's -/
theorem pf23 : pureFn cfg 23 Try.f23 := ⟨by kernel_rfl, by kernel_rfl, by kernel_rfl, by kernel_rfl, by kernel_rfl, by kernel_rfl⟩
theorem pf19 : pureFn cfg 19 Try.f19 := ⟨by kernel_rfl, by kernel_rfl, by kernel_rfl, by kernel_rfl, by kernel_rfl, by kernel_rfl⟩
def more (x : Nd) : Nat := if x.kind = 2 then x.depth else x.depth + 1
theorem depths_more (x : Nd) (r : List Nd) : depths (x :: r) = max (more x) (depths r) := by
  unfold more
  by_cases h : x.kind = 2
  · rw [depths_text h, if_pos h]
  · rw [depths_other h, if_neg h]
theorem more_le (x : Nd) : more x ≤ x.size := by
  have := x.depth_le
  unfold more
  split <;> omega

theorem loop23 {N : Nat} (hT : TabOk cfg (ctab [(23, depthC N)])) (hN : N ≤ 1000000) (k p : Int) (t : List UInt8) (al : List Att) : ∀ (r pre : List Nd) (acc : Nat), acc ≤ 1000000 → (sizes (pre ++ r) < N) →
    ToEnd cfg 23 (bodyOf Try.f23) (RetIs Try.prog Try.f23 (.int .i64 (max acc (depths r) : Nat))) [.code [0, 1, 0, 1, 1], .block 0, .code [1, 1, 1]] .normal
      [(1, true, .ptr 0 0), (3, true, .int .i64 acc), (4, true, .int .i64 pre.length)] [.mem 25 [.int .i64 k, .int .i64 p, .str t, .sl 3 (al.map encA) none, .sl 5 (encNs (pre ++ r)) none]] := by
  intro r
  induction r with
  | nil =>
    intro pre acc ha hs
    refine t23b hT (ifP_intro (fun hc => ?_) (fun _ => ?_))
    · simp [encNs_length] at hc
    · simp [depths]
  | cons x r ih =>
    intro pre acc ha hs
    have hx := x.depth_le
    have hs' : sizes pre + (x.size + sizes r) < N := by simpa [sizes_append, sizes] using hs
    have hpl := sizes_len pre
    have hm := more_le x
    have next := fun acc' ha' => ih (pre ++ [x]) acc' ha' (by simpa using hs)
    simp only [List.append_assoc, List.singleton_append, List.length_append, List.length_singleton] at next
    have hr : inR (pre.length : Int) (encNs (pre ++ x :: r)).length = true := by rw [encNs_length]; exact inR_of (by omega) (by simp; omega)
    have hd : IntKind.wrap .i64 ((x.depth : Int) + 1) = ((x.depth + 1 : Nat) : Int) := wrap_succ (by unfold lim; omega)
    rw [depths_more]
    refine t23b hT (ifP_intro (fun _ => ?_) (fun hc => ?_))
    · refine gAnd_intro (by rw [hr]; rfl) ⟨x.kind, x.pl, x.text, x.attrs.map encA, encNs x.kids, by rw [getE_encNs, encN_eq], x, by omega, by simp only [stripss_encAs, stripss_encNs, encN_eq], ?_⟩
      refine gAnd_intro (by rw [hr]; rfl) ⟨x.kind, x.pl, x.text, x.attrs.map encA, encNs x.kids, by rw [getE_encNs, encN_eq], ?_⟩
      rw [wrap_succ (n := pre.length) (by unfold lim; omega), hd]
      refine ifP_intro (fun hk => ?_) fun hk => ?_
      · have e : more x = x.depth + 1 := if_neg (by simpa using hk)
        rw [e]
        refine ifP_intro (fun hg => ?_) fun hg => ?_ <;> refine gAnd_intro (by simp only [low_encAs, low_encNs, Bool.and_true]) ?_ <;> simp only [decide_eq_true_eq, decide_eq_false_iff_not, gt_iff_lt] at hg
        · rw [show max acc (max (x.depth + 1) (depths r)) = max (x.depth + 1) (depths r) by omega]
          exact next _ (by omega)
        · rw [show max acc (max (x.depth + 1) (depths r)) = max acc (depths r) by omega]
          exact next _ ha
      · have e : more x = x.depth := if_pos (by simpa using hk)
        rw [e]
        refine ifP_intro (fun hg => ?_) fun hg => ?_ <;> refine gAnd_intro (by simp only [low_encAs, low_encNs, Bool.and_true]) ?_ <;> simp only [decide_eq_true_eq, decide_eq_false_iff_not, gt_iff_lt] at hg
        · rw [show max acc (max x.depth (depths r)) = max x.depth (depths r) by omega]
          exact next _ (by omega)
        · rw [show max acc (max x.depth (depths r)) = max acc (depths r) by omega]
          exact next _ ha
    · simp [encNs_length] at hc; omega

theorem c23 : ∀ N, N ≤ 1000000 → COk cfg 23 (depthC N)
  | 0, _ => fun l h K ht => by obtain ⟨nd, h, _⟩ := ht; omega
  | N + 1, hN => by
    have hT := ctab_ok (ctab_cons (c23 N (by omega)) ctab_nil)
    refine cok_pure pf23 fun vs h K ht => ?_
    obtain ⟨nd, hs, rfl, hk⟩ := ht
    refine ⟨_, hk, ?_⟩
    rw [Nd.size_eq] at hs
    rw [encN_eq, Nd.depth_eq]
    refine t23a hT ?_
    have := loop23 hT (by omega) nd.kind nd.pl nd.text nd.attrs nd.kids [] 0 (by omega) (by simpa using by omega)
    simpa using this

theorem loop19 {N : Nat} (hT : TabOk cfg (ctab [(19, depthC N)])) (hN : N ≤ 1000000) (k p : Int) (t : List UInt8) (al : List Att) : ∀ (r pre : List Nd) (acc : Nat), acc ≤ 1000000 → (sizes (pre ++ r) < N) →
    ToEnd cfg 19 (bodyOf Try.f19) (RetIs Try.prog Try.f19 (.int .i64 (max acc (depths r) : Nat))) [.code [0, 1, 0, 1, 1], .block 0, .code [1, 1, 1]] .normal
      [(3, true, .int .i64 acc), (8, true, .sl 5 (encNs (pre ++ r)) none), (9, true, .int .i64 ((pre ++ r).length : Nat)), (10, true, .int .i64 pre.length)] [.mem 25 [.int .i64 k, .int .i64 p, .str t, .sl 3 (al.map encA) none, .sl 5 (encNs (pre ++ r)) none]] := by
  intro r
  induction r with
  | nil =>
    intro pre acc ha hs
    refine t19b hT (ifP_intro (fun hc => ?_) (fun _ => ?_))
    · simp at hc
    · simp [depths]
  | cons x r ih =>
    intro pre acc ha hs
    have hx := x.depth_le
    have hs' : sizes pre + (x.size + sizes r) < N := by simpa [sizes_append, sizes] using hs
    have hpl := sizes_len pre
    have hm := more_le x
    have next := fun acc' ha' => ih (pre ++ [x]) acc' ha' (by simpa using hs)
    have hpx : (pre ++ [x]).length = pre.length + 1 := by simp
    simp only [hpx, List.append_assoc, List.singleton_append] at next
    have hr : inR (pre.length : Int) (encNs (pre ++ x :: r)).length = true := by rw [encNs_length]; exact inR_of (by omega) (by simp; omega)
    have hd : IntKind.wrap .i64 ((x.depth : Int) + 1) = ((x.depth + 1 : Nat) : Int) := wrap_succ (by unfold lim; omega)
    rw [depths_more]
    refine t19b hT (ifP_intro (fun _ => ?_) (fun hc => ?_))
    · refine gAnd_intro (by rw [hr]; rfl) ⟨x.kind, x.pl, x.text, x.attrs.map encA, encNs x.kids, by rw [getE_encNs, encN_eq], x, by omega, by simp only [stripss_encAs, stripss_encNs, encN_eq], ?_⟩
      rw [wrap_succ (n := pre.length) (by unfold lim; omega), hd]
      refine ifP_intro (fun hk => ?_) fun hk => ?_ <;> refine gAnd_intro (by simp only [low_encAs, low_encNs, Bool.and_true]) ?_
      · have e : more x = x.depth + 1 := if_neg (by simpa using hk)
        rw [e, show max acc (max (x.depth + 1) (depths r)) = max (max acc (x.depth + 1)) (depths r) by omega]
        have := next (max acc (x.depth + 1)) (by omega)
        rw [show max (acc : Int) ((x.depth + 1 : Nat) : Int) = ((max acc (x.depth + 1) : Nat) : Int) by omega]
        exact this
      · have e : more x = x.depth := if_pos (by simpa using hk)
        rw [e, show max acc (max x.depth (depths r)) = max (max acc x.depth) (depths r) by omega]
        have := next (max acc x.depth) (by omega)
        rw [show max (acc : Int) (x.depth : Int) = ((max acc x.depth : Nat) : Int) by omega]
        exact this
    · simp at hc; omega

theorem c19 : ∀ N, N ≤ 1000000 → COk cfg 19 (depthC N)
  | 0, _ => fun l h K ht => by obtain ⟨nd, h, _⟩ := ht; omega
  | N + 1, hN => by
    have hT := ctab_ok (ctab_cons (c19 N (by omega)) ctab_nil)
    refine cok_pure pf19 fun vs h K ht => ?_
    obtain ⟨nd, hs, rfl, hk⟩ := ht
    refine ⟨_, hk, ?_⟩
    rw [Nd.size_eq] at hs
    rw [encN_eq, Nd.depth_eq]
    refine t19a hT ?_
    have := loop19 hT (by omega) nd.kind nd.pl nd.text nd.attrs nd.kids [] 0 (by omega) (by simpa using by omega)
    rw [encNs_length]
    simpa using this
end Go.Proofs.Ytpfbpidlglelgaa
end
