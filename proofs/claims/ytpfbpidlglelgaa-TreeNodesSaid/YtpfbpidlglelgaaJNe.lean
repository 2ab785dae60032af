/-
  Runs of the document's functions of a tree's nodes, printed by a home tool; each is the kernel's word.
  The document's nodes of a tree, and its test of two trees, keep to their contracts.
-/
import Derived.Test.YtpfbpidlglelgaaCfg
import Derived.Test.YtpfbpidlglelgaaJNa
import Derived.Test.YtpfbpidlglelgaaJNd
section
namespace Go.Proofs.Ytpfbpidlglelgaa
open Go.Ai Go
set_option maxRecDepth 100000
set_option linter.unusedVariables false
theorem t9a {N : Nat} {v : AV} {xk xp : Int} {xt : List UInt8} {xa xs : List (List AV)} (hT : TabOk cfg (ctab [(9, eachC N)])) (H :
    ToEnd cfg 9 (bodyOf Try.f9) (RetIs Try.prog Try.f9 v) [Fm.code [0, 1, 0, 1, 1], Fm.block 0, Fm.code [1, 1, 1]] XT.normal [(1, true, AV.ptr 0 0), (3, true, AV.sl 5 [[AV.int IntKind.i64 xk, AV.int IntKind.i64 xp, AV.str xt, AV.sl 3 xa none, AV.sl 5 xs none]] (some 2)), (4, true, AV.int IntKind.i64 0)] [Blk.mem 25 [AV.int IntKind.i64 xk, AV.int IntKind.i64 xp, AV.str xt, AV.sl 3 xa none, AV.sl 5 xs none], Blk.grow 0 5 25, Blk.grow 1 5 25]) :
    ToEnd cfg 9 (bodyOf Try.f9) (RetIs Try.prog Try.f9 v) ([.code []]) .normal ([(0, true, .agg [.int .i64 xk, .int .i64 xp, .str xt, .sl 3 xa none, .sl 5 xs none])]) ([]) := by
  have e : unr cfg 9 (bodyOf Try.f9) (ctab [(9, eachC N)]) ⟨[[0, 1, 0, 1, 1]], [([0, 0, 0, 1, 0, 0, 1, 0, 1, 1], 3, [.int .i64, .int .i64, .str, .sl 3, .sl 5])]⟩ (RetIs Try.prog Try.f9 v) 100000 ([.code []]) .normal ([(0, true, .agg [.int .i64 xk, .int .i64 xp, .str xt, .sl 3 xa none, .sl 5 xs none])]) ([]) =
    (ToEnd cfg 9 (bodyOf Try.f9) (RetIs Try.prog Try.f9 v) [Fm.code [0, 1, 0, 1, 1], Fm.block 0, Fm.code [1, 1, 1]] XT.normal [(1, true, AV.ptr 0 0), (3, true, AV.sl 5 [[AV.int IntKind.i64 xk, AV.int IntKind.i64 xp, AV.str xt, AV.sl 3 xa none, AV.sl 5 xs none]] (some 2)), (4, true, AV.int IntKind.i64 0)] [Blk.mem 25 [AV.int IntKind.i64 xk, AV.int IntKind.i64 xp, AV.str xt, AV.sl 3 xa none, AV.sl 5 xs none], Blk.grow 0 5 25, Blk.grow 1 5 25]) := by kernel_rfl
  exact unr_ok hT 100000 _ _ _ _ (e.mpr H)

theorem t9b {N : Nat} {v : AV} {xk xp : Int} {xt : List UInt8} {xa xs : List (List AV)} {e3 : List (List AV)} {i4 : Int} {g1 : Nat} {g2 : Nat} (hT : TabOk cfg (ctab [(9, eachC N)])) (H :
    ifP (decide (i4 < (↑(List.length xs) : Int))) (gAnd (inR i4 (List.length xs) && true && true) (∃ (z1 : Int), ∃ (z2 : Int), ∃ (s3 : List UInt8), ∃ (es4 : List (List AV)), ∃ (es5 : List (List AV)), getE xs i4 = [AV.int IntKind.i64 z1, AV.int IntKind.i64 z2, AV.str s3, AV.sl 3 es4 none, AV.sl 5 es5 none] ∧ ∃ (nd6 : Nd), Nd.size nd6 < N ∧ Nd.size nd6 ≤ 100000 ∧ Nd.fit nd6 ∧ [AV.agg [AV.int IntKind.i64 z1, AV.int IntKind.i64 z2, AV.str s3, AV.sl 3 (stripss 0 [] es4) none, AV.sl 5 (stripss 0 [] es5) none]] = [AV.agg (encN nd6)] ∧ gAnd (tagOk [Blk.mem 25 [AV.int IntKind.i64 xk, AV.int IntKind.i64 xp, AV.str xt, AV.sl 3 xa none, AV.sl 5 xs none], Blk.grow g1 5 25, Blk.grow g2 5 25] (List.length e3) 5 25 (some 2) && true && true && true && decide ((List.length e3 + List.length (encNs (Nd.flat nd6))) * 80 ≤ 140737488355328) && true && true) (gAnd (lowVss 3 (e3 ++ encNs (Nd.flat nd6)) && true && true && (lowVss 3 xa && true && (lowVss 3 xs && true && true) && true)) (ToEnd cfg 9 (bodyOf Try.f9) (RetIs Try.prog Try.f9 v) [Fm.code [0, 1, 0, 1, 1], Fm.block 0, Fm.code [1, 1, 1]] XT.normal [(1, true, AV.ptr 0 0), (3, true, AV.sl 5 (e3 ++ encNs (Nd.flat nd6)) (some 2)), (4, true, AV.int IntKind.i64 (IntKind.wrap IntKind.i64 (i4 + 1)))] [Blk.mem 25 [AV.int IntKind.i64 xk, AV.int IntKind.i64 xp, AV.str xt, AV.sl 3 xa none, AV.sl 5 xs none], Blk.grow g1 5 25, Blk.grow (List.length e3 + List.length (encNs (Nd.flat nd6))) 5 25])))) (AV.sl 5 (stripss 0 [Blk.mem 25 [AV.int IntKind.i64 xk, AV.int IntKind.i64 xp, AV.str xt, AV.sl 3 xa none, AV.sl 5 xs none], Blk.grow g1 5 25, Blk.grow g2 5 25] e3) none = v)) :
    ToEnd cfg 9 (bodyOf Try.f9) (RetIs Try.prog Try.f9 v) ([.code [0, 1, 0, 1, 1], Fm.block 0, Fm.code [1, 1, 1]]) .normal ([(1, true, AV.ptr 0 0), (3, true, AV.sl 5 e3 (some 2)), (4, true, AV.int IntKind.i64 i4)]) ([Blk.mem 25 [AV.int IntKind.i64 xk, AV.int IntKind.i64 xp, AV.str xt, AV.sl 3 xa none, AV.sl 5 xs none], Blk.grow g1 5 25, Blk.grow g2 5 25]) := by
  have e : unr cfg 9 (bodyOf Try.f9) (ctab [(9, eachC N)]) ⟨[[0, 1, 0, 1, 1]], [([0, 0, 0, 1, 0, 0, 1, 0, 1, 1], 3, [.int .i64, .int .i64, .str, .sl 3, .sl 5])]⟩ (RetIs Try.prog Try.f9 v) 100000 ([.code [0, 0, 1, 0, 1, 1], .loop [0, 1, 0, 1, 1] 3, Fm.block 0, Fm.code [1, 1, 1]]) .normal ([(1, true, AV.ptr 0 0), (3, true, AV.sl 5 e3 (some 2)), (4, true, AV.int IntKind.i64 i4)]) ([Blk.mem 25 [AV.int IntKind.i64 xk, AV.int IntKind.i64 xp, AV.str xt, AV.sl 3 xa none, AV.sl 5 xs none], Blk.grow g1 5 25, Blk.grow g2 5 25]) =
    (ifP (decide (i4 < (↑(List.length xs) : Int))) (gAnd (inR i4 (List.length xs) && true && true) (∃ (z1 : Int), ∃ (z2 : Int), ∃ (s3 : List UInt8), ∃ (es4 : List (List AV)), ∃ (es5 : List (List AV)), getE xs i4 = [AV.int IntKind.i64 z1, AV.int IntKind.i64 z2, AV.str s3, AV.sl 3 es4 none, AV.sl 5 es5 none] ∧ ∃ (nd6 : Nd), Nd.size nd6 < N ∧ Nd.size nd6 ≤ 100000 ∧ Nd.fit nd6 ∧ [AV.agg [AV.int IntKind.i64 z1, AV.int IntKind.i64 z2, AV.str s3, AV.sl 3 (stripss 0 [] es4) none, AV.sl 5 (stripss 0 [] es5) none]] = [AV.agg (encN nd6)] ∧ gAnd (tagOk [Blk.mem 25 [AV.int IntKind.i64 xk, AV.int IntKind.i64 xp, AV.str xt, AV.sl 3 xa none, AV.sl 5 xs none], Blk.grow g1 5 25, Blk.grow g2 5 25] (List.length e3) 5 25 (some 2) && true && true && true && decide ((List.length e3 + List.length (encNs (Nd.flat nd6))) * 80 ≤ 140737488355328) && true && true) (gAnd (lowVss 3 (e3 ++ encNs (Nd.flat nd6)) && true && true && (lowVss 3 xa && true && (lowVss 3 xs && true && true) && true)) (ToEnd cfg 9 (bodyOf Try.f9) (RetIs Try.prog Try.f9 v) [Fm.code [0, 1, 0, 1, 1], Fm.block 0, Fm.code [1, 1, 1]] XT.normal [(1, true, AV.ptr 0 0), (3, true, AV.sl 5 (e3 ++ encNs (Nd.flat nd6)) (some 2)), (4, true, AV.int IntKind.i64 (IntKind.wrap IntKind.i64 (i4 + 1)))] [Blk.mem 25 [AV.int IntKind.i64 xk, AV.int IntKind.i64 xp, AV.str xt, AV.sl 3 xa none, AV.sl 5 xs none], Blk.grow g1 5 25, Blk.grow (List.length e3 + List.length (encNs (Nd.flat nd6))) 5 25])))) (AV.sl 5 (stripss 0 [Blk.mem 25 [AV.int IntKind.i64 xk, AV.int IntKind.i64 xp, AV.str xt, AV.sl 3 xa none, AV.sl 5 xs none], Blk.grow g1 5 25, Blk.grow g2 5 25] e3) none = v)) := by kernel_rfl
  exact ends_round hT 100000 (by kernel_rfl) (e.mpr H)

theorem t11a {M : Nat} {N : Nat} {v : AV} {xk xp : Int} {xt : List UInt8} {xa xs : List (List AV)} (hT : TabOk cfg (ctab [(24, sameC M), (11, equalC N)])) (H :
    ifP (xp != xp) (AV.bool false = v) (∃ (a1 : Nd), ∃ (b2 : Nd), Nd.size a1 < M ∧ Nd.fit a1 ∧ Nd.fit b2 ∧ [AV.agg [AV.int IntKind.i64 xk, AV.int IntKind.i64 xp, AV.str xt, AV.sl 3 (stripss 0 [] xa) none, AV.sl 5 (stripss 0 [] xs) none], AV.agg [AV.int IntKind.i64 xk, AV.int IntKind.i64 xp, AV.str xt, AV.sl 3 (stripss 0 [] xa) none, AV.sl 5 (stripss 0 [] xs) none]] = [AV.agg (encN a1), AV.agg (encN b2)] ∧ ifP (!Nd.same a1 b2) (AV.bool false = v) (ToEnd cfg 11 (bodyOf Try.f11) (RetIs Try.prog Try.f11 v) [Fm.code [0, 1, 0, 1, 1], Fm.block 0, Fm.code [1, 1, 1]] XT.normal [(2, true, AV.ptr 0 0), (3, true, AV.ptr 1 0), (5, true, AV.int IntKind.i64 0)] [Blk.mem 25 [AV.int IntKind.i64 xk, AV.int IntKind.i64 xp, AV.str xt, AV.sl 3 xa none, AV.sl 5 xs none], Blk.mem 25 [AV.int IntKind.i64 xk, AV.int IntKind.i64 xp, AV.str xt, AV.sl 3 xa none, AV.sl 5 xs none]]))) :
    ToEnd cfg 11 (bodyOf Try.f11) (RetIs Try.prog Try.f11 v) ([.code []]) .normal ([(0, true, .agg [.int .i64 xk, .int .i64 xp, .str xt, .sl 3 xa none, .sl 5 xs none]), (1, true, .agg [.int .i64 xk, .int .i64 xp, .str xt, .sl 3 xa none, .sl 5 xs none])]) ([]) := by
  have e : unr cfg 11 (bodyOf Try.f11) (ctab [(24, sameC M), (11, equalC N)]) ⟨[[0, 1, 0, 1, 1], [0, 1, 0, 1, 1, 1]], [([0, 0, 0, 1, 0, 0, 1, 0, 1, 1], 3, [.str, .str, .int .i64]), ([0, 0, 0, 1, 0, 0, 1, 0, 1, 1], 9, [.str, .str, .int .i64]), ([0, 0, 0, 1, 0, 0, 1, 0, 1, 1, 1], 3, [.int .i64, .int .i64, .str, .sl 3, .sl 5]), ([0, 0, 0, 1, 0, 0, 1, 0, 1, 1, 1], 8, [.int .i64, .int .i64, .str, .sl 3, .sl 5])]⟩ (RetIs Try.prog Try.f11 v) 100000 ([.code []]) .normal ([(0, true, .agg [.int .i64 xk, .int .i64 xp, .str xt, .sl 3 xa none, .sl 5 xs none]), (1, true, .agg [.int .i64 xk, .int .i64 xp, .str xt, .sl 3 xa none, .sl 5 xs none])]) ([]) =
    (ifP (xp != xp) (AV.bool false = v) (∃ (a1 : Nd), ∃ (b2 : Nd), Nd.size a1 < M ∧ Nd.fit a1 ∧ Nd.fit b2 ∧ [AV.agg [AV.int IntKind.i64 xk, AV.int IntKind.i64 xp, AV.str xt, AV.sl 3 (stripss 0 [] xa) none, AV.sl 5 (stripss 0 [] xs) none], AV.agg [AV.int IntKind.i64 xk, AV.int IntKind.i64 xp, AV.str xt, AV.sl 3 (stripss 0 [] xa) none, AV.sl 5 (stripss 0 [] xs) none]] = [AV.agg (encN a1), AV.agg (encN b2)] ∧ ifP (!Nd.same a1 b2) (AV.bool false = v) (ToEnd cfg 11 (bodyOf Try.f11) (RetIs Try.prog Try.f11 v) [Fm.code [0, 1, 0, 1, 1], Fm.block 0, Fm.code [1, 1, 1]] XT.normal [(2, true, AV.ptr 0 0), (3, true, AV.ptr 1 0), (5, true, AV.int IntKind.i64 0)] [Blk.mem 25 [AV.int IntKind.i64 xk, AV.int IntKind.i64 xp, AV.str xt, AV.sl 3 xa none, AV.sl 5 xs none], Blk.mem 25 [AV.int IntKind.i64 xk, AV.int IntKind.i64 xp, AV.str xt, AV.sl 3 xa none, AV.sl 5 xs none]]))) := by kernel_rfl
  exact unr_ok hT 100000 _ _ _ _ (e.mpr H)

theorem t11b {M : Nat} {N : Nat} {v : AV} {xk xp : Int} {xt : List UInt8} {xa xs : List (List AV)} {i5 : Int} (hT : TabOk cfg (ctab [(24, sameC M), (11, equalC N)])) (H :
    ifP (decide (i5 < (↑(List.length xa) : Int))) (gAnd (inR i5 (List.length xa) && true && true) (∃ (s1 : List UInt8), ∃ (s2 : List UInt8), ∃ (z3 : Int), getE xa i5 = [AV.str s1, AV.str s2, AV.int IntKind.i64 z3] ∧ gAnd (inR i5 (List.length xa) && true && true) (∃ (s4 : List UInt8), ∃ (s5 : List UInt8), ∃ (z6 : Int), getE xa i5 = [AV.str s4, AV.str s5, AV.int IntKind.i64 z6] ∧ ifP (z3 != z6) (AV.bool false = v) (gAnd (lowVss 2 xa && true && (lowVss 2 xs && true && true) && (lowVss 2 xa && true && (lowVss 2 xs && true && true) && true)) (ToEnd cfg 11 (bodyOf Try.f11) (RetIs Try.prog Try.f11 v) [Fm.code [0, 1, 0, 1, 1], Fm.block 0, Fm.code [1, 1, 1]] XT.normal [(2, true, AV.ptr 0 0), (3, true, AV.ptr 1 0), (5, true, AV.int IntKind.i64 (IntKind.wrap IntKind.i64 (i5 + 1)))] [Blk.mem 25 [AV.int IntKind.i64 xk, AV.int IntKind.i64 xp, AV.str xt, AV.sl 3 xa none, AV.sl 5 xs none], Blk.mem 25 [AV.int IntKind.i64 xk, AV.int IntKind.i64 xp, AV.str xt, AV.sl 3 xa none, AV.sl 5 xs none]]))))) (ToEnd cfg 11 (bodyOf Try.f11) (RetIs Try.prog Try.f11 v) [Fm.code [0, 1, 0, 1, 1, 1], Fm.block 2, Fm.code [1, 1, 1, 1]] XT.normal [(2, true, AV.ptr 0 0), (3, true, AV.ptr 1 0), (6, true, AV.int IntKind.i64 0)] [Blk.mem 25 [AV.int IntKind.i64 xk, AV.int IntKind.i64 xp, AV.str xt, AV.sl 3 xa none, AV.sl 5 xs none], Blk.mem 25 [AV.int IntKind.i64 xk, AV.int IntKind.i64 xp, AV.str xt, AV.sl 3 xa none, AV.sl 5 xs none]])) :
    ToEnd cfg 11 (bodyOf Try.f11) (RetIs Try.prog Try.f11 v) ([.code [0, 1, 0, 1, 1], Fm.block 0, Fm.code [1, 1, 1]]) .normal ([(2, true, AV.ptr 0 0), (3, true, AV.ptr 1 0), (5, true, AV.int IntKind.i64 i5)]) ([Blk.mem 25 [AV.int IntKind.i64 xk, AV.int IntKind.i64 xp, AV.str xt, AV.sl 3 xa none, AV.sl 5 xs none], Blk.mem 25 [AV.int IntKind.i64 xk, AV.int IntKind.i64 xp, AV.str xt, AV.sl 3 xa none, AV.sl 5 xs none]]) := by
  have e : unr cfg 11 (bodyOf Try.f11) (ctab [(24, sameC M), (11, equalC N)]) ⟨[[0, 1, 0, 1, 1], [0, 1, 0, 1, 1, 1]], [([0, 0, 0, 1, 0, 0, 1, 0, 1, 1], 3, [.str, .str, .int .i64]), ([0, 0, 0, 1, 0, 0, 1, 0, 1, 1], 9, [.str, .str, .int .i64]), ([0, 0, 0, 1, 0, 0, 1, 0, 1, 1, 1], 3, [.int .i64, .int .i64, .str, .sl 3, .sl 5]), ([0, 0, 0, 1, 0, 0, 1, 0, 1, 1, 1], 8, [.int .i64, .int .i64, .str, .sl 3, .sl 5])]⟩ (RetIs Try.prog Try.f11 v) 100000 ([.code [0, 0, 1, 0, 1, 1], .loop [0, 1, 0, 1, 1] 2, Fm.block 0, Fm.code [1, 1, 1]]) .normal ([(2, true, AV.ptr 0 0), (3, true, AV.ptr 1 0), (5, true, AV.int IntKind.i64 i5)]) ([Blk.mem 25 [AV.int IntKind.i64 xk, AV.int IntKind.i64 xp, AV.str xt, AV.sl 3 xa none, AV.sl 5 xs none], Blk.mem 25 [AV.int IntKind.i64 xk, AV.int IntKind.i64 xp, AV.str xt, AV.sl 3 xa none, AV.sl 5 xs none]]) =
    (ifP (decide (i5 < (↑(List.length xa) : Int))) (gAnd (inR i5 (List.length xa) && true && true) (∃ (s1 : List UInt8), ∃ (s2 : List UInt8), ∃ (z3 : Int), getE xa i5 = [AV.str s1, AV.str s2, AV.int IntKind.i64 z3] ∧ gAnd (inR i5 (List.length xa) && true && true) (∃ (s4 : List UInt8), ∃ (s5 : List UInt8), ∃ (z6 : Int), getE xa i5 = [AV.str s4, AV.str s5, AV.int IntKind.i64 z6] ∧ ifP (z3 != z6) (AV.bool false = v) (gAnd (lowVss 2 xa && true && (lowVss 2 xs && true && true) && (lowVss 2 xa && true && (lowVss 2 xs && true && true) && true)) (ToEnd cfg 11 (bodyOf Try.f11) (RetIs Try.prog Try.f11 v) [Fm.code [0, 1, 0, 1, 1], Fm.block 0, Fm.code [1, 1, 1]] XT.normal [(2, true, AV.ptr 0 0), (3, true, AV.ptr 1 0), (5, true, AV.int IntKind.i64 (IntKind.wrap IntKind.i64 (i5 + 1)))] [Blk.mem 25 [AV.int IntKind.i64 xk, AV.int IntKind.i64 xp, AV.str xt, AV.sl 3 xa none, AV.sl 5 xs none], Blk.mem 25 [AV.int IntKind.i64 xk, AV.int IntKind.i64 xp, AV.str xt, AV.sl 3 xa none, AV.sl 5 xs none]]))))) (ToEnd cfg 11 (bodyOf Try.f11) (RetIs Try.prog Try.f11 v) [Fm.code [0, 1, 0, 1, 1, 1], Fm.block 2, Fm.code [1, 1, 1, 1]] XT.normal [(2, true, AV.ptr 0 0), (3, true, AV.ptr 1 0), (6, true, AV.int IntKind.i64 0)] [Blk.mem 25 [AV.int IntKind.i64 xk, AV.int IntKind.i64 xp, AV.str xt, AV.sl 3 xa none, AV.sl 5 xs none], Blk.mem 25 [AV.int IntKind.i64 xk, AV.int IntKind.i64 xp, AV.str xt, AV.sl 3 xa none, AV.sl 5 xs none]])) := by kernel_rfl
  exact ends_round hT 100000 (by kernel_rfl) (e.mpr H)

theorem t11c {M : Nat} {N : Nat} {v : AV} {xk xp : Int} {xt : List UInt8} {xa xs : List (List AV)}  {i6 : Int} (hT : TabOk cfg (ctab [(24, sameC M), (11, equalC N)])) (H :
    ifP (decide (i6 < (↑(List.length xs) : Int))) (gAnd (inR i6 (List.length xs) && true && true) (∃ (z1 : Int), ∃ (z2 : Int), ∃ (s3 : List UInt8), ∃ (es4 : List (List AV)), ∃ (es5 : List (List AV)), getE xs i6 = [AV.int IntKind.i64 z1, AV.int IntKind.i64 z2, AV.str s3, AV.sl 3 es4 none, AV.sl 5 es5 none] ∧ gAnd (inR i6 (List.length xs) && true && true) (∃ (z6 : Int), ∃ (z7 : Int), ∃ (s8 : List UInt8), ∃ (es9 : List (List AV)), ∃ (es10 : List (List AV)), getE xs i6 = [AV.int IntKind.i64 z6, AV.int IntKind.i64 z7, AV.str s8, AV.sl 3 es9 none, AV.sl 5 es10 none] ∧ ∃ (nd11 : Nd), Nd.size nd11 < N ∧ Nd.fit nd11 ∧ [AV.agg [AV.int IntKind.i64 z1, AV.int IntKind.i64 z2, AV.str s3, AV.sl 3 (stripss 0 [] es4) none, AV.sl 5 (stripss 0 [] es5) none], AV.agg [AV.int IntKind.i64 z6, AV.int IntKind.i64 z7, AV.str s8, AV.sl 3 (stripss 0 [] es9) none, AV.sl 5 (stripss 0 [] es10) none]] = [AV.agg (encN nd11), AV.agg (encN nd11)] ∧ gAnd (lowVss 2 xa && true && (lowVss 2 xs && true && true) && (lowVss 2 xa && true && (lowVss 2 xs && true && true) && true)) (ToEnd cfg 11 (bodyOf Try.f11) (RetIs Try.prog Try.f11 v) [Fm.code [0, 1, 0, 1, 1, 1], Fm.block 2, Fm.code [1, 1, 1, 1]] XT.normal [(2, true, AV.ptr 0 0), (3, true, AV.ptr 1 0), (6, true, AV.int IntKind.i64 (IntKind.wrap IntKind.i64 (i6 + 1)))] [Blk.mem 25 [AV.int IntKind.i64 xk, AV.int IntKind.i64 xp, AV.str xt, AV.sl 3 xa none, AV.sl 5 xs none], Blk.mem 25 [AV.int IntKind.i64 xk, AV.int IntKind.i64 xp, AV.str xt, AV.sl 3 xa none, AV.sl 5 xs none]])))) (AV.bool true = v)) :
    ToEnd cfg 11 (bodyOf Try.f11) (RetIs Try.prog Try.f11 v) ([.code [0, 1, 0, 1, 1, 1], Fm.block 2, Fm.code [1, 1, 1, 1]]) .normal ([(2, true, AV.ptr 0 0), (3, true, AV.ptr 1 0), (6, true, AV.int IntKind.i64 i6)]) ([Blk.mem 25 [AV.int IntKind.i64 xk, AV.int IntKind.i64 xp, AV.str xt, AV.sl 3 xa none, AV.sl 5 xs none], Blk.mem 25 [AV.int IntKind.i64 xk, AV.int IntKind.i64 xp, AV.str xt, AV.sl 3 xa none, AV.sl 5 xs none]]) := by
  have e : unr cfg 11 (bodyOf Try.f11) (ctab [(24, sameC M), (11, equalC N)]) ⟨[[0, 1, 0, 1, 1], [0, 1, 0, 1, 1, 1]], [([0, 0, 0, 1, 0, 0, 1, 0, 1, 1], 3, [.str, .str, .int .i64]), ([0, 0, 0, 1, 0, 0, 1, 0, 1, 1], 9, [.str, .str, .int .i64]), ([0, 0, 0, 1, 0, 0, 1, 0, 1, 1, 1], 3, [.int .i64, .int .i64, .str, .sl 3, .sl 5]), ([0, 0, 0, 1, 0, 0, 1, 0, 1, 1, 1], 8, [.int .i64, .int .i64, .str, .sl 3, .sl 5])]⟩ (RetIs Try.prog Try.f11 v) 100000 ([.code [0, 0, 1, 0, 1, 1, 1], .loop [0, 1, 0, 1, 1, 1] 2, Fm.block 2, Fm.code [1, 1, 1, 1]]) .normal ([(2, true, AV.ptr 0 0), (3, true, AV.ptr 1 0), (6, true, AV.int IntKind.i64 i6)]) ([Blk.mem 25 [AV.int IntKind.i64 xk, AV.int IntKind.i64 xp, AV.str xt, AV.sl 3 xa none, AV.sl 5 xs none], Blk.mem 25 [AV.int IntKind.i64 xk, AV.int IntKind.i64 xp, AV.str xt, AV.sl 3 xa none, AV.sl 5 xs none]]) =
    (ifP (decide (i6 < (↑(List.length xs) : Int))) (gAnd (inR i6 (List.length xs) && true && true) (∃ (z1 : Int), ∃ (z2 : Int), ∃ (s3 : List UInt8), ∃ (es4 : List (List AV)), ∃ (es5 : List (List AV)), getE xs i6 = [AV.int IntKind.i64 z1, AV.int IntKind.i64 z2, AV.str s3, AV.sl 3 es4 none, AV.sl 5 es5 none] ∧ gAnd (inR i6 (List.length xs) && true && true) (∃ (z6 : Int), ∃ (z7 : Int), ∃ (s8 : List UInt8), ∃ (es9 : List (List AV)), ∃ (es10 : List (List AV)), getE xs i6 = [AV.int IntKind.i64 z6, AV.int IntKind.i64 z7, AV.str s8, AV.sl 3 es9 none, AV.sl 5 es10 none] ∧ ∃ (nd11 : Nd), Nd.size nd11 < N ∧ Nd.fit nd11 ∧ [AV.agg [AV.int IntKind.i64 z1, AV.int IntKind.i64 z2, AV.str s3, AV.sl 3 (stripss 0 [] es4) none, AV.sl 5 (stripss 0 [] es5) none], AV.agg [AV.int IntKind.i64 z6, AV.int IntKind.i64 z7, AV.str s8, AV.sl 3 (stripss 0 [] es9) none, AV.sl 5 (stripss 0 [] es10) none]] = [AV.agg (encN nd11), AV.agg (encN nd11)] ∧ gAnd (lowVss 2 xa && true && (lowVss 2 xs && true && true) && (lowVss 2 xa && true && (lowVss 2 xs && true && true) && true)) (ToEnd cfg 11 (bodyOf Try.f11) (RetIs Try.prog Try.f11 v) [Fm.code [0, 1, 0, 1, 1, 1], Fm.block 2, Fm.code [1, 1, 1, 1]] XT.normal [(2, true, AV.ptr 0 0), (3, true, AV.ptr 1 0), (6, true, AV.int IntKind.i64 (IntKind.wrap IntKind.i64 (i6 + 1)))] [Blk.mem 25 [AV.int IntKind.i64 xk, AV.int IntKind.i64 xp, AV.str xt, AV.sl 3 xa none, AV.sl 5 xs none], Blk.mem 25 [AV.int IntKind.i64 xk, AV.int IntKind.i64 xp, AV.str xt, AV.sl 3 xa none, AV.sl 5 xs none]])))) (AV.bool true = v)) := by kernel_rfl
  exact ends_round hT 100000 (by kernel_rfl) (e.mpr H)

end Go.Proofs.Ytpfbpidlglelgaa
end

section
namespace Go.Proofs.Ytpfbpidlglelgaa
open Go.Ai Go
set_option linter.unusedSimpArgs false
set_option linter.unusedVariables false
theorem pf9 : pureFn cfg 9 Try.f9 := ⟨by kernel_rfl, by kernel_rfl, by kernel_rfl, by kernel_rfl, by kernel_rfl, by kernel_rfl⟩
theorem pf11 : pureFn cfg 11 Try.f11 := ⟨by kernel_rfl, by kernel_rfl, by kernel_rfl, by kernel_rfl, by kernel_rfl, by kernel_rfl⟩
theorem loop9 {N : Nat} (hT : TabOk cfg (ctab [(9, eachC N)])) (k p : Int) (t : List UInt8) (al : List Att) (g1 : Nat) : ∀ (r pre acc : List Nd), sizes (pre ++ r) < N → acc.length + sizes r ≤ 100000 → sizes r ≤ 100000 → pre.length + r.length < lim → fits r →
    ToEnd cfg 9 (bodyOf Try.f9) (RetIs Try.prog Try.f9 (.sl 5 (encNs (acc ++ Nd.flats r)) none)) [.code [0, 1, 0, 1, 1], .block 0, .code [1, 1, 1]] .normal
      [(1, true, .ptr 0 0), (3, true, .sl 5 (encNs acc) (some 2)), (4, true, .int .i64 pre.length)] [.mem 25 [.int .i64 k, .int .i64 p, .str t, .sl 3 (al.map encA) none, .sl 5 (encNs (pre ++ r)) none], .grow g1 5 25, .grow acc.length 5 25] := by
  intro r
  induction r with
  | nil =>
    intro pre acc _ _ _ _ _
    refine t9b hT (ifP_intro (fun hc => ?_) (fun _ => ?_))
    · simp [encNs_length] at hc
    · rw [stripss_pure _ _ _ (pure_encNs acc)]
      simp [Nd.flats]
  | cons x r ih =>
    intro pre acc hs ha hr0 hl hf
    have hs' : sizes pre + (x.size + sizes r) < N := by simpa [sizes_append, sizes] using hs
    have ha' : acc.length + (x.size + sizes r) ≤ 100000 := by simpa [sizes] using ha
    have hr : inR (pre.length : Int) (encNs (pre ++ x :: r)).length = true := by rw [encNs_length]; exact inR_of (by omega) (by simp; omega)
    refine t9b hT (ifP_intro (fun _ => ?_) (fun hc => ?_))
    · refine gAnd_intro (by rw [hr]; rfl) ⟨x.kind, x.pl, x.text, x.attrs.map encA, encNs x.kids, by rw [getE_encNs, encN_eq], x, by omega, by omega, hf.1, by simp only [stripss_encAs, stripss_encNs, encN_eq], ?_⟩
      rw [wrap_succ (n := pre.length) (by simp at hl; omega)]
      refine gAnd_intro ?_ (gAnd_intro (by simp only [low_encAs, ← encNs_append, low_encNs, Bool.and_true, Bool.true_and]) ?_)
      · simp only [encNs_length, flat_size, tagOk, Bool.and_true, Bool.true_and]
        simp
        omega
      · have := ih (pre ++ [x]) (acc ++ x.flat) (by simpa using hs) (by simp only [List.length_append, flat_size]; omega) (by simp [sizes] at hr0; omega) (by simp at hl ⊢; omega) hf.2
        simp only [List.append_assoc, List.singleton_append, List.length_append, List.length_singleton, flat_size] at this
        simp only [encNs_length, flat_size, ← encNs_append, Nd.flats]
        exact this
    · simp [encNs_length] at hc; omega
theorem c9 : ∀ N, COk cfg 9 (eachC N)
  | 0 => fun l h K ht => by obtain ⟨nd, h, _⟩ := ht; omega
  | N + 1 => by
    have hT := ctab_ok (ctab_cons (c9 N) ctab_nil)
    refine cok_pure pf9 fun vs h K ht => ?_
    obtain ⟨nd, hs, hm, hf, rfl, hk⟩ := ht
    refine ⟨_, hk, ?_⟩
    rw [Nd.size_eq] at hs hm
    rw [Nd.fit_eq] at hf
    rw [encN_eq]
    refine t9a hT ?_
    have := loop9 hT nd.kind nd.pl nd.text nd.attrs 0 nd.kids [] [nd] (by simpa using by omega) (by simp; omega) (by omega) (by have := sizes_len nd.kids; unfold lim; simp; omega) hf.2.2.2.2
    rw [flat_eq]
    simpa [encNs, encN_eq] using this
theorem loop11c {M N : Nat} (hT : TabOk cfg (ctab [(24, sameC M), (11, equalC N)])) (k p : Int) (t : List UInt8) (al : List Att) : ∀ (r pre : List Nd), sizes (pre ++ r) < N → (pre ++ r).length ≤ lim → fits r →
    ToEnd cfg 11 (bodyOf Try.f11) (RetIs Try.prog Try.f11 (.bool true)) [.code [0, 1, 0, 1, 1, 1], .block 2, .code [1, 1, 1, 1]] .normal
      [(2, true, .ptr 0 0), (3, true, .ptr 1 0), (6, true, .int .i64 pre.length)] [.mem 25 [.int .i64 k, .int .i64 p, .str t, .sl 3 (al.map encA) none, .sl 5 (encNs (pre ++ r)) none], .mem 25 [.int .i64 k, .int .i64 p, .str t, .sl 3 (al.map encA) none, .sl 5 (encNs (pre ++ r)) none]] := by
  intro r
  induction r with
  | nil =>
    intro pre _ _ _
    refine t11c hT (ifP_intro (fun hc => ?_) (fun _ => rfl))
    simp [encNs_length] at hc
  | cons x r ih =>
    intro pre hs hl hf
    have hs' : sizes pre + (x.size + sizes r) < N := by simpa [sizes_append, sizes] using hs
    have hr : inR (pre.length : Int) (encNs (pre ++ x :: r)).length = true := by rw [encNs_length]; exact inR_of (by omega) (by simp; omega)
    refine t11c hT (ifP_intro (fun _ => ?_) (fun hc => ?_))
    · refine gAnd_intro (by rw [hr]; rfl) ⟨x.kind, x.pl, x.text, x.attrs.map encA, encNs x.kids, by rw [getE_encNs, encN_eq], ?_⟩
      refine gAnd_intro (by rw [hr]; rfl) ⟨x.kind, x.pl, x.text, x.attrs.map encA, encNs x.kids, by rw [getE_encNs, encN_eq], x, by omega, hf.1, by simp only [stripss_encAs, stripss_encNs, encN_eq], ?_⟩
      rw [wrap_succ (n := pre.length) (by simp at hl; omega)]
      refine gAnd_intro (by simp only [low_encAs, low_encNs, Bool.and_true]) ?_
      have := ih (pre ++ [x]) (by simpa using hs) (by simpa using hl) hf.2
      simpa using this
    · simp [encNs_length] at hc; omega
theorem loop11b {M N : Nat} (hT : TabOk cfg (ctab [(24, sameC M), (11, equalC N)])) (k p : Int) (t : List UInt8) (ks : List Nd) (hN : sizes ks < N) (hk : ks.length ≤ lim) (hf : fits ks) : ∀ (r pre : List Att), (pre ++ r).length ≤ lim →
    ToEnd cfg 11 (bodyOf Try.f11) (RetIs Try.prog Try.f11 (.bool true)) [.code [0, 1, 0, 1, 1], .block 0, .code [1, 1, 1]] .normal
      [(2, true, .ptr 0 0), (3, true, .ptr 1 0), (5, true, .int .i64 pre.length)] [.mem 25 [.int .i64 k, .int .i64 p, .str t, .sl 3 ((pre ++ r).map encA) none, .sl 5 (encNs ks) none], .mem 25 [.int .i64 k, .int .i64 p, .str t, .sl 3 ((pre ++ r).map encA) none, .sl 5 (encNs ks) none]] := by
  intro r
  induction r with
  | nil =>
    intro pre hl
    refine t11b hT (ifP_intro (fun hc => ?_) (fun _ => ?_))
    · simp at hc
    · have := loop11c hT k p t (pre ++ []) ks [] hN hk hf
      simpa using this
  | cons x r ih =>
    intro pre hl
    have hr : inR (pre.length : Int) ((pre ++ x :: r).map encA).length = true := by rw [List.length_map]; exact inR_of (by omega) (by simp; omega)
    have hg : getE ((pre ++ x :: r).map encA) (pre.length : Int) = [.str x.name, .str x.value, .int .i64 x.pl] := by simp [getE, encA]
    refine t11b hT (ifP_intro (fun _ => ?_) (fun hc => ?_))
    · refine gAnd_intro (by rw [hr]; rfl) ⟨x.name, x.value, x.pl, hg, ?_⟩
      refine gAnd_intro (by rw [hr]; rfl) ⟨x.name, x.value, x.pl, hg, ?_⟩
      refine ifP_intro (fun hc => by simp at hc) fun _ => ?_
      rw [wrap_succ (n := pre.length) (by simp at hl; omega)]
      refine gAnd_intro (by simp only [low_encAs, low_encNs, Bool.and_true]) ?_
      have := ih (pre ++ [x]) (by simpa using hl)
      simpa using this
    · simp at hc; omega
theorem c11 : ∀ N, COk cfg 11 (equalC N)
  | 0 => fun l h K ht => by obtain ⟨nd, h, _⟩ := ht; omega
  | N + 1 => by
    have hT := ctab_ok (ctab_cons (c24 (N + 1)) (ctab_cons (c11 N) ctab_nil))
    refine cok_pure pf11 fun vs h K ht => ?_
    obtain ⟨nd, hs, hf, rfl, hk⟩ := ht
    refine ⟨_, hk, ?_⟩
    have hf0 := hf
    have hs0 := hs
    rw [Nd.size_eq] at hs
    rw [Nd.fit_eq] at hf
    simp only [encN_eq]
    refine t11a hT (ifP_intro (fun hc => by simp at hc) fun _ => ⟨nd, nd, hs0, hf0, hf0, by simp only [stripss_encAs, stripss_encNs, encN_eq], ?_⟩)
    rw [Nd.same_refl]
    refine ifP_intro (fun hc => by simp at hc) fun _ => ?_
    have := loop11b hT nd.kind nd.pl nd.text nd.kids (by omega) hf.2.2.2.1 hf.2.2.2.2 nd.attrs [] (by simpa using hf.2.1)
    simpa using this
end Go.Proofs.Ytpfbpidlglelgaa
end
