/-
  Runs of the functions of trees, printed by a home tool; each is the kernel's word.
  What a row reads at the types of this seat is a tree, a text or a number, in plain terms.
-/
import Derived.Test.YtpfbpidlglelgaaCfg
import Derived.Test.YtpfbpidlglelgaaJNa
import Derived.Test.YtpfbpidlglelgaaJNc
import Derived.Test.YtpfbpidlglelgaaAiLaw
section
namespace Go.Proofs.Ytpfbpidlglelgaa
open Go.Ai Go
set_option maxRecDepth 100000
set_option linter.unusedVariables false
theorem t29a {K : AV → Hp → Prop} {xk xp : Int} {xt : List UInt8} {xa xs : List (List AV)} {nm an av : List UInt8} {ai : Int} (hT : TabOk cfg (ctab [])) (H :
    K (AV.bool (an == nm)) [Blk.mem 25 [AV.int IntKind.i64 xk, AV.int IntKind.i64 xp, AV.str xt, AV.sl 3 (stripss 2 [Blk.mem 25 [AV.int IntKind.i64 xk, AV.int IntKind.i64 xp, AV.str xt, AV.sl 3 xa none, AV.sl 5 xs none], Blk.mem 9 [AV.str nm], Blk.mem 41 [AV.str an, AV.str av, AV.int IntKind.i64 ai]] xa) none, AV.sl 5 (stripss 2 [Blk.mem 25 [AV.int IntKind.i64 xk, AV.int IntKind.i64 xp, AV.str xt, AV.sl 3 xa none, AV.sl 5 xs none], Blk.mem 9 [AV.str nm], Blk.mem 41 [AV.str an, AV.str av, AV.int IntKind.i64 ai]] xs) none], Blk.mem 9 [AV.str nm]]) :
    ToEnd cfg 29 (bodyOf Try.f29) (RetIn Try.prog Try.f29 2 K) ([.code []]) .normal ([(0, true, .agg [.str an, .str av, .int .i64 ai]), (1, true, .ptr 1 0)]) ([.mem 25 [.int .i64 xk, .int .i64 xp, .str xt, .sl 3 xa none, .sl 5 xs none], .mem 9 [.str nm]]) := by
  have e : unr cfg 29 (bodyOf Try.f29) (ctab []) ⟨[], []⟩ (RetIn Try.prog Try.f29 2 K) 100000 ([.code []]) .normal ([(0, true, .agg [.str an, .str av, .int .i64 ai]), (1, true, .ptr 1 0)]) ([.mem 25 [.int .i64 xk, .int .i64 xp, .str xt, .sl 3 xa none, .sl 5 xs none], .mem 9 [.str nm]]) =
    (K (AV.bool (an == nm)) [Blk.mem 25 [AV.int IntKind.i64 xk, AV.int IntKind.i64 xp, AV.str xt, AV.sl 3 (stripss 2 [Blk.mem 25 [AV.int IntKind.i64 xk, AV.int IntKind.i64 xp, AV.str xt, AV.sl 3 xa none, AV.sl 5 xs none], Blk.mem 9 [AV.str nm], Blk.mem 41 [AV.str an, AV.str av, AV.int IntKind.i64 ai]] xa) none, AV.sl 5 (stripss 2 [Blk.mem 25 [AV.int IntKind.i64 xk, AV.int IntKind.i64 xp, AV.str xt, AV.sl 3 xa none, AV.sl 5 xs none], Blk.mem 9 [AV.str nm], Blk.mem 41 [AV.str an, AV.str av, AV.int IntKind.i64 ai]] xs) none], Blk.mem 9 [AV.str nm]]) := by kernel_rfl
  exact unr_ok hT 100000 _ _ _ _ (e.mpr H)

theorem t28a {K : AV → Hp → Prop} {xk xp : Int} {xt : List UInt8} {xa xs : List (List AV)} {nm : List UInt8} {ea : List (List AV)} (hT : TabOk cfg (ctab [(29, isNameC)])) (H :
    ToEnd cfg 28 (bodyOf Try.f28) (RetIn Try.prog Try.f28 2 K) [Fm.code [0, 1, 0, 1], Fm.block 0, Fm.code [1, 1]] XT.normal [(0, true, AV.sl 3 ea none), (1, true, AV.fn (Fn.func 29) [] [AV.ptr 1 0]), (7, true, AV.int IntKind.i64 (↑(List.length ea) : Int)), (8, true, AV.int IntKind.i64 0)] [Blk.mem 25 [AV.int IntKind.i64 xk, AV.int IntKind.i64 xp, AV.str xt, AV.sl 3 xa none, AV.sl 5 xs none], Blk.mem 9 [AV.str nm]]) :
    ToEnd cfg 28 (bodyOf Try.f28) (RetIn Try.prog Try.f28 2 K) ([.code []]) .normal ([(0, true, .sl 3 ea none), (1, true, .fn (.func 29) [] [.ptr 1 0])]) ([.mem 25 [.int .i64 xk, .int .i64 xp, .str xt, .sl 3 xa none, .sl 5 xs none], .mem 9 [.str nm]]) := by
  have e : unr cfg 28 (bodyOf Try.f28) (ctab [(29, isNameC)]) ⟨[[0, 1, 0, 1]], [([0, 1, 0, 0, 1, 1, 0, 0, 1, 0, 1], 3, [.str, .str, .int .i64])]⟩ (RetIn Try.prog Try.f28 2 K) 100000 ([.code []]) .normal ([(0, true, .sl 3 ea none), (1, true, .fn (.func 29) [] [.ptr 1 0])]) ([.mem 25 [.int .i64 xk, .int .i64 xp, .str xt, .sl 3 xa none, .sl 5 xs none], .mem 9 [.str nm]]) =
    (ToEnd cfg 28 (bodyOf Try.f28) (RetIn Try.prog Try.f28 2 K) [Fm.code [0, 1, 0, 1], Fm.block 0, Fm.code [1, 1]] XT.normal [(0, true, AV.sl 3 ea none), (1, true, AV.fn (Fn.func 29) [] [AV.ptr 1 0]), (7, true, AV.int IntKind.i64 (↑(List.length ea) : Int)), (8, true, AV.int IntKind.i64 0)] [Blk.mem 25 [AV.int IntKind.i64 xk, AV.int IntKind.i64 xp, AV.str xt, AV.sl 3 xa none, AV.sl 5 xs none], Blk.mem 9 [AV.str nm]]) := by kernel_rfl
  exact unr_ok hT 100000 _ _ _ _ (e.mpr H)

theorem t28b {K : AV → Hp → Prop} {xk xp : Int} {xt : List UInt8} {xa xs : List (List AV)} {nm : List UInt8} {ea : List (List AV)} {i7 : Int} {i8 : Int} (hT : TabOk cfg (ctab [(29, isNameC)])) (H :
    ifP (decide (i8 < i7)) (gAnd (inR i8 (List.length ea) && true && true) (∃ (s1 : List UInt8), ∃ (s2 : List UInt8), ∃ (z3 : Int), getE ea i8 = [AV.str s1, AV.str s2, AV.int IntKind.i64 z3] ∧ ∃ (n4 : Nd), ∃ (a5 : Att), ∃ (nm6 : List UInt8), [Blk.mem 25 [AV.int IntKind.i64 xk, AV.int IntKind.i64 xp, AV.str xt, AV.sl 3 xa none, AV.sl 5 xs none], Blk.mem 9 [AV.str nm]] = [Blk.mem 25 [AV.int IntKind.i64 (Nd.kind n4), AV.int IntKind.i64 (Nd.pl n4), AV.str (Nd.text n4), AV.sl 3 (List.map encA (Nd.attrs n4)) none, AV.sl 5 (encNs (Nd.kids n4)) none], Blk.mem 9 [AV.str nm6]] ∧ [AV.agg [AV.str s1, AV.str s2, AV.int IntKind.i64 z3], AV.ptr 1 0] = [AV.agg [AV.str (Att.name a5), AV.str (Att.value a5), AV.int IntKind.i64 (Att.pl a5)], AV.ptr 1 0] ∧ ifP (Att.name a5 == nm6) (K (AV.int IntKind.i64 i8) [Blk.mem 25 [AV.int IntKind.i64 (Nd.kind n4), AV.int IntKind.i64 (Nd.pl n4), AV.str (Nd.text n4), AV.sl 3 (stripss 2 [Blk.mem 25 [AV.int IntKind.i64 (Nd.kind n4), AV.int IntKind.i64 (Nd.pl n4), AV.str (Nd.text n4), AV.sl 3 (List.map encA (Nd.attrs n4)) none, AV.sl 5 (encNs (Nd.kids n4)) none], Blk.mem 9 [AV.str nm6]] (List.map encA (Nd.attrs n4))) none, AV.sl 5 (stripss 2 [Blk.mem 25 [AV.int IntKind.i64 (Nd.kind n4), AV.int IntKind.i64 (Nd.pl n4), AV.str (Nd.text n4), AV.sl 3 (List.map encA (Nd.attrs n4)) none, AV.sl 5 (encNs (Nd.kids n4)) none], Blk.mem 9 [AV.str nm6]] (encNs (Nd.kids n4))) none], Blk.mem 9 [AV.str nm6]]) (gAnd (lowVss 2 ea && true && true && (lowVss 2 (List.map encA (Nd.attrs n4)) && true && (lowVss 2 (encNs (Nd.kids n4)) && true && true) && true)) (ToEnd cfg 28 (bodyOf Try.f28) (RetIn Try.prog Try.f28 2 K) [Fm.code [0, 1, 0, 1], Fm.block 0, Fm.code [1, 1]] XT.normal [(0, true, AV.sl 3 ea none), (1, true, AV.fn (Fn.func 29) [] [AV.ptr 1 0]), (7, true, AV.int IntKind.i64 i7), (8, true, AV.int IntKind.i64 (IntKind.wrap IntKind.i64 (i8 + 1)))] [Blk.mem 25 [AV.int IntKind.i64 (Nd.kind n4), AV.int IntKind.i64 (Nd.pl n4), AV.str (Nd.text n4), AV.sl 3 (List.map encA (Nd.attrs n4)) none, AV.sl 5 (encNs (Nd.kids n4)) none], Blk.mem 9 [AV.str nm6]])))) (K (AV.int IntKind.i64 (-1)) [Blk.mem 25 [AV.int IntKind.i64 xk, AV.int IntKind.i64 xp, AV.str xt, AV.sl 3 (stripss 2 [Blk.mem 25 [AV.int IntKind.i64 xk, AV.int IntKind.i64 xp, AV.str xt, AV.sl 3 xa none, AV.sl 5 xs none], Blk.mem 9 [AV.str nm]] xa) none, AV.sl 5 (stripss 2 [Blk.mem 25 [AV.int IntKind.i64 xk, AV.int IntKind.i64 xp, AV.str xt, AV.sl 3 xa none, AV.sl 5 xs none], Blk.mem 9 [AV.str nm]] xs) none], Blk.mem 9 [AV.str nm]])) :
    ToEnd cfg 28 (bodyOf Try.f28) (RetIn Try.prog Try.f28 2 K) ([.code [0, 1, 0, 1], Fm.block 0, Fm.code [1, 1]]) .normal ([(0, true, AV.sl 3 ea none), (1, true, AV.fn (Fn.func 29) [] [AV.ptr 1 0]), (7, true, AV.int IntKind.i64 i7), (8, true, AV.int IntKind.i64 i8)]) ([Blk.mem 25 [AV.int IntKind.i64 xk, AV.int IntKind.i64 xp, AV.str xt, AV.sl 3 xa none, AV.sl 5 xs none], Blk.mem 9 [AV.str nm]]) := by
  have e : unr cfg 28 (bodyOf Try.f28) (ctab [(29, isNameC)]) ⟨[[0, 1, 0, 1]], [([0, 1, 0, 0, 1, 1, 0, 0, 1, 0, 1], 3, [.str, .str, .int .i64])]⟩ (RetIn Try.prog Try.f28 2 K) 100000 ([.code [0, 0, 1, 0, 1], .loop [0, 1, 0, 1] 2, Fm.block 0, Fm.code [1, 1]]) .normal ([(0, true, AV.sl 3 ea none), (1, true, AV.fn (Fn.func 29) [] [AV.ptr 1 0]), (7, true, AV.int IntKind.i64 i7), (8, true, AV.int IntKind.i64 i8)]) ([Blk.mem 25 [AV.int IntKind.i64 xk, AV.int IntKind.i64 xp, AV.str xt, AV.sl 3 xa none, AV.sl 5 xs none], Blk.mem 9 [AV.str nm]]) =
    (ifP (decide (i8 < i7)) (gAnd (inR i8 (List.length ea) && true && true) (∃ (s1 : List UInt8), ∃ (s2 : List UInt8), ∃ (z3 : Int), getE ea i8 = [AV.str s1, AV.str s2, AV.int IntKind.i64 z3] ∧ ∃ (n4 : Nd), ∃ (a5 : Att), ∃ (nm6 : List UInt8), [Blk.mem 25 [AV.int IntKind.i64 xk, AV.int IntKind.i64 xp, AV.str xt, AV.sl 3 xa none, AV.sl 5 xs none], Blk.mem 9 [AV.str nm]] = [Blk.mem 25 [AV.int IntKind.i64 (Nd.kind n4), AV.int IntKind.i64 (Nd.pl n4), AV.str (Nd.text n4), AV.sl 3 (List.map encA (Nd.attrs n4)) none, AV.sl 5 (encNs (Nd.kids n4)) none], Blk.mem 9 [AV.str nm6]] ∧ [AV.agg [AV.str s1, AV.str s2, AV.int IntKind.i64 z3], AV.ptr 1 0] = [AV.agg [AV.str (Att.name a5), AV.str (Att.value a5), AV.int IntKind.i64 (Att.pl a5)], AV.ptr 1 0] ∧ ifP (Att.name a5 == nm6) (K (AV.int IntKind.i64 i8) [Blk.mem 25 [AV.int IntKind.i64 (Nd.kind n4), AV.int IntKind.i64 (Nd.pl n4), AV.str (Nd.text n4), AV.sl 3 (stripss 2 [Blk.mem 25 [AV.int IntKind.i64 (Nd.kind n4), AV.int IntKind.i64 (Nd.pl n4), AV.str (Nd.text n4), AV.sl 3 (List.map encA (Nd.attrs n4)) none, AV.sl 5 (encNs (Nd.kids n4)) none], Blk.mem 9 [AV.str nm6]] (List.map encA (Nd.attrs n4))) none, AV.sl 5 (stripss 2 [Blk.mem 25 [AV.int IntKind.i64 (Nd.kind n4), AV.int IntKind.i64 (Nd.pl n4), AV.str (Nd.text n4), AV.sl 3 (List.map encA (Nd.attrs n4)) none, AV.sl 5 (encNs (Nd.kids n4)) none], Blk.mem 9 [AV.str nm6]] (encNs (Nd.kids n4))) none], Blk.mem 9 [AV.str nm6]]) (gAnd (lowVss 2 ea && true && true && (lowVss 2 (List.map encA (Nd.attrs n4)) && true && (lowVss 2 (encNs (Nd.kids n4)) && true && true) && true)) (ToEnd cfg 28 (bodyOf Try.f28) (RetIn Try.prog Try.f28 2 K) [Fm.code [0, 1, 0, 1], Fm.block 0, Fm.code [1, 1]] XT.normal [(0, true, AV.sl 3 ea none), (1, true, AV.fn (Fn.func 29) [] [AV.ptr 1 0]), (7, true, AV.int IntKind.i64 i7), (8, true, AV.int IntKind.i64 (IntKind.wrap IntKind.i64 (i8 + 1)))] [Blk.mem 25 [AV.int IntKind.i64 (Nd.kind n4), AV.int IntKind.i64 (Nd.pl n4), AV.str (Nd.text n4), AV.sl 3 (List.map encA (Nd.attrs n4)) none, AV.sl 5 (encNs (Nd.kids n4)) none], Blk.mem 9 [AV.str nm6]])))) (K (AV.int IntKind.i64 (-1)) [Blk.mem 25 [AV.int IntKind.i64 xk, AV.int IntKind.i64 xp, AV.str xt, AV.sl 3 (stripss 2 [Blk.mem 25 [AV.int IntKind.i64 xk, AV.int IntKind.i64 xp, AV.str xt, AV.sl 3 xa none, AV.sl 5 xs none], Blk.mem 9 [AV.str nm]] xa) none, AV.sl 5 (stripss 2 [Blk.mem 25 [AV.int IntKind.i64 xk, AV.int IntKind.i64 xp, AV.str xt, AV.sl 3 xa none, AV.sl 5 xs none], Blk.mem 9 [AV.str nm]] xs) none], Blk.mem 9 [AV.str nm]])) := by kernel_rfl
  exact ends_round hT 100000 (by kernel_rfl) (e.mpr H)

theorem t17a {v : AV} {xk xp : Int} {xt : List UInt8} {xa xs : List (List AV)} {nm : List UInt8} (hT : TabOk cfg (ctab [(28, findC 29)])) (H :
    ∃ (n1 : Nd), ∃ (al2 : List Att), ∃ (nm3 : List UInt8), List.length al2 ≤ 9223372036854775807 ∧ [Blk.mem 25 [AV.int IntKind.i64 xk, AV.int IntKind.i64 xp, AV.str xt, AV.sl 3 xa none, AV.sl 5 xs none], Blk.mem 9 [AV.str nm]] = [Blk.mem 25 [AV.int IntKind.i64 (Nd.kind n1), AV.int IntKind.i64 (Nd.pl n1), AV.str (Nd.text n1), AV.sl 3 (List.map encA (Nd.attrs n1)) none, AV.sl 5 (encNs (Nd.kids n1)) none], Blk.mem 9 [AV.str nm3]] ∧ [AV.sl 3 xa none, AV.fn (Fn.func 29) [] [AV.ptr 1 0]] = [AV.sl 3 (List.map encA al2) none, AV.fn (Fn.func 29) [] [AV.ptr 1 0]] ∧ ifP (decide (attrAt al2 nm3 0 < 0)) (AV.tup [AV.str [], AV.bool false] = v) (gAnd (inR (attrAt al2 nm3 0) (List.length (List.map encA (Nd.attrs n1))) && true && true) (∃ (s4 : List UInt8), ∃ (s5 : List UInt8), ∃ (z6 : Int), getE (List.map encA (Nd.attrs n1)) (attrAt al2 nm3 0) = [AV.str s4, AV.str s5, AV.int IntKind.i64 z6] ∧ AV.tup [AV.str s5, AV.bool true] = v))) :
    ToEnd cfg 17 (bodyOf Try.f17) (RetIs Try.prog Try.f17 v) ([.code []]) .normal ([(0, true, .agg [.int .i64 xk, .int .i64 xp, .str xt, .sl 3 xa none, .sl 5 xs none]), (1, true, .str nm)]) ([]) := by
  have e : unr cfg 17 (bodyOf Try.f17) (ctab [(28, findC 29)]) ⟨[], [([0, 1, 1, 1], 3, [.str, .str, .int .i64])]⟩ (RetIs Try.prog Try.f17 v) 100000 ([.code []]) .normal ([(0, true, .agg [.int .i64 xk, .int .i64 xp, .str xt, .sl 3 xa none, .sl 5 xs none]), (1, true, .str nm)]) ([]) =
    (∃ (n1 : Nd), ∃ (al2 : List Att), ∃ (nm3 : List UInt8), List.length al2 ≤ 9223372036854775807 ∧ [Blk.mem 25 [AV.int IntKind.i64 xk, AV.int IntKind.i64 xp, AV.str xt, AV.sl 3 xa none, AV.sl 5 xs none], Blk.mem 9 [AV.str nm]] = [Blk.mem 25 [AV.int IntKind.i64 (Nd.kind n1), AV.int IntKind.i64 (Nd.pl n1), AV.str (Nd.text n1), AV.sl 3 (List.map encA (Nd.attrs n1)) none, AV.sl 5 (encNs (Nd.kids n1)) none], Blk.mem 9 [AV.str nm3]] ∧ [AV.sl 3 xa none, AV.fn (Fn.func 29) [] [AV.ptr 1 0]] = [AV.sl 3 (List.map encA al2) none, AV.fn (Fn.func 29) [] [AV.ptr 1 0]] ∧ ifP (decide (attrAt al2 nm3 0 < 0)) (AV.tup [AV.str [], AV.bool false] = v) (gAnd (inR (attrAt al2 nm3 0) (List.length (List.map encA (Nd.attrs n1))) && true && true) (∃ (s4 : List UInt8), ∃ (s5 : List UInt8), ∃ (z6 : Int), getE (List.map encA (Nd.attrs n1)) (attrAt al2 nm3 0) = [AV.str s4, AV.str s5, AV.int IntKind.i64 z6] ∧ AV.tup [AV.str s5, AV.bool true] = v))) := by kernel_rfl
  exact unr_ok hT 100000 _ _ _ _ (e.mpr H)

theorem t6a {N : Nat} {v : AV} {xk xp : Int} {xt : List UInt8} {xa xs : List (List AV)} {yk yp : Int} {yt : List UInt8} {ya ys : List (List AV)} {nm : List UInt8} (hT : TabOk cfg (ctab [(7, fewC), (8, trueC), (17, attrC), (22, attrC), (19, depthC N), (23, depthC N), (21, sameC N), (24, sameC N)])) (H :
    ∃ (nd1 : Nd), Nd.fit nd1 ∧ [AV.agg [AV.int IntKind.i64 xk, AV.int IntKind.i64 xp, AV.str xt, AV.sl 3 (stripss 0 [] xa) none, AV.sl 5 (stripss 0 [] xs) none]] = [AV.agg (encN nd1)] ∧ ifP (!decide (0 < Nd.left nd1 600)) (true = true ∧ AV.bool true = v) (∃ (nd2 : Nd), Nd.fit nd2 ∧ [AV.agg [AV.int IntKind.i64 yk, AV.int IntKind.i64 yp, AV.str yt, AV.sl 3 (stripss 0 [] ya) none, AV.sl 5 (stripss 0 [] ys) none]] = [AV.agg (encN nd2)] ∧ ifP (!decide (0 < Nd.left nd2 600)) (true = true ∧ AV.bool true = v) (ifP (decide ((↑(List.length nm) : Int) > 1000)) (true = true ∧ AV.bool true = v) (∃ (nd3 : Nd), ∃ (nm4 : List UInt8), Nd.fit nd3 ∧ [AV.agg [AV.int IntKind.i64 xk, AV.int IntKind.i64 xp, AV.str xt, AV.sl 3 (stripss 0 [] xa) none, AV.sl 5 (stripss 0 [] xs) none], AV.str nm] = [AV.agg (encN nd3), AV.str nm4] ∧ ∃ (nd5 : Nd), ∃ (nm6 : List UInt8), Nd.fit nd5 ∧ [AV.agg [AV.int IntKind.i64 xk, AV.int IntKind.i64 xp, AV.str xt, AV.sl 3 (stripss 0 [] xa) none, AV.sl 5 (stripss 0 [] xs) none], AV.str nm] = [AV.agg (encN nd5), AV.str nm6] ∧ ifP (Prod.fst (attrOf (Nd.attrs nd3) nm4) == Prod.fst (attrOf (Nd.attrs nd5) nm6)) (ifP (Prod.snd (attrOf (Nd.attrs nd3) nm4) == Prod.snd (attrOf (Nd.attrs nd5) nm6)) (∃ (nd7 : Nd), Nd.size nd7 < N ∧ [AV.agg [AV.int IntKind.i64 xk, AV.int IntKind.i64 xp, AV.str xt, AV.sl 3 (stripss 0 [] xa) none, AV.sl 5 (stripss 0 [] xs) none]] = [AV.agg (encN nd7)] ∧ ∃ (nd8 : Nd), Nd.size nd8 < N ∧ [AV.agg [AV.int IntKind.i64 xk, AV.int IntKind.i64 xp, AV.str xt, AV.sl 3 (stripss 0 [] xa) none, AV.sl 5 (stripss 0 [] xs) none]] = [AV.agg (encN nd8)] ∧ ifP ((↑(Nd.depth nd7) : Int) == (↑(Nd.depth nd8) : Int)) (∃ (a9 : Nd), ∃ (b10 : Nd), Nd.size a9 < N ∧ Nd.fit a9 ∧ Nd.fit b10 ∧ [AV.agg [AV.int IntKind.i64 xk, AV.int IntKind.i64 xp, AV.str xt, AV.sl 3 (stripss 0 [] xa) none, AV.sl 5 (stripss 0 [] xs) none], AV.agg [AV.int IntKind.i64 yk, AV.int IntKind.i64 yp, AV.str yt, AV.sl 3 (stripss 0 [] ya) none, AV.sl 5 (stripss 0 [] ys) none]] = [AV.agg (encN a9), AV.agg (encN b10)] ∧ ∃ (a11 : Nd), ∃ (b12 : Nd), Nd.size a11 < N ∧ Nd.fit a11 ∧ Nd.fit b12 ∧ [AV.agg [AV.int IntKind.i64 xk, AV.int IntKind.i64 xp, AV.str xt, AV.sl 3 (stripss 0 [] xa) none, AV.sl 5 (stripss 0 [] xs) none], AV.agg [AV.int IntKind.i64 yk, AV.int IntKind.i64 yp, AV.str yt, AV.sl 3 (stripss 0 [] ya) none, AV.sl 5 (stripss 0 [] ys) none]] = [AV.agg (encN a11), AV.agg (encN b12)] ∧ ifP (Nd.same a9 b10 == Nd.same a11 b12) (∃ (a13 : Nd), ∃ (b14 : Nd), Nd.size a13 < N ∧ Nd.fit a13 ∧ Nd.fit b14 ∧ [AV.agg [AV.int IntKind.i64 xk, AV.int IntKind.i64 xp, AV.str xt, AV.sl 3 (stripss 0 [] xa) none, AV.sl 5 (stripss 0 [] xs) none], AV.agg [AV.int IntKind.i64 xk, AV.int IntKind.i64 xp, AV.str xt, AV.sl 3 (stripss 0 [] xa) none, AV.sl 5 (stripss 0 [] xs) none]] = [AV.agg (encN a13), AV.agg (encN b14)] ∧ ifP (Nd.same a13 b14) (true = true ∧ AV.bool true = v) (AV.bool false = v)) (AV.bool false = v)) (AV.bool false = v)) (AV.bool false = v)) (AV.bool false = v))))) :
    ToEnd cfg 6 (bodyOf Try.f6) (RetIs Try.prog Try.f6 v) ([.code []]) .normal ([(0, true, .agg [.int .i64 xk, .int .i64 xp, .str xt, .sl 3 xa none, .sl 5 xs none]), (1, true, .agg [.int .i64 yk, .int .i64 yp, .str yt, .sl 3 ya none, .sl 5 ys none]), (2, true, .str nm)]) ([]) := by
  have e : unr cfg 6 (bodyOf Try.f6) (ctab [(7, fewC), (8, trueC), (17, attrC), (22, attrC), (19, depthC N), (23, depthC N), (21, sameC N), (24, sameC N)]) ⟨[], []⟩ (RetIs Try.prog Try.f6 v) 100000 ([.code []]) .normal ([(0, true, .agg [.int .i64 xk, .int .i64 xp, .str xt, .sl 3 xa none, .sl 5 xs none]), (1, true, .agg [.int .i64 yk, .int .i64 yp, .str yt, .sl 3 ya none, .sl 5 ys none]), (2, true, .str nm)]) ([]) =
    (∃ (nd1 : Nd), Nd.fit nd1 ∧ [AV.agg [AV.int IntKind.i64 xk, AV.int IntKind.i64 xp, AV.str xt, AV.sl 3 (stripss 0 [] xa) none, AV.sl 5 (stripss 0 [] xs) none]] = [AV.agg (encN nd1)] ∧ ifP (!decide (0 < Nd.left nd1 600)) (true = true ∧ AV.bool true = v) (∃ (nd2 : Nd), Nd.fit nd2 ∧ [AV.agg [AV.int IntKind.i64 yk, AV.int IntKind.i64 yp, AV.str yt, AV.sl 3 (stripss 0 [] ya) none, AV.sl 5 (stripss 0 [] ys) none]] = [AV.agg (encN nd2)] ∧ ifP (!decide (0 < Nd.left nd2 600)) (true = true ∧ AV.bool true = v) (ifP (decide ((↑(List.length nm) : Int) > 1000)) (true = true ∧ AV.bool true = v) (∃ (nd3 : Nd), ∃ (nm4 : List UInt8), Nd.fit nd3 ∧ [AV.agg [AV.int IntKind.i64 xk, AV.int IntKind.i64 xp, AV.str xt, AV.sl 3 (stripss 0 [] xa) none, AV.sl 5 (stripss 0 [] xs) none], AV.str nm] = [AV.agg (encN nd3), AV.str nm4] ∧ ∃ (nd5 : Nd), ∃ (nm6 : List UInt8), Nd.fit nd5 ∧ [AV.agg [AV.int IntKind.i64 xk, AV.int IntKind.i64 xp, AV.str xt, AV.sl 3 (stripss 0 [] xa) none, AV.sl 5 (stripss 0 [] xs) none], AV.str nm] = [AV.agg (encN nd5), AV.str nm6] ∧ ifP (Prod.fst (attrOf (Nd.attrs nd3) nm4) == Prod.fst (attrOf (Nd.attrs nd5) nm6)) (ifP (Prod.snd (attrOf (Nd.attrs nd3) nm4) == Prod.snd (attrOf (Nd.attrs nd5) nm6)) (∃ (nd7 : Nd), Nd.size nd7 < N ∧ [AV.agg [AV.int IntKind.i64 xk, AV.int IntKind.i64 xp, AV.str xt, AV.sl 3 (stripss 0 [] xa) none, AV.sl 5 (stripss 0 [] xs) none]] = [AV.agg (encN nd7)] ∧ ∃ (nd8 : Nd), Nd.size nd8 < N ∧ [AV.agg [AV.int IntKind.i64 xk, AV.int IntKind.i64 xp, AV.str xt, AV.sl 3 (stripss 0 [] xa) none, AV.sl 5 (stripss 0 [] xs) none]] = [AV.agg (encN nd8)] ∧ ifP ((↑(Nd.depth nd7) : Int) == (↑(Nd.depth nd8) : Int)) (∃ (a9 : Nd), ∃ (b10 : Nd), Nd.size a9 < N ∧ Nd.fit a9 ∧ Nd.fit b10 ∧ [AV.agg [AV.int IntKind.i64 xk, AV.int IntKind.i64 xp, AV.str xt, AV.sl 3 (stripss 0 [] xa) none, AV.sl 5 (stripss 0 [] xs) none], AV.agg [AV.int IntKind.i64 yk, AV.int IntKind.i64 yp, AV.str yt, AV.sl 3 (stripss 0 [] ya) none, AV.sl 5 (stripss 0 [] ys) none]] = [AV.agg (encN a9), AV.agg (encN b10)] ∧ ∃ (a11 : Nd), ∃ (b12 : Nd), Nd.size a11 < N ∧ Nd.fit a11 ∧ Nd.fit b12 ∧ [AV.agg [AV.int IntKind.i64 xk, AV.int IntKind.i64 xp, AV.str xt, AV.sl 3 (stripss 0 [] xa) none, AV.sl 5 (stripss 0 [] xs) none], AV.agg [AV.int IntKind.i64 yk, AV.int IntKind.i64 yp, AV.str yt, AV.sl 3 (stripss 0 [] ya) none, AV.sl 5 (stripss 0 [] ys) none]] = [AV.agg (encN a11), AV.agg (encN b12)] ∧ ifP (Nd.same a9 b10 == Nd.same a11 b12) (∃ (a13 : Nd), ∃ (b14 : Nd), Nd.size a13 < N ∧ Nd.fit a13 ∧ Nd.fit b14 ∧ [AV.agg [AV.int IntKind.i64 xk, AV.int IntKind.i64 xp, AV.str xt, AV.sl 3 (stripss 0 [] xa) none, AV.sl 5 (stripss 0 [] xs) none], AV.agg [AV.int IntKind.i64 xk, AV.int IntKind.i64 xp, AV.str xt, AV.sl 3 (stripss 0 [] xa) none, AV.sl 5 (stripss 0 [] xs) none]] = [AV.agg (encN a13), AV.agg (encN b14)] ∧ ifP (Nd.same a13 b14) (true = true ∧ AV.bool true = v) (AV.bool false = v)) (AV.bool false = v)) (AV.bool false = v)) (AV.bool false = v)) (AV.bool false = v))))) := by kernel_rfl
  exact unr_ok hT 100000 _ _ _ _ (e.mpr H)

end Go.Proofs.Ytpfbpidlglelgaa
end

section
namespace Go.Proofs.Ytpfbpidlglelgaa
open Go.Ai Go
set_option linter.unusedSimpArgs false
set_option linter.unusedVariables false

theorem hf29 : heapFn cfg 29 Try.f29 := ⟨by kernel_rfl, by kernel_rfl, by kernel_rfl, by kernel_rfl, by kernel_rfl, by kernel_rfl⟩
theorem hf28 : heapFn cfg 28 Try.f28 := ⟨by kernel_rfl, by kernel_rfl, by kernel_rfl, by kernel_rfl, by kernel_rfl, by kernel_rfl⟩
theorem pf17 : pureFn cfg 17 Try.f17 := ⟨by kernel_rfl, by kernel_rfl, by kernel_rfl, by kernel_rfl, by kernel_rfl, by kernel_rfl⟩
theorem pf8 : pureFn cfg 8 Try.f8 := ⟨by kernel_rfl, by kernel_rfl, by kernel_rfl, by kernel_rfl, by kernel_rfl, by kernel_rfl⟩
theorem pf6 : pureFn cfg 6 Try.f6 := ⟨by kernel_rfl, by kernel_rfl, by kernel_rfl, by kernel_rfl, by kernel_rfl, by kernel_rfl⟩

theorem stripAs (n : Nat) (h : Hp) (l : List Att) : stripss n h (l.map encA) = l.map encA := stripss_pure _ _ _ (pure_encAs l)
theorem stripNs (n : Nat) (h : Hp) (l : List Nd) : stripss n h (encNs l) = encNs l := stripss_pure _ _ _ (pure_encNs l)

theorem c29 : COk cfg 29 isNameC := by
  refine cok_heap hf29 fun vs h K ht => ?_
  obtain ⟨n, a, nm, rfl, rfl, hk⟩ := ht
  refine t29a (ctab_ok ctab_nil) ?_
  simp only [stripAs, stripNs]
  exact hk

theorem loop28 (hT : TabOk cfg (ctab [(29, isNameC)])) (n : Nd) (nm : List UInt8) (K : AV → Hp → Prop) : ∀ (r pre : List Att), (pre ++ r).length ≤ lim → K (.int .i64 (attrAt r nm (pre.length : Nat))) [nodeBlk n, .mem 9 [.str nm]] →
    ToEnd cfg 28 (bodyOf Try.f28) (RetIn Try.prog Try.f28 2 K) [.code [0, 1, 0, 1], .block 0, .code [1, 1]] .normal
      [(0, true, .sl 3 ((pre ++ r).map encA) none), (1, true, .fn (.func 29) [] [.ptr 1 0]), (7, true, .int .i64 ((pre ++ r).length : Nat)), (8, true, .int .i64 pre.length)] [nodeBlk n, .mem 9 [.str nm]] := by
  intro r
  induction r with
  | nil =>
    intro pre hl hk
    refine t28b hT (ifP_intro (fun hc => ?_) fun _ => ?_)
    · simp at hc
    · simp only [stripAs, stripNs]
      exact hk
  | cons x r ih =>
    intro pre hl hk
    have hlen : pre.length < lim := by simp at hl; omega
    have hin : inR (pre.length : Int) ((pre ++ x :: r).map encA).length = true := inR_of (by omega) (by simp; omega)
    refine t28b hT (ifP_intro (fun _ => ?_) fun hc => ?_)
    · refine gAnd_intro (by rw [hin]; rfl) ⟨x.name, x.value, x.pl, getE_pre _ _ _ _, n, x, nm, rfl, rfl, ifP_intro (fun hq => ?_) fun hq => ?_⟩
      · simp only [stripAs, stripNs]
        simpa [attrAt, hq, nodeBlk] using hk
      · refine gAnd_intro (by simp only [low_encAs, low_encNs, Bool.and_true]) ?_
        rw [wrap_succ hlen]
        have := ih (pre ++ [x]) (by simpa using hl) (by simpa [attrAt, hq] using hk)
        simpa [nodeBlk] using this
    · simp at hc; omega

theorem c28 : COk cfg 28 (findC 29) := by
  refine cok_heap hf28 fun vs h K ht => ?_
  obtain ⟨n, al, nm, hl, rfl, rfl, hk⟩ := ht
  have hT := ctab_ok (ctab_cons c29 ctab_nil)
  refine t28a hT ?_
  have := loop28 hT n nm K al [] hl hk
  simpa [nodeBlk] using this

theorem c17 : COk cfg 17 attrC := by
  refine cok_pure pf17 fun vs h K ht => ?_
  obtain ⟨nd, nm, hf, rfl, hk⟩ := ht
  refine ⟨_, hk, ?_⟩
  rw [encN_eq]
  rw [Nd.fit_eq] at hf
  refine t17a (ctab_ok (ctab_cons c28 ctab_nil)) ⟨nd, nd.attrs, nm, hf.2.1, rfl, rfl, ?_⟩
  rcases attrAt_spec nm nd.attrs 0 (by omega) with ⟨h1, h2⟩ | ⟨pre, x, r, h1, h2, h3⟩
  · rw [h1, h2]
    exact ifP_intro (fun _ => rfl) fun hc => by simp at hc
  · rw [h2, h3, h1]
    refine ifP_intro (fun hc => ?_) fun _ => gAnd_intro ?_ ⟨x.name, x.value, x.pl, ?_, rfl⟩
    · simp only [decide_eq_true_eq] at hc; omega
    · rw [inR_of (by omega) (by simp; omega)]; rfl
    · rw [Int.zero_add]; exact getE_pre _ _ _ _

theorem works_eval : isTrue (call cfg false 100000 8 [] []) = true := by kernel_rfl
theorem c8 : COk cfg 8 trueC := cok_true pf8 works_eval

def looksC : Con := fun vs h K => ∃ (a b : Nd) (nm : List UInt8), a.fit ∧ b.fit ∧ vs = [.agg (encN a), .agg (encN b), .str nm] ∧ K (.bool true) h
theorem c6 : COk cfg 6 looksC := by
  refine cok_pure pf6 fun vs h K ht => ?_
  obtain ⟨a, b, nm, ha, hb, rfl, hk⟩ := ht
  refine ⟨_, hk, ?_⟩
  simp only [encN_eq]
  have hT := ctab_ok (ctab_cons c7 (ctab_cons c8 (ctab_cons c17 (ctab_cons c22 (ctab_cons (c19 1000 (by omega)) (ctab_cons (c23 1000 (by omega)) (ctab_cons (c21 1000) (ctab_cons (c24 1000) ctab_nil))))))))
  refine t6a hT ?_
  simp only [stripss_encAs, stripss_encNs, ← encN_eq]
  refine ⟨a, ha, rfl, ifP_intro (fun _ => ⟨trivial, trivial⟩) fun h1 => ⟨b, hb, rfl, ifP_intro (fun _ => ⟨trivial, trivial⟩) fun h2 => ifP_intro (fun _ => ⟨trivial, trivial⟩) fun h3 => ?_⟩⟩
  have hs : a.size < 1000 := by
    have : 0 < a.left 600 := by simpa using h1
    have := Nd.left_pos this
    omega
  refine ⟨a, nm, ha, rfl, a, nm, ha, rfl, ifP_intro (fun _ => ifP_intro (fun _ => ⟨a, hs, rfl, a, hs, rfl, ifP_intro (fun _ => ⟨a, b, hs, ha, hb, rfl, a, b, hs, ha, hb, rfl, ifP_intro (fun _ => ⟨a, a, hs, ha, ha, rfl, ifP_intro (fun _ => ⟨trivial, trivial⟩) fun hc => ?_⟩) fun hc => ?_⟩) fun hc => ?_⟩) fun hc => ?_) fun hc => ?_⟩
  · rw [Nd.same_refl] at hc; cases hc
  all_goals simp at hc
end Go.Proofs.Ytpfbpidlglelgaa
end

section
namespace Go.Proofs.Ytpfbpidlglelgaa
open Go.Ai Go
set_option linter.unusedVariables false

def plainS : List TypeId := [3, 9, 22, 23, 25, 41]
theorem plainS_ok : closedT Try.prog plainS plainS = true := by kernel_rfl

theorem wt_int {n : Nat} {xs : List AV} (h : wt Try.prog n 3 xs) : ∃ z, (Lit.int .i64 z).wf = true ∧ xs = [.int .i64 z] := by
  cases n with
  | zero => exact h.elim
  | succ n => simpa only [wt, Try.underlying3] using h
theorem wt_str {n : Nat} {xs : List AV} (h : wt Try.prog n 9 xs) : ∃ s : List UInt8, s.length ≤ maxLen ∧ xs = [.str s] := by
  cases n with
  | zero => exact h.elim
  | succ n => simpa only [wt, Try.underlying9] using h

theorem wt_att {n : Nat} {xs : List AV} (h : wt Try.prog n 41 xs) : ∃ a : Att, a.fit ∧ xs = encA a := by
  cases n with
  | zero => exact h.elim
  | succ n =>
    simp only [wt, Try.underlying41] at h
    obtain ⟨yss, h, rfl⟩ := h
    match yss, h with
    | [y0, y1, y2], ⟨h0, h1, h2, _⟩ =>
      obtain ⟨s0, q0, rfl⟩ := wt_str h0
      obtain ⟨s1, q1, rfl⟩ := wt_str h1
      obtain ⟨z, _, rfl⟩ := wt_int h2
      exact ⟨⟨s0, s1, z⟩, ⟨q0, q1⟩, rfl⟩

theorem wt_atts {n : Nat} {xs : List AV} (h : wt Try.prog n 22 xs) : ∃ l : List Att, l.length ≤ lim ∧ (∀ a ∈ l, a.fit) ∧ xs = [.sl 3 (l.map encA) none] := by
  cases n with
  | zero => exact h.elim
  | succ n =>
    simp only [wt, Try.underlying22] at h
    obtain ⟨es, hl, rfl, hm⟩ := h
    have key : ∀ es : List (List AV), (∀ x ∈ es, wt Try.prog n 41 x) → ∃ l : List Att, es.length = l.length ∧ (∀ a ∈ l, a.fit) ∧ es = l.map encA := by
      intro es
      induction es with
      | nil => exact fun _ => ⟨[], rfl, by simp, rfl⟩
      | cons e es ih =>
        intro hm
        obtain ⟨a, h1, rfl⟩ := wt_att (hm e (by simp))
        obtain ⟨l, h2, h3, rfl⟩ := ih fun x hx => hm x (by simp [hx])
        exact ⟨a :: l, by simp, by simpa using ⟨h1, h3⟩, rfl⟩
    obtain ⟨l, h1, h2, rfl⟩ := key es hm
    exact ⟨l, by rw [← h1]; exact hl, h2, rfl⟩

theorem wt_parts {n : Nat} {xs : List AV} (h : wt Try.prog (n + 1) 25 xs) : ∃ y0 y1 y2 y3 y4, wt Try.prog n 3 y0 ∧ wt Try.prog n 3 y1 ∧ wt Try.prog n 9 y2 ∧ wt Try.prog n 22 y3 ∧ wt Try.prog n 23 y4 ∧ xs = y0 ++ (y1 ++ (y2 ++ (y3 ++ y4))) := by
  rw [wt, Try.underlying25] at h
  obtain ⟨yss, h, rfl⟩ := h
  match yss, h with
  | [y0, y1, y2, y3, y4], ⟨h0, h1, h2, h3, h4, _⟩ => exact ⟨y0, y1, y2, y3, y4, h0, h1, h2, h3, h4, by simp⟩

theorem wt_node : ∀ (n : Nat) {xs : List AV}, wt Try.prog n 25 xs → ∃ nd : Nd, nd.fit ∧ xs = encN nd := by
  intro n
  induction n using Nat.strongRecOn with
  | ind n ih =>
    intro xs h
    cases n with
    | zero => exact h.elim
    | succ n =>
      obtain ⟨y0, y1, y2, y3, y4, h0, h1, h2, h3, h4, rfl⟩ := wt_parts h
      obtain ⟨k, _, rfl⟩ := wt_int h0
      obtain ⟨p, _, rfl⟩ := wt_int h1
      obtain ⟨t, q2, rfl⟩ := wt_str h2
      obtain ⟨al, q3, q3', rfl⟩ := wt_atts h3
      cases n with
      | zero => exact h4.elim
      | succ n =>
        rw [wt, Try.underlying23] at h4
        obtain ⟨es, hl, rfl, hm⟩ := h4
        have key : ∀ es : List (List AV), (∀ x ∈ es, wt Try.prog n 25 x) → ∃ l : List Nd, es.length = l.length ∧ fits l ∧ es = encNs l := by
          intro es
          induction es with
          | nil => exact fun _ => ⟨[], rfl, trivial, rfl⟩
          | cons e es ih' =>
            intro hm
            obtain ⟨a, h1, rfl⟩ := ih n (by omega) (hm e (by simp))
            obtain ⟨l, h2, h3, rfl⟩ := ih' fun x hx => hm x (by simp [hx])
            exact ⟨a :: l, by simpa using h2, ⟨h1, h3⟩, rfl⟩
        obtain ⟨l, h1, h2, rfl⟩ := key es hm
        exact ⟨.mk k p t al l, ⟨q2, q3, q3', by rw [← h1]; exact hl, h2⟩, rfl⟩

theorem arg_node {n : Nat} {v : AV} (h : argOf Try.prog n 25 v) : ∃ nd : Nd, nd.fit ∧ v = .agg (encN nd) := by
  obtain ⟨xs, rfl, h⟩ := h
  obtain ⟨nd, h1, rfl⟩ := wt_node _ h
  exact ⟨nd, h1, rfl⟩
theorem arg_str {n : Nat} {v : AV} (h : argOf Try.prog n 9 v) : ∃ s : List UInt8, s.length ≤ maxLen ∧ v = .str s := by
  obtain ⟨s, h1, h2⟩ := wt_str (show wt Try.prog n 9 [v] from h)
  injection h2 with h2 _
  exact ⟨s, h1, h2⟩
theorem arg_int {n : Nat} {v : AV} (h : argOf Try.prog n 3 v) : ∃ z : Int, (Lit.int .i64 z).wf = true ∧ v = .int .i64 z := by
  obtain ⟨s, h1, h2⟩ := wt_int (show wt Try.prog n 3 [v] from h)
  injection h2 with h2 _
  exact ⟨s, h1, h2⟩
end Go.Proofs.Ytpfbpidlglelgaa
end
