/-
  Runs of functions of start lines, printed by a home tool; each is the kernel's word.
  Start lines: the program's readers keep to their contracts.
  Start lines: the program's readers of a request's line and of a reply's keep to their contracts.
-/
import Derived.Test.YtahojaolkehojaaDoorCfg
import Derived.Test.YtahojaolkehojaaDoorJLa
import Derived.Test.YtahojaolkehojaaDoorJLb
section
namespace Go.Proofs.YtahojaolkehojaaDoor
open Go.Ai Go
set_option maxRecDepth 100000
set_option linter.unusedVariables false
theorem t22_1 {K : AV → Hp → Prop} {t0 t1 t2 t3 t4 : Nat} {k2 k3 : IntKind} {a b r : List UInt8} {c e : Int} {bad : Bool}  (hT : TabOk cfg (ctab [(38, cutC)])) (H :
    ∃ (s1 : List UInt8), List.length s1 ≤ 100000 ∧ [AV.str r, AV.str [32]] = [AV.str s1, AV.str [32]] ∧ ifP bad (K (AV.str (Prod.fst (cutB s1))) [Blk.mem t0 [AV.str a], Blk.mem t1 [AV.str b], Blk.mem t2 [AV.int k2 c], Blk.mem t3 [AV.int k3 e], Blk.mem t4 [AV.str (Prod.fst (Prod.snd (cutB s1))), AV.bool true]]) (K (AV.str (Prod.fst (cutB s1))) [Blk.mem t0 [AV.str a], Blk.mem t1 [AV.str b], Blk.mem t2 [AV.int k2 c], Blk.mem t3 [AV.int k3 e], Blk.mem t4 [AV.str (Prod.fst (Prod.snd (cutB s1))), AV.bool !Prod.snd (Prod.snd (cutB s1))]])) :
    ToEnd cfg 22 (bodyOf Tryd.f22) (RetIn Tryd.prog Tryd.f22 5 K) ([.code []]) .normal ([(0, true, .ptr 4 0)]) ([.mem t0 [.str a], .mem t1 [.str b], .mem t2 [.int k2 c], .mem t3 [.int k3 e], .mem t4 [.str r, .bool bad]]) := by
  have e : unr cfg 22 (bodyOf Tryd.f22) (ctab [(38, cutC)]) ⟨[], []⟩ (RetIn Tryd.prog Tryd.f22 5 K) 100000 ([.code []]) .normal ([(0, true, .ptr 4 0)]) ([.mem t0 [.str a], .mem t1 [.str b], .mem t2 [.int k2 c], .mem t3 [.int k3 e], .mem t4 [.str r, .bool bad]]) =
    (∃ (s1 : List UInt8), List.length s1 ≤ 100000 ∧ [AV.str r, AV.str [32]] = [AV.str s1, AV.str [32]] ∧ ifP bad (K (AV.str (Prod.fst (cutB s1))) [Blk.mem t0 [AV.str a], Blk.mem t1 [AV.str b], Blk.mem t2 [AV.int k2 c], Blk.mem t3 [AV.int k3 e], Blk.mem t4 [AV.str (Prod.fst (Prod.snd (cutB s1))), AV.bool true]]) (K (AV.str (Prod.fst (cutB s1))) [Blk.mem t0 [AV.str a], Blk.mem t1 [AV.str b], Blk.mem t2 [AV.int k2 c], Blk.mem t3 [AV.int k3 e], Blk.mem t4 [AV.str (Prod.fst (Prod.snd (cutB s1))), AV.bool !Prod.snd (Prod.snd (cutB s1))]])) := by kernel_rfl
  exact unr_ok hT 100000 _ _ _ _ (e.mpr H)

theorem t22_2 {K : AV → Hp → Prop} {t0 t1 t2 t3 t4 : Nat} {k0 k2 k3 : IntKind} {b r : List UInt8} {a c e : Int} {bad : Bool}  (hT : TabOk cfg (ctab [(38, cutC)])) (H :
    ∃ (s1 : List UInt8), List.length s1 ≤ 100000 ∧ [AV.str r, AV.str [32]] = [AV.str s1, AV.str [32]] ∧ ifP bad (K (AV.str (Prod.fst (cutB s1))) [Blk.mem t0 [AV.int k0 a], Blk.mem t1 [AV.str b], Blk.mem t2 [AV.int k2 c], Blk.mem t3 [AV.int k3 e], Blk.mem t4 [AV.str (Prod.fst (Prod.snd (cutB s1))), AV.bool true]]) (K (AV.str (Prod.fst (cutB s1))) [Blk.mem t0 [AV.int k0 a], Blk.mem t1 [AV.str b], Blk.mem t2 [AV.int k2 c], Blk.mem t3 [AV.int k3 e], Blk.mem t4 [AV.str (Prod.fst (Prod.snd (cutB s1))), AV.bool !Prod.snd (Prod.snd (cutB s1))]])) :
    ToEnd cfg 22 (bodyOf Tryd.f22) (RetIn Tryd.prog Tryd.f22 5 K) ([.code []]) .normal ([(0, true, .ptr 4 0)]) ([.mem t0 [.int k0 a], .mem t1 [.str b], .mem t2 [.int k2 c], .mem t3 [.int k3 e], .mem t4 [.str r, .bool bad]]) := by
  have e : unr cfg 22 (bodyOf Tryd.f22) (ctab [(38, cutC)]) ⟨[], []⟩ (RetIn Tryd.prog Tryd.f22 5 K) 100000 ([.code []]) .normal ([(0, true, .ptr 4 0)]) ([.mem t0 [.int k0 a], .mem t1 [.str b], .mem t2 [.int k2 c], .mem t3 [.int k3 e], .mem t4 [.str r, .bool bad]]) =
    (∃ (s1 : List UInt8), List.length s1 ≤ 100000 ∧ [AV.str r, AV.str [32]] = [AV.str s1, AV.str [32]] ∧ ifP bad (K (AV.str (Prod.fst (cutB s1))) [Blk.mem t0 [AV.int k0 a], Blk.mem t1 [AV.str b], Blk.mem t2 [AV.int k2 c], Blk.mem t3 [AV.int k3 e], Blk.mem t4 [AV.str (Prod.fst (Prod.snd (cutB s1))), AV.bool true]]) (K (AV.str (Prod.fst (cutB s1))) [Blk.mem t0 [AV.int k0 a], Blk.mem t1 [AV.str b], Blk.mem t2 [AV.int k2 c], Blk.mem t3 [AV.int k3 e], Blk.mem t4 [AV.str (Prod.fst (Prod.snd (cutB s1))), AV.bool !Prod.snd (Prod.snd (cutB s1))]])) := by kernel_rfl
  exact unr_ok hT 100000 _ _ _ _ (e.mpr H)

theorem t23_1 {K : AV → Hp → Prop} {t0 t1 t2 t3 t4 : Nat} {k2 k3 : IntKind} {a b r : List UInt8} {c e : Int} {bad : Bool} {l s : List UInt8} (hT : TabOk cfg (ctab [(24, holdsC)])) (H :
    ifP bad (K (AV.tup []) [Blk.mem t0 [AV.str a], Blk.mem t1 [AV.str b], Blk.mem t2 [AV.int k2 c], Blk.mem t3 [AV.int k3 e], Blk.mem t4 [AV.str r, AV.bool true]]) (∃ (l1 : List UInt8), ∃ (s2 : List UInt8), List.length l1 ≤ 6 ∧ List.length l1 % 2 = 0 ∧ List.length s2 ≤ 100000 ∧ [AV.str l, AV.str s] = [AV.str l1, AV.str s2] ∧ K (AV.tup []) [Blk.mem t0 [AV.str a], Blk.mem t1 [AV.str b], Blk.mem t2 [AV.int k2 c], Blk.mem t3 [AV.int k3 e], Blk.mem t4 [AV.str r, AV.bool !List.all s2 (inL l1)]])) :
    ToEnd cfg 23 (bodyOf Tryd.f23) (RetIn Tryd.prog Tryd.f23 5 K) ([.code []]) .normal ([(0, true, .ptr 4 0), (1, true, .fn (.func 24) [] []), (2, true, .str l), (3, true, .str s)]) ([.mem t0 [.str a], .mem t1 [.str b], .mem t2 [.int k2 c], .mem t3 [.int k3 e], .mem t4 [.str r, .bool bad]]) := by
  have e : unr cfg 23 (bodyOf Tryd.f23) (ctab [(24, holdsC)]) ⟨[], []⟩ (RetIn Tryd.prog Tryd.f23 5 K) 100000 ([.code []]) .normal ([(0, true, .ptr 4 0), (1, true, .fn (.func 24) [] []), (2, true, .str l), (3, true, .str s)]) ([.mem t0 [.str a], .mem t1 [.str b], .mem t2 [.int k2 c], .mem t3 [.int k3 e], .mem t4 [.str r, .bool bad]]) =
    (ifP bad (K (AV.tup []) [Blk.mem t0 [AV.str a], Blk.mem t1 [AV.str b], Blk.mem t2 [AV.int k2 c], Blk.mem t3 [AV.int k3 e], Blk.mem t4 [AV.str r, AV.bool true]]) (∃ (l1 : List UInt8), ∃ (s2 : List UInt8), List.length l1 ≤ 6 ∧ List.length l1 % 2 = 0 ∧ List.length s2 ≤ 100000 ∧ [AV.str l, AV.str s] = [AV.str l1, AV.str s2] ∧ K (AV.tup []) [Blk.mem t0 [AV.str a], Blk.mem t1 [AV.str b], Blk.mem t2 [AV.int k2 c], Blk.mem t3 [AV.int k3 e], Blk.mem t4 [AV.str r, AV.bool !List.all s2 (inL l1)]])) := by kernel_rfl
  exact unr_ok hT 100000 _ _ _ _ (e.mpr H)

theorem t23_2 {K : AV → Hp → Prop} {t0 t1 t2 t3 t4 : Nat} {k0 k2 k3 : IntKind} {b r : List UInt8} {a c e : Int} {bad : Bool} {l s : List UInt8} (hT : TabOk cfg (ctab [(24, holdsC)])) (H :
    ifP bad (K (AV.tup []) [Blk.mem t0 [AV.int k0 a], Blk.mem t1 [AV.str b], Blk.mem t2 [AV.int k2 c], Blk.mem t3 [AV.int k3 e], Blk.mem t4 [AV.str r, AV.bool true]]) (∃ (l1 : List UInt8), ∃ (s2 : List UInt8), List.length l1 ≤ 6 ∧ List.length l1 % 2 = 0 ∧ List.length s2 ≤ 100000 ∧ [AV.str l, AV.str s] = [AV.str l1, AV.str s2] ∧ K (AV.tup []) [Blk.mem t0 [AV.int k0 a], Blk.mem t1 [AV.str b], Blk.mem t2 [AV.int k2 c], Blk.mem t3 [AV.int k3 e], Blk.mem t4 [AV.str r, AV.bool !List.all s2 (inL l1)]])) :
    ToEnd cfg 23 (bodyOf Tryd.f23) (RetIn Tryd.prog Tryd.f23 5 K) ([.code []]) .normal ([(0, true, .ptr 4 0), (1, true, .fn (.func 24) [] []), (2, true, .str l), (3, true, .str s)]) ([.mem t0 [.int k0 a], .mem t1 [.str b], .mem t2 [.int k2 c], .mem t3 [.int k3 e], .mem t4 [.str r, .bool bad]]) := by
  have e : unr cfg 23 (bodyOf Tryd.f23) (ctab [(24, holdsC)]) ⟨[], []⟩ (RetIn Tryd.prog Tryd.f23 5 K) 100000 ([.code []]) .normal ([(0, true, .ptr 4 0), (1, true, .fn (.func 24) [] []), (2, true, .str l), (3, true, .str s)]) ([.mem t0 [.int k0 a], .mem t1 [.str b], .mem t2 [.int k2 c], .mem t3 [.int k3 e], .mem t4 [.str r, .bool bad]]) =
    (ifP bad (K (AV.tup []) [Blk.mem t0 [AV.int k0 a], Blk.mem t1 [AV.str b], Blk.mem t2 [AV.int k2 c], Blk.mem t3 [AV.int k3 e], Blk.mem t4 [AV.str r, AV.bool true]]) (∃ (l1 : List UInt8), ∃ (s2 : List UInt8), List.length l1 ≤ 6 ∧ List.length l1 % 2 = 0 ∧ List.length s2 ≤ 100000 ∧ [AV.str l, AV.str s] = [AV.str l1, AV.str s2] ∧ K (AV.tup []) [Blk.mem t0 [AV.int k0 a], Blk.mem t1 [AV.str b], Blk.mem t2 [AV.int k2 c], Blk.mem t3 [AV.int k3 e], Blk.mem t4 [AV.str r, AV.bool !List.all s2 (inL l1)]])) := by kernel_rfl
  exact unr_ok hT 100000 _ _ _ _ (e.mpr H)

theorem t26_1 {K : AV → Hp → Prop} {t0 t1 t2 t3 t4 : Nat} {k2 k3 : IntKind} {a b r : List UInt8} {c e : Int} {bad : Bool} {s : List UInt8} (hT : TabOk cfg (ctab [(40, cutPC), (41, byteC isDg)])) (H :
    ∃ (s1 : List UInt8), ∃ (x2 : List UInt8), [AV.str s, AV.str [72, 84, 84, 80, 47]] = [AV.str s1, AV.str x2] ∧ ifP bad (K (AV.tup [AV.int IntKind.i64 0, AV.int IntKind.i64 4]) [Blk.mem t0 [AV.str a], Blk.mem t1 [AV.str b], Blk.mem t2 [AV.int k2 c], Blk.mem t3 [AV.int k3 e], Blk.mem t4 [AV.str r, AV.bool true]]) (ifP (!Prod.snd (cutP s1 x2)) (K (AV.tup [AV.int IntKind.i64 0, AV.int IntKind.i64 4]) [Blk.mem t0 [AV.str a], Blk.mem t1 [AV.str b], Blk.mem t2 [AV.int k2 c], Blk.mem t3 [AV.int k3 e], Blk.mem t4 [AV.str r, AV.bool true]]) (ifP ((↑(List.length (Prod.fst (cutP s1 x2))) : Int) != 3) (K (AV.tup [AV.int IntKind.i64 0, AV.int IntKind.i64 4]) [Blk.mem t0 [AV.str a], Blk.mem t1 [AV.str b], Blk.mem t2 [AV.int k2 c], Blk.mem t3 [AV.int k3 e], Blk.mem t4 [AV.str r, AV.bool true]]) (gAnd (inR 0 (List.length (Prod.fst (cutP s1 x2)))) (∃ (c3 : UInt8), [AV.int IntKind.u8 (↑(UInt8.toNat (List.getD (Prod.fst (cutP s1 x2)) 0 0)) : Int)] = [AV.int IntKind.u8 (↑(UInt8.toNat c3) : Int)] ∧ ifP (!isDg c3) (K (AV.tup [AV.int IntKind.i64 0, AV.int IntKind.i64 4]) [Blk.mem t0 [AV.str a], Blk.mem t1 [AV.str b], Blk.mem t2 [AV.int k2 c], Blk.mem t3 [AV.int k3 e], Blk.mem t4 [AV.str r, AV.bool true]]) (gAnd (inR 1 (List.length (Prod.fst (cutP s1 x2)))) (ifP ((↑(UInt8.toNat (List.getD (Prod.fst (cutP s1 x2)) 1 0)) : Int) != 46) (K (AV.tup [AV.int IntKind.i64 0, AV.int IntKind.i64 4]) [Blk.mem t0 [AV.str a], Blk.mem t1 [AV.str b], Blk.mem t2 [AV.int k2 c], Blk.mem t3 [AV.int k3 e], Blk.mem t4 [AV.str r, AV.bool true]]) (gAnd (inR 2 (List.length (Prod.fst (cutP s1 x2)))) (∃ (c4 : UInt8), [AV.int IntKind.u8 (↑(UInt8.toNat (List.getD (Prod.fst (cutP s1 x2)) 2 0)) : Int)] = [AV.int IntKind.u8 (↑(UInt8.toNat c4) : Int)] ∧ ifP (!isDg c4) (K (AV.tup [AV.int IntKind.i64 0, AV.int IntKind.i64 4]) [Blk.mem t0 [AV.str a], Blk.mem t1 [AV.str b], Blk.mem t2 [AV.int k2 c], Blk.mem t3 [AV.int k3 e], Blk.mem t4 [AV.str r, AV.bool true]]) (gAnd (inR 0 (List.length (Prod.fst (cutP s1 x2)))) (ifP ((↑(UInt8.toNat (List.getD (Prod.fst (cutP s1 x2)) 0 0)) : Int) != 49) (K (AV.tup [AV.int IntKind.i64 0, AV.int IntKind.i64 9]) [Blk.mem t0 [AV.str a], Blk.mem t1 [AV.str b], Blk.mem t2 [AV.int k2 c], Blk.mem t3 [AV.int k3 e], Blk.mem t4 [AV.str r, AV.bool bad]]) (gAnd (inR 2 (List.length (Prod.fst (cutP s1 x2)))) (K (AV.tup [AV.int IntKind.i64 (min 1 (IntKind.wrap IntKind.i64 (IntKind.wrap IntKind.u8 ((↑(UInt8.toNat (List.getD (Prod.fst (cutP s1 x2)) 2 0)) : Int) - 48)))), AV.int IntKind.i64 0]) [Blk.mem t0 [AV.str a], Blk.mem t1 [AV.str b], Blk.mem t2 [AV.int k2 c], Blk.mem t3 [AV.int k3 e], Blk.mem t4 [AV.str r, AV.bool bad]]))))))))))))) :
    ToEnd cfg 26 (bodyOf Tryd.f26) (RetIn Tryd.prog Tryd.f26 5 K) ([.code []]) .normal ([(0, true, .ptr 4 0), (1, true, .str s)]) ([.mem t0 [.str a], .mem t1 [.str b], .mem t2 [.int k2 c], .mem t3 [.int k3 e], .mem t4 [.str r, .bool bad]]) := by
  have e : unr cfg 26 (bodyOf Tryd.f26) (ctab [(40, cutPC), (41, byteC isDg)]) ⟨[], []⟩ (RetIn Tryd.prog Tryd.f26 5 K) 100000 ([.code []]) .normal ([(0, true, .ptr 4 0), (1, true, .str s)]) ([.mem t0 [.str a], .mem t1 [.str b], .mem t2 [.int k2 c], .mem t3 [.int k3 e], .mem t4 [.str r, .bool bad]]) =
    (∃ (s1 : List UInt8), ∃ (x2 : List UInt8), [AV.str s, AV.str [72, 84, 84, 80, 47]] = [AV.str s1, AV.str x2] ∧ ifP bad (K (AV.tup [AV.int IntKind.i64 0, AV.int IntKind.i64 4]) [Blk.mem t0 [AV.str a], Blk.mem t1 [AV.str b], Blk.mem t2 [AV.int k2 c], Blk.mem t3 [AV.int k3 e], Blk.mem t4 [AV.str r, AV.bool true]]) (ifP (!Prod.snd (cutP s1 x2)) (K (AV.tup [AV.int IntKind.i64 0, AV.int IntKind.i64 4]) [Blk.mem t0 [AV.str a], Blk.mem t1 [AV.str b], Blk.mem t2 [AV.int k2 c], Blk.mem t3 [AV.int k3 e], Blk.mem t4 [AV.str r, AV.bool true]]) (ifP ((↑(List.length (Prod.fst (cutP s1 x2))) : Int) != 3) (K (AV.tup [AV.int IntKind.i64 0, AV.int IntKind.i64 4]) [Blk.mem t0 [AV.str a], Blk.mem t1 [AV.str b], Blk.mem t2 [AV.int k2 c], Blk.mem t3 [AV.int k3 e], Blk.mem t4 [AV.str r, AV.bool true]]) (gAnd (inR 0 (List.length (Prod.fst (cutP s1 x2)))) (∃ (c3 : UInt8), [AV.int IntKind.u8 (↑(UInt8.toNat (List.getD (Prod.fst (cutP s1 x2)) 0 0)) : Int)] = [AV.int IntKind.u8 (↑(UInt8.toNat c3) : Int)] ∧ ifP (!isDg c3) (K (AV.tup [AV.int IntKind.i64 0, AV.int IntKind.i64 4]) [Blk.mem t0 [AV.str a], Blk.mem t1 [AV.str b], Blk.mem t2 [AV.int k2 c], Blk.mem t3 [AV.int k3 e], Blk.mem t4 [AV.str r, AV.bool true]]) (gAnd (inR 1 (List.length (Prod.fst (cutP s1 x2)))) (ifP ((↑(UInt8.toNat (List.getD (Prod.fst (cutP s1 x2)) 1 0)) : Int) != 46) (K (AV.tup [AV.int IntKind.i64 0, AV.int IntKind.i64 4]) [Blk.mem t0 [AV.str a], Blk.mem t1 [AV.str b], Blk.mem t2 [AV.int k2 c], Blk.mem t3 [AV.int k3 e], Blk.mem t4 [AV.str r, AV.bool true]]) (gAnd (inR 2 (List.length (Prod.fst (cutP s1 x2)))) (∃ (c4 : UInt8), [AV.int IntKind.u8 (↑(UInt8.toNat (List.getD (Prod.fst (cutP s1 x2)) 2 0)) : Int)] = [AV.int IntKind.u8 (↑(UInt8.toNat c4) : Int)] ∧ ifP (!isDg c4) (K (AV.tup [AV.int IntKind.i64 0, AV.int IntKind.i64 4]) [Blk.mem t0 [AV.str a], Blk.mem t1 [AV.str b], Blk.mem t2 [AV.int k2 c], Blk.mem t3 [AV.int k3 e], Blk.mem t4 [AV.str r, AV.bool true]]) (gAnd (inR 0 (List.length (Prod.fst (cutP s1 x2)))) (ifP ((↑(UInt8.toNat (List.getD (Prod.fst (cutP s1 x2)) 0 0)) : Int) != 49) (K (AV.tup [AV.int IntKind.i64 0, AV.int IntKind.i64 9]) [Blk.mem t0 [AV.str a], Blk.mem t1 [AV.str b], Blk.mem t2 [AV.int k2 c], Blk.mem t3 [AV.int k3 e], Blk.mem t4 [AV.str r, AV.bool bad]]) (gAnd (inR 2 (List.length (Prod.fst (cutP s1 x2)))) (K (AV.tup [AV.int IntKind.i64 (min 1 (IntKind.wrap IntKind.i64 (IntKind.wrap IntKind.u8 ((↑(UInt8.toNat (List.getD (Prod.fst (cutP s1 x2)) 2 0)) : Int) - 48)))), AV.int IntKind.i64 0]) [Blk.mem t0 [AV.str a], Blk.mem t1 [AV.str b], Blk.mem t2 [AV.int k2 c], Blk.mem t3 [AV.int k3 e], Blk.mem t4 [AV.str r, AV.bool bad]]))))))))))))) := by kernel_rfl
  exact unr_ok hT 100000 _ _ _ _ (e.mpr H)

theorem t26_2 {K : AV → Hp → Prop} {t0 t1 t2 t3 t4 : Nat} {k0 k2 k3 : IntKind} {b r : List UInt8} {a c e : Int} {bad : Bool} {s : List UInt8} (hT : TabOk cfg (ctab [(40, cutPC), (41, byteC isDg)])) (H :
    ∃ (s1 : List UInt8), ∃ (x2 : List UInt8), [AV.str s, AV.str [72, 84, 84, 80, 47]] = [AV.str s1, AV.str x2] ∧ ifP bad (K (AV.tup [AV.int IntKind.i64 0, AV.int IntKind.i64 4]) [Blk.mem t0 [AV.int k0 a], Blk.mem t1 [AV.str b], Blk.mem t2 [AV.int k2 c], Blk.mem t3 [AV.int k3 e], Blk.mem t4 [AV.str r, AV.bool true]]) (ifP (!Prod.snd (cutP s1 x2)) (K (AV.tup [AV.int IntKind.i64 0, AV.int IntKind.i64 4]) [Blk.mem t0 [AV.int k0 a], Blk.mem t1 [AV.str b], Blk.mem t2 [AV.int k2 c], Blk.mem t3 [AV.int k3 e], Blk.mem t4 [AV.str r, AV.bool true]]) (ifP ((↑(List.length (Prod.fst (cutP s1 x2))) : Int) != 3) (K (AV.tup [AV.int IntKind.i64 0, AV.int IntKind.i64 4]) [Blk.mem t0 [AV.int k0 a], Blk.mem t1 [AV.str b], Blk.mem t2 [AV.int k2 c], Blk.mem t3 [AV.int k3 e], Blk.mem t4 [AV.str r, AV.bool true]]) (gAnd (inR 0 (List.length (Prod.fst (cutP s1 x2)))) (∃ (c3 : UInt8), [AV.int IntKind.u8 (↑(UInt8.toNat (List.getD (Prod.fst (cutP s1 x2)) 0 0)) : Int)] = [AV.int IntKind.u8 (↑(UInt8.toNat c3) : Int)] ∧ ifP (!isDg c3) (K (AV.tup [AV.int IntKind.i64 0, AV.int IntKind.i64 4]) [Blk.mem t0 [AV.int k0 a], Blk.mem t1 [AV.str b], Blk.mem t2 [AV.int k2 c], Blk.mem t3 [AV.int k3 e], Blk.mem t4 [AV.str r, AV.bool true]]) (gAnd (inR 1 (List.length (Prod.fst (cutP s1 x2)))) (ifP ((↑(UInt8.toNat (List.getD (Prod.fst (cutP s1 x2)) 1 0)) : Int) != 46) (K (AV.tup [AV.int IntKind.i64 0, AV.int IntKind.i64 4]) [Blk.mem t0 [AV.int k0 a], Blk.mem t1 [AV.str b], Blk.mem t2 [AV.int k2 c], Blk.mem t3 [AV.int k3 e], Blk.mem t4 [AV.str r, AV.bool true]]) (gAnd (inR 2 (List.length (Prod.fst (cutP s1 x2)))) (∃ (c4 : UInt8), [AV.int IntKind.u8 (↑(UInt8.toNat (List.getD (Prod.fst (cutP s1 x2)) 2 0)) : Int)] = [AV.int IntKind.u8 (↑(UInt8.toNat c4) : Int)] ∧ ifP (!isDg c4) (K (AV.tup [AV.int IntKind.i64 0, AV.int IntKind.i64 4]) [Blk.mem t0 [AV.int k0 a], Blk.mem t1 [AV.str b], Blk.mem t2 [AV.int k2 c], Blk.mem t3 [AV.int k3 e], Blk.mem t4 [AV.str r, AV.bool true]]) (gAnd (inR 0 (List.length (Prod.fst (cutP s1 x2)))) (ifP ((↑(UInt8.toNat (List.getD (Prod.fst (cutP s1 x2)) 0 0)) : Int) != 49) (K (AV.tup [AV.int IntKind.i64 0, AV.int IntKind.i64 9]) [Blk.mem t0 [AV.int k0 a], Blk.mem t1 [AV.str b], Blk.mem t2 [AV.int k2 c], Blk.mem t3 [AV.int k3 e], Blk.mem t4 [AV.str r, AV.bool bad]]) (gAnd (inR 2 (List.length (Prod.fst (cutP s1 x2)))) (K (AV.tup [AV.int IntKind.i64 (min 1 (IntKind.wrap IntKind.i64 (IntKind.wrap IntKind.u8 ((↑(UInt8.toNat (List.getD (Prod.fst (cutP s1 x2)) 2 0)) : Int) - 48)))), AV.int IntKind.i64 0]) [Blk.mem t0 [AV.int k0 a], Blk.mem t1 [AV.str b], Blk.mem t2 [AV.int k2 c], Blk.mem t3 [AV.int k3 e], Blk.mem t4 [AV.str r, AV.bool bad]]))))))))))))) :
    ToEnd cfg 26 (bodyOf Tryd.f26) (RetIn Tryd.prog Tryd.f26 5 K) ([.code []]) .normal ([(0, true, .ptr 4 0), (1, true, .str s)]) ([.mem t0 [.int k0 a], .mem t1 [.str b], .mem t2 [.int k2 c], .mem t3 [.int k3 e], .mem t4 [.str r, .bool bad]]) := by
  have e : unr cfg 26 (bodyOf Tryd.f26) (ctab [(40, cutPC), (41, byteC isDg)]) ⟨[], []⟩ (RetIn Tryd.prog Tryd.f26 5 K) 100000 ([.code []]) .normal ([(0, true, .ptr 4 0), (1, true, .str s)]) ([.mem t0 [.int k0 a], .mem t1 [.str b], .mem t2 [.int k2 c], .mem t3 [.int k3 e], .mem t4 [.str r, .bool bad]]) =
    (∃ (s1 : List UInt8), ∃ (x2 : List UInt8), [AV.str s, AV.str [72, 84, 84, 80, 47]] = [AV.str s1, AV.str x2] ∧ ifP bad (K (AV.tup [AV.int IntKind.i64 0, AV.int IntKind.i64 4]) [Blk.mem t0 [AV.int k0 a], Blk.mem t1 [AV.str b], Blk.mem t2 [AV.int k2 c], Blk.mem t3 [AV.int k3 e], Blk.mem t4 [AV.str r, AV.bool true]]) (ifP (!Prod.snd (cutP s1 x2)) (K (AV.tup [AV.int IntKind.i64 0, AV.int IntKind.i64 4]) [Blk.mem t0 [AV.int k0 a], Blk.mem t1 [AV.str b], Blk.mem t2 [AV.int k2 c], Blk.mem t3 [AV.int k3 e], Blk.mem t4 [AV.str r, AV.bool true]]) (ifP ((↑(List.length (Prod.fst (cutP s1 x2))) : Int) != 3) (K (AV.tup [AV.int IntKind.i64 0, AV.int IntKind.i64 4]) [Blk.mem t0 [AV.int k0 a], Blk.mem t1 [AV.str b], Blk.mem t2 [AV.int k2 c], Blk.mem t3 [AV.int k3 e], Blk.mem t4 [AV.str r, AV.bool true]]) (gAnd (inR 0 (List.length (Prod.fst (cutP s1 x2)))) (∃ (c3 : UInt8), [AV.int IntKind.u8 (↑(UInt8.toNat (List.getD (Prod.fst (cutP s1 x2)) 0 0)) : Int)] = [AV.int IntKind.u8 (↑(UInt8.toNat c3) : Int)] ∧ ifP (!isDg c3) (K (AV.tup [AV.int IntKind.i64 0, AV.int IntKind.i64 4]) [Blk.mem t0 [AV.int k0 a], Blk.mem t1 [AV.str b], Blk.mem t2 [AV.int k2 c], Blk.mem t3 [AV.int k3 e], Blk.mem t4 [AV.str r, AV.bool true]]) (gAnd (inR 1 (List.length (Prod.fst (cutP s1 x2)))) (ifP ((↑(UInt8.toNat (List.getD (Prod.fst (cutP s1 x2)) 1 0)) : Int) != 46) (K (AV.tup [AV.int IntKind.i64 0, AV.int IntKind.i64 4]) [Blk.mem t0 [AV.int k0 a], Blk.mem t1 [AV.str b], Blk.mem t2 [AV.int k2 c], Blk.mem t3 [AV.int k3 e], Blk.mem t4 [AV.str r, AV.bool true]]) (gAnd (inR 2 (List.length (Prod.fst (cutP s1 x2)))) (∃ (c4 : UInt8), [AV.int IntKind.u8 (↑(UInt8.toNat (List.getD (Prod.fst (cutP s1 x2)) 2 0)) : Int)] = [AV.int IntKind.u8 (↑(UInt8.toNat c4) : Int)] ∧ ifP (!isDg c4) (K (AV.tup [AV.int IntKind.i64 0, AV.int IntKind.i64 4]) [Blk.mem t0 [AV.int k0 a], Blk.mem t1 [AV.str b], Blk.mem t2 [AV.int k2 c], Blk.mem t3 [AV.int k3 e], Blk.mem t4 [AV.str r, AV.bool true]]) (gAnd (inR 0 (List.length (Prod.fst (cutP s1 x2)))) (ifP ((↑(UInt8.toNat (List.getD (Prod.fst (cutP s1 x2)) 0 0)) : Int) != 49) (K (AV.tup [AV.int IntKind.i64 0, AV.int IntKind.i64 9]) [Blk.mem t0 [AV.int k0 a], Blk.mem t1 [AV.str b], Blk.mem t2 [AV.int k2 c], Blk.mem t3 [AV.int k3 e], Blk.mem t4 [AV.str r, AV.bool bad]]) (gAnd (inR 2 (List.length (Prod.fst (cutP s1 x2)))) (K (AV.tup [AV.int IntKind.i64 (min 1 (IntKind.wrap IntKind.i64 (IntKind.wrap IntKind.u8 ((↑(UInt8.toNat (List.getD (Prod.fst (cutP s1 x2)) 2 0)) : Int) - 48)))), AV.int IntKind.i64 0]) [Blk.mem t0 [AV.int k0 a], Blk.mem t1 [AV.str b], Blk.mem t2 [AV.int k2 c], Blk.mem t3 [AV.int k3 e], Blk.mem t4 [AV.str r, AV.bool bad]]))))))))))))) := by kernel_rfl
  exact unr_ok hT 100000 _ _ _ _ (e.mpr H)

theorem t21 {K : AV → Hp → Prop} {t0 t1 t2 t3 t4 : Nat} {k2 : IntKind} {a b r : List UInt8} {c e : Int} {bad : Bool}  (hT : TabOk cfg (ctab [])) (H :
    ifP (e != 0) (K (AV.tup []) [Blk.mem t0 [AV.str []], Blk.mem t1 [AV.str []], Blk.mem t2 [AV.int IntKind.i64 0], Blk.mem t3 [AV.int IntKind.i64 e], Blk.mem t4 [AV.str r, AV.bool bad]]) (K (AV.tup []) [Blk.mem t0 [AV.str a], Blk.mem t1 [AV.str b], Blk.mem t2 [AV.int k2 c], Blk.mem t3 [AV.int IntKind.i64 e], Blk.mem t4 [AV.str r, AV.bool bad]])) :
    ToEnd cfg 21 (bodyOf Tryd.f21) (RetIn Tryd.prog Tryd.f21 5 K) ([.code []]) .normal ([(0, true, .ptr 3 0), (1, true, .ptr 0 0), (2, true, .ptr 1 0), (3, true, .ptr 2 0)]) ([.mem t0 [.str a], .mem t1 [.str b], .mem t2 [.int k2 c], .mem t3 [.int .i64 e], .mem t4 [.str r, .bool bad]]) := by
  have e : unr cfg 21 (bodyOf Tryd.f21) (ctab []) ⟨[], []⟩ (RetIn Tryd.prog Tryd.f21 5 K) 100000 ([.code []]) .normal ([(0, true, .ptr 3 0), (1, true, .ptr 0 0), (2, true, .ptr 1 0), (3, true, .ptr 2 0)]) ([.mem t0 [.str a], .mem t1 [.str b], .mem t2 [.int k2 c], .mem t3 [.int .i64 e], .mem t4 [.str r, .bool bad]]) =
    (ifP (e != 0) (K (AV.tup []) [Blk.mem t0 [AV.str []], Blk.mem t1 [AV.str []], Blk.mem t2 [AV.int IntKind.i64 0], Blk.mem t3 [AV.int IntKind.i64 e], Blk.mem t4 [AV.str r, AV.bool bad]]) (K (AV.tup []) [Blk.mem t0 [AV.str a], Blk.mem t1 [AV.str b], Blk.mem t2 [AV.int k2 c], Blk.mem t3 [AV.int IntKind.i64 e], Blk.mem t4 [AV.str r, AV.bool bad]])) := by kernel_rfl
  exact unr_ok hT 100000 _ _ _ _ (e.mpr H)

theorem t31 {K : AV → Hp → Prop} {t0 t1 t2 t3 t4 : Nat} {k0 k2 : IntKind} {b r : List UInt8} {a c e : Int} {bad : Bool}  (hT : TabOk cfg (ctab [])) (H :
    ifP (e != 0) (K (AV.tup []) [Blk.mem t0 [AV.int IntKind.i64 0], Blk.mem t1 [AV.str []], Blk.mem t2 [AV.int IntKind.i64 0], Blk.mem t3 [AV.int IntKind.i64 e], Blk.mem t4 [AV.str r, AV.bool bad]]) (K (AV.tup []) [Blk.mem t0 [AV.int k0 a], Blk.mem t1 [AV.str b], Blk.mem t2 [AV.int k2 c], Blk.mem t3 [AV.int IntKind.i64 e], Blk.mem t4 [AV.str r, AV.bool bad]])) :
    ToEnd cfg 31 (bodyOf Tryd.f31) (RetIn Tryd.prog Tryd.f31 5 K) ([.code []]) .normal ([(0, true, .ptr 3 0), (1, true, .ptr 0 0), (2, true, .ptr 1 0), (3, true, .ptr 2 0)]) ([.mem t0 [.int k0 a], .mem t1 [.str b], .mem t2 [.int k2 c], .mem t3 [.int .i64 e], .mem t4 [.str r, .bool bad]]) := by
  have e : unr cfg 31 (bodyOf Tryd.f31) (ctab []) ⟨[], []⟩ (RetIn Tryd.prog Tryd.f31 5 K) 100000 ([.code []]) .normal ([(0, true, .ptr 3 0), (1, true, .ptr 0 0), (2, true, .ptr 1 0), (3, true, .ptr 2 0)]) ([.mem t0 [.int k0 a], .mem t1 [.str b], .mem t2 [.int k2 c], .mem t3 [.int .i64 e], .mem t4 [.str r, .bool bad]]) =
    (ifP (e != 0) (K (AV.tup []) [Blk.mem t0 [AV.int IntKind.i64 0], Blk.mem t1 [AV.str []], Blk.mem t2 [AV.int IntKind.i64 0], Blk.mem t3 [AV.int IntKind.i64 e], Blk.mem t4 [AV.str r, AV.bool bad]]) (K (AV.tup []) [Blk.mem t0 [AV.int k0 a], Blk.mem t1 [AV.str b], Blk.mem t2 [AV.int k2 c], Blk.mem t3 [AV.int IntKind.i64 e], Blk.mem t4 [AV.str r, AV.bool bad]])) := by kernel_rfl
  exact unr_ok hT 100000 _ _ _ _ (e.mpr H)

theorem t10 {v : AV} {s : List UInt8} (hT : TabOk cfg (ctab [(21, wipe1C), (22, untilC), (23, needC 24), (25, strC tokenB), (26, versionC)])) (H :
    ifP (decide ((↑(List.length s) : Int) > 2048)) (AV.tup [AV.str [], AV.str [], AV.int IntKind.i64 0, AV.int IntKind.i64 3] = v) (List.length s ≤ 100000 ∧ [AV.ptr 4 0] = [AV.ptr 4 0] ∧ List.length (Prod.fst (Prod.snd (cutB s))) ≤ 100000 ∧ [AV.ptr 4 0] = [AV.ptr 4 0] ∧ ∃ (l1 : List UInt8), ∃ (s2 : List UInt8), List.length l1 ≤ 6 ∧ List.length l1 % 2 = 0 ∧ List.length s2 ≤ 100000 ∧ [AV.ptr 4 0, AV.fn (Fn.func 24) [] [], AV.str [33, 126], AV.str (Prod.fst (cutB (Prod.fst (Prod.snd (cutB s)))))] = [AV.ptr 4 0, AV.fn (Fn.func 24) [] [], AV.str l1, AV.str s2] ∧ ifP (!Prod.snd (Prod.snd (cutB s)) || !Prod.snd (Prod.snd (cutB (Prod.fst (Prod.snd (cutB s))))) || !List.all s2 (inL l1)) (∃ (s3 : List UInt8), List.length s3 ≤ 100000 ∧ [AV.ptr 4 0, AV.str (Prod.fst (Prod.snd (cutB (Prod.fst (Prod.snd (cutB s))))))] = [AV.ptr 4 0, AV.str s3] ∧ [AV.ptr 3 0, AV.ptr 0 0, AV.ptr 1 0, AV.ptr 2 0] = [AV.ptr 3 0, AV.ptr 0 0, AV.ptr 1 0, AV.ptr 2 0] ∧ AV.tup [AV.str [], AV.str [], AV.int IntKind.i64 0, AV.int IntKind.i64 4] = v) (∃ (s4 : List UInt8), List.length s4 ≤ 100000 ∧ [AV.str (Prod.fst (cutB s))] = [AV.str s4] ∧ ifP (!tokenB s4) (∃ (s5 : List UInt8), List.length s5 ≤ 100000 ∧ [AV.ptr 4 0, AV.str (Prod.fst (Prod.snd (cutB (Prod.fst (Prod.snd (cutB s))))))] = [AV.ptr 4 0, AV.str s5] ∧ [AV.ptr 3 0, AV.ptr 0 0, AV.ptr 1 0, AV.ptr 2 0] = [AV.ptr 3 0, AV.ptr 0 0, AV.ptr 1 0, AV.ptr 2 0] ∧ AV.tup [AV.str [], AV.str [], AV.int IntKind.i64 0, AV.int IntKind.i64 4] = v) (∃ (s6 : List UInt8), List.length s6 ≤ 100000 ∧ [AV.ptr 4 0, AV.str (Prod.fst (Prod.snd (cutB (Prod.fst (Prod.snd (cutB s))))))] = [AV.ptr 4 0, AV.str s6] ∧ ifP (Prod.snd (verB (Prod.fst (cutB (Prod.fst (Prod.snd (cutB s)))) == []) s6) == 0) (ifP (decide ((↑(List.length (Prod.fst (cutB (Prod.fst (Prod.snd (cutB s)))))) : Int) > 1024)) ([AV.ptr 3 0, AV.ptr 0 0, AV.ptr 1 0, AV.ptr 2 0] = [AV.ptr 3 0, AV.ptr 0 0, AV.ptr 1 0, AV.ptr 2 0] ∧ AV.tup [AV.str [], AV.str [], AV.int IntKind.i64 0, AV.int IntKind.i64 3] = v) ([AV.ptr 3 0, AV.ptr 0 0, AV.ptr 1 0, AV.ptr 2 0] = [AV.ptr 3 0, AV.ptr 0 0, AV.ptr 1 0, AV.ptr 2 0] ∧ ifP (Prod.snd (verB (Prod.fst (cutB (Prod.fst (Prod.snd (cutB s)))) == []) s6) == 0) (AV.tup [AV.str (Prod.fst (cutB s)), AV.str (Prod.fst (cutB (Prod.fst (Prod.snd (cutB s))))), AV.int IntKind.i64 (Prod.fst (verB (Prod.fst (cutB (Prod.fst (Prod.snd (cutB s)))) == []) s6)), AV.int IntKind.i64 (Prod.snd (verB (Prod.fst (cutB (Prod.fst (Prod.snd (cutB s)))) == []) s6))] = v) (AV.tup [AV.str [], AV.str [], AV.int IntKind.i64 0, AV.int IntKind.i64 (Prod.snd (verB (Prod.fst (cutB (Prod.fst (Prod.snd (cutB s)))) == []) s6))] = v))) ([AV.ptr 3 0, AV.ptr 0 0, AV.ptr 1 0, AV.ptr 2 0] = [AV.ptr 3 0, AV.ptr 0 0, AV.ptr 1 0, AV.ptr 2 0] ∧ ifP (Prod.snd (verB (Prod.fst (cutB (Prod.fst (Prod.snd (cutB s)))) == []) s6) == 0) (AV.tup [AV.str (Prod.fst (cutB s)), AV.str (Prod.fst (cutB (Prod.fst (Prod.snd (cutB s))))), AV.int IntKind.i64 (Prod.fst (verB (Prod.fst (cutB (Prod.fst (Prod.snd (cutB s)))) == []) s6)), AV.int IntKind.i64 (Prod.snd (verB (Prod.fst (cutB (Prod.fst (Prod.snd (cutB s)))) == []) s6))] = v) (AV.tup [AV.str [], AV.str [], AV.int IntKind.i64 0, AV.int IntKind.i64 (Prod.snd (verB (Prod.fst (cutB (Prod.fst (Prod.snd (cutB s)))) == []) s6))] = v)))))) :
    ToEnd cfg 10 (bodyOf Tryd.f10) (RetD cfg (ctab [(21, wipe1C), (22, untilC), (23, needC 24), (25, strC tokenB), (26, versionC)]) Tryd.f10 fun u h2 => strip 0 h2 u = v) ([.code []]) .normal ([(0, true, .str s), (1000000, true, .dfr [])]) ([]) := by
  have e : unr cfg 10 (bodyOf Tryd.f10) (ctab [(21, wipe1C), (22, untilC), (23, needC 24), (25, strC tokenB), (26, versionC)]) ⟨[], []⟩ (RetD cfg (ctab [(21, wipe1C), (22, untilC), (23, needC 24), (25, strC tokenB), (26, versionC)]) Tryd.f10 fun u h2 => strip 0 h2 u = v) 100000 ([.code []]) .normal ([(0, true, .str s), (1000000, true, .dfr [])]) ([]) =
    (ifP (decide ((↑(List.length s) : Int) > 2048)) (AV.tup [AV.str [], AV.str [], AV.int IntKind.i64 0, AV.int IntKind.i64 3] = v) (List.length s ≤ 100000 ∧ [AV.ptr 4 0] = [AV.ptr 4 0] ∧ List.length (Prod.fst (Prod.snd (cutB s))) ≤ 100000 ∧ [AV.ptr 4 0] = [AV.ptr 4 0] ∧ ∃ (l1 : List UInt8), ∃ (s2 : List UInt8), List.length l1 ≤ 6 ∧ List.length l1 % 2 = 0 ∧ List.length s2 ≤ 100000 ∧ [AV.ptr 4 0, AV.fn (Fn.func 24) [] [], AV.str [33, 126], AV.str (Prod.fst (cutB (Prod.fst (Prod.snd (cutB s)))))] = [AV.ptr 4 0, AV.fn (Fn.func 24) [] [], AV.str l1, AV.str s2] ∧ ifP (!Prod.snd (Prod.snd (cutB s)) || !Prod.snd (Prod.snd (cutB (Prod.fst (Prod.snd (cutB s))))) || !List.all s2 (inL l1)) (∃ (s3 : List UInt8), List.length s3 ≤ 100000 ∧ [AV.ptr 4 0, AV.str (Prod.fst (Prod.snd (cutB (Prod.fst (Prod.snd (cutB s))))))] = [AV.ptr 4 0, AV.str s3] ∧ [AV.ptr 3 0, AV.ptr 0 0, AV.ptr 1 0, AV.ptr 2 0] = [AV.ptr 3 0, AV.ptr 0 0, AV.ptr 1 0, AV.ptr 2 0] ∧ AV.tup [AV.str [], AV.str [], AV.int IntKind.i64 0, AV.int IntKind.i64 4] = v) (∃ (s4 : List UInt8), List.length s4 ≤ 100000 ∧ [AV.str (Prod.fst (cutB s))] = [AV.str s4] ∧ ifP (!tokenB s4) (∃ (s5 : List UInt8), List.length s5 ≤ 100000 ∧ [AV.ptr 4 0, AV.str (Prod.fst (Prod.snd (cutB (Prod.fst (Prod.snd (cutB s))))))] = [AV.ptr 4 0, AV.str s5] ∧ [AV.ptr 3 0, AV.ptr 0 0, AV.ptr 1 0, AV.ptr 2 0] = [AV.ptr 3 0, AV.ptr 0 0, AV.ptr 1 0, AV.ptr 2 0] ∧ AV.tup [AV.str [], AV.str [], AV.int IntKind.i64 0, AV.int IntKind.i64 4] = v) (∃ (s6 : List UInt8), List.length s6 ≤ 100000 ∧ [AV.ptr 4 0, AV.str (Prod.fst (Prod.snd (cutB (Prod.fst (Prod.snd (cutB s))))))] = [AV.ptr 4 0, AV.str s6] ∧ ifP (Prod.snd (verB (Prod.fst (cutB (Prod.fst (Prod.snd (cutB s)))) == []) s6) == 0) (ifP (decide ((↑(List.length (Prod.fst (cutB (Prod.fst (Prod.snd (cutB s)))))) : Int) > 1024)) ([AV.ptr 3 0, AV.ptr 0 0, AV.ptr 1 0, AV.ptr 2 0] = [AV.ptr 3 0, AV.ptr 0 0, AV.ptr 1 0, AV.ptr 2 0] ∧ AV.tup [AV.str [], AV.str [], AV.int IntKind.i64 0, AV.int IntKind.i64 3] = v) ([AV.ptr 3 0, AV.ptr 0 0, AV.ptr 1 0, AV.ptr 2 0] = [AV.ptr 3 0, AV.ptr 0 0, AV.ptr 1 0, AV.ptr 2 0] ∧ ifP (Prod.snd (verB (Prod.fst (cutB (Prod.fst (Prod.snd (cutB s)))) == []) s6) == 0) (AV.tup [AV.str (Prod.fst (cutB s)), AV.str (Prod.fst (cutB (Prod.fst (Prod.snd (cutB s))))), AV.int IntKind.i64 (Prod.fst (verB (Prod.fst (cutB (Prod.fst (Prod.snd (cutB s)))) == []) s6)), AV.int IntKind.i64 (Prod.snd (verB (Prod.fst (cutB (Prod.fst (Prod.snd (cutB s)))) == []) s6))] = v) (AV.tup [AV.str [], AV.str [], AV.int IntKind.i64 0, AV.int IntKind.i64 (Prod.snd (verB (Prod.fst (cutB (Prod.fst (Prod.snd (cutB s)))) == []) s6))] = v))) ([AV.ptr 3 0, AV.ptr 0 0, AV.ptr 1 0, AV.ptr 2 0] = [AV.ptr 3 0, AV.ptr 0 0, AV.ptr 1 0, AV.ptr 2 0] ∧ ifP (Prod.snd (verB (Prod.fst (cutB (Prod.fst (Prod.snd (cutB s)))) == []) s6) == 0) (AV.tup [AV.str (Prod.fst (cutB s)), AV.str (Prod.fst (cutB (Prod.fst (Prod.snd (cutB s))))), AV.int IntKind.i64 (Prod.fst (verB (Prod.fst (cutB (Prod.fst (Prod.snd (cutB s)))) == []) s6)), AV.int IntKind.i64 (Prod.snd (verB (Prod.fst (cutB (Prod.fst (Prod.snd (cutB s)))) == []) s6))] = v) (AV.tup [AV.str [], AV.str [], AV.int IntKind.i64 0, AV.int IntKind.i64 (Prod.snd (verB (Prod.fst (cutB (Prod.fst (Prod.snd (cutB s)))) == []) s6))] = v)))))) := by kernel_rfl
  exact unr_ok hT 100000 _ _ _ _ (e.mpr H)

theorem t12 {v : AV} {s : List UInt8} (hT : TabOk cfg (ctab [(31, wipe2C), (22, untilC), (23, needC 24), (26, versionC), (32, atoiC)])) (H :
    ifP (decide ((↑(List.length s) : Int) > 2048)) (AV.tup [AV.int IntKind.i64 0, AV.str [], AV.int IntKind.i64 0, AV.int IntKind.i64 3] = v) (List.length s ≤ 100000 ∧ [AV.ptr 4 0] = [AV.ptr 4 0] ∧ List.length (Prod.fst (Prod.snd (cutB s))) ≤ 100000 ∧ [AV.ptr 4 0] = [AV.ptr 4 0] ∧ ∃ (l1 : List UInt8), ∃ (s2 : List UInt8), List.length l1 ≤ 6 ∧ List.length l1 % 2 = 0 ∧ List.length s2 ≤ 100000 ∧ [AV.ptr 4 0, AV.fn (Fn.func 24) [] [], AV.str [9, 9, 32, 126, 128, 255], AV.str (Prod.fst (Prod.snd (cutB (Prod.fst (Prod.snd (cutB s))))))] = [AV.ptr 4 0, AV.fn (Fn.func 24) [] [], AV.str l1, AV.str s2] ∧ ∃ (l3 : List UInt8), ∃ (s4 : List UInt8), List.length l3 ≤ 6 ∧ List.length l3 % 2 = 0 ∧ List.length s4 ≤ 100000 ∧ [AV.ptr 4 0, AV.fn (Fn.func 24) [] [], AV.str [48, 57], AV.str (Prod.fst (cutB (Prod.fst (Prod.snd (cutB s)))))] = [AV.ptr 4 0, AV.fn (Fn.func 24) [] [], AV.str l3, AV.str s4] ∧ ifP (!Prod.snd (Prod.snd (cutB s)) || !Prod.snd (Prod.snd (cutB (Prod.fst (Prod.snd (cutB s))))) || !List.all s2 (inL l1) || !List.all s4 (inL l3)) (∃ (s5 : List UInt8), List.length s5 ≤ 100000 ∧ [AV.ptr 4 0, AV.str (Prod.fst (cutB s))] = [AV.ptr 4 0, AV.str s5] ∧ ∃ (s6 : List UInt8), List.length s6 ≤ 100000 ∧ [AV.str (Prod.fst (cutB (Prod.fst (Prod.snd (cutB s)))))] = [AV.str s6] ∧ [AV.ptr 3 0, AV.ptr 0 0, AV.ptr 1 0, AV.ptr 2 0] = [AV.ptr 3 0, AV.ptr 0 0, AV.ptr 1 0, AV.ptr 2 0] ∧ AV.tup [AV.int IntKind.i64 0, AV.str [], AV.int IntKind.i64 0, AV.int IntKind.i64 4] = v) (ifP ((↑(List.length (Prod.fst (cutB (Prod.fst (Prod.snd (cutB s)))))) : Int) != 3) (∃ (s7 : List UInt8), List.length s7 ≤ 100000 ∧ [AV.ptr 4 0, AV.str (Prod.fst (cutB s))] = [AV.ptr 4 0, AV.str s7] ∧ ∃ (s8 : List UInt8), List.length s8 ≤ 100000 ∧ [AV.str (Prod.fst (cutB (Prod.fst (Prod.snd (cutB s)))))] = [AV.str s8] ∧ [AV.ptr 3 0, AV.ptr 0 0, AV.ptr 1 0, AV.ptr 2 0] = [AV.ptr 3 0, AV.ptr 0 0, AV.ptr 1 0, AV.ptr 2 0] ∧ AV.tup [AV.int IntKind.i64 0, AV.str [], AV.int IntKind.i64 0, AV.int IntKind.i64 4] = v) (gAnd (inR 0 (List.length (Prod.fst (cutB (Prod.fst (Prod.snd (cutB s))))))) (ifP (decide ((↑(UInt8.toNat (List.getD (Prod.fst (cutB (Prod.fst (Prod.snd (cutB s))))) 0 0)) : Int) < 49)) (∃ (s9 : List UInt8), List.length s9 ≤ 100000 ∧ [AV.ptr 4 0, AV.str (Prod.fst (cutB s))] = [AV.ptr 4 0, AV.str s9] ∧ ∃ (s10 : List UInt8), List.length s10 ≤ 100000 ∧ [AV.str (Prod.fst (cutB (Prod.fst (Prod.snd (cutB s)))))] = [AV.str s10] ∧ [AV.ptr 3 0, AV.ptr 0 0, AV.ptr 1 0, AV.ptr 2 0] = [AV.ptr 3 0, AV.ptr 0 0, AV.ptr 1 0, AV.ptr 2 0] ∧ AV.tup [AV.int IntKind.i64 0, AV.str [], AV.int IntKind.i64 0, AV.int IntKind.i64 4] = v) (gAnd (inR 0 (List.length (Prod.fst (cutB (Prod.fst (Prod.snd (cutB s))))))) (∃ (s11 : List UInt8), List.length s11 ≤ 100000 ∧ [AV.ptr 4 0, AV.str (Prod.fst (cutB s))] = [AV.ptr 4 0, AV.str s11] ∧ ∃ (s12 : List UInt8), List.length s12 ≤ 100000 ∧ [AV.str (Prod.fst (cutB (Prod.fst (Prod.snd (cutB s)))))] = [AV.str s12] ∧ [AV.ptr 3 0, AV.ptr 0 0, AV.ptr 1 0, AV.ptr 2 0] = [AV.ptr 3 0, AV.ptr 0 0, AV.ptr 1 0, AV.ptr 2 0] ∧ ifP (Prod.snd (verB (decide ((↑(UInt8.toNat (List.getD (Prod.fst (cutB (Prod.fst (Prod.snd (cutB s))))) 0 0)) : Int) > 53)) s11) == 0) (AV.tup [AV.int IntKind.i64 (atoiV s12), AV.str (Prod.fst (Prod.snd (cutB (Prod.fst (Prod.snd (cutB s)))))), AV.int IntKind.i64 (Prod.fst (verB (decide ((↑(UInt8.toNat (List.getD (Prod.fst (cutB (Prod.fst (Prod.snd (cutB s))))) 0 0)) : Int) > 53)) s11)), AV.int IntKind.i64 (Prod.snd (verB (decide ((↑(UInt8.toNat (List.getD (Prod.fst (cutB (Prod.fst (Prod.snd (cutB s))))) 0 0)) : Int) > 53)) s11))] = v) (AV.tup [AV.int IntKind.i64 0, AV.str [], AV.int IntKind.i64 0, AV.int IntKind.i64 (Prod.snd (verB (decide ((↑(UInt8.toNat (List.getD (Prod.fst (cutB (Prod.fst (Prod.snd (cutB s))))) 0 0)) : Int) > 53)) s11))] = v)))))))) :
    ToEnd cfg 12 (bodyOf Tryd.f12) (RetD cfg (ctab [(31, wipe2C), (22, untilC), (23, needC 24), (26, versionC), (32, atoiC)]) Tryd.f12 fun u h2 => strip 0 h2 u = v) ([.code []]) .normal ([(0, true, .str s), (1000000, true, .dfr [])]) ([]) := by
  have e : unr cfg 12 (bodyOf Tryd.f12) (ctab [(31, wipe2C), (22, untilC), (23, needC 24), (26, versionC), (32, atoiC)]) ⟨[], []⟩ (RetD cfg (ctab [(31, wipe2C), (22, untilC), (23, needC 24), (26, versionC), (32, atoiC)]) Tryd.f12 fun u h2 => strip 0 h2 u = v) 100000 ([.code []]) .normal ([(0, true, .str s), (1000000, true, .dfr [])]) ([]) =
    (ifP (decide ((↑(List.length s) : Int) > 2048)) (AV.tup [AV.int IntKind.i64 0, AV.str [], AV.int IntKind.i64 0, AV.int IntKind.i64 3] = v) (List.length s ≤ 100000 ∧ [AV.ptr 4 0] = [AV.ptr 4 0] ∧ List.length (Prod.fst (Prod.snd (cutB s))) ≤ 100000 ∧ [AV.ptr 4 0] = [AV.ptr 4 0] ∧ ∃ (l1 : List UInt8), ∃ (s2 : List UInt8), List.length l1 ≤ 6 ∧ List.length l1 % 2 = 0 ∧ List.length s2 ≤ 100000 ∧ [AV.ptr 4 0, AV.fn (Fn.func 24) [] [], AV.str [9, 9, 32, 126, 128, 255], AV.str (Prod.fst (Prod.snd (cutB (Prod.fst (Prod.snd (cutB s))))))] = [AV.ptr 4 0, AV.fn (Fn.func 24) [] [], AV.str l1, AV.str s2] ∧ ∃ (l3 : List UInt8), ∃ (s4 : List UInt8), List.length l3 ≤ 6 ∧ List.length l3 % 2 = 0 ∧ List.length s4 ≤ 100000 ∧ [AV.ptr 4 0, AV.fn (Fn.func 24) [] [], AV.str [48, 57], AV.str (Prod.fst (cutB (Prod.fst (Prod.snd (cutB s)))))] = [AV.ptr 4 0, AV.fn (Fn.func 24) [] [], AV.str l3, AV.str s4] ∧ ifP (!Prod.snd (Prod.snd (cutB s)) || !Prod.snd (Prod.snd (cutB (Prod.fst (Prod.snd (cutB s))))) || !List.all s2 (inL l1) || !List.all s4 (inL l3)) (∃ (s5 : List UInt8), List.length s5 ≤ 100000 ∧ [AV.ptr 4 0, AV.str (Prod.fst (cutB s))] = [AV.ptr 4 0, AV.str s5] ∧ ∃ (s6 : List UInt8), List.length s6 ≤ 100000 ∧ [AV.str (Prod.fst (cutB (Prod.fst (Prod.snd (cutB s)))))] = [AV.str s6] ∧ [AV.ptr 3 0, AV.ptr 0 0, AV.ptr 1 0, AV.ptr 2 0] = [AV.ptr 3 0, AV.ptr 0 0, AV.ptr 1 0, AV.ptr 2 0] ∧ AV.tup [AV.int IntKind.i64 0, AV.str [], AV.int IntKind.i64 0, AV.int IntKind.i64 4] = v) (ifP ((↑(List.length (Prod.fst (cutB (Prod.fst (Prod.snd (cutB s)))))) : Int) != 3) (∃ (s7 : List UInt8), List.length s7 ≤ 100000 ∧ [AV.ptr 4 0, AV.str (Prod.fst (cutB s))] = [AV.ptr 4 0, AV.str s7] ∧ ∃ (s8 : List UInt8), List.length s8 ≤ 100000 ∧ [AV.str (Prod.fst (cutB (Prod.fst (Prod.snd (cutB s)))))] = [AV.str s8] ∧ [AV.ptr 3 0, AV.ptr 0 0, AV.ptr 1 0, AV.ptr 2 0] = [AV.ptr 3 0, AV.ptr 0 0, AV.ptr 1 0, AV.ptr 2 0] ∧ AV.tup [AV.int IntKind.i64 0, AV.str [], AV.int IntKind.i64 0, AV.int IntKind.i64 4] = v) (gAnd (inR 0 (List.length (Prod.fst (cutB (Prod.fst (Prod.snd (cutB s))))))) (ifP (decide ((↑(UInt8.toNat (List.getD (Prod.fst (cutB (Prod.fst (Prod.snd (cutB s))))) 0 0)) : Int) < 49)) (∃ (s9 : List UInt8), List.length s9 ≤ 100000 ∧ [AV.ptr 4 0, AV.str (Prod.fst (cutB s))] = [AV.ptr 4 0, AV.str s9] ∧ ∃ (s10 : List UInt8), List.length s10 ≤ 100000 ∧ [AV.str (Prod.fst (cutB (Prod.fst (Prod.snd (cutB s)))))] = [AV.str s10] ∧ [AV.ptr 3 0, AV.ptr 0 0, AV.ptr 1 0, AV.ptr 2 0] = [AV.ptr 3 0, AV.ptr 0 0, AV.ptr 1 0, AV.ptr 2 0] ∧ AV.tup [AV.int IntKind.i64 0, AV.str [], AV.int IntKind.i64 0, AV.int IntKind.i64 4] = v) (gAnd (inR 0 (List.length (Prod.fst (cutB (Prod.fst (Prod.snd (cutB s))))))) (∃ (s11 : List UInt8), List.length s11 ≤ 100000 ∧ [AV.ptr 4 0, AV.str (Prod.fst (cutB s))] = [AV.ptr 4 0, AV.str s11] ∧ ∃ (s12 : List UInt8), List.length s12 ≤ 100000 ∧ [AV.str (Prod.fst (cutB (Prod.fst (Prod.snd (cutB s)))))] = [AV.str s12] ∧ [AV.ptr 3 0, AV.ptr 0 0, AV.ptr 1 0, AV.ptr 2 0] = [AV.ptr 3 0, AV.ptr 0 0, AV.ptr 1 0, AV.ptr 2 0] ∧ ifP (Prod.snd (verB (decide ((↑(UInt8.toNat (List.getD (Prod.fst (cutB (Prod.fst (Prod.snd (cutB s))))) 0 0)) : Int) > 53)) s11) == 0) (AV.tup [AV.int IntKind.i64 (atoiV s12), AV.str (Prod.fst (Prod.snd (cutB (Prod.fst (Prod.snd (cutB s)))))), AV.int IntKind.i64 (Prod.fst (verB (decide ((↑(UInt8.toNat (List.getD (Prod.fst (cutB (Prod.fst (Prod.snd (cutB s))))) 0 0)) : Int) > 53)) s11)), AV.int IntKind.i64 (Prod.snd (verB (decide ((↑(UInt8.toNat (List.getD (Prod.fst (cutB (Prod.fst (Prod.snd (cutB s))))) 0 0)) : Int) > 53)) s11))] = v) (AV.tup [AV.int IntKind.i64 0, AV.str [], AV.int IntKind.i64 0, AV.int IntKind.i64 (Prod.snd (verB (decide ((↑(UInt8.toNat (List.getD (Prod.fst (cutB (Prod.fst (Prod.snd (cutB s))))) 0 0)) : Int) > 53)) s11))] = v)))))))) := by kernel_rfl
  exact unr_ok hT 100000 _ _ _ _ (e.mpr H)

end Go.Proofs.YtahojaolkehojaaDoor
end

section
namespace Go.Proofs.YtahojaolkehojaaDoor
open Go.Ai Go
set_option linter.unusedSimpArgs false
set_option linter.unusedVariables false
set_option linter.unnecessarySimpa false
set_option maxRecDepth 100000

theorem hf22 : heapFn cfg 22 Tryd.f22 := ⟨by kernel_rfl, by kernel_rfl, by kernel_rfl, by kernel_rfl, by kernel_rfl, by kernel_rfl⟩
theorem hf23 : heapFn cfg 23 Tryd.f23 := ⟨by kernel_rfl, by kernel_rfl, by kernel_rfl, by kernel_rfl, by kernel_rfl, by kernel_rfl⟩
theorem hf26 : heapFn cfg 26 Tryd.f26 := ⟨by kernel_rfl, by kernel_rfl, by kernel_rfl, by kernel_rfl, by kernel_rfl, by kernel_rfl⟩
theorem hf21 : heapFn cfg 21 Tryd.f21 := ⟨by kernel_rfl, by kernel_rfl, by kernel_rfl, by kernel_rfl, by kernel_rfl, by kernel_rfl⟩
theorem hf31 : heapFn cfg 31 Tryd.f31 := ⟨by kernel_rfl, by kernel_rfl, by kernel_rfl, by kernel_rfl, by kernel_rfl, by kernel_rfl⟩
theorem df10 : dfrFn cfg 10 Tryd.f10 := ⟨by kernel_rfl, by kernel_rfl, by kernel_rfl, by kernel_rfl, by kernel_rfl, by kernel_rfl⟩
theorem df12 : dfrFn cfg 12 Tryd.f12 := ⟨by kernel_rfl, by kernel_rfl, by kernel_rfl, by kernel_rfl, by kernel_rfl, by kernel_rfl⟩

theorem c22 : COk cfg 22 untilC := by
  have hT := ctab_ok (ctab_cons c38 ctab_nil)
  refine cok_heap hf22 fun vs h K ht => ?_
  unfold untilC at ht
  split at ht
  · obtain ⟨h1, rfl, hk⟩ := ht
    refine t22_1 hT ⟨_, h1, rfl, ifP_intro (fun a => ?_) fun a => ?_⟩ <;> (subst a; exact hk)
  · obtain ⟨h1, rfl, hk⟩ := ht
    refine t22_2 hT ⟨_, h1, rfl, ifP_intro (fun a => ?_) fun a => ?_⟩ <;> (subst a; exact hk)
  · exact ht.elim
theorem c23 : COk cfg 23 (needC 24) := by
  have hT := ctab_ok (ctab_cons c24 ctab_nil)
  refine cok_heap hf23 fun vs h K ht => ?_
  unfold needC at ht
  split at ht
  · obtain ⟨l, s, h1, h2, h3, rfl, hk⟩ := ht
    refine t23_1 hT (ifP_intro (fun a => ?_) fun a => ⟨l, s, h1, h2, h3, rfl, ?_⟩) <;> (subst a; exact hk)
  · obtain ⟨l, s, h1, h2, h3, rfl, hk⟩ := ht
    refine t23_2 hT (ifP_intro (fun a => ?_) fun a => ⟨l, s, h1, h2, h3, rfl, ?_⟩) <;> (subst a; exact hk)
  · exact ht.elim
theorem c21 : COk cfg 21 wipe1C := by
  refine cok_heap hf21 fun vs h K ht => ?_
  unfold wipe1C at ht
  split at ht
  · rename_i t0 a t1 b t2 k2 c t3 e t4 r bad
    obtain ⟨rfl, hk⟩ := ht
    refine t21 (ctab_ok ctab_nil) (ifP_intro (fun a => ?_) fun a => ?_)
    · have : (e == (0 : Int)) = false := by simpa using a
      rw [this] at hk; exact hk
    · have : (e == (0 : Int)) = true := by simpa using a
      rw [this] at hk; exact hk
  · exact ht.elim
theorem c31 : COk cfg 31 wipe2C := by
  refine cok_heap hf31 fun vs h K ht => ?_
  unfold wipe2C at ht
  split at ht
  · rename_i t0 k0 a t1 b t2 k2 c t3 e t4 r bad
    obtain ⟨rfl, hk⟩ := ht
    refine t31 (ctab_ok ctab_nil) (ifP_intro (fun a => ?_) fun a => ?_)
    · have : (e == (0 : Int)) = false := by simpa using a
      rw [this] at hk; exact hk
    · have : (e == (0 : Int)) = true := by simpa using a
      rw [this] at hk; exact hk
  · exact ht.elim

/-- A version, by its pieces. -/
def verCut (bad : Bool) (q : List UInt8) (is : Bool) : Int × Int := verB bad (if is = true then [72, 84, 84, 80, 47] ++ q else [])
theorem cut_ver (s : List UInt8) : ((cutP s [72, 84, 84, 80, 47]).2 = false ∧ verOf s = none) ∨ ((cutP s [72, 84, 84, 80, 47]).2 = true ∧ s = [72, 84, 84, 80, 47] ++ (cutP s [72, 84, 84, 80, 47]).1) := by
  unfold cutP
  cases h : List.isPrefixOf [72, 84, 84, 80, 47] s with
  | true =>
    right
    obtain ⟨t, ht⟩ := List.isPrefixOf_iff_prefix.1 h
    refine ⟨rfl, ?_⟩
    rw [← ht]; rfl
  | false =>
    left
    refine ⟨rfl, ?_⟩
    cases hv : verOf s with
    | none => rfl
    | some p =>
      have := (verOf_some (a := p.1) (b := p.2) hv).1
      rw [this] at h
      simp at h
theorem ver_tail {q : List UInt8} (h : q.length = 3) : ∃ x f y, q = [x, f, y] := by
  match q, h with
  | [x, f, y], _ => exact ⟨x, f, y, rfl⟩
theorem ver_none3 {q : List UInt8} (h : q.length ≠ 3) : verOf ([72, 84, 84, 80, 47] ++ q) = none := ver_not8 (by simp; omega)
theorem ver_none_of {x f y : UInt8} (h : isDg x = false ∨ f ≠ 46 ∨ isDg y = false) : verOf [72, 84, 84, 80, 47, x, f, y] = none := by
  cases hv : verOf [72, 84, 84, 80, 47, x, f, y] with
  | none => rfl
  | some p =>
    obtain ⟨h1, h2, h3⟩ := verOf_some (a := p.1) (b := p.2) hv
    simp only [List.cons.injEq, and_true, true_and] at h1
    obtain ⟨rfl, rfl, rfl⟩ := h1
    rcases h with h | h | h
    · rw [h2] at h; cases h
    · exact absurd rfl h
    · rw [h3] at h; cases h
theorem one_min {y : UInt8} (h : isDg y = true) : min 1 (IntKind.wrap .i64 (IntKind.wrap .u8 ((y.toNat : Int) - 48))) = ((min 1 (y.toNat - 48) : Nat) : Int) := by
  have := dg_range h
  have e : IntKind.wrap .u8 ((y.toNat : Int) - 48) = (y.toNat : Int) - 48 := by
    simp only [IntKind.wrap, IntKind.signed, IntKind.bits]; simp; omega
  rw [e, wrap_in (by omega) (by omega)]
  omega
theorem c26 : COk cfg 26 versionC := by
  have hT := ctab_ok (ctab_cons c40 (ctab_cons c41 ctab_nil))
  refine cok_heap hf26 fun vs h K ht => ?_
  unfold versionC at ht
  have key : ∀ (bad : Bool) (s : List UInt8) (X : Int → Int → Bool → Prop), X (verB bad s).1 (verB bad s).2 (verBad bad s) →
      ifP bad (X 0 4 true) (ifP (!(cutP s [72, 84, 84, 80, 47]).2) (X 0 4 true) (ifP (((cutP s [72, 84, 84, 80, 47]).1.length : Int) != 3) (X 0 4 true) (gAnd (inR 0 (cutP s [72, 84, 84, 80, 47]).1.length) (∃ c3 : UInt8, [AV.int .u8 (List.getD (cutP s [72, 84, 84, 80, 47]).1 0 0).toNat] = [AV.int .u8 c3.toNat] ∧
        ifP (!isDg c3) (X 0 4 true) (gAnd (inR 1 (cutP s [72, 84, 84, 80, 47]).1.length) (ifP (((List.getD (cutP s [72, 84, 84, 80, 47]).1 1 0).toNat : Int) != 46) (X 0 4 true) (gAnd (inR 2 (cutP s [72, 84, 84, 80, 47]).1.length) (∃ c4 : UInt8, [AV.int .u8 (List.getD (cutP s [72, 84, 84, 80, 47]).1 2 0).toNat] = [AV.int .u8 c4.toNat] ∧
          ifP (!isDg c4) (X 0 4 true) (gAnd (inR 0 (cutP s [72, 84, 84, 80, 47]).1.length) (ifP (((List.getD (cutP s [72, 84, 84, 80, 47]).1 0 0).toNat : Int) != 49) (X 0 9 bad) (gAnd (inR 2 (cutP s [72, 84, 84, 80, 47]).1.length) (X (min 1 (IntKind.wrap .i64 (IntKind.wrap .u8 (((List.getD (cutP s [72, 84, 84, 80, 47]).1 2 0).toNat : Int) - 48)))) 0 bad)))))))))))) := by
    intro bad s X hX
    have wrong : (bad = true ∨ verOf s = none) → X 0 4 true := fun hw => by
      rw [verB_bad hw] at hX
      have : verBad bad s = true := by
        unfold verBad
        rcases hw with rfl | hw
        · rfl
        · rw [hw]; simp
      rw [this] at hX
      exact hX
    refine ifP_intro (fun a => wrong (.inl a)) fun a => ?_
    subst a
    rcases cut_ver s with ⟨h1, h2⟩ | ⟨h1, h2⟩
    · rw [h1]
      exact ifP_intro (fun _ => wrong (.inr h2)) fun a => by cases a
    · rw [h1]
      generalize (cutP s [72, 84, 84, 80, 47]).1 = q at h2
      refine ifP_intro (fun a => by cases a) fun _ => ifP_intro (fun a => wrong (.inr ?_)) fun a => ?_
      · rw [h2]; exact ver_none3 fun e => by rw [e] at a; cases a
      · have hq : q.length = 3 := by
          have : (q.length : Int) = 3 := by simpa using a
          omega
        obtain ⟨x, f, y, rfl⟩ := ver_tail hq
        have h2 : s = [72, 84, 84, 80, 47, x, f, y] := h2
        refine gAnd_intro (inR_of (by omega) (by simp)) ⟨x, rfl, ifP_intro (fun b => wrong (.inr ?_)) fun b => gAnd_intro (inR_of (by omega) (by simp)) (ifP_intro (fun c => wrong (.inr ?_)) fun c => gAnd_intro (inR_of (by omega) (by simp)) ⟨y, rfl, ifP_intro (fun d => wrong (.inr ?_)) fun d => gAnd_intro (inR_of (by omega) (by simp)) ?_⟩)⟩
        · rw [h2]; exact ver_none_of (.inl (by simpa using b))
        · rw [h2]; exact ver_none_of (.inr (.inl fun e => by rw [e] at c; cases c))
        · rw [h2]; exact ver_none_of (.inr (.inr (by simpa using d)))
        · have b' : isDg x = true := by simpa using b
          have d' : isDg y = true := by simpa using d
          have c' : f = 46 := UInt8.toNat_inj.1 (by
            have : (f.toNat : Int) = 46 := by simpa using c
            show f.toNat = 46; omega)
          subst c'
          have hv : verOf s = some (x, y) := by rw [h2]; exact verOf_mk b' d'
          have hbad : verBad false s = false := by unfold verBad; rw [hv]; rfl
          rw [hbad] at hX
          have hB : verB false s = if x = 49 then (((min 1 (y.toNat - 48) : Nat) : Int), 0) else (0, 9) := by simp only [verB, hv]
          rw [hB] at hX
          refine ifP_intro (fun k => ?_) fun k => gAnd_intro (inR_of (by omega) (by simp)) ?_
          · rw [if_neg fun e => by rw [e] at k; cases k] at hX
            exact hX
          · have : x = 49 := UInt8.toNat_inj.1 (by
              have : (x.toNat : Int) = 49 := by simpa using k
              show x.toNat = 49; omega)
            rw [if_pos this] at hX
            have e2 : List.getD [x, (46 : UInt8), y] 2 0 = y := rfl
            rw [e2, one_min d']
            exact hX
  split at ht
  · rename_i t0 a t1 b t2 k2 c t3 k3 e t4 r bad
    obtain ⟨s, h1, rfl, hk⟩ := ht
    exact t26_1 hT ⟨s, _, rfl, key bad s (fun x y z => K (.tup [.int .i64 x, .int .i64 y]) [.mem t0 [.str a], .mem t1 [.str b], .mem t2 [.int k2 c], .mem t3 [.int k3 e], .mem t4 [.str r, .bool z]]) hk⟩
  · rename_i t0 k0 a t1 b t2 k2 c t3 k3 e t4 r bad
    obtain ⟨s, h1, rfl, hk⟩ := ht
    exact t26_2 hT ⟨s, _, rfl, key bad s (fun x y z => K (.tup [.int .i64 x, .int .i64 y]) [.mem t0 [.int k0 a], .mem t1 [.str b], .mem t2 [.int k2 c], .mem t3 [.int k3 e], .mem t4 [.str r, .bool z]]) hk⟩
  · exact ht.elim
end Go.Proofs.YtahojaolkehojaaDoor
end

section
namespace Go.Proofs.YtahojaolkehojaaDoor
open Go.Ai Go
set_option linter.unusedSimpArgs false
set_option linter.unusedVariables false
set_option linter.unnecessarySimpa false
set_option maxRecDepth 100000

theorem emp_eq (l : List UInt8) : l.isEmpty = (l == []) := by cases l <;> rfl
theorem all_target (l : List UInt8) : l.all (inL [33, 126]) = l.all targetB := by
  have : inL [33, 126] = targetB := funext in_target
  rw [this]
theorem all_reason (l : List UInt8) : l.all (inL [9, 9, 32, 126, 128, 255]) = l.all reasonB := by
  have : inL [9, 9, 32, 126, 128, 255] = reasonB := funext in_reason
  rw [this]
theorem all_digit (l : List UInt8) : l.all (inL [48, 57]) = l.all isDg := by
  have : inL [48, 57] = isDg := funext in_digit
  rw [this]
theorem req_of_bad {s : List UInt8} (hl : ¬2048 < s.length) (h : reqBad s = true) : reqP s = ([], [], 0, 4) := by
  unfold reqP reqE
  rw [if_neg hl, verB_bad (.inl h)]; rfl
theorem st_of_bad {s : List UInt8} (hl : ¬2048 < s.length) (h : stBad s = true) : stP s = (0, [], 0, 4) := by
  unfold stP
  rw [if_neg hl, verB_bad (.inl h)]; rfl

theorem c10 : COk cfg 10 reqC := by
  have hT := ctab_ok (ctab_cons c21 (ctab_cons c22 (ctab_cons c23 (ctab_cons c25 (ctab_cons c26 ctab_nil)))))
  refine cok_dfr hT df10 fun vs h K ht => ?_
  obtain ⟨s, hs, rfl, hk⟩ := ht
  refine ⟨_, hk, t10 hT ?_⟩
  have h1 := cutB_len s
  have h2 := cutB_len (cutB s).2.1
  unfold big at hs
  refine ifP_intro (fun a => ?_) fun a => ?_
  · unfold reqP
    rw [if_pos (by simp at a; omega)]
  · have hle : ¬2048 < s.length := by simp at a; omega
    refine ⟨hs, rfl, by omega, rfl, [33, 126], _, by decide, by decide, by omega, rfl, ?_⟩
    rw [all_target]
    refine ifP_intro (fun b => ?_) fun b => ⟨_, by omega, rfl, ifP_intro (fun c => ?_) fun c => ⟨_, by omega, rfl, ?_⟩⟩
    · have hb : reqBad s = true := by unfold reqBad; rw [b]; rfl
      exact ⟨_, by omega, rfl, rfl, by rw [req_of_bad hle hb]⟩
    · have hb : reqBad s = true := by unfold reqBad; rw [b, c]; rfl
      exact ⟨_, by omega, rfl, rfl, by rw [req_of_bad hle hb]⟩
    · have hb : reqBad s = ((cutB (cutB s).2.1).1 == []) := by unfold reqBad; rw [b, c, emp_eq]; rfl
      unfold reqP reqE
      rw [if_neg hle, hb]
      generalize verB ((cutB (cutB s).2.1).1 == []) (cutB (cutB s).2.1).2.1 = e
      refine ifP_intro (fun d => ifP_intro (fun f => ⟨rfl, ?_⟩) fun f => ⟨rfl, ifP_intro (fun g => ?_) fun g => ?_⟩) fun d => ⟨rfl, ifP_intro (fun g => ?_) fun g => ?_⟩
      · have d' : e.2 = 0 := by simpa using d
        have f' : 1024 < (cutB (cutB s).2.1).1.length := by simp at f; omega
        have e1 : (if e.2 = 0 ∧ 1024 < (cutB (cutB s).2.1).1.length then (3 : Int) else e.2) = 3 := if_pos ⟨d', f'⟩
        rw [e1, if_neg (by decide)]
      · have d' : e.2 = 0 := by simpa using d
        have f' : ¬1024 < (cutB (cutB s).2.1).1.length := by simp at f; omega
        have e1 : (if e.2 = 0 ∧ 1024 < (cutB (cutB s).2.1).1.length then (3 : Int) else e.2) = 0 := by rw [if_neg fun k => f' k.2, d']
        rw [e1, if_pos rfl, d']
      · rw [d] at g; cases g
      · rw [d] at g; cases g
      · have d' : ¬e.2 = 0 := by simpa using d
        have e1 : (if e.2 = 0 ∧ 1024 < (cutB (cutB s).2.1).1.length then (3 : Int) else e.2) = e.2 := if_neg fun k => d' k.1
        rw [e1, if_neg d']

theorem atoi_code {c0 c1 c2 : UInt8} (h0 : isDg c0 = true) (h1 : isDg c1 = true) (h2 : isDg c2 = true) : atoiV [c0, c1, c2] = codeN [c0, c1, c2] := by
  have d0 := dg_range h0
  have d1 := dg_range h1
  have d2 := dg_range h2
  have e0 : ¬(c0.toNat = 43 ∨ c0.toNat = 45) := by omega
  have e1 : ¬(c0.toNat = 45) := by omega
  have hp : Lib.parseMag [c0, c1, c2] = .ok (((0 * 10 + (c0.toNat - 48)) * 10 + (c1.toNat - 48)) * 10 + (c2.toNat - 48)) := by
    unfold Lib.parseMag
    rw [if_neg (by simp)]
    simp only [Lib.parseUint10]
    rw [if_pos d0, if_neg (by omega), if_neg (by omega), if_pos d1, if_neg (by omega), if_neg (by omega), if_pos d2, if_neg (by omega), if_neg (by omega)]
  have ha : Lib.atoiAll [c0, c1, c2] = .ok (((((0 * 10 + (c0.toNat - 48)) * 10 + (c1.toNat - 48)) * 10 + (c2.toNat - 48) : Nat)) : Int) := by
    unfold Lib.atoiAll
    simp only [if_neg e0]
    rw [hp]
    simp only [e1, if_false]
    rw [if_neg (fun k => by have := k.2; omega), if_neg (fun k => k.1)]
  unfold atoiV
  rw [ha]
  simp only [codeN, List.getD_cons_zero, List.getD_cons_succ]
  omega
theorem three {c : List UInt8} (h : c.length = 3) : ∃ c0 c1 c2, c = [c0, c1, c2] := by
  match c, h with
  | [x, y, z], _ => exact ⟨x, y, z, rfl⟩
theorem c12 : COk cfg 12 stC := by
  have hT := ctab_ok (ctab_cons c31 (ctab_cons c22 (ctab_cons c23 (ctab_cons c26 (ctab_cons c32 ctab_nil)))))
  refine cok_dfr hT df12 fun vs h K ht => ?_
  obtain ⟨s, hs, rfl, hk⟩ := ht
  refine ⟨_, hk, t12 hT ?_⟩
  have h1 := cutB_len s
  have h2 := cutB_len (cutB s).2.1
  unfold big at hs
  refine ifP_intro (fun a => ?_) fun a => ?_
  · unfold stP
    rw [if_pos (by simp at a; omega)]
  · have hle : ¬2048 < s.length := by simp at a; omega
    refine ⟨hs, rfl, by omega, rfl, [9, 9, 32, 126, 128, 255], _, by decide, by decide, by omega, rfl, [48, 57], _, by decide, by decide, by omega, rfl, ?_⟩
    rw [all_reason, all_digit]
    have wrong : stBad s = true → ∃ s5 : List UInt8, s5.length ≤ 100000 ∧ [AV.ptr 4 0, AV.str (cutB s).1] = [AV.ptr 4 0, AV.str s5] ∧ ∃ s6 : List UInt8, s6.length ≤ 100000 ∧ [AV.str (cutB (cutB s).2.1).1] = [AV.str s6] ∧
        [AV.ptr 3 0, AV.ptr 0 0, AV.ptr 1 0, AV.ptr 2 0] = [AV.ptr 3 0, AV.ptr 0 0, AV.ptr 1 0, AV.ptr 2 0] ∧ AV.tup [AV.int .i64 0, AV.str [], AV.int .i64 0, AV.int .i64 4] = AV.tup [AV.int .i64 (stP s).1, AV.str (stP s).2.1, AV.int .i64 (stP s).2.2.1, AV.int .i64 (stP s).2.2.2] :=
      fun hb => ⟨_, by omega, rfl, _, by omega, rfl, rfl, by rw [st_of_bad hle hb]⟩
    refine ifP_intro (fun b => wrong ?_) fun b => ifP_intro (fun c => wrong ?_) fun c => ?_
    · unfold stBad codeBad
      simp only [Bool.or_eq_true] at b ⊢
      rcases b with b | b
      · exact .inl b
      · exact .inr (.inl b)
    · unfold stBad codeBad
      have : ((cutB (cutB s).2.1).1.length == 3) = false := by
        rw [beq_eq_false_iff_ne]
        intro e
        rw [e] at c
        cases c
      simp [this]
    · have hc3 : (cutB (cutB s).2.1).1.length = 3 := by
        have : ((cutB (cutB s).2.1).1.length : Int) = 3 := by simpa using c
        omega
      have hlen3 : ((cutB (cutB s).2.1).1.length == 3) = true := by rw [hc3]; rfl
      refine gAnd_intro (inR_of (by omega) (by omega)) (ifP_intro (fun d => wrong ?_) fun d => gAnd_intro (inR_of (by omega) (by omega)) ⟨_, by omega, rfl, _, by omega, rfl, rfl, ?_⟩)
      · unfold stBad codeBad
        simp only [decide_eq_true_eq] at d
        have : decide (((cutB (cutB s).2.1).1.getD 0 0).toNat < 49) = true := decide_eq_true (by omega)
        rw [hlen3, this]
        simp
      · have hb : stBad s = decide ((((cutB (cutB s).2.1).1.getD 0 0).toNat : Int) > 53) := by
          unfold stBad codeBad
          simp only [decide_eq_false_iff_not] at d
          have e1 : decide (((cutB (cutB s).2.1).1.getD 0 0).toNat < 49) = false := decide_eq_false (by omega)
          have e2 : decide (53 < ((cutB (cutB s).2.1).1.getD 0 0).toNat) = decide ((((cutB (cutB s).2.1).1.getD 0 0).toNat : Int) > 53) := by
            rw [Bool.eq_iff_iff, decide_eq_true_eq, decide_eq_true_eq]; omega
          rw [hlen3, e1, e2]
          simp only [Bool.or_eq_false_iff, Bool.not_eq_false'] at b
          obtain ⟨⟨⟨b1, b2⟩, b3⟩, b4⟩ := b
          rw [b1, b2, b3, b4]
          rfl
        have hdg : (cutB (cutB s).2.1).1.all isDg = true := by
          simp only [Bool.or_eq_false_iff, Bool.not_eq_false'] at b
          exact b.2
        have hcode : atoiV (cutB (cutB s).2.1).1 = codeN (cutB (cutB s).2.1).1 := by
          obtain ⟨c0, c1, c2, e⟩ := three hc3
          rw [e] at hdg ⊢
          simp only [List.all_cons, List.all_nil, Bool.and_true, Bool.and_eq_true] at hdg
          exact atoi_code hdg.1 hdg.2.1 hdg.2.2
        unfold stP
        rw [if_neg hle, hb, hcode]
        generalize verB (decide ((((cutB (cutB s).2.1).1.getD 0 0).toNat : Int) > 53)) (cutB s).1 = e
        refine ifP_intro (fun f => ?_) fun f => ?_
        · have f' : e.2 = 0 := by simpa using f
          rw [if_pos f', f']
        · have f' : ¬e.2 = 0 := by simpa using f
          rw [if_neg f']
end Go.Proofs.YtahojaolkehojaaDoor
end
