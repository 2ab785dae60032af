/-
  Runs of functions of bodies in chunks, printed by a home tool; each is the kernel's word.
  A body out of its chunks: the function keeps to its contract.
  Runs of functions of bodies in chunks, printed by a home tool; each is the kernel's word.
  A body out of its chunks, as the document says: the function keeps to its contract.
-/
import Derived.Test.YtnncfdlpogjlkaaDoorCfg
import Derived.Test.YtnncfdlpogjlkaaDoorJCa
import Derived.Test.YtnncfdlpogjlkaaDoorJCc
section
namespace Go.Proofs.YtnncfdlpogjlkaaDoor
open Go.Ai Go
set_option maxRecDepth 100000
set_option linter.unusedVariables false
theorem t62a {K : AV → Hp → Prop} {g s0 e0 : Nat} {n : Nat} {e : List (List AV)}  (hT : TabOk cfg (ctab [])) (H :
    K (AV.tup []) [Blk.grow g s0 e0, Blk.grow n 1 5, Blk.mem 71 [AV.ptr 2 0, AV.sl 1 (stripss 3 [Blk.grow g s0 e0, Blk.grow n 1 5, Blk.mem 71 [AV.ptr 2 0, AV.sl 1 e (some 1)]] e) (some 1)]]) :
    ToEnd cfg 62 (bodyOf Tryd.f62) (RetIn Tryd.prog Tryd.f62 3 K) ([.code []]) .normal ([(0, true, .ptr 2 0)]) ([.grow g s0 e0, .grow n 1 5, .mem 71 [.nilp, .sl 1 e (some 1)]]) := by
  have e : unr cfg 62 (bodyOf Tryd.f62) (ctab []) ⟨[], []⟩ (RetIn Tryd.prog Tryd.f62 3 K) 100000 ([.code []]) .normal ([(0, true, .ptr 2 0)]) ([.grow g s0 e0, .grow n 1 5, .mem 71 [.nilp, .sl 1 e (some 1)]]) =
    (K (AV.tup []) [Blk.grow g s0 e0, Blk.grow n 1 5, Blk.mem 71 [AV.ptr 2 0, AV.sl 1 (stripss 3 [Blk.grow g s0 e0, Blk.grow n 1 5, Blk.mem 71 [AV.ptr 2 0, AV.sl 1 e (some 1)]] e) (some 1)]]) := by kernel_rfl
  exact unr_ok hT 100000 _ _ _ _ (e.mpr H)

theorem t62b {K : AV → Hp → Prop} {g s0 e0 : Nat} {n : Nat} {e : List (List AV)}  (hT : TabOk cfg (ctab [])) (H :
    K (AV.tup []) [Blk.grow g s0 e0, Blk.grow n 1 5, Blk.mem 71 [AV.ptr 2 0, AV.sl 1 (stripss 3 [Blk.grow g s0 e0, Blk.grow n 1 5, Blk.mem 71 [AV.ptr 2 0, AV.sl 1 e (some 1)]] e) (some 1)]]) :
    ToEnd cfg 62 (bodyOf Tryd.f62) (RetIn Tryd.prog Tryd.f62 3 K) ([.code []]) .normal ([(0, true, .ptr 2 0)]) ([.grow g s0 e0, .grow n 1 5, .mem 71 [.ptr 2 0, .sl 1 e (some 1)]]) := by
  have e : unr cfg 62 (bodyOf Tryd.f62) (ctab []) ⟨[], []⟩ (RetIn Tryd.prog Tryd.f62 3 K) 100000 ([.code []]) .normal ([(0, true, .ptr 2 0)]) ([.grow g s0 e0, .grow n 1 5, .mem 71 [.ptr 2 0, .sl 1 e (some 1)]]) =
    (K (AV.tup []) [Blk.grow g s0 e0, Blk.grow n 1 5, Blk.mem 71 [AV.ptr 2 0, AV.sl 1 (stripss 3 [Blk.grow g s0 e0, Blk.grow n 1 5, Blk.mem 71 [AV.ptr 2 0, AV.sl 1 e (some 1)]] e) (some 1)]]) := by kernel_rfl
  exact unr_ok hT 100000 _ _ _ _ (e.mpr H)

theorem t62c {K : AV → Hp → Prop} {g s0 e0 : Nat} {n : Nat} {e : List (List AV)} {m s3 e3 : Nat} (hT : TabOk cfg (ctab [])) (H :
    K (AV.tup []) [Blk.grow g s0 e0, Blk.grow m s3 e3, Blk.grow n 1 5, Blk.mem 71 [AV.ptr 3 0, AV.sl 1 (stripss 4 [Blk.grow g s0 e0, Blk.grow m s3 e3, Blk.grow n 1 5, Blk.mem 71 [AV.ptr 3 0, AV.sl 1 e (some 2)]] e) (some 2)]]) :
    ToEnd cfg 62 (bodyOf Tryd.f62) (RetIn Tryd.prog Tryd.f62 4 K) ([.code []]) .normal ([(0, true, .ptr 3 0)]) ([.grow g s0 e0, .grow m s3 e3, .grow n 1 5, .mem 71 [.nilp, .sl 1 e (some 2)]]) := by
  have e : unr cfg 62 (bodyOf Tryd.f62) (ctab []) ⟨[], []⟩ (RetIn Tryd.prog Tryd.f62 4 K) 100000 ([.code []]) .normal ([(0, true, .ptr 3 0)]) ([.grow g s0 e0, .grow m s3 e3, .grow n 1 5, .mem 71 [.nilp, .sl 1 e (some 2)]]) =
    (K (AV.tup []) [Blk.grow g s0 e0, Blk.grow m s3 e3, Blk.grow n 1 5, Blk.mem 71 [AV.ptr 3 0, AV.sl 1 (stripss 4 [Blk.grow g s0 e0, Blk.grow m s3 e3, Blk.grow n 1 5, Blk.mem 71 [AV.ptr 3 0, AV.sl 1 e (some 2)]] e) (some 2)]]) := by kernel_rfl
  exact unr_ok hT 100000 _ _ _ _ (e.mpr H)

theorem t62d {K : AV → Hp → Prop} {g s0 e0 : Nat} {n : Nat} {e : List (List AV)} {m s3 e3 : Nat} (hT : TabOk cfg (ctab [])) (H :
    K (AV.tup []) [Blk.grow g s0 e0, Blk.grow m s3 e3, Blk.grow n 1 5, Blk.mem 71 [AV.ptr 3 0, AV.sl 1 (stripss 4 [Blk.grow g s0 e0, Blk.grow m s3 e3, Blk.grow n 1 5, Blk.mem 71 [AV.ptr 3 0, AV.sl 1 e (some 2)]] e) (some 2)]]) :
    ToEnd cfg 62 (bodyOf Tryd.f62) (RetIn Tryd.prog Tryd.f62 4 K) ([.code []]) .normal ([(0, true, .ptr 3 0)]) ([.grow g s0 e0, .grow m s3 e3, .grow n 1 5, .mem 71 [.ptr 3 0, .sl 1 e (some 2)]]) := by
  have e : unr cfg 62 (bodyOf Tryd.f62) (ctab []) ⟨[], []⟩ (RetIn Tryd.prog Tryd.f62 4 K) 100000 ([.code []]) .normal ([(0, true, .ptr 3 0)]) ([.grow g s0 e0, .grow m s3 e3, .grow n 1 5, .mem 71 [.ptr 3 0, .sl 1 e (some 2)]]) =
    (K (AV.tup []) [Blk.grow g s0 e0, Blk.grow m s3 e3, Blk.grow n 1 5, Blk.mem 71 [AV.ptr 3 0, AV.sl 1 (stripss 4 [Blk.grow g s0 e0, Blk.grow m s3 e3, Blk.grow n 1 5, Blk.mem 71 [AV.ptr 3 0, AV.sl 1 e (some 2)]] e) (some 2)]]) := by kernel_rfl
  exact unr_ok hT 100000 _ _ _ _ (e.mpr H)

theorem t39b {K : AV → Hp → Prop} {g s0 e0 : Nat} {n : Nat} {e : List (List AV)} {m s3 e3 : Nat} {p : AV} {s : List UInt8} (hT : TabOk cfg (ctab [(62, copyA)])) (H :
    ∃ (acc1 : List UInt8), (1 = 1 ∧ 5 = 5 ∧ 71 = 71 ∧ 1 = 1 ∧ 2 = 2) ∧ (p = AV.nilp ∨ p = AV.ptr 3 0) ∧ e = rb acc1 ∧ [AV.ptr 3 0] = [AV.ptr 3 0] ∧ gAnd (tagOk [Blk.grow g s0 e0, Blk.grow m s3 e3, Blk.grow n 1 5, Blk.mem 71 [AV.ptr 3 0, AV.sl 1 (rb acc1) (some 2)]] (List.length (rb acc1)) 1 5 (some 2) && true && true && decide ((List.length (rb acc1) + List.length s) * 1 ≤ 140737488355328) && true && true) (K (AV.tup [AV.int IntKind.i64 (↑(List.length s) : Int), AV.nili]) [Blk.grow g s0 e0, Blk.grow m s3 e3, Blk.grow (List.length (rb acc1) + List.length s) 1 5, Blk.mem 71 [AV.ptr 3 0, AV.sl 1 (stripss 4 [Blk.grow g s0 e0, Blk.grow m s3 e3, Blk.grow (List.length (rb acc1) + List.length s) 1 5, Blk.mem 71 [AV.ptr 3 0, AV.sl 1 (rb acc1 ++ List.map (fun (b : UInt8) ↦ [AV.int IntKind.u8 (↑(UInt8.toNat b) : Int)]) s) (some 2)]] (rb acc1 ++ List.map (fun (b : UInt8) ↦ [AV.int IntKind.u8 (↑(UInt8.toNat b) : Int)]) s)) (some 2)]])) :
    ToEnd cfg 39 (bodyOf Tryd.f39) (RetIn Tryd.prog Tryd.f39 4 K) ([.code []]) .normal ([(0, true, .ptr 3 0), (1, true, .str s)]) ([.grow g s0 e0, .grow m s3 e3, .grow n 1 5, .mem 71 [p, .sl 1 e (some 2)]]) := by
  have e : unr cfg 39 (bodyOf Tryd.f39) (ctab [(62, copyA)]) ⟨[], []⟩ (RetIn Tryd.prog Tryd.f39 4 K) 100000 ([.code []]) .normal ([(0, true, .ptr 3 0), (1, true, .str s)]) ([.grow g s0 e0, .grow m s3 e3, .grow n 1 5, .mem 71 [p, .sl 1 e (some 2)]]) =
    (∃ (acc1 : List UInt8), (1 = 1 ∧ 5 = 5 ∧ 71 = 71 ∧ 1 = 1 ∧ 2 = 2) ∧ (p = AV.nilp ∨ p = AV.ptr 3 0) ∧ e = rb acc1 ∧ [AV.ptr 3 0] = [AV.ptr 3 0] ∧ gAnd (tagOk [Blk.grow g s0 e0, Blk.grow m s3 e3, Blk.grow n 1 5, Blk.mem 71 [AV.ptr 3 0, AV.sl 1 (rb acc1) (some 2)]] (List.length (rb acc1)) 1 5 (some 2) && true && true && decide ((List.length (rb acc1) + List.length s) * 1 ≤ 140737488355328) && true && true) (K (AV.tup [AV.int IntKind.i64 (↑(List.length s) : Int), AV.nili]) [Blk.grow g s0 e0, Blk.grow m s3 e3, Blk.grow (List.length (rb acc1) + List.length s) 1 5, Blk.mem 71 [AV.ptr 3 0, AV.sl 1 (stripss 4 [Blk.grow g s0 e0, Blk.grow m s3 e3, Blk.grow (List.length (rb acc1) + List.length s) 1 5, Blk.mem 71 [AV.ptr 3 0, AV.sl 1 (rb acc1 ++ List.map (fun (b : UInt8) ↦ [AV.int IntKind.u8 (↑(UInt8.toNat b) : Int)]) s) (some 2)]] (rb acc1 ++ List.map (fun (b : UInt8) ↦ [AV.int IntKind.u8 (↑(UInt8.toNat b) : Int)]) s)) (some 2)]])) := by kernel_rfl
  exact unr_ok hT 100000 _ _ _ _ (e.mpr H)

theorem t39 {K : AV → Hp → Prop} {g s0 e0 : Nat} {n : Nat} {e : List (List AV)} {p : AV} {s : List UInt8} (hT : TabOk cfg (ctab [(62, copyA)])) (H :
    ∃ (acc1 : List UInt8), (1 = 1 ∧ 5 = 5 ∧ 71 = 71 ∧ 1 = 1 ∧ 1 = 1) ∧ (p = AV.nilp ∨ p = AV.ptr 2 0) ∧ e = rb acc1 ∧ [AV.ptr 2 0] = [AV.ptr 2 0] ∧ gAnd (tagOk [Blk.grow g s0 e0, Blk.grow n 1 5, Blk.mem 71 [AV.ptr 2 0, AV.sl 1 (rb acc1) (some 1)]] (List.length (rb acc1)) 1 5 (some 1) && true && true && decide ((List.length (rb acc1) + List.length s) * 1 ≤ 140737488355328) && true && true) (K (AV.tup [AV.int IntKind.i64 (↑(List.length s) : Int), AV.nili]) [Blk.grow g s0 e0, Blk.grow (List.length (rb acc1) + List.length s) 1 5, Blk.mem 71 [AV.ptr 2 0, AV.sl 1 (stripss 3 [Blk.grow g s0 e0, Blk.grow (List.length (rb acc1) + List.length s) 1 5, Blk.mem 71 [AV.ptr 2 0, AV.sl 1 (rb acc1 ++ List.map (fun (b : UInt8) ↦ [AV.int IntKind.u8 (↑(UInt8.toNat b) : Int)]) s) (some 1)]] (rb acc1 ++ List.map (fun (b : UInt8) ↦ [AV.int IntKind.u8 (↑(UInt8.toNat b) : Int)]) s)) (some 1)]])) :
    ToEnd cfg 39 (bodyOf Tryd.f39) (RetIn Tryd.prog Tryd.f39 3 K) ([.code []]) .normal ([(0, true, .ptr 2 0), (1, true, .str s)]) ([.grow g s0 e0, .grow n 1 5, .mem 71 [p, .sl 1 e (some 1)]]) := by
  have e : unr cfg 39 (bodyOf Tryd.f39) (ctab [(62, copyA)]) ⟨[], []⟩ (RetIn Tryd.prog Tryd.f39 3 K) 100000 ([.code []]) .normal ([(0, true, .ptr 2 0), (1, true, .str s)]) ([.grow g s0 e0, .grow n 1 5, .mem 71 [p, .sl 1 e (some 1)]]) =
    (∃ (acc1 : List UInt8), (1 = 1 ∧ 5 = 5 ∧ 71 = 71 ∧ 1 = 1 ∧ 1 = 1) ∧ (p = AV.nilp ∨ p = AV.ptr 2 0) ∧ e = rb acc1 ∧ [AV.ptr 2 0] = [AV.ptr 2 0] ∧ gAnd (tagOk [Blk.grow g s0 e0, Blk.grow n 1 5, Blk.mem 71 [AV.ptr 2 0, AV.sl 1 (rb acc1) (some 1)]] (List.length (rb acc1)) 1 5 (some 1) && true && true && decide ((List.length (rb acc1) + List.length s) * 1 ≤ 140737488355328) && true && true) (K (AV.tup [AV.int IntKind.i64 (↑(List.length s) : Int), AV.nili]) [Blk.grow g s0 e0, Blk.grow (List.length (rb acc1) + List.length s) 1 5, Blk.mem 71 [AV.ptr 2 0, AV.sl 1 (stripss 3 [Blk.grow g s0 e0, Blk.grow (List.length (rb acc1) + List.length s) 1 5, Blk.mem 71 [AV.ptr 2 0, AV.sl 1 (rb acc1 ++ List.map (fun (b : UInt8) ↦ [AV.int IntKind.u8 (↑(UInt8.toNat b) : Int)]) s) (some 1)]] (rb acc1 ++ List.map (fun (b : UInt8) ↦ [AV.int IntKind.u8 (↑(UInt8.toNat b) : Int)]) s)) (some 1)]])) := by kernel_rfl
  exact unr_ok hT 100000 _ _ _ _ (e.mpr H)

theorem t40a {K : AV → Hp → Prop} {g s0 e0 : Nat} {n : Nat} {e : List (List AV)}  (hT : TabOk cfg (ctab [])) (H :
    K (AV.int IntKind.i64 (↑(List.length e) : Int)) [Blk.grow g s0 e0, Blk.grow n 1 5, Blk.mem 71 [AV.nilp, AV.sl 1 (stripss 3 [Blk.grow g s0 e0, Blk.grow n 1 5, Blk.mem 71 [AV.nilp, AV.sl 1 e (some 1)]] e) (some 1)]]) :
    ToEnd cfg 40 (bodyOf Tryd.f40) (RetIn Tryd.prog Tryd.f40 3 K) ([.code []]) .normal ([(0, true, .ptr 2 0)]) ([.grow g s0 e0, .grow n 1 5, .mem 71 [.nilp, .sl 1 e (some 1)]]) := by
  have e : unr cfg 40 (bodyOf Tryd.f40) (ctab []) ⟨[], []⟩ (RetIn Tryd.prog Tryd.f40 3 K) 100000 ([.code []]) .normal ([(0, true, .ptr 2 0)]) ([.grow g s0 e0, .grow n 1 5, .mem 71 [.nilp, .sl 1 e (some 1)]]) =
    (K (AV.int IntKind.i64 (↑(List.length e) : Int)) [Blk.grow g s0 e0, Blk.grow n 1 5, Blk.mem 71 [AV.nilp, AV.sl 1 (stripss 3 [Blk.grow g s0 e0, Blk.grow n 1 5, Blk.mem 71 [AV.nilp, AV.sl 1 e (some 1)]] e) (some 1)]]) := by kernel_rfl
  exact unr_ok hT 100000 _ _ _ _ (e.mpr H)

theorem t40b {K : AV → Hp → Prop} {g s0 e0 : Nat} {n : Nat} {e : List (List AV)}  (hT : TabOk cfg (ctab [])) (H :
    K (AV.int IntKind.i64 (↑(List.length e) : Int)) [Blk.grow g s0 e0, Blk.grow n 1 5, Blk.mem 71 [AV.ptr 2 0, AV.sl 1 (stripss 3 [Blk.grow g s0 e0, Blk.grow n 1 5, Blk.mem 71 [AV.ptr 2 0, AV.sl 1 e (some 1)]] e) (some 1)]]) :
    ToEnd cfg 40 (bodyOf Tryd.f40) (RetIn Tryd.prog Tryd.f40 3 K) ([.code []]) .normal ([(0, true, .ptr 2 0)]) ([.grow g s0 e0, .grow n 1 5, .mem 71 [.ptr 2 0, .sl 1 e (some 1)]]) := by
  have e : unr cfg 40 (bodyOf Tryd.f40) (ctab []) ⟨[], []⟩ (RetIn Tryd.prog Tryd.f40 3 K) 100000 ([.code []]) .normal ([(0, true, .ptr 2 0)]) ([.grow g s0 e0, .grow n 1 5, .mem 71 [.ptr 2 0, .sl 1 e (some 1)]]) =
    (K (AV.int IntKind.i64 (↑(List.length e) : Int)) [Blk.grow g s0 e0, Blk.grow n 1 5, Blk.mem 71 [AV.ptr 2 0, AV.sl 1 (stripss 3 [Blk.grow g s0 e0, Blk.grow n 1 5, Blk.mem 71 [AV.ptr 2 0, AV.sl 1 e (some 1)]] e) (some 1)]]) := by kernel_rfl
  exact unr_ok hT 100000 _ _ _ _ (e.mpr H)

theorem t25a {v : AV} {s : List UInt8} {m : Int} (hT : TabOk cfg (ctab [(42, lineC), (43, sizeC), (37, prefC), (44, parseC), (39, writeA), (40, lenA'), (41, strA)])) (H :
    ToEnd cfg 25 (bodyOf Tryd.f25) (RetIs Tryd.prog Tryd.f25 v) [Fm.code [1, 1, 1, 1, 1, 0, 1], Fm.scope [0, 1]] XT.normal [(0, true, AV.str s), (1, true, AV.int IntKind.i64 (max 0 (min m 262144))), (5, true, AV.int IntKind.i64 0), (8, true, AV.ptr 2 0)] [Blk.grow 0 2 38, Blk.grow 0 1 5, Blk.mem 71 [AV.nilp, AV.sl 1 [] (some 1)]]) :
    ToEnd cfg 25 (bodyOf Tryd.f25) (RetIs Tryd.prog Tryd.f25 v) ([.code []]) .normal ([(0, true, .str s), (1, true, .int .i64 m)]) ([]) := by
  have e : unr cfg 25 (bodyOf Tryd.f25) (ctab [(42, lineC), (43, sizeC), (37, prefC), (44, parseC), (39, writeA), (40, lenA'), (41, strA)]) ⟨[[1, 1, 1, 1, 1, 0, 1]], []⟩ (RetIs Tryd.prog Tryd.f25 v) 100000 ([.code []]) .normal ([(0, true, .str s), (1, true, .int .i64 m)]) ([]) =
    (ToEnd cfg 25 (bodyOf Tryd.f25) (RetIs Tryd.prog Tryd.f25 v) [Fm.code [1, 1, 1, 1, 1, 0, 1], Fm.scope [0, 1]] XT.normal [(0, true, AV.str s), (1, true, AV.int IntKind.i64 (max 0 (min m 262144))), (5, true, AV.int IntKind.i64 0), (8, true, AV.ptr 2 0)] [Blk.grow 0 2 38, Blk.grow 0 1 5, Blk.mem 71 [AV.nilp, AV.sl 1 [] (some 1)]]) := by kernel_rfl
  exact unr_ok hT 100000 _ _ _ _ (e.mpr H)

theorem t25b {v : AV} {p : AV} {s : List UInt8} {m u : Int} {g n : Nat} {e : List (List AV)} (hT : TabOk cfg (ctab [(42, lineC), (43, sizeC), (37, prefC), (44, parseC), (39, writeA), (40, lenA'), (41, strA)])) (H :
    gAnd (cutOb (List.length s) (some u) none)
  (∃ (s1 : List UInt8),
    ∃ (en2 : List UInt8),
      ∃ (m3 : Nat),
        List.length s1 ≤ 10000000 ∧
          List.length en2 ≤ 100 ∧
            m3 ≤ 10000000 ∧
              [AV.str (cutL s (some u) none), AV.str [13, 10], AV.int IntKind.i64 2050] = [AV.str s1, AV.str en2, AV.int IntKind.i64 (↑m3 : Int)] ∧
                ifP (Prod.snd (Prod.snd (lineA en2 m3 s1)) != 0) (AV.tup [AV.str [], AV.int IntKind.i64 0, AV.sl 2 [] none, AV.int IntKind.i64 (Prod.snd (Prod.snd (lineA en2 m3 s1)))] = v)
                  (∃ (s4 : List UInt8),
                    List.length s4 ≤ 100000 ∧
                      [AV.str (Prod.fst (lineA en2 m3 s1))] = [AV.str s4] ∧
                        ifP (Prod.snd (sizeA s4) != 0) (AV.tup [AV.str [], AV.int IntKind.i64 0, AV.sl 2 [] none, AV.int IntKind.i64 (Prod.snd (sizeA s4))] = v)
                          (ifP ((↑(Prod.fst (sizeA s4)) : Int) == 0) (gAnd (cutOb (List.length s) (some (IntKind.wrap IntKind.i64 (u + (↑(Prod.fst (Prod.snd (lineA en2 m3 s1))) : Int)))) none) (∃ (s5 : List UInt8), ∃ (x6 : List UInt8), [AV.str (cutL s (some (IntKind.wrap IntKind.i64 (u + (↑(Prod.fst (Prod.snd (lineA en2 m3 s1))) : Int)))) none), AV.str [13, 10]] = [AV.str s5, AV.str x6] ∧ ifP (List.isPrefixOf x6 s5) (∃ (acc7 : List UInt8), (1 = 1 ∧ 5 = 5 ∧ 71 = 71 ∧ 1 = 1 ∧ 1 = 1) ∧ e = rb acc7 ∧ n = List.length acc7 ∧ [AV.ptr 2 0] = [AV.ptr 2 0] ∧ AV.tup [AV.str acc7, AV.int IntKind.i64 (IntKind.wrap IntKind.i64 (IntKind.wrap IntKind.i64 (u + (↑(Prod.fst (Prod.snd (lineA en2 m3 s1))) : Int)) + 2)), AV.sl 2 [] none, AV.int IntKind.i64 0] = v) (gAnd (cutOb (List.length s) (some (IntKind.wrap IntKind.i64 (u + (↑(Prod.fst (Prod.snd (lineA en2 m3 s1))) : Int)))) none) (∃ (s8 : List UInt8), ∃ (en9 : List UInt8), ∃ (m10 : Nat), List.length s8 ≤ 10000000 ∧ List.length en9 ≤ 100 ∧ m10 ≤ 10000000 ∧ [AV.str (cutL s (some (IntKind.wrap IntKind.i64 (u + (↑(Prod.fst (Prod.snd (lineA en2 m3 s1))) : Int)))) none), AV.str [13, 10, 13, 10], AV.int IntKind.i64 8192] = [AV.str s8, AV.str en9, AV.int IntKind.i64 (↑m10 : Int)] ∧ ifP (Prod.snd (Prod.snd (lineA en9 m10 s8)) != 0) (AV.tup [AV.str [], AV.int IntKind.i64 0, AV.sl 2 [] none, AV.int IntKind.i64 (Prod.snd (Prod.snd (lineA en9 m10 s8)))] = v) (gAnd (decide (List.length (Prod.fst (lineA en9 m10 s8)) + 2 ≤ 9223372036854775807)) (∃ (s11 : List UInt8), List.length s11 ≤ 100000 ∧ [AV.str (Prod.fst (lineA en9 m10 s8) ++ [13, 10])] = [AV.str s11] ∧ ifP (Prod.snd (parseF s11) == 0) (∃ (acc12 : List UInt8), (1 = 1 ∧ 5 = 5 ∧ 71 = 71 ∧ 1 = 1 ∧ 1 = 1) ∧ e = rb acc12 ∧ n = List.length acc12 ∧ [AV.ptr 2 0] = [AV.ptr 2 0] ∧ AV.tup [AV.str acc12, AV.int IntKind.i64 (IntKind.wrap IntKind.i64 (IntKind.wrap IntKind.i64 (u + (↑(Prod.fst (Prod.snd (lineA en2 m3 s1))) : Int)) + (↑(Prod.fst (Prod.snd (lineA en9 m10 s8))) : Int))), AV.sl 2 (stripss 0 [Blk.grow g 2 38, Blk.dead, Blk.mem 71 [p, AV.sl 1 (rb acc12) (some 1)]] (encFs (Prod.fst (parseF s11)))) none, AV.int IntKind.i64 0] = v) (AV.tup [AV.str [], AV.int IntKind.i64 0, AV.sl 2 [] none, AV.int IntKind.i64 (Prod.snd (parseF s11))] = v)))))))
                            (∃ (acc13 : List UInt8), (1 = 1 ∧ 5 = 5 ∧ 71 = 71 ∧ 1 = 1 ∧ 1 = 1) ∧ (p = AV.nilp ∨ p = AV.ptr 2 0) ∧ e = rb acc13 ∧ n = List.length acc13 ∧ [AV.ptr 2 0] = [AV.ptr 2 0] ∧ ifP (decide ((↑(Prod.fst (sizeA s4)) : Int) > IntKind.wrap IntKind.i64 (m - (↑(List.length acc13) : Int)))) (AV.tup [AV.str [], AV.int IntKind.i64 0, AV.sl 2 [] none, AV.int IntKind.i64 3] = v) (ifP (decide ((↑(Prod.fst (sizeA s4)) : Int) > IntKind.wrap IntKind.i64 ((↑(List.length s) : Int) - IntKind.wrap IntKind.i64 (u + (↑(Prod.fst (Prod.snd (lineA en2 m3 s1))) : Int))))) (AV.tup [AV.str [], AV.int IntKind.i64 0, AV.sl 2 [] none, AV.int IntKind.i64 6] = v) (gAnd (cutOb (List.length s) (some (IntKind.wrap IntKind.i64 (u + (↑(Prod.fst (Prod.snd (lineA en2 m3 s1))) : Int)))) (some (IntKind.wrap IntKind.i64 (IntKind.wrap IntKind.i64 (u + (↑(Prod.fst (Prod.snd (lineA en2 m3 s1))) : Int)) + (↑(Prod.fst (sizeA s4)) : Int))))) (∃ (acc14 : List UInt8), ∃ (x15 : List UInt8), (1 = 1 ∧ 5 = 5 ∧ 71 = 71 ∧ 1 = 1 ∧ 1 = 1) ∧ (p = AV.nilp ∨ p = AV.ptr 2 0) ∧ rb acc13 = rb acc14 ∧ List.length acc13 = List.length acc14 ∧ List.length acc14 + List.length x15 ≤ 1000000000 ∧ [AV.ptr 2 0, AV.str (cutL s (some (IntKind.wrap IntKind.i64 (u + (↑(Prod.fst (Prod.snd (lineA en2 m3 s1))) : Int)))) (some (IntKind.wrap IntKind.i64 (IntKind.wrap IntKind.i64 (u + (↑(Prod.fst (Prod.snd (lineA en2 m3 s1))) : Int)) + (↑(Prod.fst (sizeA s4)) : Int)))))] = [AV.ptr 2 0, AV.str x15] ∧ gAnd (cutOb (List.length s) (some (IntKind.wrap IntKind.i64 (IntKind.wrap IntKind.i64 (u + (↑(Prod.fst (Prod.snd (lineA en2 m3 s1))) : Int)) + (↑(Prod.fst (sizeA s4)) : Int)))) none) (∃ (s16 : List UInt8), ∃ (x17 : List UInt8), [AV.str (cutL s (some (IntKind.wrap IntKind.i64 (IntKind.wrap IntKind.i64 (u + (↑(Prod.fst (Prod.snd (lineA en2 m3 s1))) : Int)) + (↑(Prod.fst (sizeA s4)) : Int)))) none), AV.str [13, 10]] = [AV.str s16, AV.str x17] ∧ ifP (!List.isPrefixOf x17 s16) (∃ (s18 : List UInt8), ∃ (x19 : List UInt8), [AV.str [13, 10], AV.str (cutL s (some (IntKind.wrap IntKind.i64 (IntKind.wrap IntKind.i64 (u + (↑(Prod.fst (Prod.snd (lineA en2 m3 s1))) : Int)) + (↑(Prod.fst (sizeA s4)) : Int)))) none)] = [AV.str s18, AV.str x19] ∧ ifP (List.isPrefixOf x19 s18) (AV.tup [AV.str [], AV.int IntKind.i64 0, AV.sl 2 [] none, AV.int IntKind.i64 6] = v) (AV.tup [AV.str [], AV.int IntKind.i64 0, AV.sl 2 [] none, AV.int IntKind.i64 4] = v)) (ToEnd cfg 25 (bodyOf Tryd.f25) (RetIs Tryd.prog Tryd.f25 v) [Fm.code [3, 0, 1], Fm.scope [0, 1]] XT.normal [(5, true, AV.int IntKind.i64 (IntKind.wrap IntKind.i64 (IntKind.wrap IntKind.i64 (IntKind.wrap IntKind.i64 (u + (↑(Prod.fst (Prod.snd (lineA en2 m3 s1))) : Int)) + (↑(Prod.fst (sizeA s4)) : Int)) + 2))), (68, true, AV.int IntKind.i64 (IntKind.wrap IntKind.i64 (IntKind.wrap IntKind.i64 (IntKind.wrap IntKind.i64 (u + (↑(Prod.fst (Prod.snd (lineA en2 m3 s1))) : Int)) + (↑(Prod.fst (sizeA s4)) : Int)) + 2))), (67, true, AV.int IntKind.i64 (IntKind.wrap IntKind.i64 (IntKind.wrap IntKind.i64 (u + (↑(Prod.fst (Prod.snd (lineA en2 m3 s1))) : Int)) + (↑(Prod.fst (sizeA s4)) : Int)))), (0, true, AV.str s), (1, true, AV.int IntKind.i64 m), (5, true, AV.int IntKind.i64 (IntKind.wrap IntKind.i64 (IntKind.wrap IntKind.i64 (u + (↑(Prod.fst (Prod.snd (lineA en2 m3 s1))) : Int)) + (↑(Prod.fst (sizeA s4)) : Int)))), (8, true, AV.ptr 2 0)] [Blk.grow g 2 38, Blk.grow (List.length (acc14 ++ x15)) 1 5, Blk.mem 71 [AV.ptr 2 0, AV.sl 1 (rb (acc14 ++ x15)) (some 1)]])))))))))) :
    ToEnd cfg 25 (bodyOf Tryd.f25) (RetIs Tryd.prog Tryd.f25 v) ([.code [1, 1, 1, 1, 1, 0, 1], .scope [0, 1]]) .normal ([(0, true, .str s), (1, true, .int .i64 m), (5, true, .int .i64 u), (8, true, .ptr 2 0)]) ([.grow g 2 38, .grow n 1 5, .mem 71 [p, .sl 1 e (some 1)]]) := by
  have e : unr cfg 25 (bodyOf Tryd.f25) (ctab [(42, lineC), (43, sizeC), (37, prefC), (44, parseC), (39, writeA), (40, lenA'), (41, strA)]) ⟨[[3, 0, 1]], []⟩ (RetIs Tryd.prog Tryd.f25 v) 100000 ([.code [1, 1, 1, 1, 1, 0, 1], .scope [0, 1]]) .normal ([(0, true, .str s), (1, true, .int .i64 m), (5, true, .int .i64 u), (8, true, .ptr 2 0)]) ([.grow g 2 38, .grow n 1 5, .mem 71 [p, .sl 1 e (some 1)]]) =
    (gAnd (cutOb (List.length s) (some u) none)
  (∃ (s1 : List UInt8),
    ∃ (en2 : List UInt8),
      ∃ (m3 : Nat),
        List.length s1 ≤ 10000000 ∧
          List.length en2 ≤ 100 ∧
            m3 ≤ 10000000 ∧
              [AV.str (cutL s (some u) none), AV.str [13, 10], AV.int IntKind.i64 2050] = [AV.str s1, AV.str en2, AV.int IntKind.i64 (↑m3 : Int)] ∧
                ifP (Prod.snd (Prod.snd (lineA en2 m3 s1)) != 0) (AV.tup [AV.str [], AV.int IntKind.i64 0, AV.sl 2 [] none, AV.int IntKind.i64 (Prod.snd (Prod.snd (lineA en2 m3 s1)))] = v)
                  (∃ (s4 : List UInt8),
                    List.length s4 ≤ 100000 ∧
                      [AV.str (Prod.fst (lineA en2 m3 s1))] = [AV.str s4] ∧
                        ifP (Prod.snd (sizeA s4) != 0) (AV.tup [AV.str [], AV.int IntKind.i64 0, AV.sl 2 [] none, AV.int IntKind.i64 (Prod.snd (sizeA s4))] = v)
                          (ifP ((↑(Prod.fst (sizeA s4)) : Int) == 0) (gAnd (cutOb (List.length s) (some (IntKind.wrap IntKind.i64 (u + (↑(Prod.fst (Prod.snd (lineA en2 m3 s1))) : Int)))) none) (∃ (s5 : List UInt8), ∃ (x6 : List UInt8), [AV.str (cutL s (some (IntKind.wrap IntKind.i64 (u + (↑(Prod.fst (Prod.snd (lineA en2 m3 s1))) : Int)))) none), AV.str [13, 10]] = [AV.str s5, AV.str x6] ∧ ifP (List.isPrefixOf x6 s5) (∃ (acc7 : List UInt8), (1 = 1 ∧ 5 = 5 ∧ 71 = 71 ∧ 1 = 1 ∧ 1 = 1) ∧ e = rb acc7 ∧ n = List.length acc7 ∧ [AV.ptr 2 0] = [AV.ptr 2 0] ∧ AV.tup [AV.str acc7, AV.int IntKind.i64 (IntKind.wrap IntKind.i64 (IntKind.wrap IntKind.i64 (u + (↑(Prod.fst (Prod.snd (lineA en2 m3 s1))) : Int)) + 2)), AV.sl 2 [] none, AV.int IntKind.i64 0] = v) (gAnd (cutOb (List.length s) (some (IntKind.wrap IntKind.i64 (u + (↑(Prod.fst (Prod.snd (lineA en2 m3 s1))) : Int)))) none) (∃ (s8 : List UInt8), ∃ (en9 : List UInt8), ∃ (m10 : Nat), List.length s8 ≤ 10000000 ∧ List.length en9 ≤ 100 ∧ m10 ≤ 10000000 ∧ [AV.str (cutL s (some (IntKind.wrap IntKind.i64 (u + (↑(Prod.fst (Prod.snd (lineA en2 m3 s1))) : Int)))) none), AV.str [13, 10, 13, 10], AV.int IntKind.i64 8192] = [AV.str s8, AV.str en9, AV.int IntKind.i64 (↑m10 : Int)] ∧ ifP (Prod.snd (Prod.snd (lineA en9 m10 s8)) != 0) (AV.tup [AV.str [], AV.int IntKind.i64 0, AV.sl 2 [] none, AV.int IntKind.i64 (Prod.snd (Prod.snd (lineA en9 m10 s8)))] = v) (gAnd (decide (List.length (Prod.fst (lineA en9 m10 s8)) + 2 ≤ 9223372036854775807)) (∃ (s11 : List UInt8), List.length s11 ≤ 100000 ∧ [AV.str (Prod.fst (lineA en9 m10 s8) ++ [13, 10])] = [AV.str s11] ∧ ifP (Prod.snd (parseF s11) == 0) (∃ (acc12 : List UInt8), (1 = 1 ∧ 5 = 5 ∧ 71 = 71 ∧ 1 = 1 ∧ 1 = 1) ∧ e = rb acc12 ∧ n = List.length acc12 ∧ [AV.ptr 2 0] = [AV.ptr 2 0] ∧ AV.tup [AV.str acc12, AV.int IntKind.i64 (IntKind.wrap IntKind.i64 (IntKind.wrap IntKind.i64 (u + (↑(Prod.fst (Prod.snd (lineA en2 m3 s1))) : Int)) + (↑(Prod.fst (Prod.snd (lineA en9 m10 s8))) : Int))), AV.sl 2 (stripss 0 [Blk.grow g 2 38, Blk.dead, Blk.mem 71 [p, AV.sl 1 (rb acc12) (some 1)]] (encFs (Prod.fst (parseF s11)))) none, AV.int IntKind.i64 0] = v) (AV.tup [AV.str [], AV.int IntKind.i64 0, AV.sl 2 [] none, AV.int IntKind.i64 (Prod.snd (parseF s11))] = v)))))))
                            (∃ (acc13 : List UInt8), (1 = 1 ∧ 5 = 5 ∧ 71 = 71 ∧ 1 = 1 ∧ 1 = 1) ∧ (p = AV.nilp ∨ p = AV.ptr 2 0) ∧ e = rb acc13 ∧ n = List.length acc13 ∧ [AV.ptr 2 0] = [AV.ptr 2 0] ∧ ifP (decide ((↑(Prod.fst (sizeA s4)) : Int) > IntKind.wrap IntKind.i64 (m - (↑(List.length acc13) : Int)))) (AV.tup [AV.str [], AV.int IntKind.i64 0, AV.sl 2 [] none, AV.int IntKind.i64 3] = v) (ifP (decide ((↑(Prod.fst (sizeA s4)) : Int) > IntKind.wrap IntKind.i64 ((↑(List.length s) : Int) - IntKind.wrap IntKind.i64 (u + (↑(Prod.fst (Prod.snd (lineA en2 m3 s1))) : Int))))) (AV.tup [AV.str [], AV.int IntKind.i64 0, AV.sl 2 [] none, AV.int IntKind.i64 6] = v) (gAnd (cutOb (List.length s) (some (IntKind.wrap IntKind.i64 (u + (↑(Prod.fst (Prod.snd (lineA en2 m3 s1))) : Int)))) (some (IntKind.wrap IntKind.i64 (IntKind.wrap IntKind.i64 (u + (↑(Prod.fst (Prod.snd (lineA en2 m3 s1))) : Int)) + (↑(Prod.fst (sizeA s4)) : Int))))) (∃ (acc14 : List UInt8), ∃ (x15 : List UInt8), (1 = 1 ∧ 5 = 5 ∧ 71 = 71 ∧ 1 = 1 ∧ 1 = 1) ∧ (p = AV.nilp ∨ p = AV.ptr 2 0) ∧ rb acc13 = rb acc14 ∧ List.length acc13 = List.length acc14 ∧ List.length acc14 + List.length x15 ≤ 1000000000 ∧ [AV.ptr 2 0, AV.str (cutL s (some (IntKind.wrap IntKind.i64 (u + (↑(Prod.fst (Prod.snd (lineA en2 m3 s1))) : Int)))) (some (IntKind.wrap IntKind.i64 (IntKind.wrap IntKind.i64 (u + (↑(Prod.fst (Prod.snd (lineA en2 m3 s1))) : Int)) + (↑(Prod.fst (sizeA s4)) : Int)))))] = [AV.ptr 2 0, AV.str x15] ∧ gAnd (cutOb (List.length s) (some (IntKind.wrap IntKind.i64 (IntKind.wrap IntKind.i64 (u + (↑(Prod.fst (Prod.snd (lineA en2 m3 s1))) : Int)) + (↑(Prod.fst (sizeA s4)) : Int)))) none) (∃ (s16 : List UInt8), ∃ (x17 : List UInt8), [AV.str (cutL s (some (IntKind.wrap IntKind.i64 (IntKind.wrap IntKind.i64 (u + (↑(Prod.fst (Prod.snd (lineA en2 m3 s1))) : Int)) + (↑(Prod.fst (sizeA s4)) : Int)))) none), AV.str [13, 10]] = [AV.str s16, AV.str x17] ∧ ifP (!List.isPrefixOf x17 s16) (∃ (s18 : List UInt8), ∃ (x19 : List UInt8), [AV.str [13, 10], AV.str (cutL s (some (IntKind.wrap IntKind.i64 (IntKind.wrap IntKind.i64 (u + (↑(Prod.fst (Prod.snd (lineA en2 m3 s1))) : Int)) + (↑(Prod.fst (sizeA s4)) : Int)))) none)] = [AV.str s18, AV.str x19] ∧ ifP (List.isPrefixOf x19 s18) (AV.tup [AV.str [], AV.int IntKind.i64 0, AV.sl 2 [] none, AV.int IntKind.i64 6] = v) (AV.tup [AV.str [], AV.int IntKind.i64 0, AV.sl 2 [] none, AV.int IntKind.i64 4] = v)) (ToEnd cfg 25 (bodyOf Tryd.f25) (RetIs Tryd.prog Tryd.f25 v) [Fm.code [3, 0, 1], Fm.scope [0, 1]] XT.normal [(5, true, AV.int IntKind.i64 (IntKind.wrap IntKind.i64 (IntKind.wrap IntKind.i64 (IntKind.wrap IntKind.i64 (u + (↑(Prod.fst (Prod.snd (lineA en2 m3 s1))) : Int)) + (↑(Prod.fst (sizeA s4)) : Int)) + 2))), (68, true, AV.int IntKind.i64 (IntKind.wrap IntKind.i64 (IntKind.wrap IntKind.i64 (IntKind.wrap IntKind.i64 (u + (↑(Prod.fst (Prod.snd (lineA en2 m3 s1))) : Int)) + (↑(Prod.fst (sizeA s4)) : Int)) + 2))), (67, true, AV.int IntKind.i64 (IntKind.wrap IntKind.i64 (IntKind.wrap IntKind.i64 (u + (↑(Prod.fst (Prod.snd (lineA en2 m3 s1))) : Int)) + (↑(Prod.fst (sizeA s4)) : Int)))), (0, true, AV.str s), (1, true, AV.int IntKind.i64 m), (5, true, AV.int IntKind.i64 (IntKind.wrap IntKind.i64 (IntKind.wrap IntKind.i64 (u + (↑(Prod.fst (Prod.snd (lineA en2 m3 s1))) : Int)) + (↑(Prod.fst (sizeA s4)) : Int)))), (8, true, AV.ptr 2 0)] [Blk.grow g 2 38, Blk.grow (List.length (acc14 ++ x15)) 1 5, Blk.mem 71 [AV.ptr 2 0, AV.sl 1 (rb (acc14 ++ x15)) (some 1)]])))))))))) := by kernel_rfl
  exact unr_ok hT 100000 _ _ _ _ (e.mpr H)

theorem t25c {v : AV} {p : AV} {s : List UInt8} {m u a b c : Int} {g n : Nat} {e : List (List AV)} (hT : TabOk cfg (ctab [(42, lineC), (43, sizeC), (37, prefC), (44, parseC), (39, writeA), (40, lenA'), (41, strA)])) (H :
    ToEnd cfg 25 (bodyOf Tryd.f25) (RetIs Tryd.prog Tryd.f25 v) [Fm.code [1, 3, 0, 1], Fm.scope [0, 1]] XT.normal [(0, true, AV.str s), (1, true, AV.int IntKind.i64 m), (5, true, AV.int IntKind.i64 u), (8, true, AV.ptr 2 0)] [Blk.grow g 2 38, Blk.grow n 1 5, Blk.mem 71 [p, AV.sl 1 e (some 1)]]) :
    ToEnd cfg 25 (bodyOf Tryd.f25) (RetIs Tryd.prog Tryd.f25 v) ([.code [3, 0, 1], .scope [0, 1]]) .normal ([(5, true, .int .i64 u), (68, true, .int .i64 a), (67, true, .int .i64 b), (0, true, .str s), (1, true, .int .i64 m), (5, true, .int .i64 c), (8, true, .ptr 2 0)]) ([.grow g 2 38, .grow n 1 5, .mem 71 [p, .sl 1 e (some 1)]]) := by
  have e : unr cfg 25 (bodyOf Tryd.f25) (ctab [(42, lineC), (43, sizeC), (37, prefC), (44, parseC), (39, writeA), (40, lenA'), (41, strA)]) ⟨[[1, 3, 0, 1]], []⟩ (RetIs Tryd.prog Tryd.f25 v) 100000 ([.code [3, 0, 1], .scope [0, 1]]) .normal ([(5, true, .int .i64 u), (68, true, .int .i64 a), (67, true, .int .i64 b), (0, true, .str s), (1, true, .int .i64 m), (5, true, .int .i64 c), (8, true, .ptr 2 0)]) ([.grow g 2 38, .grow n 1 5, .mem 71 [p, .sl 1 e (some 1)]]) =
    (ToEnd cfg 25 (bodyOf Tryd.f25) (RetIs Tryd.prog Tryd.f25 v) [Fm.code [1, 3, 0, 1], Fm.scope [0, 1]] XT.normal [(0, true, AV.str s), (1, true, AV.int IntKind.i64 m), (5, true, AV.int IntKind.i64 u), (8, true, AV.ptr 2 0)] [Blk.grow g 2 38, Blk.grow n 1 5, Blk.mem 71 [p, AV.sl 1 e (some 1)]]) := by kernel_rfl
  exact unr_ok hT 100000 _ _ _ _ (e.mpr H)

end Go.Proofs.YtnncfdlpogjlkaaDoor
end

section
namespace Go.Proofs.YtnncfdlpogjlkaaDoor
open Go.Ai Go
set_option linter.unusedSimpArgs false
set_option linter.unusedVariables false
set_option linter.unnecessarySimpa false
set_option maxRecDepth 100000

theorem cok_hprim {C : Cfg} {k : Nat} {g : List AV → Hp → Option (AV × Hp)} {t : Con} (h1 : C.ok k = true) (h2 : C.hprim k = some g) (H : ∀ vs h K, t vs h K → ∃ v h', g vs h = some (v, h') ∧ K v h') : COk C k t := by
  intro l h K ht
  have ha : argsOf C k l = l := by simp [argsOf, h2]
  rw [ha] at ht
  obtain ⟨v, h', hg, hk⟩ := H _ _ _ ht
  refine ⟨v, h', ⟨1, fun n hn => ?_⟩, hk⟩
  obtain ⟨m, rfl⟩ : ∃ m, n = m + 1 := ⟨n - 1, by omega⟩
  rw [call]
  simp only [h1, h2, hg, Bool.not_true, cond_false]
theorem to_path {C : Cfg} {f : FuncId} {body : Code} {Q : Fr → Hp → Prop} {p q : List Nat} {st : List Fm} {F : Fr} {h : Hp} (e : codeAt body p = codeAt body q) (H : ToEnd C f body Q (.code q :: st) .normal F h) : ToEnd C f body Q (.code p :: st) .normal F h := by
  obtain ⟨x, F', h', h1, h2⟩ := H
  exact ⟨x, F', h', by rw [e]; exact h1, h2⟩

theorem hf62 : heapFn cfg 62 Tryd.f62 := ⟨by kernel_rfl, by kernel_rfl, by kernel_rfl, by kernel_rfl, by kernel_rfl, by kernel_rfl⟩
theorem hf39 : heapFn cfg 39 Tryd.f39 := ⟨by kernel_rfl, by kernel_rfl, by kernel_rfl, by kernel_rfl, by kernel_rfl, by kernel_rfl⟩
theorem hf40 : heapFn cfg 40 Tryd.f40 := ⟨by kernel_rfl, by kernel_rfl, by kernel_rfl, by kernel_rfl, by kernel_rfl, by kernel_rfl⟩
theorem pf25 : pureFn cfg 25 Tryd.f25 := ⟨by kernel_rfl, by kernel_rfl, by kernel_rfl, by kernel_rfl, by kernel_rfl, by kernel_rfl⟩

theorem c62 : COk cfg 62 copyA := by
  refine cok_heap hf62 fun vs h K ht => ?_
  unfold copyA at ht
  split at ht
  · obtain ⟨acc, ⟨rfl, rfl, rfl, rfl, rfl⟩, hp, rfl, rfl, hk⟩ := ht
    rcases hp with rfl | rfl
    · refine t62a (ctab_ok ctab_nil) ?_
      rw [stripss_rb]; exact hk
    · refine t62b (ctab_ok ctab_nil) ?_
      rw [stripss_rb]; exact hk
  · obtain ⟨acc, ⟨rfl, rfl, rfl, rfl, rfl⟩, hp, rfl, rfl, hk⟩ := ht
    rcases hp with rfl | rfl
    · refine t62c (ctab_ok ctab_nil) ?_
      rw [stripss_rb]; exact hk
    · refine t62d (ctab_ok ctab_nil) ?_
      rw [stripss_rb]; exact hk
  · exact ht.elim
theorem c39 : COk cfg 39 writeA := by
  refine cok_heap hf39 fun vs h K ht => ?_
  unfold writeA at ht
  split at ht
  · obtain ⟨acc, x, ⟨rfl, rfl, rfl, rfl, rfl⟩, hp, rfl, rfl, hl, rfl, hk⟩ := ht
    refine t39 (ctab_ok (ctab_cons c62 ctab_nil)) ⟨acc, ⟨rfl, rfl, rfl, rfl, rfl⟩, hp, rfl, rfl, gAnd_intro ?_ ?_⟩
    · rw [rb_len, tag_ok rfl, decide_eq_true (by omega)]; rfl
    · have e : rb acc ++ x.map (fun (b : UInt8) => [AV.int IntKind.u8 ((UInt8.toNat b : Nat) : Int)]) = rb (acc ++ x) := (rb_app acc x).symm
      rw [e, stripss_rb, rb_len, ← List.length_append]
      exact hk
  · obtain ⟨acc, x, ⟨rfl, rfl, rfl, rfl, rfl⟩, hp, rfl, rfl, hl, rfl, hk⟩ := ht
    refine t39b (ctab_ok (ctab_cons c62 ctab_nil)) ⟨acc, ⟨rfl, rfl, rfl, rfl, rfl⟩, hp, rfl, rfl, gAnd_intro ?_ ?_⟩
    · rw [rb_len, tag_ok rfl, decide_eq_true (by omega)]; rfl
    · have e : rb acc ++ x.map (fun (b : UInt8) => [AV.int IntKind.u8 ((UInt8.toNat b : Nat) : Int)]) = rb (acc ++ x) := (rb_app acc x).symm
      rw [e, stripss_rb, rb_len, ← List.length_append]
      exact hk
  · exact ht.elim
theorem c40 : COk cfg 40 lenA' := by
  refine cok_heap hf40 fun vs h K ht => ?_
  unfold lenA' at ht
  split at ht
  · obtain ⟨acc, ⟨rfl, rfl, rfl, rfl, rfl⟩, hp, rfl, rfl, rfl, hk⟩ := ht
    rcases hp with rfl | rfl
    · refine t40a (ctab_ok ctab_nil) ?_
      rw [stripss_rb, rb_len]; exact hk
    · refine t40b (ctab_ok ctab_nil) ?_
      rw [stripss_rb, rb_len]; exact hk
  · exact ht.elim
theorem bytesA_rb : ∀ s : List UInt8, bytesA (rb s) = some s
  | [] => rfl
  | c :: r => by
    have ih := bytesA_rb r
    have hc := c.toNat_lt
    have e : rb (c :: r) = [AV.int .u8 ((c.toNat : Nat) : Int)] :: rb r := rfl
    have b : byteA [AV.int .u8 ((c.toNat : Nat) : Int)] = some c := by
      simp only [byteA]
      rw [decide_eq_true (by omega), decide_eq_true (by omega)]
      simp
    rw [e, bytesA, ih, b]
theorem c41 : COk cfg 41 strA := by
  refine cok_hprim (by kernel_rfl) (by kernel_rfl : cfg.hprim 41 = some (pString 5)) fun vs h K ht => ?_
  unfold strA at ht
  split at ht
  · obtain ⟨acc, ⟨rfl, rfl, rfl, rfl, rfl⟩, rfl, rfl, rfl, hk⟩ := ht
    refine ⟨_, _, ?_, hk⟩
    unfold pString
    simp only [List.getElem?_cons_succ, List.getElem?_cons_zero, bytesA_rb]
    rw [rb_len, tag_ok rfl]
    rfl
  · obtain ⟨acc, ⟨rfl, rfl, rfl, rfl, rfl⟩, rfl, rfl, rfl, hk⟩ := ht
    refine ⟨_, _, ?_, hk⟩
    unfold pString
    simp only [List.getElem?_cons_succ, List.getElem?_cons_zero, bytesA_rb]
    rw [rb_len, tag_ok rfl]
    rfl
  · exact ht.elim

/-! The chunks -/
def decV (d : Dec) : AV := .tup [.str d.body, .int .i64 (d.used : Nat), .sl 2 (encFs d.tr) none, .int .i64 d.e]
theorem decV_x (e : Int) : AV.tup [.str [], .int .i64 0, .sl 2 [] none, .int .i64 e] = decV (decX e) := rfl
theorem size_lt (s : List UInt8) : (sizeA s).1 < 4294967296 := by
  unfold sizeA sizeV
  split
  · rename_i n hn
    split at hn
    · cases hn
    split at hn
    · cases hn
    rename_i h8
    have hv : hexV 0 (s.takeWhile hexB) < 16 ^ 8 := hexV_pow (List.all_eq_true.2 fun c hc => takeWhile_mem hc) (by omega)
    split at hn
    · injection hn with hn; subst hn; exact hv
    · split at hn
      · injection hn with hn; subst hn; exact hv
      · cases hn
  · simp
theorem tab25 : TabOk cfg (ctab [(42, lineC), (43, sizeC), (37, prefC), (44, parseC), (39, writeA), (40, lenA'), (41, strA)]) :=
  ctab_ok (ctab_cons c42 (ctab_cons c43 (ctab_cons c37 (ctab_cons c44 (ctab_cons c39 (ctab_cons c40 (ctab_cons c41 ctab_nil)))))))
theorem cut_from {s : List UInt8} {u : Nat} : cutL s (some (u : Int)) none = s.drop u := by simp [cutL]
theorem cutOb_from {s : List UInt8} {u : Nat} (h : u ≤ s.length) : cutOb s.length (some (u : Int)) none = true := by simp [cutOb]; omega
theorem cut_mid {s : List UInt8} {u v : Nat} : cutL s (some (u : Int)) (some (v : Int)) = (s.drop u).take (v - u) := by
  simp only [cutL, Int.toNat_natCast]
  rw [List.drop_take]
theorem cutOb_mid {s : List UInt8} {u v : Nat} (h : u ≤ v) (h2 : v ≤ s.length) : cutOb s.length (some (u : Int)) (some (v : Int)) = true := by simp [cutOb]; omega
theorem lineA_len (en s : List UInt8) (most : Nat) : (lineA en most s).1.length ≤ most ∧ (lineA en most s).2.1 ≤ s.length ∧ (lineA en most s).2.1 ≤ most := by
  unfold lineA
  split
  · rename_i n hn
    have := (fnd_some hn).2
    simp at this ⊢
    omega
  · simp
theorem loop25 {s : List UInt8} (hs : s.length ≤ lim) {M : Nat} (hM : M ≤ 262144) : ∀ (f : Nat) (u : Nat) (acc : List UInt8) (p : AV) (g : Nat), (p = .nilp ∨ p = .ptr 2 0) → u ≤ s.length → s.length - u < f → acc.length ≤ M →
    ToEnd cfg 25 (bodyOf Tryd.f25) (RetIs Tryd.prog Tryd.f25 (decV (decG M f (s.drop u) acc u))) [.code [1, 1, 1, 1, 1, 0, 1], .scope [0, 1]] .normal
      [(0, true, .str s), (1, true, .int .i64 M), (5, true, .int .i64 u), (8, true, .ptr 2 0)] [.grow g 2 38, .grow acc.length 1 5, .mem 71 [p, .sl 1 (rb acc) (some 1)]] := by
  intro f
  induction f with
  | zero => intro u acc p g hp hu hf ha; omega
  | succ f ih =>
    intro u acc p g hp hu hf ha
    have hs' : s.length ≤ 10000000 := hs
    have hdl : (s.drop u).length ≤ 10000000 := by rw [List.length_drop]; omega
    obtain ⟨l1, l2, l3⟩ := lineA_len crlf (s.drop u) 2050
    have hsz := size_lt (lineA crlf 2050 (s.drop u)).1
    refine t25b tab25 (gAnd_intro (cutOb_from hu) ⟨s.drop u, crlf, 2050, hdl, by decide, by omega, by rw [cut_from]; rfl, ifP_intro (fun a => ?_) fun a => ⟨_, by omega, rfl, ifP_intro (fun b => ?_) fun b => ?_⟩⟩)
    · have ha' : (lineA crlf 2050 (s.drop u)).2.2 ≠ 0 := ne_of_bne a
      rw [decG, if_pos ha']; rfl
    · have ha' := eq_of_bne a
      have hb' : (sizeA (lineA crlf 2050 (s.drop u)).1).2 ≠ 0 := ne_of_bne b
      rw [decG, if_neg (by rw [ha']; simp), if_pos hb']; rfl
    have ha' := eq_of_bne a
    have hb' := eq_of_bne b
    have ed : decG M (f + 1) (s.drop u) acc u = _ := decG.eq_2 M (s.drop u) acc u f
    rw [if_neg (by rw [ha']; simp), if_neg (by rw [hb']; simp)] at ed
    generalize hn : (sizeA (lineA crlf 2050 (s.drop u)).1).1 = n at *
    generalize hk : (lineA crlf 2050 (s.drop u)).2.1 = k at *
    have hk1 : k ≤ s.length - u := by rw [List.length_drop] at l2; omega
    have w1 : IntKind.wrap .i64 ((u : Int) + (k : Int)) = ((u + k : Nat) : Int) := by rw [wrap_in (by omega) (by omega)]; omega
    have hdk : (s.drop u).drop k = s.drop (u + k) := by rw [List.drop_drop]
    rw [hdk] at ed
    rw [w1]
    refine ifP_intro (fun c => ?_) fun c => ?_
    · -- the last one
      have hc : n = 0 := by simpa using c
      rw [if_pos hc] at ed
      refine gAnd_intro (cutOb_from (by omega)) ⟨s.drop (u + k), crlf, by rw [cut_from]; rfl, ifP_intro (fun d => ⟨acc, ⟨rfl, rfl, rfl, rfl, rfl⟩, rfl, rfl, rfl, ?_⟩) fun d => gAnd_intro (cutOb_from (by omega)) ?_⟩
      · rw [ed]
        unfold lastG
        rw [if_pos d]
        have w2 : IntKind.wrap .i64 (((u + k : Nat) : Int) + 2) = ((u + k + 2 : Nat) : Int) := by rw [wrap_in (by omega) (by omega)]; omega
        rw [w2]; rfl
      · obtain ⟨m1, m2, m3⟩ := lineA_len crlf2 (s.drop (u + k)) 8192
        refine ⟨s.drop (u + k), crlf2, 8192, by rw [List.length_drop]; omega, by decide, by omega, by rw [cut_from]; rfl, ?_⟩
        unfold lastG at ed
        rw [if_neg (by rw [d]; simp)] at ed
        refine ifP_intro (fun e => ?_) fun e => gAnd_intro (decide_eq_true (by omega)) ⟨_, by rw [List.length_append]; simp; omega, rfl, ?_⟩
        · rw [if_pos (ne_of_bne e)] at ed
          rw [ed]; rfl
        · rw [if_neg (by rw [eq_of_bne e]; simp)] at ed
          refine ifP_intro (fun q => ⟨acc, ⟨rfl, rfl, rfl, rfl, rfl⟩, rfl, rfl, rfl, ?_⟩) fun q => ?_
          · have hq : (parseF ((lineA crlf2 8192 (s.drop (u + k))).1 ++ crlf)).2 = 0 := beq_iff_eq.1 q
            rw [if_neg (by rw [hq]; simp)] at ed
            rw [ed, stripss_encFs]
            have hz : (lineA crlf2 8192 (s.drop (u + k))).2.1 ≤ s.length - (u + k) := by rw [List.length_drop] at m2; exact m2
            have w2 : IntKind.wrap .i64 (((u + k : Nat) : Int) + (((lineA crlf2 8192 (s.drop (u + k))).2.1 : Nat) : Int)) = ((u + k + (lineA crlf2 8192 (s.drop (u + k))).2.1 : Nat) : Int) := by rw [wrap_in (by omega) (by omega)]; omega
            rw [w2]; rfl
          · have hq : (parseF ((lineA crlf2 8192 (s.drop (u + k))).1 ++ crlf)).2 ≠ 0 := beq_eq_false_iff_ne.1 q
            rw [if_pos hq] at ed
            rw [ed]; rfl
    · -- one more
      have hc : n ≠ 0 := by simpa using c
      rw [if_neg hc] at ed
      have w2 : IntKind.wrap .i64 ((M : Int) - (acc.length : Int)) = ((M - acc.length : Nat) : Int) := by rw [wrap_in (by omega) (by omega)]; omega
      have w3 : IntKind.wrap .i64 ((s.length : Int) - ((u + k : Nat) : Int)) = ((s.length - (u + k) : Nat) : Int) := by rw [wrap_in (by omega) (by omega)]; omega
      have w4 : IntKind.wrap .i64 (((u + k : Nat) : Int) + (n : Int)) = ((u + k + n : Nat) : Int) := by rw [wrap_in (by omega) (by omega)]; omega
      refine ⟨acc, ⟨rfl, rfl, rfl, rfl, rfl⟩, hp, rfl, rfl, rfl, ?_⟩
      rw [w2, w3, w4]
      refine ifP_intro (fun d => ?_) fun d => ifP_intro (fun e => ?_) fun e => ?_
      · have : restG M n (s.drop (u + k)) acc = 3 := by
          unfold restG
          rw [if_pos (by simp only [gt_iff_lt, decide_eq_true_eq] at d; omega)]
        rw [this, if_pos (by decide)] at ed
        rw [ed]; rfl
      · have : restG M n (s.drop (u + k)) acc = 6 := by
          unfold restG
          rw [if_neg (by simp only [gt_iff_lt, decide_eq_false_iff_not] at d; omega), if_pos (by simp only [gt_iff_lt, decide_eq_true_eq] at e; rw [List.length_drop]; omega)]
        rw [this, if_pos (by decide)] at ed
        rw [ed]; rfl
      · have hd : n ≤ M - acc.length := by simp only [gt_iff_lt, decide_eq_false_iff_not] at d; omega
        have he : n ≤ s.length - (u + k) := by simp only [gt_iff_lt, decide_eq_false_iff_not] at e; omega
        have hlt : ((s.drop (u + k)).take n).length = n := by rw [List.length_take, List.length_drop]; omega
        have hrest : restG M n (s.drop (u + k)) acc = if crlf.isPrefixOf (s.drop (u + k + n)) = true then 0 else if (s.drop (u + k + n)).isPrefixOf crlf = true then 6 else 4 := by
          unfold restG
          rw [if_neg (by omega), if_neg (by rw [List.length_drop]; omega), List.drop_drop]
        refine gAnd_intro (cutOb_mid (by omega) (by omega)) ⟨acc, (s.drop (u + k)).take n, ⟨rfl, rfl, rfl, rfl, rfl⟩, hp, rfl, rfl, by omega, by rw [cut_mid, show u + k + n - (u + k) = n by omega], gAnd_intro (cutOb_from (by omega)) ⟨s.drop (u + k + n), crlf, by rw [cut_from]; rfl, ifP_intro (fun q => ⟨crlf, s.drop (u + k + n), by rw [cut_from]; rfl, ?_⟩) fun q => ?_⟩⟩
        · have hq : ¬ crlf.isPrefixOf (s.drop (u + k + n)) = true := by
            rw [Bool.not_eq_true'] at q
            rw [q]; exact Bool.false_ne_true
          rw [if_neg hq] at hrest
          refine ifP_intro (fun z => ?_) fun z => ?_
          · rw [if_pos z] at hrest
            rw [hrest, if_pos (by decide)] at ed
            rw [ed]; rfl
          · rw [if_neg (by rw [z]; simp)] at hrest
            rw [hrest, if_pos (by decide)] at ed
            rw [ed]; rfl
        · have hq : crlf.isPrefixOf (s.drop (u + k + n)) = true := by
            rw [Bool.not_eq_false'] at q
            exact q
          rw [if_pos hq] at hrest
          rw [hrest, if_neg (by decide)] at ed
          have hpl := (List.isPrefixOf_iff_prefix.1 hq).length_le
          have hpl : 2 ≤ s.length - (u + k + n) := by simpa [crlf] using hpl
          have w5 : IntKind.wrap .i64 (((u + k + n : Nat) : Int) + 2) = ((u + k + n + 2 : Nat) : Int) := by rw [wrap_in (by omega) (by omega)]; omega
          rw [w5]
          have hdr : (s.drop u).drop (k + n + 2) = s.drop (u + k + n + 2) := by rw [List.drop_drop]; congr 1; omega
          rw [hdr] at ed
          rw [ed]
          refine t25c tab25 ?_
          refine to_path (q := [1, 1, 1, 1, 1, 0, 1]) (by kernel_rfl) ?_
          exact ih (u + k + n + 2) (acc ++ (s.drop (u + k)).take n) (.ptr 2 0) g (.inr rfl) (by omega) (by omega) (by rw [List.length_append, hlt]; omega)
theorem clip_int (m : Int) : max 0 (min m 262144) = ((clip m : Nat) : Int) := by unfold clip; omega
theorem c25 : COk cfg 25 decC := by
  refine cok_pure pf25 fun vs h K ht => ?_
  obtain ⟨s, m, hs, h0, h1, rfl, hk⟩ := ht
  refine ⟨_, hk, t25a tab25 ?_⟩
  rw [clip_int]
  exact loop25 hs (by unfold clip; omega) (s.length + 1) 0 [] .nilp 0 (.inl rfl) (Nat.zero_le _) (by omega) (by simp)
end Go.Proofs.YtnncfdlpogjlkaaDoor
end

section
namespace Go.Proofs.YtnncfdlpogjlkaaDoor
open Go.Ai Go
set_option maxRecDepth 100000
set_option linter.unusedVariables false
theorem t26a {v : AV} {s : List UInt8} {m : Int} (hT : TabOk cfg (ctab [(45, headC'), (46, sizeRC), (47, endsC), (48, tailC'), (49, parseC)])) (H :
    ifP (decide (m > 262144)) (ToEnd cfg 26 (bodyOf Tryd.f26) (RetIs Tryd.prog Tryd.f26 v) [Fm.code [0, 0, 1, 1, 1, 1, 1], Fm.block 0, Fm.code [1, 1, 1, 1, 1, 1]] XT.normal [(0, true, AV.str s), (1, true, AV.int IntKind.i64 262144), (8, true, AV.sl 1 [] (some 1)), (9, true, AV.int IntKind.i64 0)] [Blk.grow 0 2 38, Blk.grow 0 1 5]) (ifP (decide (m < 0)) (ToEnd cfg 26 (bodyOf Tryd.f26) (RetIs Tryd.prog Tryd.f26 v) [Fm.code [0, 0, 1, 1, 1, 1, 1], Fm.block 0, Fm.code [1, 1, 1, 1, 1, 1]] XT.normal [(0, true, AV.str s), (1, true, AV.int IntKind.i64 0), (8, true, AV.sl 1 [] (some 1)), (9, true, AV.int IntKind.i64 0)] [Blk.grow 0 2 38, Blk.grow 0 1 5]) (ToEnd cfg 26 (bodyOf Tryd.f26) (RetIs Tryd.prog Tryd.f26 v) [Fm.code [0, 0, 1, 1, 1, 1, 1], Fm.block 0, Fm.code [1, 1, 1, 1, 1, 1]] XT.normal [(0, true, AV.str s), (1, true, AV.int IntKind.i64 m), (8, true, AV.sl 1 [] (some 1)), (9, true, AV.int IntKind.i64 0)] [Blk.grow 0 2 38, Blk.grow 0 1 5]))) :
    ToEnd cfg 26 (bodyOf Tryd.f26) (RetIs Tryd.prog Tryd.f26 v) ([.code []]) .normal ([(0, true, .str s), (1, true, .int .i64 m)]) ([]) := by
  have e : unr cfg 26 (bodyOf Tryd.f26) (ctab [(45, headC'), (46, sizeRC), (47, endsC), (48, tailC'), (49, parseC)]) ⟨[[0, 0, 1, 1, 1, 1, 1]], []⟩ (RetIs Tryd.prog Tryd.f26 v) 100000 ([.code []]) .normal ([(0, true, .str s), (1, true, .int .i64 m)]) ([]) =
    (ifP (decide (m > 262144)) (ToEnd cfg 26 (bodyOf Tryd.f26) (RetIs Tryd.prog Tryd.f26 v) [Fm.code [0, 0, 1, 1, 1, 1, 1], Fm.block 0, Fm.code [1, 1, 1, 1, 1, 1]] XT.normal [(0, true, AV.str s), (1, true, AV.int IntKind.i64 262144), (8, true, AV.sl 1 [] (some 1)), (9, true, AV.int IntKind.i64 0)] [Blk.grow 0 2 38, Blk.grow 0 1 5]) (ifP (decide (m < 0)) (ToEnd cfg 26 (bodyOf Tryd.f26) (RetIs Tryd.prog Tryd.f26 v) [Fm.code [0, 0, 1, 1, 1, 1, 1], Fm.block 0, Fm.code [1, 1, 1, 1, 1, 1]] XT.normal [(0, true, AV.str s), (1, true, AV.int IntKind.i64 0), (8, true, AV.sl 1 [] (some 1)), (9, true, AV.int IntKind.i64 0)] [Blk.grow 0 2 38, Blk.grow 0 1 5]) (ToEnd cfg 26 (bodyOf Tryd.f26) (RetIs Tryd.prog Tryd.f26 v) [Fm.code [0, 0, 1, 1, 1, 1, 1], Fm.block 0, Fm.code [1, 1, 1, 1, 1, 1]] XT.normal [(0, true, AV.str s), (1, true, AV.int IntKind.i64 m), (8, true, AV.sl 1 [] (some 1)), (9, true, AV.int IntKind.i64 0)] [Blk.grow 0 2 38, Blk.grow 0 1 5]))) := by kernel_rfl
  exact unr_ok hT 100000 _ _ _ _ (e.mpr H)

theorem t26b {v : AV}   {s0 : List UInt8} {i1 : Int} {e8 : List (List AV)} {i9 : Int} {g0 : Nat} {g1 : Nat} (hT : TabOk cfg (ctab [(45, headC'), (46, sizeRC), (47, endsC), (48, tailC'), (49, parseC)])) (H :
    ∃ (s1 : List UInt8),
  ∃ (n2 : Nat),
    List.length s1 ≤ 1000000 ∧
      n2 ≤ List.length s1 ∧
        [AV.str s0, AV.int IntKind.i64 i9] = [AV.str s1, AV.int IntKind.i64 (↑n2 : Int)] ∧
          ifP (Prod.snd (headA s1 n2) != 0) (AV.tup [AV.str [], AV.int IntKind.i64 0, AV.sl 2 [] none, AV.int IntKind.i64 (Prod.snd (headA s1 n2))] = v)
            (gAnd (cutOb (List.length s0) (some i9) (some (↑(Prod.fst (headA s1 n2)) : Int)))
              (∃ (s3 : List UInt8),
                List.length s3 ≤ 100000 ∧
                  [AV.str (cutL s0 (some i9) (some (↑(Prod.fst (headA s1 n2)) : Int)))] = [AV.str s3] ∧
                    ifP (decide (sizeN s3 < 0)) (AV.tup [AV.str [], AV.int IntKind.i64 0, AV.sl 2 [] none, AV.int IntKind.i64 4] = v)
                      (ifP (sizeN s3 == 0) (∃ (s4 : List UInt8), ∃ (n5 : Nat), List.length s4 ≤ 1000000 ∧ n5 ≤ List.length s4 ∧ [AV.str s0, AV.int IntKind.i64 (IntKind.wrap IntKind.i64 ((↑(Prod.fst (headA s1 n2)) : Int) + 2))] = [AV.str s4, AV.int IntKind.i64 (↑n5 : Int)] ∧ ifP (Prod.snd (tailA s4 n5) != 0) (AV.tup [AV.str [], AV.int IntKind.i64 0, AV.sl 2 [] none, AV.int IntKind.i64 (Prod.snd (tailA s4 n5))] = v) (gAnd (cutOb (List.length s0) (some (IntKind.wrap IntKind.i64 ((↑(Prod.fst (headA s1 n2)) : Int) + 2))) (some (IntKind.wrap IntKind.i64 ((↑(Prod.fst (tailA s4 n5)) : Int) - 2)))) (∃ (s6 : List UInt8), List.length s6 ≤ 100000 ∧ [AV.str (cutL s0 (some (IntKind.wrap IntKind.i64 ((↑(Prod.fst (headA s1 n2)) : Int) + 2))) (some (IntKind.wrap IntKind.i64 ((↑(Prod.fst (tailA s4 n5)) : Int) - 2))))] = [AV.str s6] ∧ ifP (Prod.snd (parseF s6) != 0) (AV.tup [AV.str [], AV.int IntKind.i64 0, AV.sl 2 [] none, AV.int IntKind.i64 (Prod.snd (parseF s6))] = v) (gAnd (rowsB e8) (AV.tup [AV.str (List.map rowV e8), AV.int IntKind.i64 (↑(Prod.fst (tailA s4 n5)) : Int), AV.sl 2 (stripss 0 [Blk.grow g0 2 38, Blk.grow g1 1 5] (encFs (Prod.fst (parseF s6)))) none, AV.int IntKind.i64 0] = v)))))
                        (ifP (decide (IntKind.wrap IntKind.i64 ((↑(List.length e8) : Int) + sizeN s3) > i1)) (AV.tup [AV.str [], AV.int IntKind.i64 0, AV.sl 2 [] none, AV.int IntKind.i64 3] = v)
                          (ifP (decide (IntKind.wrap IntKind.i64 (IntKind.wrap IntKind.i64 ((↑(Prod.fst (headA s1 n2)) : Int) + 2) + sizeN s3) > (↑(List.length s0) : Int))) (AV.tup [AV.str [], AV.int IntKind.i64 0, AV.sl 2 [] none, AV.int IntKind.i64 6] = v)
                            (gAnd (cutOb (List.length s0) (some (IntKind.wrap IntKind.i64 ((↑(Prod.fst (headA s1 n2)) : Int) + 2))) (some (IntKind.wrap IntKind.i64 (IntKind.wrap IntKind.i64 ((↑(Prod.fst (headA s1 n2)) : Int) + 2) + sizeN s3))))
                              (gAnd (tagOk [Blk.grow g0 2 38, Blk.grow g1 1 5] (List.length e8) 1 5 (some 1) && true && true && decide ((List.length e8 + List.length (cutL s0 (some (IntKind.wrap IntKind.i64 ((↑(Prod.fst (headA s1 n2)) : Int) + 2))) (some (IntKind.wrap IntKind.i64 (IntKind.wrap IntKind.i64 ((↑(Prod.fst (headA s1 n2)) : Int) + 2) + sizeN s3))))) * 1 ≤ 140737488355328) && true && true) (ifP (IntKind.wrap IntKind.i64 (IntKind.wrap IntKind.i64 ((↑(Prod.fst (headA s1 n2)) : Int) + 2) + sizeN s3) == (↑(List.length s0) : Int)) (AV.tup [AV.str [], AV.int IntKind.i64 0, AV.sl 2 [] none, AV.int IntKind.i64 6] = v) (ifP (IntKind.wrap IntKind.i64 (IntKind.wrap IntKind.i64 (IntKind.wrap IntKind.i64 ((↑(Prod.fst (headA s1 n2)) : Int) + 2) + sizeN s3) + 1) == (↑(List.length s0) : Int)) (gAnd (inR (IntKind.wrap IntKind.i64 (IntKind.wrap IntKind.i64 ((↑(Prod.fst (headA s1 n2)) : Int) + 2) + sizeN s3)) (List.length s0)) (ifP ((↑(UInt8.toNat (List.getD s0 (Int.toNat (IntKind.wrap IntKind.i64 (IntKind.wrap IntKind.i64 ((↑(Prod.fst (headA s1 n2)) : Int) + 2) + sizeN s3))) 0)) : Int) == 13) (AV.tup [AV.str [], AV.int IntKind.i64 0, AV.sl 2 [] none, AV.int IntKind.i64 6] = v) (∃ (s7 : List UInt8), ∃ (n8 : Nat), List.length s7 ≤ 10000000 ∧ n8 ≤ 10000000 ∧ [AV.str s0, AV.int IntKind.i64 (IntKind.wrap IntKind.i64 (IntKind.wrap IntKind.i64 ((↑(Prod.fst (headA s1 n2)) : Int) + 2) + sizeN s3))] = [AV.str s7, AV.int IntKind.i64 (↑n8 : Int)] ∧ ifP (!endsB s7 n8) (AV.tup [AV.str [], AV.int IntKind.i64 0, AV.sl 2 [] none, AV.int IntKind.i64 4] = v) (ToEnd cfg 26 (bodyOf Tryd.f26) (RetIs Tryd.prog Tryd.f26 v) [Fm.code [0, 0, 1, 1, 1, 1, 1], Fm.block 0, Fm.code [1, 1, 1, 1, 1, 1]] XT.normal [(0, true, AV.str s0), (1, true, AV.int IntKind.i64 i1), (8, true, AV.sl 1 (e8 ++ List.map (fun (b : UInt8) ↦ [AV.int IntKind.u8 (↑(UInt8.toNat b) : Int)]) (cutL s0 (some (IntKind.wrap IntKind.i64 ((↑(Prod.fst (headA s1 n2)) : Int) + 2))) (some (IntKind.wrap IntKind.i64 (IntKind.wrap IntKind.i64 ((↑(Prod.fst (headA s1 n2)) : Int) + 2) + sizeN s3))))) (some 1)), (9, true, AV.int IntKind.i64 (IntKind.wrap IntKind.i64 (IntKind.wrap IntKind.i64 (IntKind.wrap IntKind.i64 ((↑(Prod.fst (headA s1 n2)) : Int) + 2) + sizeN s3) + 2)))] [Blk.grow g0 2 38, Blk.grow (List.length e8 + List.length (cutL s0 (some (IntKind.wrap IntKind.i64 ((↑(Prod.fst (headA s1 n2)) : Int) + 2))) (some (IntKind.wrap IntKind.i64 (IntKind.wrap IntKind.i64 ((↑(Prod.fst (headA s1 n2)) : Int) + 2) + sizeN s3))))) 1 5])))) (∃ (s9 : List UInt8), ∃ (n10 : Nat), List.length s9 ≤ 10000000 ∧ n10 ≤ 10000000 ∧ [AV.str s0, AV.int IntKind.i64 (IntKind.wrap IntKind.i64 (IntKind.wrap IntKind.i64 ((↑(Prod.fst (headA s1 n2)) : Int) + 2) + sizeN s3))] = [AV.str s9, AV.int IntKind.i64 (↑n10 : Int)] ∧ ifP (!endsB s9 n10) (AV.tup [AV.str [], AV.int IntKind.i64 0, AV.sl 2 [] none, AV.int IntKind.i64 4] = v) (ToEnd cfg 26 (bodyOf Tryd.f26) (RetIs Tryd.prog Tryd.f26 v) [Fm.code [0, 0, 1, 1, 1, 1, 1], Fm.block 0, Fm.code [1, 1, 1, 1, 1, 1]] XT.normal [(0, true, AV.str s0), (1, true, AV.int IntKind.i64 i1), (8, true, AV.sl 1 (e8 ++ List.map (fun (b : UInt8) ↦ [AV.int IntKind.u8 (↑(UInt8.toNat b) : Int)]) (cutL s0 (some (IntKind.wrap IntKind.i64 ((↑(Prod.fst (headA s1 n2)) : Int) + 2))) (some (IntKind.wrap IntKind.i64 (IntKind.wrap IntKind.i64 ((↑(Prod.fst (headA s1 n2)) : Int) + 2) + sizeN s3))))) (some 1)), (9, true, AV.int IntKind.i64 (IntKind.wrap IntKind.i64 (IntKind.wrap IntKind.i64 (IntKind.wrap IntKind.i64 ((↑(Prod.fst (headA s1 n2)) : Int) + 2) + sizeN s3) + 2)))] [Blk.grow g0 2 38, Blk.grow (List.length e8 + List.length (cutL s0 (some (IntKind.wrap IntKind.i64 ((↑(Prod.fst (headA s1 n2)) : Int) + 2))) (some (IntKind.wrap IntKind.i64 (IntKind.wrap IntKind.i64 ((↑(Prod.fst (headA s1 n2)) : Int) + 2) + sizeN s3))))) 1 5])))))))))))) :
    ToEnd cfg 26 (bodyOf Tryd.f26) (RetIs Tryd.prog Tryd.f26 v) ([.code [0, 0, 1, 1, 1, 1, 1], Fm.block 0, Fm.code [1, 1, 1, 1, 1, 1]]) .normal ([(0, true, AV.str s0), (1, true, AV.int IntKind.i64 i1), (8, true, AV.sl 1 e8 (some 1)), (9, true, AV.int IntKind.i64 i9)]) ([Blk.grow g0 2 38, Blk.grow g1 1 5]) := by
  have e : unr cfg 26 (bodyOf Tryd.f26) (ctab [(45, headC'), (46, sizeRC), (47, endsC), (48, tailC'), (49, parseC)]) ⟨[[0, 0, 1, 1, 1, 1, 1]], []⟩ (RetIs Tryd.prog Tryd.f26 v) 100000 ([.code [0, 0, 0, 1, 1, 1, 1, 1], .loop [0, 0, 1, 1, 1, 1, 1] 2, Fm.block 0, Fm.code [1, 1, 1, 1, 1, 1]]) .normal ([(0, true, AV.str s0), (1, true, AV.int IntKind.i64 i1), (8, true, AV.sl 1 e8 (some 1)), (9, true, AV.int IntKind.i64 i9)]) ([Blk.grow g0 2 38, Blk.grow g1 1 5]) =
    (∃ (s1 : List UInt8),
  ∃ (n2 : Nat),
    List.length s1 ≤ 1000000 ∧
      n2 ≤ List.length s1 ∧
        [AV.str s0, AV.int IntKind.i64 i9] = [AV.str s1, AV.int IntKind.i64 (↑n2 : Int)] ∧
          ifP (Prod.snd (headA s1 n2) != 0) (AV.tup [AV.str [], AV.int IntKind.i64 0, AV.sl 2 [] none, AV.int IntKind.i64 (Prod.snd (headA s1 n2))] = v)
            (gAnd (cutOb (List.length s0) (some i9) (some (↑(Prod.fst (headA s1 n2)) : Int)))
              (∃ (s3 : List UInt8),
                List.length s3 ≤ 100000 ∧
                  [AV.str (cutL s0 (some i9) (some (↑(Prod.fst (headA s1 n2)) : Int)))] = [AV.str s3] ∧
                    ifP (decide (sizeN s3 < 0)) (AV.tup [AV.str [], AV.int IntKind.i64 0, AV.sl 2 [] none, AV.int IntKind.i64 4] = v)
                      (ifP (sizeN s3 == 0) (∃ (s4 : List UInt8), ∃ (n5 : Nat), List.length s4 ≤ 1000000 ∧ n5 ≤ List.length s4 ∧ [AV.str s0, AV.int IntKind.i64 (IntKind.wrap IntKind.i64 ((↑(Prod.fst (headA s1 n2)) : Int) + 2))] = [AV.str s4, AV.int IntKind.i64 (↑n5 : Int)] ∧ ifP (Prod.snd (tailA s4 n5) != 0) (AV.tup [AV.str [], AV.int IntKind.i64 0, AV.sl 2 [] none, AV.int IntKind.i64 (Prod.snd (tailA s4 n5))] = v) (gAnd (cutOb (List.length s0) (some (IntKind.wrap IntKind.i64 ((↑(Prod.fst (headA s1 n2)) : Int) + 2))) (some (IntKind.wrap IntKind.i64 ((↑(Prod.fst (tailA s4 n5)) : Int) - 2)))) (∃ (s6 : List UInt8), List.length s6 ≤ 100000 ∧ [AV.str (cutL s0 (some (IntKind.wrap IntKind.i64 ((↑(Prod.fst (headA s1 n2)) : Int) + 2))) (some (IntKind.wrap IntKind.i64 ((↑(Prod.fst (tailA s4 n5)) : Int) - 2))))] = [AV.str s6] ∧ ifP (Prod.snd (parseF s6) != 0) (AV.tup [AV.str [], AV.int IntKind.i64 0, AV.sl 2 [] none, AV.int IntKind.i64 (Prod.snd (parseF s6))] = v) (gAnd (rowsB e8) (AV.tup [AV.str (List.map rowV e8), AV.int IntKind.i64 (↑(Prod.fst (tailA s4 n5)) : Int), AV.sl 2 (stripss 0 [Blk.grow g0 2 38, Blk.grow g1 1 5] (encFs (Prod.fst (parseF s6)))) none, AV.int IntKind.i64 0] = v)))))
                        (ifP (decide (IntKind.wrap IntKind.i64 ((↑(List.length e8) : Int) + sizeN s3) > i1)) (AV.tup [AV.str [], AV.int IntKind.i64 0, AV.sl 2 [] none, AV.int IntKind.i64 3] = v)
                          (ifP (decide (IntKind.wrap IntKind.i64 (IntKind.wrap IntKind.i64 ((↑(Prod.fst (headA s1 n2)) : Int) + 2) + sizeN s3) > (↑(List.length s0) : Int))) (AV.tup [AV.str [], AV.int IntKind.i64 0, AV.sl 2 [] none, AV.int IntKind.i64 6] = v)
                            (gAnd (cutOb (List.length s0) (some (IntKind.wrap IntKind.i64 ((↑(Prod.fst (headA s1 n2)) : Int) + 2))) (some (IntKind.wrap IntKind.i64 (IntKind.wrap IntKind.i64 ((↑(Prod.fst (headA s1 n2)) : Int) + 2) + sizeN s3))))
                              (gAnd (tagOk [Blk.grow g0 2 38, Blk.grow g1 1 5] (List.length e8) 1 5 (some 1) && true && true && decide ((List.length e8 + List.length (cutL s0 (some (IntKind.wrap IntKind.i64 ((↑(Prod.fst (headA s1 n2)) : Int) + 2))) (some (IntKind.wrap IntKind.i64 (IntKind.wrap IntKind.i64 ((↑(Prod.fst (headA s1 n2)) : Int) + 2) + sizeN s3))))) * 1 ≤ 140737488355328) && true && true) (ifP (IntKind.wrap IntKind.i64 (IntKind.wrap IntKind.i64 ((↑(Prod.fst (headA s1 n2)) : Int) + 2) + sizeN s3) == (↑(List.length s0) : Int)) (AV.tup [AV.str [], AV.int IntKind.i64 0, AV.sl 2 [] none, AV.int IntKind.i64 6] = v) (ifP (IntKind.wrap IntKind.i64 (IntKind.wrap IntKind.i64 (IntKind.wrap IntKind.i64 ((↑(Prod.fst (headA s1 n2)) : Int) + 2) + sizeN s3) + 1) == (↑(List.length s0) : Int)) (gAnd (inR (IntKind.wrap IntKind.i64 (IntKind.wrap IntKind.i64 ((↑(Prod.fst (headA s1 n2)) : Int) + 2) + sizeN s3)) (List.length s0)) (ifP ((↑(UInt8.toNat (List.getD s0 (Int.toNat (IntKind.wrap IntKind.i64 (IntKind.wrap IntKind.i64 ((↑(Prod.fst (headA s1 n2)) : Int) + 2) + sizeN s3))) 0)) : Int) == 13) (AV.tup [AV.str [], AV.int IntKind.i64 0, AV.sl 2 [] none, AV.int IntKind.i64 6] = v) (∃ (s7 : List UInt8), ∃ (n8 : Nat), List.length s7 ≤ 10000000 ∧ n8 ≤ 10000000 ∧ [AV.str s0, AV.int IntKind.i64 (IntKind.wrap IntKind.i64 (IntKind.wrap IntKind.i64 ((↑(Prod.fst (headA s1 n2)) : Int) + 2) + sizeN s3))] = [AV.str s7, AV.int IntKind.i64 (↑n8 : Int)] ∧ ifP (!endsB s7 n8) (AV.tup [AV.str [], AV.int IntKind.i64 0, AV.sl 2 [] none, AV.int IntKind.i64 4] = v) (ToEnd cfg 26 (bodyOf Tryd.f26) (RetIs Tryd.prog Tryd.f26 v) [Fm.code [0, 0, 1, 1, 1, 1, 1], Fm.block 0, Fm.code [1, 1, 1, 1, 1, 1]] XT.normal [(0, true, AV.str s0), (1, true, AV.int IntKind.i64 i1), (8, true, AV.sl 1 (e8 ++ List.map (fun (b : UInt8) ↦ [AV.int IntKind.u8 (↑(UInt8.toNat b) : Int)]) (cutL s0 (some (IntKind.wrap IntKind.i64 ((↑(Prod.fst (headA s1 n2)) : Int) + 2))) (some (IntKind.wrap IntKind.i64 (IntKind.wrap IntKind.i64 ((↑(Prod.fst (headA s1 n2)) : Int) + 2) + sizeN s3))))) (some 1)), (9, true, AV.int IntKind.i64 (IntKind.wrap IntKind.i64 (IntKind.wrap IntKind.i64 (IntKind.wrap IntKind.i64 ((↑(Prod.fst (headA s1 n2)) : Int) + 2) + sizeN s3) + 2)))] [Blk.grow g0 2 38, Blk.grow (List.length e8 + List.length (cutL s0 (some (IntKind.wrap IntKind.i64 ((↑(Prod.fst (headA s1 n2)) : Int) + 2))) (some (IntKind.wrap IntKind.i64 (IntKind.wrap IntKind.i64 ((↑(Prod.fst (headA s1 n2)) : Int) + 2) + sizeN s3))))) 1 5])))) (∃ (s9 : List UInt8), ∃ (n10 : Nat), List.length s9 ≤ 10000000 ∧ n10 ≤ 10000000 ∧ [AV.str s0, AV.int IntKind.i64 (IntKind.wrap IntKind.i64 (IntKind.wrap IntKind.i64 ((↑(Prod.fst (headA s1 n2)) : Int) + 2) + sizeN s3))] = [AV.str s9, AV.int IntKind.i64 (↑n10 : Int)] ∧ ifP (!endsB s9 n10) (AV.tup [AV.str [], AV.int IntKind.i64 0, AV.sl 2 [] none, AV.int IntKind.i64 4] = v) (ToEnd cfg 26 (bodyOf Tryd.f26) (RetIs Tryd.prog Tryd.f26 v) [Fm.code [0, 0, 1, 1, 1, 1, 1], Fm.block 0, Fm.code [1, 1, 1, 1, 1, 1]] XT.normal [(0, true, AV.str s0), (1, true, AV.int IntKind.i64 i1), (8, true, AV.sl 1 (e8 ++ List.map (fun (b : UInt8) ↦ [AV.int IntKind.u8 (↑(UInt8.toNat b) : Int)]) (cutL s0 (some (IntKind.wrap IntKind.i64 ((↑(Prod.fst (headA s1 n2)) : Int) + 2))) (some (IntKind.wrap IntKind.i64 (IntKind.wrap IntKind.i64 ((↑(Prod.fst (headA s1 n2)) : Int) + 2) + sizeN s3))))) (some 1)), (9, true, AV.int IntKind.i64 (IntKind.wrap IntKind.i64 (IntKind.wrap IntKind.i64 (IntKind.wrap IntKind.i64 ((↑(Prod.fst (headA s1 n2)) : Int) + 2) + sizeN s3) + 2)))] [Blk.grow g0 2 38, Blk.grow (List.length e8 + List.length (cutL s0 (some (IntKind.wrap IntKind.i64 ((↑(Prod.fst (headA s1 n2)) : Int) + 2))) (some (IntKind.wrap IntKind.i64 (IntKind.wrap IntKind.i64 ((↑(Prod.fst (headA s1 n2)) : Int) + 2) + sizeN s3))))) 1 5])))))))))))) := by kernel_rfl
  exact ends_round hT 100000 (by kernel_rfl) (e.mpr H)

end Go.Proofs.YtnncfdlpogjlkaaDoor
end

section
namespace Go.Proofs.YtnncfdlpogjlkaaDoor
open Go.Ai Go
set_option linter.unusedSimpArgs false
set_option linter.unusedVariables false
set_option linter.unnecessarySimpa false
set_option maxRecDepth 100000

theorem pf26 : pureFn cfg 26 Tryd.f26 := ⟨by kernel_rfl, by kernel_rfl, by kernel_rfl, by kernel_rfl, by kernel_rfl, by kernel_rfl⟩
theorem tab26 : TabOk cfg (ctab [(45, headC'), (46, sizeRC), (47, endsC), (48, tailC'), (49, parseC)]) :=
  ctab_ok (ctab_cons c45 (ctab_cons c46 (ctab_cons c47 (ctab_cons c48 (ctab_cons c49 ctab_nil)))))
theorem take_crlf {s : List UInt8} {i : Nat} (h : crlf2.isPrefixOf (s.drop i) = true) : s.take (i + 2) = s.take i ++ crlf := by
  obtain ⟨t, ht⟩ := List.isPrefixOf_iff_prefix.1 h
  rw [List.take_add, ← ht]; rfl
theorem sizeN_of {s : List UInt8} {n : Nat} (h : sizeV s = some n) : sizeN s = n := by unfold sizeN; rw [h]
theorem sizeN_no {s : List UInt8} (h : sizeV s = none) : sizeN s = -1 := by unfold sizeN; rw [h]
theorem rb_map (s : List UInt8) : s.map (fun (b : UInt8) => [AV.int IntKind.u8 ((UInt8.toNat b : Nat) : Int)]) = rb s := rfl
theorem loop26 {s : List UInt8} (hs : s.length ≤ 100000) {M : Nat} (hM : M ≤ 262144) : ∀ (f : Nat) (u : Nat) (acc : List UInt8) (g : Nat), u ≤ s.length → s.length - u < f → acc.length ≤ M →
    ToEnd cfg 26 (bodyOf Tryd.f26) (RetIs Tryd.prog Tryd.f26 (decV (decG M f (s.drop u) acc u))) [.code [0, 0, 1, 1, 1, 1, 1], .block 0, .code [1, 1, 1, 1, 1, 1]] .normal
      [(0, true, .str s), (1, true, .int .i64 M), (8, true, .sl 1 (rb acc) (some 1)), (9, true, .int .i64 u)] [.grow g 2 38, .grow acc.length 1 5] := by
  intro f
  induction f with
  | zero => intro u acc g hu hf ha; omega
  | succ f ih =>
    intro u acc g hu hf ha
    have ed : decG M (f + 1) (s.drop u) acc u = _ := decG.eq_2 M (s.drop u) acc u f
    refine t26b tab26 ⟨s, u, by omega, hu, rfl, ?_⟩
    cases hh : fnd crlf ((s.drop u).take 2050) with
    | none =>
      have e1 : headA s u = (0, if 2050 ≤ (s.drop u).length then 3 else 6) := by unfold headA; rw [hh]
      have e2 : lineA crlf 2050 (s.drop u) = ([], 0, if 2050 ≤ (s.drop u).length then 3 else 6) := by unfold lineA; rw [hh]
      have ne : (if 2050 ≤ (s.drop u).length then (3 : Int) else 6) ≠ 0 := by split <;> decide
      rw [e2, if_pos ne] at ed
      rw [e1]
      refine ifP_intro (fun _ => by rw [ed]; rfl) fun a => absurd (eq_of_bne a) ne
    | some i =>
      obtain ⟨f1, f2⟩ := fnd_some hh
      have hi : i + 2 ≤ s.length - u := by simp [crlf] at f2; omega
      have hi2 : i + 2 ≤ 2050 := by simp [crlf] at f2; omega
      have e1 : headA s u = (u + i, 0) := by unfold headA; rw [hh]
      have e2 : lineA crlf 2050 (s.drop u) = ((s.drop u).take i, i + 2, 0) := by unfold lineA; rw [hh]; rfl
      rw [e2] at ed
      simp only at ed
      rw [if_neg (by simp)] at ed
      rw [e1]
      have hL : ((s.drop u).take i).length ≤ 2050 := by rw [List.length_take]; omega
      refine ifP_intro (fun a => by simp at a) fun _ => gAnd_intro (cutOb_mid (by omega) (by omega)) ⟨(s.drop u).take i, by omega, by rw [cut_mid, show u + i - u = i by omega], ?_⟩
      have hsz := size_lt ((s.drop u).take i)
      unfold sizeA at ed hsz
      cases hv : sizeV ((s.drop u).take i) with
      | none =>
        rw [hv] at ed
        rw [sizeN_no hv]
        refine ifP_intro (fun _ => by rw [ed, if_pos (by decide)]; rfl) fun a => by simp at a
      | some n =>
        rw [hv] at ed hsz
        simp only at ed hsz
        rw [if_neg (by simp), List.drop_drop] at ed
        rw [sizeN_of hv]
        have w1 : IntKind.wrap .i64 (((u + i : Nat) : Int) + 2) = ((u + (i + 2) : Nat) : Int) := by rw [wrap_in (by omega) (by omega)]; omega
        have w2 : IntKind.wrap .i64 (((u + (i + 2) : Nat) : Int) + (n : Int)) = ((u + (i + 2) + n : Nat) : Int) := by rw [wrap_in (by omega) (by omega)]; omega
        have w3 : IntKind.wrap .i64 (((rb acc).length : Int) + (n : Int)) = ((acc.length + n : Nat) : Int) := by rw [rb_len, wrap_in (by omega) (by omega)]; omega
        rw [w1, w2, w3]
        refine ifP_intro (fun a => by simp only [decide_eq_true_eq] at a; omega) fun _ => ifP_intro (fun c => ?_) fun c => ?_
        · -- the last one
          have hc : n = 0 := by rw [beq_iff_eq] at c; omega
          rw [if_pos hc] at ed
          refine ⟨s, u + (i + 2), by omega, by omega, rfl, ?_⟩
          unfold lastG at ed
          by_cases hE : endsB s (u + (i + 2)) = true
          · have e3 : tailA s (u + (i + 2)) = (u + (i + 2) + 2, 0) := by unfold tailA; rw [if_pos hE]
            have hE' : crlf.isPrefixOf (s.drop (u + (i + 2))) = true := hE
            rw [if_pos hE'] at ed
            have hpl := (List.isPrefixOf_iff_prefix.1 hE').length_le
            have hpl : 2 ≤ s.length - (u + (i + 2)) := by simpa [crlf] using hpl
            have w4 : IntKind.wrap .i64 (((u + (i + 2) + 2 : Nat) : Int) - 2) = ((u + (i + 2) : Nat) : Int) := by rw [wrap_in (by omega) (by omega)]; omega
            rw [e3]
            refine ifP_intro (fun a => by simp at a) fun _ => ?_
            rw [w4]
            have hp : parseF [] = ([], 0) := rfl
            refine gAnd_intro (cutOb_mid (by omega) (by omega)) ⟨[], by simp, by rw [cut_mid, Nat.sub_self]; rfl, ?_⟩
            rw [hp]
            refine ifP_intro (fun a => by simp at a) fun _ => gAnd_intro (rowsB_rb acc) ?_
            rw [rowV_rb, ed]; rfl
          · have hE' : ¬ crlf.isPrefixOf (s.drop (u + (i + 2))) = true := hE
            rw [if_neg hE'] at ed
            cases ht : fnd crlf2 ((s.drop (u + (i + 2))).take 8192) with
            | none =>
              have e3 : tailA s (u + (i + 2)) = (0, if 8192 ≤ (s.drop (u + (i + 2))).length then 3 else 6) := by unfold tailA; rw [if_neg hE, ht]
              have e4 : lineA crlf2 8192 (s.drop (u + (i + 2))) = ([], 0, if 8192 ≤ (s.drop (u + (i + 2))).length then 3 else 6) := by unfold lineA; rw [ht]
              have ne : (if 8192 ≤ (s.drop (u + (i + 2))).length then (3 : Int) else 6) ≠ 0 := by split <;> decide
              rw [e4, if_pos ne] at ed
              rw [e3]
              refine ifP_intro (fun _ => by rw [ed]; rfl) fun a => absurd (eq_of_bne a) ne
            | some j =>
              obtain ⟨g1, g2⟩ := fnd_some ht
              have hj : j + 4 ≤ s.length - (u + (i + 2)) := by simp [crlf2] at g2; omega
              have hj2 : j + 4 ≤ 8192 := by simp [crlf2] at g2; omega
              have g1' : crlf2.isPrefixOf ((s.drop (u + (i + 2))).drop j) = true := by
                rw [List.isPrefixOf_iff_prefix] at g1 ⊢
                rw [List.drop_take] at g1
                exact (List.prefix_take_iff.1 g1).1
              have e3 : tailA s (u + (i + 2)) = (u + (i + 2) + j + 4, 0) := by unfold tailA; rw [if_neg hE, ht]
              have e4 : lineA crlf2 8192 (s.drop (u + (i + 2))) = ((s.drop (u + (i + 2))).take j, j + 4, 0) := by unfold lineA; rw [ht]; rfl
              rw [e4] at ed
              simp only at ed
              rw [if_neg (by simp)] at ed
              have w4 : IntKind.wrap .i64 (((u + (i + 2) + j + 4 : Nat) : Int) - 2) = ((u + (i + 2) + j + 2 : Nat) : Int) := by rw [wrap_in (by omega) (by omega)]; omega
              rw [e3]
              refine ifP_intro (fun a => by simp at a) fun _ => ?_
              rw [w4]
              refine gAnd_intro (cutOb_mid (by omega) (by omega)) ⟨(s.drop (u + (i + 2))).take j ++ crlf, by simp [crlf]; omega, by rw [cut_mid, show u + (i + 2) + j + 2 - (u + (i + 2)) = j + 2 by omega, take_crlf g1'], ?_⟩
              refine ifP_intro (fun a => ?_) fun a => gAnd_intro (rowsB_rb acc) ?_
              · rw [ed, if_pos (ne_of_bne a)]; rfl
              · rw [rowV_rb, ed, if_neg (by rw [eq_of_bne a]; simp), stripss_encFs, show u + (i + 2) + j + 4 = u + (i + 2) + (j + 4) by omega]; rfl
        · -- one more
          have hc : n ≠ 0 := by rw [beq_eq_false_iff_ne] at c; omega
          rw [if_neg hc] at ed
          have w5 : IntKind.wrap .i64 (((u + (i + 2) + n : Nat) : Int) + 1) = ((u + (i + 2) + n + 1 : Nat) : Int) := by rw [wrap_in (by omega) (by omega)]; omega
          have w6 : IntKind.wrap .i64 (((u + (i + 2) + n : Nat) : Int) + 2) = ((u + (i + 2) + n + 2 : Nat) : Int) := by rw [wrap_in (by omega) (by omega)]; omega
          rw [w5, w6]
          refine ifP_intro (fun d => ?_) fun d => ifP_intro (fun e => ?_) fun e => ?_
          · have : restG M n (s.drop (u + (i + 2))) acc = 3 := by
              unfold restG
              rw [if_pos (by simp only [gt_iff_lt, decide_eq_true_eq] at d; omega)]
            rw [this, if_pos (by decide)] at ed
            rw [ed]; rfl
          · have : restG M n (s.drop (u + (i + 2))) acc = 6 := by
              unfold restG
              rw [if_neg (by simp only [gt_iff_lt, decide_eq_false_iff_not] at d; omega), if_pos (by simp only [gt_iff_lt, decide_eq_true_eq] at e; rw [List.length_drop]; omega)]
            rw [this, if_pos (by decide)] at ed
            rw [ed]; rfl
          · have hd : n ≤ M - acc.length := by simp only [gt_iff_lt, decide_eq_false_iff_not] at d; omega
            have he : u + (i + 2) + n ≤ s.length := by simp only [gt_iff_lt, decide_eq_false_iff_not] at e; omega
            have hlt : ((s.drop (u + (i + 2))).take n).length = n := by rw [List.length_take, List.length_drop]; omega
            have hrest : restG M n (s.drop (u + (i + 2))) acc = if crlf.isPrefixOf (s.drop (u + (i + 2) + n)) = true then 0 else if (s.drop (u + (i + 2) + n)).isPrefixOf crlf = true then 6 else 4 := by
              unfold restG
              rw [if_neg (by omega), if_neg (by rw [List.length_drop]; omega), List.drop_drop]
            have hcm : cutL s (some ((u + (i + 2) : Nat) : Int)) (some ((u + (i + 2) + n : Nat) : Int)) = (s.drop (u + (i + 2))).take n := by rw [cut_mid, show u + (i + 2) + n - (u + (i + 2)) = n by omega]
            rw [hcm]
            have lack : (s.drop (u + (i + 2) + n)).isPrefixOf crlf = true → ¬ crlf.isPrefixOf (s.drop (u + (i + 2) + n)) = true → AV.tup [AV.str [], .int .i64 0, AV.sl 2 [] none, .int .i64 6] = decV (decG M (f + 1) (s.drop u) acc u) := fun h1 h2 => by
              rw [if_neg h2, if_pos h1] at hrest
              rw [hrest, if_pos (by decide)] at ed
              rw [ed]; rfl
            have go : ∀ (s' : List UInt8) (n' : Nat), [AV.str s, AV.int .i64 ((u + (i + 2) + n : Nat) : Int)] = [AV.str s', AV.int .i64 (n' : Int)] → (crlf.isPrefixOf (s.drop (u + (i + 2) + n)) = false → ¬ (s.drop (u + (i + 2) + n)).isPrefixOf crlf = true) →
                ifP (!endsB s' n') (AV.tup [AV.str [], .int .i64 0, AV.sl 2 [] none, .int .i64 4] = decV (decG M (f + 1) (s.drop u) acc u))
                  (ToEnd cfg 26 (bodyOf Tryd.f26) (RetIs Tryd.prog Tryd.f26 (decV (decG M (f + 1) (s.drop u) acc u))) [.code [0, 0, 1, 1, 1, 1, 1], .block 0, .code [1, 1, 1, 1, 1, 1]] .normal
                    [(0, true, .str s), (1, true, .int .i64 M), (8, true, .sl 1 (rb acc ++ ((s.drop (u + (i + 2))).take n).map (fun (b : UInt8) => [AV.int IntKind.u8 ((UInt8.toNat b : Nat) : Int)])) (some 1)), (9, true, .int .i64 ((u + (i + 2) + n + 2 : Nat) : Int))] [.grow g 2 38, .grow ((rb acc).length + ((s.drop (u + (i + 2))).take n).length) 1 5]) := fun s' n' hq hne => by
              simp only [List.cons.injEq, AV.str.injEq, AV.int.injEq, true_and, and_true] at hq
              obtain ⟨rfl, hq⟩ := hq
              have : n' = u + (i + 2) + n := by omega
              subst this
              refine ifP_intro (fun q => ?_) fun q => ?_
              · have hq : crlf.isPrefixOf (s.drop (u + (i + 2) + n)) = false := by rw [Bool.not_eq_true'] at q; exact q
                rw [if_neg (by rw [hq]; simp), if_neg (hne hq)] at hrest
                rw [hrest, if_pos (by decide)] at ed
                rw [ed]; rfl
              · have hq : crlf.isPrefixOf (s.drop (u + (i + 2) + n)) = true := by rw [Bool.not_eq_false'] at q; exact q
                rw [if_pos hq] at hrest
                rw [hrest, if_neg (by decide)] at ed
                have hpl := (List.isPrefixOf_iff_prefix.1 hq).length_le
                have hpl : 2 ≤ s.length - (u + (i + 2) + n) := by simpa [crlf] using hpl
                have hdr : u + (i + 2 + n + 2) = u + (i + 2) + n + 2 := by omega
                have hdr2 : u + (i + 2) + n + 2 = u + (i + 2) + n + 2 := rfl
                rw [rb_map, ← rb_app, rb_len, ← List.length_append, ed]
                have := ih (u + (i + 2) + n + 2) (acc ++ (s.drop (u + (i + 2))).take n) g (by omega) (by omega) (by rw [List.length_append, hlt]; omega)
                rw [List.drop_drop, hdr]
                exact this
            refine gAnd_intro (cutOb_mid (by omega) (by omega)) (gAnd_intro ?_ (ifP_intro (fun q => ?_) fun q => ifP_intro (fun z => ?_) fun z => ?_))
            · rw [rb_len, hlt, tag_ok rfl, decide_eq_true (by omega)]; rfl
            · have hq : u + (i + 2) + n = s.length := by rw [beq_iff_eq] at q; omega
              have hnil : s.drop (u + (i + 2) + n) = [] := List.drop_eq_nil_of_le (by omega)
              exact lack (by rw [hnil]; rfl) (by rw [hnil]; simp [crlf])
            · have hz : u + (i + 2) + n + 1 = s.length := by rw [beq_iff_eq] at z; omega
              have h1 : s.drop (u + (i + 2) + n) = [s.getD (u + (i + 2) + n) 0] := by
                rw [List.drop_eq_getElem_cons (by omega), List.drop_eq_nil_of_le (by omega)]
                simp [List.getD_eq_getElem?_getD, List.getElem?_eq_getElem (show u + (i + 2) + n < s.length by omega)]
              have e9 : List.getD s (Int.toNat ((u + (i + 2) + n : Nat) : Int)) 0 = s.getD (u + (i + 2) + n) 0 := by rw [Int.toNat_natCast]
              rw [e9]
              refine gAnd_intro (inR_nat (by omega)) (ifP_intro (fun y => ?_) fun y => ⟨s, _, by omega, by omega, rfl, go _ _ rfl fun _ => ?_⟩)
              · have hy := ueq 13 rfl y
                rw [hy] at h1
                exact lack (by rw [h1]; rfl) (by rw [h1]; simp [crlf])
              · have hy := une 13 rfl y
                rw [h1]
                intro hc
                simp [crlf] at hc
                exact hy hc
            · refine ⟨s, _, by omega, by omega, rfl, go _ _ rfl fun hno hc => ?_⟩
              have hle : 2 ≤ (s.drop (u + (i + 2) + n)).length := by
                rw [beq_eq_false_iff_ne] at q z
                rw [List.length_drop]; omega
              have h2 := List.isPrefixOf_iff_prefix.1 hc
              have h3 := h2.length_le
              have h4 : s.drop (u + (i + 2) + n) = crlf := h2.eq_of_length (Nat.le_antisymm h3 hle)
              rw [h4] at hno
              exact absurd hno (by decide)
theorem c26 : COk cfg 26 (fun vs h K => ∃ (s : List UInt8) (m : Int), s.length ≤ 100000 ∧ -9223372036854775808 ≤ m ∧ m ≤ 9223372036854775807 ∧ vs = [.str s, .int .i64 m] ∧
  K (.tup [.str (decA s m).body, .int .i64 (decA s m).used, .sl 2 (encFs (decA s m).tr) none, .int .i64 (decA s m).e]) h) := by
  refine cok_pure pf26 fun vs h K ht => ?_
  obtain ⟨s, m, hs, h0, h1, rfl, hk⟩ := ht
  have key : ∀ z : Int, z = ((clip m : Nat) : Int) → ToEnd cfg 26 (bodyOf Tryd.f26) (RetIs Tryd.prog Tryd.f26 (decV (decA s m))) [.code [0, 0, 1, 1, 1, 1, 1], .block 0, .code [1, 1, 1, 1, 1, 1]] .normal
      [(0, true, .str s), (1, true, .int .i64 z), (8, true, .sl 1 [] (some 1)), (9, true, .int .i64 0)] [.grow 0 2 38, .grow 0 1 5] := fun z hz => by
    subst hz
    exact loop26 hs (by unfold clip; omega) (s.length + 1) 0 [] 0 (Nat.zero_le _) (by omega) (by simp)
  refine ⟨_, hk, t26a tab26 (ifP_intro (fun a => key _ ?_) fun a => ifP_intro (fun b => key _ ?_) fun b => key _ ?_)⟩
  all_goals (simp only [gt_iff_lt, decide_eq_true_eq, decide_eq_false_iff_not] at *; unfold clip; omega)
end Go.Proofs.YtnncfdlpogjlkaaDoor
end
