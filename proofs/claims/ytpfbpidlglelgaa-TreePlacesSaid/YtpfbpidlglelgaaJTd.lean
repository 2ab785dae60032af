/-
  Which trees are pages, in plain terms. No statement about the program is made here.
  Runs of the functions of trees, printed by a home tool; each is the kernel's word.
  Which trees are pages: check, and what looks at a page.
  Runs of the functions of trees, printed by a home tool; each is the kernel's word.
  Trees: one all of whose places are further on.
-/
import Derived.Test.YtpfbpidlglelgaaJTb
import Derived.Test.YtpfbpidlglelgaaCfg
import Derived.Test.YtpfbpidlglelgaaJTc
section
namespace Go.Ai
open Go.RowKit
set_option linter.unusedVariables false

/-- What a node's own form is found to be. -/
def formE (k : Int) (t : List UInt8) (al : List Att) (len : Nat) (d : Int) (hid : Bool) (b : Int) : Int :=
  bif k == 14 && hid then 13
  else bif !(k == 2) && decide (16 < d) then 3
  else bif !keepR (rulesL k) al 0 then 12
  else bif !textB k t hid || (k == 2 && b == 2) then 4
  else bif (leafB k && decide (0 < len)) || (k == 7 && !(len == 2)) || (k == 10 && len == 0) then 13
  else 0
mutual
def Nd.chk : Nd → Int → Bool → Int → Int
  | .mk k _ t al ks, d, hid, b => bif formE k t al ks.length d hid b == 0 then chks k (ks.length : Nat) ks 0 (d + 1) (hid || k == 14) 0 else formE k t al ks.length d hid b
def chks (p n : Int) : List Nd → Int → Int → Bool → Int → Int
  | [], _, _, _, _ => 0
  | c :: r, i, d, hid, b => bif !fitB p c.kind i n then 13 else bif c.chk d hid b == 0 then chks p n r (i + 1) d hid c.kind else c.chk d hid b
end
mutual
def Nd.tfit : Nd → Prop
  | .mk _ _ t al ks => t.length ≤ tlim ∧ al.length ≤ tlim ∧ (∀ a ∈ al, a.value.length ≤ tlim) ∧ ks.length ≤ tlim ∧ tfits ks
def tfits : List Nd → Prop
  | [] => True
  | n :: r => n.tfit ∧ tfits r
end
def checkC (N : Nat) : Con := fun vs h K => ∃ (n : Nd) (d b : Int) (hid : Bool), n.size < N ∧ n.tfit ∧ 0 ≤ d ∧ d + N ≤ 1000000 ∧ vs = [.agg (encN n), .agg [.int .i64 d, .bool hid], .int .i64 b] ∧ K (.int .i64 (n.chk d hid b)) h
def Nd.page (n : Nd) : Int := bif n.kind == 1 then n.chk 0 false 0 else 13
def pageC (N : Nat) : Con := fun vs h K => ∃ n : Nd, n.size < N ∧ n.tfit ∧ N ≤ 1000000 ∧ vs = [.agg (encN n)] ∧ K (.int .i64 n.page) h
/-! A tree all of whose places are further on. -/
def Att.moved (b : Int) (a : Att) : Att := ⟨a.name, a.value, IntKind.wrap .i64 (a.pl + b)⟩
mutual
def Nd.moved : Nd → Int → Nd
  | .mk k p t al ks, b => .mk k (IntKind.wrap .i64 (p + b)) t (al.map (Att.moved b)) (moveds ks b)
def moveds : List Nd → Int → List Nd
  | [], _ => []
  | n :: r, b => n.moved b :: moveds r b
end
def movedC (N : Nat) : Con := fun vs h K => ∃ (n : Nd) (b : Int), n.size < N ∧ n.tfit ∧ vs = [.agg (encN n), .int .i64 b] ∧ K (.agg [.int .i64 n.kind, .int .i64 (IntKind.wrap .i64 (n.pl + b)), .str n.text, .sl 3 ((n.attrs.map (Att.moved b)).map encA) none, .sl 5 (encNs (moveds n.kids b)) none]) h
end Go.Ai
end

section
namespace Go.Proofs.Ytpfbpidlglelgaa
open Go.Ai Go
set_option maxRecDepth 100000
set_option linter.unusedVariables false
theorem t27a {N : Nat} {v : AV} {xk xp : Int} {xt : List UInt8} {xa xs : List (List AV)} {d b : Int} {hid : Bool} (hT : TabOk cfg (ctab [(27, checkC N), (33, keepC), (34, rulesC), (35, textC), (36, leafC), (37, fitC)])) (H :
    ifP (xk == 14) (ifP hid (AV.int IntKind.i64 13 = v) (ToEnd cfg 27 (bodyOf Try.f27) (RetIs Try.prog Try.f27 v) [Fm.code [1, 1, 0, 0, 1], Fm.block 0, Fm.code [1, 1]] XT.normal [(2, true, AV.int IntKind.i64 b), (3, true, AV.ptr 0 0), (4, true, AV.ptr 1 0)] [Blk.mem 25 [AV.int IntKind.i64 xk, AV.int IntKind.i64 xp, AV.str xt, AV.sl 3 xa none, AV.sl 5 xs none], Blk.mem 54 [AV.int IntKind.i64 d, AV.bool hid]])) (ToEnd cfg 27 (bodyOf Try.f27) (RetIs Try.prog Try.f27 v) [Fm.code [1, 1, 0, 0, 1], Fm.block 0, Fm.code [1, 1]] XT.normal [(2, true, AV.int IntKind.i64 b), (3, true, AV.ptr 0 0), (4, true, AV.ptr 1 0)] [Blk.mem 25 [AV.int IntKind.i64 xk, AV.int IntKind.i64 xp, AV.str xt, AV.sl 3 xa none, AV.sl 5 xs none], Blk.mem 54 [AV.int IntKind.i64 d, AV.bool hid]])) :
    ToEnd cfg 27 (bodyOf Try.f27) (RetIs Try.prog Try.f27 v) ([.code []]) .normal ([(0, true, .agg [.int .i64 xk, .int .i64 xp, .str xt, .sl 3 xa none, .sl 5 xs none]), (1, true, .agg [.int .i64 d, .bool hid]), (2, true, .int .i64 b)]) ([]) := by
  have e : unr cfg 27 (bodyOf Try.f27) (ctab [(27, checkC N), (33, keepC), (34, rulesC), (35, textC), (36, leafC), (37, fitC)]) ⟨[[1, 1, 0, 0, 1], [1, 1, 1, 1, 0, 0, 1], [1, 1, 1, 1, 1, 1, 0, 0, 1], [1, 1, 1, 1, 1, 1, 1, 1, 0, 0, 1], [1, 1], [0, 1, 0, 1, 1, 1, 1]], [([0, 0, 0, 1, 1, 0, 0, 1, 0, 1, 1, 1, 1], 1, [.int .i64, .int .i64, .str, .sl 3, .sl 5])]⟩ (RetIs Try.prog Try.f27 v) 100000 ([.code []]) .normal ([(0, true, .agg [.int .i64 xk, .int .i64 xp, .str xt, .sl 3 xa none, .sl 5 xs none]), (1, true, .agg [.int .i64 d, .bool hid]), (2, true, .int .i64 b)]) ([]) =
    (ifP (xk == 14) (ifP hid (AV.int IntKind.i64 13 = v) (ToEnd cfg 27 (bodyOf Try.f27) (RetIs Try.prog Try.f27 v) [Fm.code [1, 1, 0, 0, 1], Fm.block 0, Fm.code [1, 1]] XT.normal [(2, true, AV.int IntKind.i64 b), (3, true, AV.ptr 0 0), (4, true, AV.ptr 1 0)] [Blk.mem 25 [AV.int IntKind.i64 xk, AV.int IntKind.i64 xp, AV.str xt, AV.sl 3 xa none, AV.sl 5 xs none], Blk.mem 54 [AV.int IntKind.i64 d, AV.bool hid]])) (ToEnd cfg 27 (bodyOf Try.f27) (RetIs Try.prog Try.f27 v) [Fm.code [1, 1, 0, 0, 1], Fm.block 0, Fm.code [1, 1]] XT.normal [(2, true, AV.int IntKind.i64 b), (3, true, AV.ptr 0 0), (4, true, AV.ptr 1 0)] [Blk.mem 25 [AV.int IntKind.i64 xk, AV.int IntKind.i64 xp, AV.str xt, AV.sl 3 xa none, AV.sl 5 xs none], Blk.mem 54 [AV.int IntKind.i64 d, AV.bool hid]])) := by kernel_rfl
  exact unr_ok hT 100000 _ _ _ _ (e.mpr H)

theorem t27b {N : Nat} {v : AV} {xk xp : Int} {xt : List UInt8} {xa xs : List (List AV)} {d b : Int} {hid : Bool} (hT : TabOk cfg (ctab [(27, checkC N), (33, keepC), (34, rulesC), (35, textC), (36, leafC), (37, fitC)])) (H :
    ifP (xk != 2) (ifP (decide (d > 16)) (AV.int IntKind.i64 3 = v) (ToEnd cfg 27 (bodyOf Try.f27) (RetIs Try.prog Try.f27 v) [Fm.code [1, 1, 1, 1, 0, 0, 1], Fm.block 0, Fm.code [1, 1]] XT.normal [(2, true, AV.int IntKind.i64 b), (3, true, AV.ptr 0 0), (4, true, AV.ptr 1 0)] [Blk.mem 25 [AV.int IntKind.i64 xk, AV.int IntKind.i64 xp, AV.str xt, AV.sl 3 xa none, AV.sl 5 xs none], Blk.mem 54 [AV.int IntKind.i64 d, AV.bool hid]])) (ToEnd cfg 27 (bodyOf Try.f27) (RetIs Try.prog Try.f27 v) [Fm.code [1, 1, 1, 1, 0, 0, 1], Fm.block 0, Fm.code [1, 1]] XT.normal [(2, true, AV.int IntKind.i64 b), (3, true, AV.ptr 0 0), (4, true, AV.ptr 1 0)] [Blk.mem 25 [AV.int IntKind.i64 xk, AV.int IntKind.i64 xp, AV.str xt, AV.sl 3 xa none, AV.sl 5 xs none], Blk.mem 54 [AV.int IntKind.i64 d, AV.bool hid]])) :
    ToEnd cfg 27 (bodyOf Try.f27) (RetIs Try.prog Try.f27 v) ([.code [1, 1, 0, 0, 1], .block 0, .code [1, 1]]) .normal ([(2, true, .int .i64 b), (3, true, .ptr 0 0), (4, true, .ptr 1 0)]) ([.mem 25 [.int .i64 xk, .int .i64 xp, .str xt, .sl 3 xa none, .sl 5 xs none], .mem 54 [.int .i64 d, .bool hid]]) := by
  have e : unr cfg 27 (bodyOf Try.f27) (ctab [(27, checkC N), (33, keepC), (34, rulesC), (35, textC), (36, leafC), (37, fitC)]) ⟨[[1, 1, 1, 1, 0, 0, 1], [1, 1, 1, 1, 1, 1, 0, 0, 1], [1, 1, 1, 1, 1, 1, 1, 1, 0, 0, 1], [1, 1], [0, 1, 0, 1, 1, 1, 1]], [([0, 0, 0, 1, 1, 0, 0, 1, 0, 1, 1, 1, 1], 1, [.int .i64, .int .i64, .str, .sl 3, .sl 5])]⟩ (RetIs Try.prog Try.f27 v) 100000 ([.code [1, 1, 0, 0, 1], .block 0, .code [1, 1]]) .normal ([(2, true, .int .i64 b), (3, true, .ptr 0 0), (4, true, .ptr 1 0)]) ([.mem 25 [.int .i64 xk, .int .i64 xp, .str xt, .sl 3 xa none, .sl 5 xs none], .mem 54 [.int .i64 d, .bool hid]]) =
    (ifP (xk != 2) (ifP (decide (d > 16)) (AV.int IntKind.i64 3 = v) (ToEnd cfg 27 (bodyOf Try.f27) (RetIs Try.prog Try.f27 v) [Fm.code [1, 1, 1, 1, 0, 0, 1], Fm.block 0, Fm.code [1, 1]] XT.normal [(2, true, AV.int IntKind.i64 b), (3, true, AV.ptr 0 0), (4, true, AV.ptr 1 0)] [Blk.mem 25 [AV.int IntKind.i64 xk, AV.int IntKind.i64 xp, AV.str xt, AV.sl 3 xa none, AV.sl 5 xs none], Blk.mem 54 [AV.int IntKind.i64 d, AV.bool hid]])) (ToEnd cfg 27 (bodyOf Try.f27) (RetIs Try.prog Try.f27 v) [Fm.code [1, 1, 1, 1, 0, 0, 1], Fm.block 0, Fm.code [1, 1]] XT.normal [(2, true, AV.int IntKind.i64 b), (3, true, AV.ptr 0 0), (4, true, AV.ptr 1 0)] [Blk.mem 25 [AV.int IntKind.i64 xk, AV.int IntKind.i64 xp, AV.str xt, AV.sl 3 xa none, AV.sl 5 xs none], Blk.mem 54 [AV.int IntKind.i64 d, AV.bool hid]])) := by kernel_rfl
  exact unr_ok hT 100000 _ _ _ _ (e.mpr H)

theorem t27c {N : Nat} {v : AV} {xk xp : Int} {xt : List UInt8} {xa xs : List (List AV)} {d b : Int} {hid : Bool} (hT : TabOk cfg (ctab [(27, checkC N), (33, keepC), (34, rulesC), (35, textC), (36, leafC), (37, fitC)])) (H :
    ∃ (k1 : Int), [AV.int IntKind.i64 xk] = [AV.int IntKind.i64 k1] ∧ ∃ (k2 : Int), ∃ (al3 : List Att), List.length al3 ≤ 100000 ∧ (∀ (a4 : Att), a4 ∈ al3 → List.length (Att.value a4) ≤ 100000) ∧ [AV.agg [AV.sl 3 (stripss 0 [] xa) none], AV.sl 3 (stripss 0 [] (List.map encR (rulesL k1))) none] = [AV.agg [AV.sl 3 (List.map encA al3) none], AV.sl 3 (List.map encR (rulesL k2)) none] ∧ ifP (!keepR (rulesL k2) al3 0) (AV.int IntKind.i64 12 = v) (ToEnd cfg 27 (bodyOf Try.f27) (RetIs Try.prog Try.f27 v) [Fm.code [1, 1, 1, 1, 1, 1, 0, 0, 1], Fm.block 0, Fm.code [1, 1]] XT.normal [(2, true, AV.int IntKind.i64 b), (3, true, AV.ptr 0 0), (4, true, AV.ptr 1 0)] [Blk.mem 25 [AV.int IntKind.i64 xk, AV.int IntKind.i64 xp, AV.str xt, AV.sl 3 xa none, AV.sl 5 xs none], Blk.mem 54 [AV.int IntKind.i64 d, AV.bool hid]])) :
    ToEnd cfg 27 (bodyOf Try.f27) (RetIs Try.prog Try.f27 v) ([.code [1, 1, 1, 1, 0, 0, 1], .block 0, .code [1, 1]]) .normal ([(2, true, .int .i64 b), (3, true, .ptr 0 0), (4, true, .ptr 1 0)]) ([.mem 25 [.int .i64 xk, .int .i64 xp, .str xt, .sl 3 xa none, .sl 5 xs none], .mem 54 [.int .i64 d, .bool hid]]) := by
  have e : unr cfg 27 (bodyOf Try.f27) (ctab [(27, checkC N), (33, keepC), (34, rulesC), (35, textC), (36, leafC), (37, fitC)]) ⟨[[1, 1, 0, 0, 1], [1, 1, 1, 1, 1, 1, 0, 0, 1], [1, 1, 1, 1, 1, 1, 1, 1, 0, 0, 1], [1, 1], [0, 1, 0, 1, 1, 1, 1]], [([0, 0, 0, 1, 1, 0, 0, 1, 0, 1, 1, 1, 1], 1, [.int .i64, .int .i64, .str, .sl 3, .sl 5])]⟩ (RetIs Try.prog Try.f27 v) 100000 ([.code [1, 1, 1, 1, 0, 0, 1], .block 0, .code [1, 1]]) .normal ([(2, true, .int .i64 b), (3, true, .ptr 0 0), (4, true, .ptr 1 0)]) ([.mem 25 [.int .i64 xk, .int .i64 xp, .str xt, .sl 3 xa none, .sl 5 xs none], .mem 54 [.int .i64 d, .bool hid]]) =
    (∃ (k1 : Int), [AV.int IntKind.i64 xk] = [AV.int IntKind.i64 k1] ∧ ∃ (k2 : Int), ∃ (al3 : List Att), List.length al3 ≤ 100000 ∧ (∀ (a4 : Att), a4 ∈ al3 → List.length (Att.value a4) ≤ 100000) ∧ [AV.agg [AV.sl 3 (stripss 0 [] xa) none], AV.sl 3 (stripss 0 [] (List.map encR (rulesL k1))) none] = [AV.agg [AV.sl 3 (List.map encA al3) none], AV.sl 3 (List.map encR (rulesL k2)) none] ∧ ifP (!keepR (rulesL k2) al3 0) (AV.int IntKind.i64 12 = v) (ToEnd cfg 27 (bodyOf Try.f27) (RetIs Try.prog Try.f27 v) [Fm.code [1, 1, 1, 1, 1, 1, 0, 0, 1], Fm.block 0, Fm.code [1, 1]] XT.normal [(2, true, AV.int IntKind.i64 b), (3, true, AV.ptr 0 0), (4, true, AV.ptr 1 0)] [Blk.mem 25 [AV.int IntKind.i64 xk, AV.int IntKind.i64 xp, AV.str xt, AV.sl 3 xa none, AV.sl 5 xs none], Blk.mem 54 [AV.int IntKind.i64 d, AV.bool hid]])) := by kernel_rfl
  exact unr_ok hT 100000 _ _ _ _ (e.mpr H)

theorem t27d {N : Nat} {v : AV} {xk xp : Int} {xt : List UInt8} {xa xs : List (List AV)} {d b : Int} {hid : Bool} (hT : TabOk cfg (ctab [(27, checkC N), (33, keepC), (34, rulesC), (35, textC), (36, leafC), (37, fitC)])) (H :
    ∃ (n1 : Nd), ∃ (hid2 : Bool), List.length (Nd.text n1) ≤ 100000 ∧ [AV.agg [AV.int IntKind.i64 xk, AV.int IntKind.i64 xp, AV.str xt, AV.sl 3 (stripss 0 [] xa) none, AV.sl 5 (stripss 0 [] xs) none], AV.bool hid] = [AV.agg (encN n1), AV.bool hid2] ∧ ifP (!textB (Nd.kind n1) (Nd.text n1) hid2) (AV.int IntKind.i64 4 = v) (ifP (xk == 2) (ifP (b == 2) (AV.int IntKind.i64 4 = v) (ToEnd cfg 27 (bodyOf Try.f27) (RetIs Try.prog Try.f27 v) [Fm.code [1, 1, 1, 1, 1, 1, 1, 1, 0, 0, 1], Fm.block 0, Fm.code [1, 1]] XT.normal [(3, true, AV.ptr 0 0), (4, true, AV.ptr 1 0)] [Blk.mem 25 [AV.int IntKind.i64 xk, AV.int IntKind.i64 xp, AV.str xt, AV.sl 3 xa none, AV.sl 5 xs none], Blk.mem 54 [AV.int IntKind.i64 d, AV.bool hid]])) (ToEnd cfg 27 (bodyOf Try.f27) (RetIs Try.prog Try.f27 v) [Fm.code [1, 1, 1, 1, 1, 1, 1, 1, 0, 0, 1], Fm.block 0, Fm.code [1, 1]] XT.normal [(3, true, AV.ptr 0 0), (4, true, AV.ptr 1 0)] [Blk.mem 25 [AV.int IntKind.i64 xk, AV.int IntKind.i64 xp, AV.str xt, AV.sl 3 xa none, AV.sl 5 xs none], Blk.mem 54 [AV.int IntKind.i64 d, AV.bool hid]]))) :
    ToEnd cfg 27 (bodyOf Try.f27) (RetIs Try.prog Try.f27 v) ([.code [1, 1, 1, 1, 1, 1, 0, 0, 1], .block 0, .code [1, 1]]) .normal ([(2, true, .int .i64 b), (3, true, .ptr 0 0), (4, true, .ptr 1 0)]) ([.mem 25 [.int .i64 xk, .int .i64 xp, .str xt, .sl 3 xa none, .sl 5 xs none], .mem 54 [.int .i64 d, .bool hid]]) := by
  have e : unr cfg 27 (bodyOf Try.f27) (ctab [(27, checkC N), (33, keepC), (34, rulesC), (35, textC), (36, leafC), (37, fitC)]) ⟨[[1, 1, 0, 0, 1], [1, 1, 1, 1, 0, 0, 1], [1, 1, 1, 1, 1, 1, 1, 1, 0, 0, 1], [1, 1], [0, 1, 0, 1, 1, 1, 1]], [([0, 0, 0, 1, 1, 0, 0, 1, 0, 1, 1, 1, 1], 1, [.int .i64, .int .i64, .str, .sl 3, .sl 5])]⟩ (RetIs Try.prog Try.f27 v) 100000 ([.code [1, 1, 1, 1, 1, 1, 0, 0, 1], .block 0, .code [1, 1]]) .normal ([(2, true, .int .i64 b), (3, true, .ptr 0 0), (4, true, .ptr 1 0)]) ([.mem 25 [.int .i64 xk, .int .i64 xp, .str xt, .sl 3 xa none, .sl 5 xs none], .mem 54 [.int .i64 d, .bool hid]]) =
    (∃ (n1 : Nd), ∃ (hid2 : Bool), List.length (Nd.text n1) ≤ 100000 ∧ [AV.agg [AV.int IntKind.i64 xk, AV.int IntKind.i64 xp, AV.str xt, AV.sl 3 (stripss 0 [] xa) none, AV.sl 5 (stripss 0 [] xs) none], AV.bool hid] = [AV.agg (encN n1), AV.bool hid2] ∧ ifP (!textB (Nd.kind n1) (Nd.text n1) hid2) (AV.int IntKind.i64 4 = v) (ifP (xk == 2) (ifP (b == 2) (AV.int IntKind.i64 4 = v) (ToEnd cfg 27 (bodyOf Try.f27) (RetIs Try.prog Try.f27 v) [Fm.code [1, 1, 1, 1, 1, 1, 1, 1, 0, 0, 1], Fm.block 0, Fm.code [1, 1]] XT.normal [(3, true, AV.ptr 0 0), (4, true, AV.ptr 1 0)] [Blk.mem 25 [AV.int IntKind.i64 xk, AV.int IntKind.i64 xp, AV.str xt, AV.sl 3 xa none, AV.sl 5 xs none], Blk.mem 54 [AV.int IntKind.i64 d, AV.bool hid]])) (ToEnd cfg 27 (bodyOf Try.f27) (RetIs Try.prog Try.f27 v) [Fm.code [1, 1, 1, 1, 1, 1, 1, 1, 0, 0, 1], Fm.block 0, Fm.code [1, 1]] XT.normal [(3, true, AV.ptr 0 0), (4, true, AV.ptr 1 0)] [Blk.mem 25 [AV.int IntKind.i64 xk, AV.int IntKind.i64 xp, AV.str xt, AV.sl 3 xa none, AV.sl 5 xs none], Blk.mem 54 [AV.int IntKind.i64 d, AV.bool hid]]))) := by kernel_rfl
  exact unr_ok hT 100000 _ _ _ _ (e.mpr H)

theorem t27e {N : Nat} {v : AV} {xk xp : Int} {xt : List UInt8} {xa xs : List (List AV)} {d : Int} {hid : Bool} (hT : TabOk cfg (ctab [(27, checkC N), (33, keepC), (34, rulesC), (35, textC), (36, leafC), (37, fitC)])) (H :
    ∃ (k1 : Int), [AV.int IntKind.i64 xk] = [AV.int IntKind.i64 k1] ∧ ifP (leafB k1) (ifP (decide ((↑(List.length xs) : Int) > 0)) (AV.int IntKind.i64 13 = v) (ifP (xk == 7) (ifP ((↑(List.length xs) : Int) != 2) (AV.int IntKind.i64 13 = v) (ifP (xk == 10) (ifP ((↑(List.length xs) : Int) == 0) (AV.int IntKind.i64 13 = v) (ToEnd cfg 27 (bodyOf Try.f27) (RetIs Try.prog Try.f27 v) [Fm.code [1, 1]] XT.normal [(3, true, AV.ptr 0 0), (4, true, AV.ptr 1 0)] [Blk.mem 25 [AV.int IntKind.i64 xk, AV.int IntKind.i64 xp, AV.str xt, AV.sl 3 xa none, AV.sl 5 xs none], Blk.mem 54 [AV.int IntKind.i64 d, AV.bool hid]])) (ToEnd cfg 27 (bodyOf Try.f27) (RetIs Try.prog Try.f27 v) [Fm.code [1, 1]] XT.normal [(3, true, AV.ptr 0 0), (4, true, AV.ptr 1 0)] [Blk.mem 25 [AV.int IntKind.i64 xk, AV.int IntKind.i64 xp, AV.str xt, AV.sl 3 xa none, AV.sl 5 xs none], Blk.mem 54 [AV.int IntKind.i64 d, AV.bool hid]]))) (ifP (xk == 10) (ifP ((↑(List.length xs) : Int) == 0) (AV.int IntKind.i64 13 = v) (ToEnd cfg 27 (bodyOf Try.f27) (RetIs Try.prog Try.f27 v) [Fm.code [1, 1]] XT.normal [(3, true, AV.ptr 0 0), (4, true, AV.ptr 1 0)] [Blk.mem 25 [AV.int IntKind.i64 xk, AV.int IntKind.i64 xp, AV.str xt, AV.sl 3 xa none, AV.sl 5 xs none], Blk.mem 54 [AV.int IntKind.i64 d, AV.bool hid]])) (ToEnd cfg 27 (bodyOf Try.f27) (RetIs Try.prog Try.f27 v) [Fm.code [1, 1]] XT.normal [(3, true, AV.ptr 0 0), (4, true, AV.ptr 1 0)] [Blk.mem 25 [AV.int IntKind.i64 xk, AV.int IntKind.i64 xp, AV.str xt, AV.sl 3 xa none, AV.sl 5 xs none], Blk.mem 54 [AV.int IntKind.i64 d, AV.bool hid]])))) (ifP (xk == 7) (ifP ((↑(List.length xs) : Int) != 2) (AV.int IntKind.i64 13 = v) (ifP (xk == 10) (ifP ((↑(List.length xs) : Int) == 0) (AV.int IntKind.i64 13 = v) (ToEnd cfg 27 (bodyOf Try.f27) (RetIs Try.prog Try.f27 v) [Fm.code [1, 1]] XT.normal [(3, true, AV.ptr 0 0), (4, true, AV.ptr 1 0)] [Blk.mem 25 [AV.int IntKind.i64 xk, AV.int IntKind.i64 xp, AV.str xt, AV.sl 3 xa none, AV.sl 5 xs none], Blk.mem 54 [AV.int IntKind.i64 d, AV.bool hid]])) (ToEnd cfg 27 (bodyOf Try.f27) (RetIs Try.prog Try.f27 v) [Fm.code [1, 1]] XT.normal [(3, true, AV.ptr 0 0), (4, true, AV.ptr 1 0)] [Blk.mem 25 [AV.int IntKind.i64 xk, AV.int IntKind.i64 xp, AV.str xt, AV.sl 3 xa none, AV.sl 5 xs none], Blk.mem 54 [AV.int IntKind.i64 d, AV.bool hid]]))) (ifP (xk == 10) (ifP ((↑(List.length xs) : Int) == 0) (AV.int IntKind.i64 13 = v) (ToEnd cfg 27 (bodyOf Try.f27) (RetIs Try.prog Try.f27 v) [Fm.code [1, 1]] XT.normal [(3, true, AV.ptr 0 0), (4, true, AV.ptr 1 0)] [Blk.mem 25 [AV.int IntKind.i64 xk, AV.int IntKind.i64 xp, AV.str xt, AV.sl 3 xa none, AV.sl 5 xs none], Blk.mem 54 [AV.int IntKind.i64 d, AV.bool hid]])) (ToEnd cfg 27 (bodyOf Try.f27) (RetIs Try.prog Try.f27 v) [Fm.code [1, 1]] XT.normal [(3, true, AV.ptr 0 0), (4, true, AV.ptr 1 0)] [Blk.mem 25 [AV.int IntKind.i64 xk, AV.int IntKind.i64 xp, AV.str xt, AV.sl 3 xa none, AV.sl 5 xs none], Blk.mem 54 [AV.int IntKind.i64 d, AV.bool hid]])))) :
    ToEnd cfg 27 (bodyOf Try.f27) (RetIs Try.prog Try.f27 v) ([.code [1, 1, 1, 1, 1, 1, 1, 1, 0, 0, 1], .block 0, .code [1, 1]]) .normal ([(3, true, .ptr 0 0), (4, true, .ptr 1 0)]) ([.mem 25 [.int .i64 xk, .int .i64 xp, .str xt, .sl 3 xa none, .sl 5 xs none], .mem 54 [.int .i64 d, .bool hid]]) := by
  have e : unr cfg 27 (bodyOf Try.f27) (ctab [(27, checkC N), (33, keepC), (34, rulesC), (35, textC), (36, leafC), (37, fitC)]) ⟨[[1, 1, 0, 0, 1], [1, 1, 1, 1, 0, 0, 1], [1, 1, 1, 1, 1, 1, 0, 0, 1], [1, 1], [0, 1, 0, 1, 1, 1, 1]], [([0, 0, 0, 1, 1, 0, 0, 1, 0, 1, 1, 1, 1], 1, [.int .i64, .int .i64, .str, .sl 3, .sl 5])]⟩ (RetIs Try.prog Try.f27 v) 100000 ([.code [1, 1, 1, 1, 1, 1, 1, 1, 0, 0, 1], .block 0, .code [1, 1]]) .normal ([(3, true, .ptr 0 0), (4, true, .ptr 1 0)]) ([.mem 25 [.int .i64 xk, .int .i64 xp, .str xt, .sl 3 xa none, .sl 5 xs none], .mem 54 [.int .i64 d, .bool hid]]) =
    (∃ (k1 : Int), [AV.int IntKind.i64 xk] = [AV.int IntKind.i64 k1] ∧ ifP (leafB k1) (ifP (decide ((↑(List.length xs) : Int) > 0)) (AV.int IntKind.i64 13 = v) (ifP (xk == 7) (ifP ((↑(List.length xs) : Int) != 2) (AV.int IntKind.i64 13 = v) (ifP (xk == 10) (ifP ((↑(List.length xs) : Int) == 0) (AV.int IntKind.i64 13 = v) (ToEnd cfg 27 (bodyOf Try.f27) (RetIs Try.prog Try.f27 v) [Fm.code [1, 1]] XT.normal [(3, true, AV.ptr 0 0), (4, true, AV.ptr 1 0)] [Blk.mem 25 [AV.int IntKind.i64 xk, AV.int IntKind.i64 xp, AV.str xt, AV.sl 3 xa none, AV.sl 5 xs none], Blk.mem 54 [AV.int IntKind.i64 d, AV.bool hid]])) (ToEnd cfg 27 (bodyOf Try.f27) (RetIs Try.prog Try.f27 v) [Fm.code [1, 1]] XT.normal [(3, true, AV.ptr 0 0), (4, true, AV.ptr 1 0)] [Blk.mem 25 [AV.int IntKind.i64 xk, AV.int IntKind.i64 xp, AV.str xt, AV.sl 3 xa none, AV.sl 5 xs none], Blk.mem 54 [AV.int IntKind.i64 d, AV.bool hid]]))) (ifP (xk == 10) (ifP ((↑(List.length xs) : Int) == 0) (AV.int IntKind.i64 13 = v) (ToEnd cfg 27 (bodyOf Try.f27) (RetIs Try.prog Try.f27 v) [Fm.code [1, 1]] XT.normal [(3, true, AV.ptr 0 0), (4, true, AV.ptr 1 0)] [Blk.mem 25 [AV.int IntKind.i64 xk, AV.int IntKind.i64 xp, AV.str xt, AV.sl 3 xa none, AV.sl 5 xs none], Blk.mem 54 [AV.int IntKind.i64 d, AV.bool hid]])) (ToEnd cfg 27 (bodyOf Try.f27) (RetIs Try.prog Try.f27 v) [Fm.code [1, 1]] XT.normal [(3, true, AV.ptr 0 0), (4, true, AV.ptr 1 0)] [Blk.mem 25 [AV.int IntKind.i64 xk, AV.int IntKind.i64 xp, AV.str xt, AV.sl 3 xa none, AV.sl 5 xs none], Blk.mem 54 [AV.int IntKind.i64 d, AV.bool hid]])))) (ifP (xk == 7) (ifP ((↑(List.length xs) : Int) != 2) (AV.int IntKind.i64 13 = v) (ifP (xk == 10) (ifP ((↑(List.length xs) : Int) == 0) (AV.int IntKind.i64 13 = v) (ToEnd cfg 27 (bodyOf Try.f27) (RetIs Try.prog Try.f27 v) [Fm.code [1, 1]] XT.normal [(3, true, AV.ptr 0 0), (4, true, AV.ptr 1 0)] [Blk.mem 25 [AV.int IntKind.i64 xk, AV.int IntKind.i64 xp, AV.str xt, AV.sl 3 xa none, AV.sl 5 xs none], Blk.mem 54 [AV.int IntKind.i64 d, AV.bool hid]])) (ToEnd cfg 27 (bodyOf Try.f27) (RetIs Try.prog Try.f27 v) [Fm.code [1, 1]] XT.normal [(3, true, AV.ptr 0 0), (4, true, AV.ptr 1 0)] [Blk.mem 25 [AV.int IntKind.i64 xk, AV.int IntKind.i64 xp, AV.str xt, AV.sl 3 xa none, AV.sl 5 xs none], Blk.mem 54 [AV.int IntKind.i64 d, AV.bool hid]]))) (ifP (xk == 10) (ifP ((↑(List.length xs) : Int) == 0) (AV.int IntKind.i64 13 = v) (ToEnd cfg 27 (bodyOf Try.f27) (RetIs Try.prog Try.f27 v) [Fm.code [1, 1]] XT.normal [(3, true, AV.ptr 0 0), (4, true, AV.ptr 1 0)] [Blk.mem 25 [AV.int IntKind.i64 xk, AV.int IntKind.i64 xp, AV.str xt, AV.sl 3 xa none, AV.sl 5 xs none], Blk.mem 54 [AV.int IntKind.i64 d, AV.bool hid]])) (ToEnd cfg 27 (bodyOf Try.f27) (RetIs Try.prog Try.f27 v) [Fm.code [1, 1]] XT.normal [(3, true, AV.ptr 0 0), (4, true, AV.ptr 1 0)] [Blk.mem 25 [AV.int IntKind.i64 xk, AV.int IntKind.i64 xp, AV.str xt, AV.sl 3 xa none, AV.sl 5 xs none], Blk.mem 54 [AV.int IntKind.i64 d, AV.bool hid]])))) := by kernel_rfl
  exact unr_ok hT 100000 _ _ _ _ (e.mpr H)

theorem t27f {N : Nat} {v : AV} {xk xp : Int} {xt : List UInt8} {xa xs : List (List AV)} {d : Int} {hid : Bool} (hT : TabOk cfg (ctab [(27, checkC N), (33, keepC), (34, rulesC), (35, textC), (36, leafC), (37, fitC)])) (H :
    ifP hid (ToEnd cfg 27 (bodyOf Try.f27) (RetIs Try.prog Try.f27 v) [Fm.code [0, 1, 0, 1, 1, 1, 1], Fm.block 1, Fm.code [1, 1, 1, 1, 1]] XT.normal [(3, true, AV.ptr 0 0), (7, true, AV.ptr 2 0), (8, true, AV.int IntKind.i64 0), (97, true, AV.sl 5 xs none), (98, true, AV.int IntKind.i64 (↑(List.length xs) : Int)), (99, true, AV.int IntKind.i64 0)] [Blk.mem 25 [AV.int IntKind.i64 xk, AV.int IntKind.i64 xp, AV.str xt, AV.sl 3 xa none, AV.sl 5 xs none], Blk.mem 54 [AV.int IntKind.i64 d, AV.bool hid], Blk.mem 54 [AV.int IntKind.i64 (IntKind.wrap IntKind.i64 (d + 1)), AV.bool true]]) (ToEnd cfg 27 (bodyOf Try.f27) (RetIs Try.prog Try.f27 v) [Fm.code [0, 1, 0, 1, 1, 1, 1], Fm.block 1, Fm.code [1, 1, 1, 1, 1]] XT.normal [(3, true, AV.ptr 0 0), (7, true, AV.ptr 2 0), (8, true, AV.int IntKind.i64 0), (97, true, AV.sl 5 xs none), (98, true, AV.int IntKind.i64 (↑(List.length xs) : Int)), (99, true, AV.int IntKind.i64 0)] [Blk.mem 25 [AV.int IntKind.i64 xk, AV.int IntKind.i64 xp, AV.str xt, AV.sl 3 xa none, AV.sl 5 xs none], Blk.mem 54 [AV.int IntKind.i64 d, AV.bool hid], Blk.mem 54 [AV.int IntKind.i64 (IntKind.wrap IntKind.i64 (d + 1)), AV.bool (xk == 14)]])) :
    ToEnd cfg 27 (bodyOf Try.f27) (RetIs Try.prog Try.f27 v) ([.code [1, 1]]) .normal ([(3, true, .ptr 0 0), (4, true, .ptr 1 0)]) ([.mem 25 [.int .i64 xk, .int .i64 xp, .str xt, .sl 3 xa none, .sl 5 xs none], .mem 54 [.int .i64 d, .bool hid]]) := by
  have e : unr cfg 27 (bodyOf Try.f27) (ctab [(27, checkC N), (33, keepC), (34, rulesC), (35, textC), (36, leafC), (37, fitC)]) ⟨[[0, 1, 0, 1, 1, 1, 1]], [([0, 0, 0, 1, 1, 0, 0, 1, 0, 1, 1, 1, 1], 1, [.int .i64, .int .i64, .str, .sl 3, .sl 5])]⟩ (RetIs Try.prog Try.f27 v) 100000 ([.code [1, 1]]) .normal ([(3, true, .ptr 0 0), (4, true, .ptr 1 0)]) ([.mem 25 [.int .i64 xk, .int .i64 xp, .str xt, .sl 3 xa none, .sl 5 xs none], .mem 54 [.int .i64 d, .bool hid]]) =
    (ifP hid (ToEnd cfg 27 (bodyOf Try.f27) (RetIs Try.prog Try.f27 v) [Fm.code [0, 1, 0, 1, 1, 1, 1], Fm.block 1, Fm.code [1, 1, 1, 1, 1]] XT.normal [(3, true, AV.ptr 0 0), (7, true, AV.ptr 2 0), (8, true, AV.int IntKind.i64 0), (97, true, AV.sl 5 xs none), (98, true, AV.int IntKind.i64 (↑(List.length xs) : Int)), (99, true, AV.int IntKind.i64 0)] [Blk.mem 25 [AV.int IntKind.i64 xk, AV.int IntKind.i64 xp, AV.str xt, AV.sl 3 xa none, AV.sl 5 xs none], Blk.mem 54 [AV.int IntKind.i64 d, AV.bool hid], Blk.mem 54 [AV.int IntKind.i64 (IntKind.wrap IntKind.i64 (d + 1)), AV.bool true]]) (ToEnd cfg 27 (bodyOf Try.f27) (RetIs Try.prog Try.f27 v) [Fm.code [0, 1, 0, 1, 1, 1, 1], Fm.block 1, Fm.code [1, 1, 1, 1, 1]] XT.normal [(3, true, AV.ptr 0 0), (7, true, AV.ptr 2 0), (8, true, AV.int IntKind.i64 0), (97, true, AV.sl 5 xs none), (98, true, AV.int IntKind.i64 (↑(List.length xs) : Int)), (99, true, AV.int IntKind.i64 0)] [Blk.mem 25 [AV.int IntKind.i64 xk, AV.int IntKind.i64 xp, AV.str xt, AV.sl 3 xa none, AV.sl 5 xs none], Blk.mem 54 [AV.int IntKind.i64 d, AV.bool hid], Blk.mem 54 [AV.int IntKind.i64 (IntKind.wrap IntKind.i64 (d + 1)), AV.bool (xk == 14)]])) := by kernel_rfl
  exact unr_ok hT 100000 _ _ _ _ (e.mpr H)

theorem t16 {N : Nat} {v : AV} {xk xp : Int} {xt : List UInt8} {xa xs : List (List AV)} (hT : TabOk cfg (ctab [(27, checkC N)])) (H :
    ifP (xk != 1) (AV.int IntKind.i64 13 = v) (∃ (n1 : Nd), ∃ (d2 : Int), ∃ (b3 : Int), ∃ (hid4 : Bool), Nd.size n1 < N ∧ Nd.tfit n1 ∧ 0 ≤ d2 ∧ d2 + (↑N : Int) ≤ 1000000 ∧ [AV.agg [AV.int IntKind.i64 xk, AV.int IntKind.i64 xp, AV.str xt, AV.sl 3 (stripss 0 [] xa) none, AV.sl 5 (stripss 0 [] xs) none], AV.agg [AV.int IntKind.i64 0, AV.bool false], AV.int IntKind.i64 0] = [AV.agg (encN n1), AV.agg [AV.int IntKind.i64 d2, AV.bool hid4], AV.int IntKind.i64 b3] ∧ AV.int IntKind.i64 (Nd.chk n1 d2 hid4 b3) = v)) :
    ToEnd cfg 16 (bodyOf Try.f16) (RetIs Try.prog Try.f16 v) ([.code []]) .normal ([(0, true, .agg [.int .i64 xk, .int .i64 xp, .str xt, .sl 3 xa none, .sl 5 xs none])]) ([]) := by
  have e : unr cfg 16 (bodyOf Try.f16) (ctab [(27, checkC N)]) ⟨[], []⟩ (RetIs Try.prog Try.f16 v) 100000 ([.code []]) .normal ([(0, true, .agg [.int .i64 xk, .int .i64 xp, .str xt, .sl 3 xa none, .sl 5 xs none])]) ([]) =
    (ifP (xk != 1) (AV.int IntKind.i64 13 = v) (∃ (n1 : Nd), ∃ (d2 : Int), ∃ (b3 : Int), ∃ (hid4 : Bool), Nd.size n1 < N ∧ Nd.tfit n1 ∧ 0 ≤ d2 ∧ d2 + (↑N : Int) ≤ 1000000 ∧ [AV.agg [AV.int IntKind.i64 xk, AV.int IntKind.i64 xp, AV.str xt, AV.sl 3 (stripss 0 [] xa) none, AV.sl 5 (stripss 0 [] xs) none], AV.agg [AV.int IntKind.i64 0, AV.bool false], AV.int IntKind.i64 0] = [AV.agg (encN n1), AV.agg [AV.int IntKind.i64 d2, AV.bool hid4], AV.int IntKind.i64 b3] ∧ AV.int IntKind.i64 (Nd.chk n1 d2 hid4 b3) = v)) := by kernel_rfl
  exact unr_ok hT 100000 _ _ _ _ (e.mpr H)

theorem t27g {N : Nat} {v : AV} {xk xp : Int} {xt : List UInt8} {xa xs : List (List AV)} {d : Int} {hid : Bool} {d2 c i z : Int} {hid2 : Bool} (hT : TabOk cfg (ctab [(27, checkC N), (33, keepC), (34, rulesC), (35, textC), (36, leafC), (37, fitC)])) (H :
    ifP (decide (i < z)) (gAnd (inR i (List.length xs) && true && true) (∃ (z1 : Int), ∃ (z2 : Int), ∃ (s3 : List UInt8), ∃ (es4 : List (List AV)), ∃ (es5 : List (List AV)), getE xs i = [AV.int IntKind.i64 z1, AV.int IntKind.i64 z2, AV.str s3, AV.sl 3 es4 none, AV.sl 5 es5 none] ∧ ∃ (p6 : Int), ∃ (k7 : Int), ∃ (i8 : Int), ∃ (n9 : Int), 0 ≤ i8 ∧ i8 < n9 ∧ n9 ≤ 9223372036854775807 ∧ [AV.int IntKind.i64 xk, AV.int IntKind.i64 z1, AV.int IntKind.i64 i, AV.int IntKind.i64 (↑(List.length xs) : Int)] = [AV.int IntKind.i64 p6, AV.int IntKind.i64 k7, AV.int IntKind.i64 i8, AV.int IntKind.i64 n9] ∧ ifP (!fitB p6 k7 i8 n9) (AV.int IntKind.i64 13 = v) (∃ (n10 : Nd), ∃ (d11 : Int), ∃ (b12 : Int), ∃ (hid13 : Bool), Nd.size n10 < N ∧ Nd.tfit n10 ∧ 0 ≤ d11 ∧ d11 + (↑N : Int) ≤ 1000000 ∧ [AV.agg [AV.int IntKind.i64 z1, AV.int IntKind.i64 z2, AV.str s3, AV.sl 3 (stripss 0 [] es4) none, AV.sl 5 (stripss 0 [] es5) none], AV.agg [AV.int IntKind.i64 d2, AV.bool hid2], AV.int IntKind.i64 c] = [AV.agg (encN n10), AV.agg [AV.int IntKind.i64 d11, AV.bool hid13], AV.int IntKind.i64 b12] ∧ ifP (Nd.chk n10 d11 hid13 b12 != 0) (AV.int IntKind.i64 (Nd.chk n10 d11 hid13 b12) = v) (gAnd (lowVss 3 xs && true && true && (lowVss 3 xa && true && (lowVss 3 xs && true && true) && true)) (ToEnd cfg 27 (bodyOf Try.f27) (RetIs Try.prog Try.f27 v) [Fm.code [0, 1, 0, 1, 1, 1, 1], Fm.block 1, Fm.code [1, 1, 1, 1, 1]] XT.normal [(3, true, AV.ptr 0 0), (7, true, AV.ptr 2 0), (8, true, AV.int IntKind.i64 z1), (97, true, AV.sl 5 xs none), (98, true, AV.int IntKind.i64 z), (99, true, AV.int IntKind.i64 (IntKind.wrap IntKind.i64 (i + 1)))] [Blk.mem 25 [AV.int IntKind.i64 xk, AV.int IntKind.i64 xp, AV.str xt, AV.sl 3 xa none, AV.sl 5 xs none], Blk.mem 54 [AV.int IntKind.i64 d, AV.bool hid], Blk.mem 54 [AV.int IntKind.i64 d2, AV.bool hid2]]))))) (AV.int IntKind.i64 0 = v)) :
    ToEnd cfg 27 (bodyOf Try.f27) (RetIs Try.prog Try.f27 v) ([.code [0, 1, 0, 1, 1, 1, 1], .block 1, .code [1, 1, 1, 1, 1]]) .normal ([(3, true, .ptr 0 0), (7, true, .ptr 2 0), (8, true, .int .i64 c), (97, true, .sl 5 xs none), (98, true, .int .i64 z), (99, true, .int .i64 i)]) ([.mem 25 [.int .i64 xk, .int .i64 xp, .str xt, .sl 3 xa none, .sl 5 xs none], .mem 54 [.int .i64 d, .bool hid], .mem 54 [.int .i64 d2, .bool hid2]]) := by
  have e : unr cfg 27 (bodyOf Try.f27) (ctab [(27, checkC N), (33, keepC), (34, rulesC), (35, textC), (36, leafC), (37, fitC)]) ⟨[[0, 1, 0, 1, 1, 1, 1]], [([0, 0, 0, 1, 1, 0, 0, 1, 0, 1, 1, 1, 1], 1, [.int .i64, .int .i64, .str, .sl 3, .sl 5])]⟩ (RetIs Try.prog Try.f27 v) 100000 ([.code [0, 0, 1, 0, 1, 1, 1, 1], .loop [0, 1, 0, 1, 1, 1, 1] 3, .block 1, .code [1, 1, 1, 1, 1]]) .normal ([(3, true, .ptr 0 0), (7, true, .ptr 2 0), (8, true, .int .i64 c), (97, true, .sl 5 xs none), (98, true, .int .i64 z), (99, true, .int .i64 i)]) ([.mem 25 [.int .i64 xk, .int .i64 xp, .str xt, .sl 3 xa none, .sl 5 xs none], .mem 54 [.int .i64 d, .bool hid], .mem 54 [.int .i64 d2, .bool hid2]]) =
    (ifP (decide (i < z)) (gAnd (inR i (List.length xs) && true && true) (∃ (z1 : Int), ∃ (z2 : Int), ∃ (s3 : List UInt8), ∃ (es4 : List (List AV)), ∃ (es5 : List (List AV)), getE xs i = [AV.int IntKind.i64 z1, AV.int IntKind.i64 z2, AV.str s3, AV.sl 3 es4 none, AV.sl 5 es5 none] ∧ ∃ (p6 : Int), ∃ (k7 : Int), ∃ (i8 : Int), ∃ (n9 : Int), 0 ≤ i8 ∧ i8 < n9 ∧ n9 ≤ 9223372036854775807 ∧ [AV.int IntKind.i64 xk, AV.int IntKind.i64 z1, AV.int IntKind.i64 i, AV.int IntKind.i64 (↑(List.length xs) : Int)] = [AV.int IntKind.i64 p6, AV.int IntKind.i64 k7, AV.int IntKind.i64 i8, AV.int IntKind.i64 n9] ∧ ifP (!fitB p6 k7 i8 n9) (AV.int IntKind.i64 13 = v) (∃ (n10 : Nd), ∃ (d11 : Int), ∃ (b12 : Int), ∃ (hid13 : Bool), Nd.size n10 < N ∧ Nd.tfit n10 ∧ 0 ≤ d11 ∧ d11 + (↑N : Int) ≤ 1000000 ∧ [AV.agg [AV.int IntKind.i64 z1, AV.int IntKind.i64 z2, AV.str s3, AV.sl 3 (stripss 0 [] es4) none, AV.sl 5 (stripss 0 [] es5) none], AV.agg [AV.int IntKind.i64 d2, AV.bool hid2], AV.int IntKind.i64 c] = [AV.agg (encN n10), AV.agg [AV.int IntKind.i64 d11, AV.bool hid13], AV.int IntKind.i64 b12] ∧ ifP (Nd.chk n10 d11 hid13 b12 != 0) (AV.int IntKind.i64 (Nd.chk n10 d11 hid13 b12) = v) (gAnd (lowVss 3 xs && true && true && (lowVss 3 xa && true && (lowVss 3 xs && true && true) && true)) (ToEnd cfg 27 (bodyOf Try.f27) (RetIs Try.prog Try.f27 v) [Fm.code [0, 1, 0, 1, 1, 1, 1], Fm.block 1, Fm.code [1, 1, 1, 1, 1]] XT.normal [(3, true, AV.ptr 0 0), (7, true, AV.ptr 2 0), (8, true, AV.int IntKind.i64 z1), (97, true, AV.sl 5 xs none), (98, true, AV.int IntKind.i64 z), (99, true, AV.int IntKind.i64 (IntKind.wrap IntKind.i64 (i + 1)))] [Blk.mem 25 [AV.int IntKind.i64 xk, AV.int IntKind.i64 xp, AV.str xt, AV.sl 3 xa none, AV.sl 5 xs none], Blk.mem 54 [AV.int IntKind.i64 d, AV.bool hid], Blk.mem 54 [AV.int IntKind.i64 d2, AV.bool hid2]]))))) (AV.int IntKind.i64 0 = v)) := by kernel_rfl
  exact ends_round hT 100000 (by kernel_rfl) (e.mpr H)

end Go.Proofs.Ytpfbpidlglelgaa
end

section
namespace Go.Proofs.Ytpfbpidlglelgaa
open Go.Ai Go
set_option linter.unusedSimpArgs false
set_option linter.unusedVariables false
set_option maxRecDepth 100000

theorem pf27 : pureFn cfg 27 Try.f27 := ⟨by kernel_rfl, by kernel_rfl, by kernel_rfl, by kernel_rfl, by kernel_rfl, by kernel_rfl⟩
theorem pf16 : pureFn cfg 16 Try.f16 := ⟨by kernel_rfl, by kernel_rfl, by kernel_rfl, by kernel_rfl, by kernel_rfl, by kernel_rfl⟩
theorem len27 (l : List Nd) : (encNs l).length = l.length := by rw [encNs_map]; exact List.length_map _
theorem chk_eq (n : Nd) (d : Int) (hid : Bool) (b : Int) : n.chk d hid b = bif formE n.kind n.text n.attrs n.kids.length d hid b == 0 then chks n.kind (n.kids.length : Nat) n.kids 0 (d + 1) (hid || n.kind == 14) 0 else formE n.kind n.text n.attrs n.kids.length d hid b := by
  obtain ⟨k, p, t, al, ks⟩ := n
  rw [Nd.chk]; rfl
theorem tfit_eq (n : Nd) : n.tfit = (n.text.length ≤ tlim ∧ n.attrs.length ≤ tlim ∧ (∀ a ∈ n.attrs, a.value.length ≤ tlim) ∧ n.kids.length ≤ tlim ∧ tfits n.kids) := by
  obtain ⟨k, p, t, al, ks⟩ := n
  rw [Nd.tfit]; rfl
theorem stripRs (n : Nat) (h : Hp) (k : Int) : stripss n h ((rulesL k).map encR) = (rulesL k).map encR := by
  refine stripss_pure _ _ _ ?_
  unfold rulesL
  cases k == 3 <;> cases k == 4 <;> cases k == 6 <;> cases k == 11 <;> rfl
def tabC (N : Nat) : List (Nat × Con) := [(27, checkC N), (33, keepC), (34, rulesC), (35, textC), (36, leafC), (37, fitC)]
theorem tab27 {N : Nat} (h : COk cfg 27 (checkC N)) : TabOk cfg (ctab [(27, checkC N), (33, keepC), (34, rulesC), (35, textC), (36, leafC), (37, fitC)]) :=
  ctab_ok (ctab_cons h (ctab_cons c33 (ctab_cons c34 (ctab_cons c35 (ctab_cons c36 (ctab_cons c37 ctab_nil))))))

theorem loop27 {N : Nat} (hT : TabOk cfg (ctab [(27, checkC N), (33, keepC), (34, rulesC), (35, textC), (36, leafC), (37, fitC)])) (xk xp d d2 v : Int) (xt : List UInt8) (al : List Att) (hid hid2 : Bool) (hd0 : 0 ≤ d2) (hd1 : d2 + N ≤ 1000000) : ∀ (r pre : List Nd) (c : Int), (pre ++ r).length ≤ tlim → tfits r → sizes r < N → v = chks xk ((pre ++ r).length : Nat) r (pre.length : Nat) d2 hid2 c →
    ToEnd cfg 27 (bodyOf Try.f27) (RetIs Try.prog Try.f27 (.int .i64 v)) [.code [0, 1, 0, 1, 1, 1, 1], .block 1, .code [1, 1, 1, 1, 1]] .normal
      [(3, true, .ptr 0 0), (7, true, .ptr 2 0), (8, true, .int .i64 c), (97, true, .sl 5 (encNs (pre ++ r)) none), (98, true, .int .i64 ((pre ++ r).length : Nat)), (99, true, .int .i64 (pre.length : Nat))]
      [.mem 25 [.int .i64 xk, .int .i64 xp, .str xt, .sl 3 (al.map encA) none, .sl 5 (encNs (pre ++ r)) none], .mem 54 [.int .i64 d, .bool hid], .mem 54 [.int .i64 d2, .bool hid2]] := by
  intro r
  induction r with
  | nil =>
    intro pre c hl hf hs hv
    refine t27g hT (ifP_intro (fun hc => ?_) fun _ => ?_)
    · simp at hc
    · rw [hv]; rfl
  | cons x r ih =>
    intro pre c hl hf hs hv
    obtain ⟨hf1, hf2⟩ := hf
    have hl' := hl
    simp only [List.length_append, List.length_cons] at hl'
    unfold tlim at hl'
    have hlen : pre.length < lim := by unfold lim; omega
    have hz : sizes (x :: r) = x.size + sizes r := rfl
    have hin : inR (pre.length : Int) (encNs (pre ++ x :: r)).length = true := inR_of (by omega) (by rw [len27]; simp; omega)
    have hlow : (lowVss 3 (encNs (pre ++ x :: r)) && true && true && (lowVss 3 (al.map encA) && true && (lowVss 3 (encNs (pre ++ x :: r)) && true && true) && true)) = true := by rw [low_encNs, low_encAs]; rfl
    rw [chks] at hv
    refine t27g hT (ifP_intro (fun _ => ?_) fun hc => ?_)
    · refine gAnd_intro (by rw [hin]; rfl) ⟨x.kind, x.pl, x.text, x.attrs.map encA, encNs x.kids, (getE_encNs _ _ _).trans (encN_eq x), xk, x.kind, (pre.length : Nat), ((encNs (pre ++ x :: r)).length : Nat), by omega, ?_, ?_, rfl, ?_⟩
      · rw [len27]; simp; omega
      · rw [len27]; simp; omega
      rw [len27]
      refine ifP_intro (fun a => ?_) fun a => ?_
      · rw [hv, a]; rfl
      · rw [a, cond_false] at hv
        refine ⟨x, d2, c, hid2, by omega, hf1, hd0, hd1, ?_, ifP_intro (fun b => ?_) fun b => ?_⟩
        · rw [stripAs, stripNs, ← encN_eq]
        · have e : (x.chk d2 hid2 c == 0) = false := by simpa using b
          rw [hv, e]; rfl
        · have e : (x.chk d2 hid2 c == 0) = true := by simpa using b
          rw [e, cond_true] at hv
          refine gAnd_intro hlow ?_
          rw [wrap_succ hlen]
          have := ih (pre ++ [x]) x.kind (by simpa using hl) hf2 (by omega) (by rw [hv]; simp)
          simpa using this
    · simp at hc; omega

theorem c27 : ∀ N, COk cfg 27 (checkC N)
  | 0 => by
    refine cok_pure pf27 fun vs h K ht => ?_
    obtain ⟨n, d, b, hid, hs, _⟩ := ht
    omega
  | N + 1 => by
    have hT := tab27 (c27 N)
    refine cok_pure pf27 fun vs h K ht => ?_
    obtain ⟨n, d, b, hid, hs, hf, hd0, hd1, rfl, hk⟩ := ht
    refine ⟨_, hk, ?_⟩
    have hsz := n.size_eq
    rw [tfit_eq] at hf
    obtain ⟨f1, f2, f3, f4, f5⟩ := hf
    have ftx : n.text.length ≤ tlim := f1
    rw [chk_eq, encN_eq]
    have heq : formE n.kind n.text n.attrs n.kids.length d hid b = formE n.kind n.text n.attrs n.kids.length d hid b := rfl
    conv at heq => rhs; unfold formE
    generalize formE n.kind n.text n.attrs n.kids.length d hid b = e at heq ⊢
    generalize hX : chks n.kind (n.kids.length : Nat) n.kids 0 (d + 1) (hid || n.kind == 14) 0 = X
    have bad : ∀ z : Int, e = z → (z == 0) = false → AV.int .i64 z = AV.int .i64 (bif e == 0 then X else e) := by
      intro z h h0; subst h; rw [h0]; rfl
    have s5 : e = 0 → ToEnd cfg 27 (bodyOf Try.f27) (RetIs Try.prog Try.f27 (.int .i64 (bif e == 0 then X else e))) [.code [1, 1]] .normal [(3, true, .ptr 0 0), (4, true, .ptr 1 0)] [.mem 25 [.int .i64 n.kind, .int .i64 n.pl, .str n.text, .sl 3 (n.attrs.map encA) none, .sl 5 (encNs n.kids) none], .mem 54 [.int .i64 d, .bool hid]] := by
      intro h0
      rw [h0]
      have hw : IntKind.wrap .i64 (d + 1) = d + 1 := wrap_in (by omega) (by omega)
      refine t27f hT (ifP_intro (fun g => ?_) fun g => ?_)
      · rw [hw, len27]
        rw [g, Bool.true_or] at hX
        exact loop27 hT n.kind n.pl d (d + 1) _ n.text n.attrs hid true (by omega) (by omega) n.kids [] 0 (by simpa using f4) f5 (by omega) (by simpa using hX.symm)
      · rw [hw, len27]
        rw [g, Bool.false_or] at hX
        exact loop27 hT n.kind n.pl d (d + 1) _ n.text n.attrs hid (n.kind == 14) (by omega) (by omega) n.kids [] 0 (by simpa using f4) f5 (by omega) (by simpa using hX.symm)
    have s4 : (e = bif (leafB n.kind && decide (0 < n.kids.length)) || (n.kind == 7 && !(n.kids.length == 2)) || (n.kind == 10 && n.kids.length == 0) then 13 else 0) → ToEnd cfg 27 (bodyOf Try.f27) (RetIs Try.prog Try.f27 (.int .i64 (bif e == 0 then X else e))) [.code [1, 1, 1, 1, 1, 1, 1, 1, 0, 0, 1], .block 0, .code [1, 1]] .normal [(3, true, .ptr 0 0), (4, true, .ptr 1 0)] [.mem 25 [.int .i64 n.kind, .int .i64 n.pl, .str n.text, .sl 3 (n.attrs.map encA) none, .sl 5 (encNs n.kids) none], .mem 54 [.int .i64 d, .bool hid]] := by
      intro h0
      have i1 : decide ((((encNs n.kids).length : Nat) : Int) > 0) = decide (0 < n.kids.length) := by rw [len27]; exact decide_eq_decide.2 (by omega)
      have i2 : ((((encNs n.kids).length : Nat) : Int) != 2) = !(n.kids.length == 2) := by rw [len27, Bool.eq_iff_iff]; simp; omega
      have i3 : ((((encNs n.kids).length : Nat) : Int) == 0) = (n.kids.length == 0) := by rw [len27, Bool.eq_iff_iff]; simp
      refine t27e hT ?_
      refine ⟨n.kind, rfl, ?_⟩
      rw [i1, i2, i3]
      generalize leafB n.kind = p1 at *
      generalize decide (0 < n.kids.length) = p2 at *
      generalize (n.kind == 7) = p3 at *
      generalize (!(n.kids.length == 2)) = p4 at *
      generalize (n.kind == 10) = p5 at *
      generalize (n.kids.length == 0) = p6 at *
      cases p1 <;> cases p2 <;> cases p3 <;> cases p4 <;> cases p5 <;> cases p6 <;> first | exact bad 13 h0 rfl | exact s5 h0
    have s3 : (e = bif !textB n.kind n.text hid || (n.kind == 2 && b == 2) then 4 else bif (leafB n.kind && decide (0 < n.kids.length)) || (n.kind == 7 && !(n.kids.length == 2)) || (n.kind == 10 && n.kids.length == 0) then 13 else 0) → ToEnd cfg 27 (bodyOf Try.f27) (RetIs Try.prog Try.f27 (.int .i64 (bif e == 0 then X else e))) [.code [1, 1, 1, 1, 1, 1, 0, 0, 1], .block 0, .code [1, 1]] .normal [(2, true, .int .i64 b), (3, true, .ptr 0 0), (4, true, .ptr 1 0)] [.mem 25 [.int .i64 n.kind, .int .i64 n.pl, .str n.text, .sl 3 (n.attrs.map encA) none, .sl 5 (encNs n.kids) none], .mem 54 [.int .i64 d, .bool hid]] := by
      intro h0
      refine t27d hT ⟨n, hid, ftx, by rw [stripAs, stripNs, ← encN_eq], ?_⟩
      generalize (!textB n.kind n.text hid) = p1 at *
      generalize (n.kind == 2) = p2 at *
      generalize (b == 2) = p3 at *
      cases p1 <;> cases p2 <;> cases p3 <;> first | exact bad 4 h0 rfl | exact s4 h0
    have s2 : (e = bif !keepR (rulesL n.kind) n.attrs 0 then 12 else bif !textB n.kind n.text hid || (n.kind == 2 && b == 2) then 4 else bif (leafB n.kind && decide (0 < n.kids.length)) || (n.kind == 7 && !(n.kids.length == 2)) || (n.kind == 10 && n.kids.length == 0) then 13 else 0) → ToEnd cfg 27 (bodyOf Try.f27) (RetIs Try.prog Try.f27 (.int .i64 (bif e == 0 then X else e))) [.code [1, 1, 1, 1, 0, 0, 1], .block 0, .code [1, 1]] .normal [(2, true, .int .i64 b), (3, true, .ptr 0 0), (4, true, .ptr 1 0)] [.mem 25 [.int .i64 n.kind, .int .i64 n.pl, .str n.text, .sl 3 (n.attrs.map encA) none, .sl 5 (encNs n.kids) none], .mem 54 [.int .i64 d, .bool hid]] := by
      intro h0
      refine t27c hT ⟨n.kind, rfl, n.kind, n.attrs, f2, f3, ?_, ?_⟩
      · rw [stripAs, stripRs]
      generalize (!keepR (rulesL n.kind) n.attrs 0) = p1 at *
      cases p1 <;> first | exact bad 12 h0 rfl | exact s3 h0
    have s1 : (e = bif !(n.kind == 2) && decide (16 < d) then 3 else bif !keepR (rulesL n.kind) n.attrs 0 then 12 else bif !textB n.kind n.text hid || (n.kind == 2 && b == 2) then 4 else bif (leafB n.kind && decide (0 < n.kids.length)) || (n.kind == 7 && !(n.kids.length == 2)) || (n.kind == 10 && n.kids.length == 0) then 13 else 0) → ToEnd cfg 27 (bodyOf Try.f27) (RetIs Try.prog Try.f27 (.int .i64 (bif e == 0 then X else e))) [.code [1, 1, 0, 0, 1], .block 0, .code [1, 1]] .normal [(2, true, .int .i64 b), (3, true, .ptr 0 0), (4, true, .ptr 1 0)] [.mem 25 [.int .i64 n.kind, .int .i64 n.pl, .str n.text, .sl 3 (n.attrs.map encA) none, .sl 5 (encNs n.kids) none], .mem 54 [.int .i64 d, .bool hid]] := by
      intro h0
      refine t27b hT (ifP_intro (fun g => ifP_intro (fun g' => ?_) fun g' => ?_) fun g => ?_)
      · refine bad 3 ?_ rfl
        have e1 : (!(n.kind == 2)) = true := g
        have e2 : decide (16 < d) = true := g'
        rw [h0, e1, e2]; rfl
      · refine s2 ?_
        have e2 : decide (16 < d) = false := g'
        rw [h0, e2, Bool.and_false]; rfl
      · refine s2 ?_
        have e1 : (!(n.kind == 2)) = false := g
        rw [h0, e1, Bool.false_and]; rfl
    refine t27a hT (ifP_intro (fun g => ifP_intro (fun g' => ?_) fun g' => ?_) fun g => ?_)
    · refine bad 13 ?_ rfl
      rw [heq, g, g']; rfl
    · refine s1 ?_
      rw [heq, g', Bool.and_false]; rfl
    · refine s1 ?_
      rw [heq, g, Bool.false_and]; rfl

theorem c16 (N : Nat) : COk cfg 16 (pageC N) := by
  refine cok_pure pf16 fun vs h K ht => ?_
  obtain ⟨n, hs, hf, hN, rfl, hk⟩ := ht
  refine ⟨_, hk, ?_⟩
  rw [encN_eq]
  unfold Nd.page
  refine t16 (ctab_ok (ctab_cons (c27 N) ctab_nil)) (ifP_intro (fun a => ?_) fun a => ⟨n, 0, 0, false, hs, hf, by decide, by omega, by rw [stripAs, stripNs, ← encN_eq], ?_⟩)
  · have e : (n.kind == 1) = false := by simpa using a
    rw [e]; rfl
  · have e : (n.kind == 1) = true := by simpa using a
    rw [e]; rfl
end Go.Proofs.Ytpfbpidlglelgaa
end

section
namespace Go.Proofs.Ytpfbpidlglelgaa
open Go.Ai Go
set_option maxRecDepth 100000
set_option linter.unusedVariables false
theorem t20a {N : Nat} {v : AV} {xk xp : Int} {xt : List UInt8} {xa xs : List (List AV)} {by' : Int} (hT : TabOk cfg (ctab [(20, movedC N)])) (H :
    ToEnd cfg 20 (bodyOf Try.f20) (RetIs Try.prog Try.f20 v) [Fm.code [0, 1, 0, 1, 1], Fm.block 0, Fm.code [1, 1, 1]] XT.normal [(1, true, AV.int IntKind.i64 by'), (2, true, AV.ptr 0 0), (4, true, AV.ptr 3 0), (5, true, AV.ptr 8 0), (6, true, AV.int IntKind.i64 0)] [Blk.mem 25 [AV.int IntKind.i64 xk, AV.int IntKind.i64 xp, AV.str xt, AV.sl 3 xa none, AV.sl 5 xs none], Blk.grow 0 3 41, Blk.grow 0 5 25, Blk.mem 25 [AV.int IntKind.i64 0, AV.int IntKind.i64 0, AV.str [], AV.sl 3 [] (some 1), AV.sl 5 [] (some 2)], Blk.grow 0 3 41, Blk.grow 0 5 25, Blk.grow 0 3 41, Blk.grow 0 5 25, Blk.mem 25 [AV.int IntKind.i64 xk, AV.int IntKind.i64 (IntKind.wrap IntKind.i64 (xp + by')), AV.str xt, AV.sl 3 [] (some 4), AV.sl 5 [] (some 5)]]) :
    ToEnd cfg 20 (bodyOf Try.f20) (RetIs Try.prog Try.f20 v) ([.code []]) .normal ([(0, true, .agg [.int .i64 xk, .int .i64 xp, .str xt, .sl 3 xa none, .sl 5 xs none]), (1, true, .int .i64 by')]) ([]) := by
  have e : unr cfg 20 (bodyOf Try.f20) (ctab [(20, movedC N)]) ⟨[[0, 1, 0, 1, 1], [0, 1, 0, 1, 1, 1]], [([0, 0, 0, 1, 0, 0, 1, 0, 1, 1], 3, [.str, .str, .int .i64]), ([0, 0, 0, 1, 0, 0, 1, 0, 1, 1, 1], 3, [.int .i64, .int .i64, .str, .sl 3, .sl 5])]⟩ (RetIs Try.prog Try.f20 v) 100000 ([.code []]) .normal ([(0, true, .agg [.int .i64 xk, .int .i64 xp, .str xt, .sl 3 xa none, .sl 5 xs none]), (1, true, .int .i64 by')]) ([]) =
    (ToEnd cfg 20 (bodyOf Try.f20) (RetIs Try.prog Try.f20 v) [Fm.code [0, 1, 0, 1, 1], Fm.block 0, Fm.code [1, 1, 1]] XT.normal [(1, true, AV.int IntKind.i64 by'), (2, true, AV.ptr 0 0), (4, true, AV.ptr 3 0), (5, true, AV.ptr 8 0), (6, true, AV.int IntKind.i64 0)] [Blk.mem 25 [AV.int IntKind.i64 xk, AV.int IntKind.i64 xp, AV.str xt, AV.sl 3 xa none, AV.sl 5 xs none], Blk.grow 0 3 41, Blk.grow 0 5 25, Blk.mem 25 [AV.int IntKind.i64 0, AV.int IntKind.i64 0, AV.str [], AV.sl 3 [] (some 1), AV.sl 5 [] (some 2)], Blk.grow 0 3 41, Blk.grow 0 5 25, Blk.grow 0 3 41, Blk.grow 0 5 25, Blk.mem 25 [AV.int IntKind.i64 xk, AV.int IntKind.i64 (IntKind.wrap IntKind.i64 (xp + by')), AV.str xt, AV.sl 3 [] (some 4), AV.sl 5 [] (some 5)]]) := by kernel_rfl
  exact unr_ok hT 100000 _ _ _ _ (e.mpr H)

theorem t20b {N : Nat} {v : AV} {xk xp : Int} {xt : List UInt8} {xa xs : List (List AV)}  {i1 : Int} {i6 : Int} {g1 : Nat} {g2 : Nat} {ih3_0 : Int} {ih3_1 : Int} {sh3_2 : List UInt8} {eh3_3 : List (List AV)} {eh3_4 : List (List AV)} {g4 : Nat} {g5 : Nat} {g6 : Nat} {g7 : Nat} {ih8_1 : Int} {eh8_3 : List (List AV)} {eh8_4 : List (List AV)} (hT : TabOk cfg (ctab [(20, movedC N)])) (H :
    ifP (decide (i6 < (↑(List.length xa) : Int))) (gAnd (inR i6 (List.length xa) && true && true) (∃ (s1 : List UInt8), ∃ (s2 : List UInt8), ∃ (z3 : Int), getE xa i6 = [AV.str s1, AV.str s2, AV.int IntKind.i64 z3] ∧ gAnd (tagOk [Blk.mem 25 [AV.int IntKind.i64 xk, AV.int IntKind.i64 xp, AV.str xt, AV.sl 3 xa none, AV.sl 5 xs none], Blk.grow g1 3 41, Blk.grow g2 5 25, Blk.mem 25 [AV.int IntKind.i64 ih3_0, AV.int IntKind.i64 ih3_1, AV.str sh3_2, AV.sl 3 eh3_3 (some 1), AV.sl 5 eh3_4 (some 2)], Blk.grow g4 3 41, Blk.grow g5 5 25, Blk.grow g6 3 41, Blk.grow g7 5 25, Blk.mem 25 [AV.int IntKind.i64 xk, AV.int IntKind.i64 ih8_1, AV.str xt, AV.sl 3 eh8_3 (some 4), AV.sl 5 eh8_4 (some 5)], Blk.mem 41 [AV.str s1, AV.str s2, AV.int IntKind.i64 z3], Blk.grow 1 3 41] (List.length eh8_3) 3 41 (some 4) && true && true && true && decide ((List.length eh8_3 + 1) * 40 ≤ 140737488355328) && true && true) (gAnd (lowVss 9 xa && true && (lowVss 9 xs && true && true) && (lowVss 9 eh3_3 && true && (lowVss 9 eh3_4 && true && true) && (lowVss 9 (eh8_3 ++ [[AV.str s1, AV.str s2, AV.int IntKind.i64 (IntKind.wrap IntKind.i64 (z3 + i1))]]) && true && (lowVss 9 eh8_4 && true && true) && true))) (ToEnd cfg 20 (bodyOf Try.f20) (RetIs Try.prog Try.f20 v) [Fm.code [0, 1, 0, 1, 1], Fm.block 0, Fm.code [1, 1, 1]] XT.normal [(1, true, AV.int IntKind.i64 i1), (2, true, AV.ptr 0 0), (4, true, AV.ptr 3 0), (5, true, AV.ptr 8 0), (6, true, AV.int IntKind.i64 (IntKind.wrap IntKind.i64 (i6 + 1)))] [Blk.mem 25 [AV.int IntKind.i64 xk, AV.int IntKind.i64 xp, AV.str xt, AV.sl 3 xa none, AV.sl 5 xs none], Blk.grow g1 3 41, Blk.grow g2 5 25, Blk.mem 25 [AV.int IntKind.i64 ih3_0, AV.int IntKind.i64 ih3_1, AV.str sh3_2, AV.sl 3 eh3_3 (some 1), AV.sl 5 eh3_4 (some 2)], Blk.grow (List.length eh8_3 + 1) 3 41, Blk.grow g5 5 25, Blk.grow g6 3 41, Blk.grow g7 5 25, Blk.mem 25 [AV.int IntKind.i64 xk, AV.int IntKind.i64 ih8_1, AV.str xt, AV.sl 3 (eh8_3 ++ [[AV.str s1, AV.str s2, AV.int IntKind.i64 (IntKind.wrap IntKind.i64 (z3 + i1))]]) (some 4), AV.sl 5 eh8_4 (some 5)]])))) (ToEnd cfg 20 (bodyOf Try.f20) (RetIs Try.prog Try.f20 v) [Fm.code [0, 1, 0, 1, 1, 1], Fm.block 2, Fm.code [1, 1, 1, 1]] XT.normal [(1, true, AV.int IntKind.i64 i1), (2, true, AV.ptr 0 0), (4, true, AV.ptr 3 0), (5, true, AV.ptr 8 0), (8, true, AV.int IntKind.i64 0)] [Blk.mem 25 [AV.int IntKind.i64 xk, AV.int IntKind.i64 xp, AV.str xt, AV.sl 3 xa none, AV.sl 5 xs none], Blk.grow g1 3 41, Blk.grow g2 5 25, Blk.mem 25 [AV.int IntKind.i64 ih3_0, AV.int IntKind.i64 ih3_1, AV.str sh3_2, AV.sl 3 eh3_3 (some 1), AV.sl 5 eh3_4 (some 2)], Blk.grow g4 3 41, Blk.grow g5 5 25, Blk.grow g6 3 41, Blk.grow g7 5 25, Blk.mem 25 [AV.int IntKind.i64 xk, AV.int IntKind.i64 ih8_1, AV.str xt, AV.sl 3 eh8_3 (some 4), AV.sl 5 eh8_4 (some 5)]])) :
    ToEnd cfg 20 (bodyOf Try.f20) (RetIs Try.prog Try.f20 v) ([.code [0, 1, 0, 1, 1], Fm.block 0, Fm.code [1, 1, 1]]) .normal ([(1, true, AV.int IntKind.i64 i1), (2, true, AV.ptr 0 0), (4, true, AV.ptr 3 0), (5, true, AV.ptr 8 0), (6, true, AV.int IntKind.i64 i6)]) ([Blk.mem 25 [AV.int IntKind.i64 xk, AV.int IntKind.i64 xp, AV.str xt, AV.sl 3 xa none, AV.sl 5 xs none], Blk.grow g1 3 41, Blk.grow g2 5 25, Blk.mem 25 [AV.int IntKind.i64 ih3_0, AV.int IntKind.i64 ih3_1, AV.str sh3_2, AV.sl 3 eh3_3 (some 1), AV.sl 5 eh3_4 (some 2)], Blk.grow g4 3 41, Blk.grow g5 5 25, Blk.grow g6 3 41, Blk.grow g7 5 25, Blk.mem 25 [AV.int IntKind.i64 xk, AV.int IntKind.i64 ih8_1, AV.str xt, AV.sl 3 eh8_3 (some 4), AV.sl 5 eh8_4 (some 5)]]) := by
  have e : unr cfg 20 (bodyOf Try.f20) (ctab [(20, movedC N)]) ⟨[[0, 1, 0, 1, 1], [0, 1, 0, 1, 1, 1]], [([0, 0, 0, 1, 0, 0, 1, 0, 1, 1], 3, [.str, .str, .int .i64]), ([0, 0, 0, 1, 0, 0, 1, 0, 1, 1, 1], 3, [.int .i64, .int .i64, .str, .sl 3, .sl 5])]⟩ (RetIs Try.prog Try.f20 v) 100000 ([.code [0, 0, 1, 0, 1, 1], .loop [0, 1, 0, 1, 1] 9, Fm.block 0, Fm.code [1, 1, 1]]) .normal ([(1, true, AV.int IntKind.i64 i1), (2, true, AV.ptr 0 0), (4, true, AV.ptr 3 0), (5, true, AV.ptr 8 0), (6, true, AV.int IntKind.i64 i6)]) ([Blk.mem 25 [AV.int IntKind.i64 xk, AV.int IntKind.i64 xp, AV.str xt, AV.sl 3 xa none, AV.sl 5 xs none], Blk.grow g1 3 41, Blk.grow g2 5 25, Blk.mem 25 [AV.int IntKind.i64 ih3_0, AV.int IntKind.i64 ih3_1, AV.str sh3_2, AV.sl 3 eh3_3 (some 1), AV.sl 5 eh3_4 (some 2)], Blk.grow g4 3 41, Blk.grow g5 5 25, Blk.grow g6 3 41, Blk.grow g7 5 25, Blk.mem 25 [AV.int IntKind.i64 xk, AV.int IntKind.i64 ih8_1, AV.str xt, AV.sl 3 eh8_3 (some 4), AV.sl 5 eh8_4 (some 5)]]) =
    (ifP (decide (i6 < (↑(List.length xa) : Int))) (gAnd (inR i6 (List.length xa) && true && true) (∃ (s1 : List UInt8), ∃ (s2 : List UInt8), ∃ (z3 : Int), getE xa i6 = [AV.str s1, AV.str s2, AV.int IntKind.i64 z3] ∧ gAnd (tagOk [Blk.mem 25 [AV.int IntKind.i64 xk, AV.int IntKind.i64 xp, AV.str xt, AV.sl 3 xa none, AV.sl 5 xs none], Blk.grow g1 3 41, Blk.grow g2 5 25, Blk.mem 25 [AV.int IntKind.i64 ih3_0, AV.int IntKind.i64 ih3_1, AV.str sh3_2, AV.sl 3 eh3_3 (some 1), AV.sl 5 eh3_4 (some 2)], Blk.grow g4 3 41, Blk.grow g5 5 25, Blk.grow g6 3 41, Blk.grow g7 5 25, Blk.mem 25 [AV.int IntKind.i64 xk, AV.int IntKind.i64 ih8_1, AV.str xt, AV.sl 3 eh8_3 (some 4), AV.sl 5 eh8_4 (some 5)], Blk.mem 41 [AV.str s1, AV.str s2, AV.int IntKind.i64 z3], Blk.grow 1 3 41] (List.length eh8_3) 3 41 (some 4) && true && true && true && decide ((List.length eh8_3 + 1) * 40 ≤ 140737488355328) && true && true) (gAnd (lowVss 9 xa && true && (lowVss 9 xs && true && true) && (lowVss 9 eh3_3 && true && (lowVss 9 eh3_4 && true && true) && (lowVss 9 (eh8_3 ++ [[AV.str s1, AV.str s2, AV.int IntKind.i64 (IntKind.wrap IntKind.i64 (z3 + i1))]]) && true && (lowVss 9 eh8_4 && true && true) && true))) (ToEnd cfg 20 (bodyOf Try.f20) (RetIs Try.prog Try.f20 v) [Fm.code [0, 1, 0, 1, 1], Fm.block 0, Fm.code [1, 1, 1]] XT.normal [(1, true, AV.int IntKind.i64 i1), (2, true, AV.ptr 0 0), (4, true, AV.ptr 3 0), (5, true, AV.ptr 8 0), (6, true, AV.int IntKind.i64 (IntKind.wrap IntKind.i64 (i6 + 1)))] [Blk.mem 25 [AV.int IntKind.i64 xk, AV.int IntKind.i64 xp, AV.str xt, AV.sl 3 xa none, AV.sl 5 xs none], Blk.grow g1 3 41, Blk.grow g2 5 25, Blk.mem 25 [AV.int IntKind.i64 ih3_0, AV.int IntKind.i64 ih3_1, AV.str sh3_2, AV.sl 3 eh3_3 (some 1), AV.sl 5 eh3_4 (some 2)], Blk.grow (List.length eh8_3 + 1) 3 41, Blk.grow g5 5 25, Blk.grow g6 3 41, Blk.grow g7 5 25, Blk.mem 25 [AV.int IntKind.i64 xk, AV.int IntKind.i64 ih8_1, AV.str xt, AV.sl 3 (eh8_3 ++ [[AV.str s1, AV.str s2, AV.int IntKind.i64 (IntKind.wrap IntKind.i64 (z3 + i1))]]) (some 4), AV.sl 5 eh8_4 (some 5)]])))) (ToEnd cfg 20 (bodyOf Try.f20) (RetIs Try.prog Try.f20 v) [Fm.code [0, 1, 0, 1, 1, 1], Fm.block 2, Fm.code [1, 1, 1, 1]] XT.normal [(1, true, AV.int IntKind.i64 i1), (2, true, AV.ptr 0 0), (4, true, AV.ptr 3 0), (5, true, AV.ptr 8 0), (8, true, AV.int IntKind.i64 0)] [Blk.mem 25 [AV.int IntKind.i64 xk, AV.int IntKind.i64 xp, AV.str xt, AV.sl 3 xa none, AV.sl 5 xs none], Blk.grow g1 3 41, Blk.grow g2 5 25, Blk.mem 25 [AV.int IntKind.i64 ih3_0, AV.int IntKind.i64 ih3_1, AV.str sh3_2, AV.sl 3 eh3_3 (some 1), AV.sl 5 eh3_4 (some 2)], Blk.grow g4 3 41, Blk.grow g5 5 25, Blk.grow g6 3 41, Blk.grow g7 5 25, Blk.mem 25 [AV.int IntKind.i64 xk, AV.int IntKind.i64 ih8_1, AV.str xt, AV.sl 3 eh8_3 (some 4), AV.sl 5 eh8_4 (some 5)]])) := by kernel_rfl
  exact ends_round hT 100000 (by kernel_rfl) (e.mpr H)

theorem t20c {N : Nat} {v : AV} {xk xp : Int} {xt : List UInt8} {xa xs : List (List AV)}  {i1 : Int}  {g1 : Nat} {g2 : Nat} {ih3_0 : Int} {ih3_1 : Int} {sh3_2 : List UInt8} {eh3_3 : List (List AV)} {eh3_4 : List (List AV)} {g4 : Nat} {g5 : Nat} {g6 : Nat} {g7 : Nat} {ih8_1 : Int} {eh8_3 : List (List AV)} {eh8_4 : List (List AV)} {i8 : Int} (hT : TabOk cfg (ctab [(20, movedC N)])) (H :
    ifP (decide (i8 < (↑(List.length xs) : Int))) (gAnd (inR i8 (List.length xs) && true && true) (∃ (z1 : Int), ∃ (z2 : Int), ∃ (s3 : List UInt8), ∃ (es4 : List (List AV)), ∃ (es5 : List (List AV)), getE xs i8 = [AV.int IntKind.i64 z1, AV.int IntKind.i64 z2, AV.str s3, AV.sl 3 es4 none, AV.sl 5 es5 none] ∧ ∃ (n6 : Nd), ∃ (b7 : Int), Nd.size n6 < N ∧ Nd.tfit n6 ∧ [AV.agg [AV.int IntKind.i64 z1, AV.int IntKind.i64 z2, AV.str s3, AV.sl 3 (stripss 0 [] es4) none, AV.sl 5 (stripss 0 [] es5) none], AV.int IntKind.i64 i1] = [AV.agg (encN n6), AV.int IntKind.i64 b7] ∧ gAnd (tagOk [Blk.mem 25 [AV.int IntKind.i64 xk, AV.int IntKind.i64 xp, AV.str xt, AV.sl 3 xa none, AV.sl 5 xs none], Blk.grow g1 3 41, Blk.grow g2 5 25, Blk.mem 25 [AV.int IntKind.i64 ih3_0, AV.int IntKind.i64 ih3_1, AV.str sh3_2, AV.sl 3 eh3_3 (some 1), AV.sl 5 eh3_4 (some 2)], Blk.grow g4 3 41, Blk.grow g5 5 25, Blk.grow g6 3 41, Blk.grow g7 5 25, Blk.mem 25 [AV.int IntKind.i64 xk, AV.int IntKind.i64 ih8_1, AV.str xt, AV.sl 3 eh8_3 (some 4), AV.sl 5 eh8_4 (some 5)], Blk.grow 0 3 41, Blk.grow 0 5 25, Blk.mem 25 [AV.int IntKind.i64 (Nd.kind n6), AV.int IntKind.i64 (IntKind.wrap IntKind.i64 (Nd.pl n6 + b7)), AV.str (Nd.text n6), AV.sl 3 (List.map encA (List.map (Att.moved b7) (Nd.attrs n6))) none, AV.sl 5 (encNs (moveds (Nd.kids n6) b7)) none], Blk.grow 1 5 25] (List.length eh8_4) 5 25 (some 5) && true && true && true && decide ((List.length eh8_4 + 1) * 80 ≤ 140737488355328) && true && true) (gAnd (lowVss 9 xa && true && (lowVss 9 xs && true && true) && (lowVss 9 eh3_3 && true && (lowVss 9 eh3_4 && true && true) && (lowVss 9 eh8_3 && true && (lowVss 9 (eh8_4 ++ [[AV.int IntKind.i64 (Nd.kind n6), AV.int IntKind.i64 (IntKind.wrap IntKind.i64 (Nd.pl n6 + b7)), AV.str (Nd.text n6), AV.sl 3 (List.map encA (List.map (Att.moved b7) (Nd.attrs n6))) none, AV.sl 5 (encNs (moveds (Nd.kids n6) b7)) none]]) && true && true) && true))) (ToEnd cfg 20 (bodyOf Try.f20) (RetIs Try.prog Try.f20 v) [Fm.code [0, 1, 0, 1, 1, 1], Fm.block 2, Fm.code [1, 1, 1, 1]] XT.normal [(1, true, AV.int IntKind.i64 i1), (2, true, AV.ptr 0 0), (4, true, AV.ptr 3 0), (5, true, AV.ptr 8 0), (8, true, AV.int IntKind.i64 (IntKind.wrap IntKind.i64 (i8 + 1)))] [Blk.mem 25 [AV.int IntKind.i64 xk, AV.int IntKind.i64 xp, AV.str xt, AV.sl 3 xa none, AV.sl 5 xs none], Blk.grow g1 3 41, Blk.grow g2 5 25, Blk.mem 25 [AV.int IntKind.i64 ih3_0, AV.int IntKind.i64 ih3_1, AV.str sh3_2, AV.sl 3 eh3_3 (some 1), AV.sl 5 eh3_4 (some 2)], Blk.grow g4 3 41, Blk.grow (List.length eh8_4 + 1) 5 25, Blk.grow g6 3 41, Blk.grow g7 5 25, Blk.mem 25 [AV.int IntKind.i64 xk, AV.int IntKind.i64 ih8_1, AV.str xt, AV.sl 3 eh8_3 (some 4), AV.sl 5 (eh8_4 ++ [[AV.int IntKind.i64 (Nd.kind n6), AV.int IntKind.i64 (IntKind.wrap IntKind.i64 (Nd.pl n6 + b7)), AV.str (Nd.text n6), AV.sl 3 (List.map encA (List.map (Att.moved b7) (Nd.attrs n6))) none, AV.sl 5 (encNs (moveds (Nd.kids n6) b7)) none]]) (some 5)]])))) (AV.agg [AV.int IntKind.i64 xk, AV.int IntKind.i64 ih8_1, AV.str xt, AV.sl 3 (stripss 0 [Blk.mem 25 [AV.int IntKind.i64 xk, AV.int IntKind.i64 xp, AV.str xt, AV.sl 3 xa none, AV.sl 5 xs none], Blk.grow g1 3 41, Blk.grow g2 5 25, Blk.mem 25 [AV.int IntKind.i64 xk, AV.int IntKind.i64 ih8_1, AV.str xt, AV.sl 3 eh8_3 (some 4), AV.sl 5 eh8_4 (some 5)], Blk.grow g4 3 41, Blk.grow g5 5 25, Blk.grow g6 3 41, Blk.grow g7 5 25, Blk.mem 25 [AV.int IntKind.i64 xk, AV.int IntKind.i64 ih8_1, AV.str xt, AV.sl 3 eh8_3 (some 4), AV.sl 5 eh8_4 (some 5)]] eh8_3) none, AV.sl 5 (stripss 0 [Blk.mem 25 [AV.int IntKind.i64 xk, AV.int IntKind.i64 xp, AV.str xt, AV.sl 3 xa none, AV.sl 5 xs none], Blk.grow g1 3 41, Blk.grow g2 5 25, Blk.mem 25 [AV.int IntKind.i64 xk, AV.int IntKind.i64 ih8_1, AV.str xt, AV.sl 3 eh8_3 (some 4), AV.sl 5 eh8_4 (some 5)], Blk.grow g4 3 41, Blk.grow g5 5 25, Blk.grow g6 3 41, Blk.grow g7 5 25, Blk.mem 25 [AV.int IntKind.i64 xk, AV.int IntKind.i64 ih8_1, AV.str xt, AV.sl 3 eh8_3 (some 4), AV.sl 5 eh8_4 (some 5)]] eh8_4) none] = v)) :
    ToEnd cfg 20 (bodyOf Try.f20) (RetIs Try.prog Try.f20 v) ([.code [0, 1, 0, 1, 1, 1], Fm.block 2, Fm.code [1, 1, 1, 1]]) .normal ([(1, true, AV.int IntKind.i64 i1), (2, true, AV.ptr 0 0), (4, true, AV.ptr 3 0), (5, true, AV.ptr 8 0), (8, true, AV.int IntKind.i64 i8)]) ([Blk.mem 25 [AV.int IntKind.i64 xk, AV.int IntKind.i64 xp, AV.str xt, AV.sl 3 xa none, AV.sl 5 xs none], Blk.grow g1 3 41, Blk.grow g2 5 25, Blk.mem 25 [AV.int IntKind.i64 ih3_0, AV.int IntKind.i64 ih3_1, AV.str sh3_2, AV.sl 3 eh3_3 (some 1), AV.sl 5 eh3_4 (some 2)], Blk.grow g4 3 41, Blk.grow g5 5 25, Blk.grow g6 3 41, Blk.grow g7 5 25, Blk.mem 25 [AV.int IntKind.i64 xk, AV.int IntKind.i64 ih8_1, AV.str xt, AV.sl 3 eh8_3 (some 4), AV.sl 5 eh8_4 (some 5)]]) := by
  have e : unr cfg 20 (bodyOf Try.f20) (ctab [(20, movedC N)]) ⟨[[0, 1, 0, 1, 1], [0, 1, 0, 1, 1, 1]], [([0, 0, 0, 1, 0, 0, 1, 0, 1, 1], 3, [.str, .str, .int .i64]), ([0, 0, 0, 1, 0, 0, 1, 0, 1, 1, 1], 3, [.int .i64, .int .i64, .str, .sl 3, .sl 5])]⟩ (RetIs Try.prog Try.f20 v) 100000 ([.code [0, 0, 1, 0, 1, 1, 1], .loop [0, 1, 0, 1, 1, 1] 9, Fm.block 2, Fm.code [1, 1, 1, 1]]) .normal ([(1, true, AV.int IntKind.i64 i1), (2, true, AV.ptr 0 0), (4, true, AV.ptr 3 0), (5, true, AV.ptr 8 0), (8, true, AV.int IntKind.i64 i8)]) ([Blk.mem 25 [AV.int IntKind.i64 xk, AV.int IntKind.i64 xp, AV.str xt, AV.sl 3 xa none, AV.sl 5 xs none], Blk.grow g1 3 41, Blk.grow g2 5 25, Blk.mem 25 [AV.int IntKind.i64 ih3_0, AV.int IntKind.i64 ih3_1, AV.str sh3_2, AV.sl 3 eh3_3 (some 1), AV.sl 5 eh3_4 (some 2)], Blk.grow g4 3 41, Blk.grow g5 5 25, Blk.grow g6 3 41, Blk.grow g7 5 25, Blk.mem 25 [AV.int IntKind.i64 xk, AV.int IntKind.i64 ih8_1, AV.str xt, AV.sl 3 eh8_3 (some 4), AV.sl 5 eh8_4 (some 5)]]) =
    (ifP (decide (i8 < (↑(List.length xs) : Int))) (gAnd (inR i8 (List.length xs) && true && true) (∃ (z1 : Int), ∃ (z2 : Int), ∃ (s3 : List UInt8), ∃ (es4 : List (List AV)), ∃ (es5 : List (List AV)), getE xs i8 = [AV.int IntKind.i64 z1, AV.int IntKind.i64 z2, AV.str s3, AV.sl 3 es4 none, AV.sl 5 es5 none] ∧ ∃ (n6 : Nd), ∃ (b7 : Int), Nd.size n6 < N ∧ Nd.tfit n6 ∧ [AV.agg [AV.int IntKind.i64 z1, AV.int IntKind.i64 z2, AV.str s3, AV.sl 3 (stripss 0 [] es4) none, AV.sl 5 (stripss 0 [] es5) none], AV.int IntKind.i64 i1] = [AV.agg (encN n6), AV.int IntKind.i64 b7] ∧ gAnd (tagOk [Blk.mem 25 [AV.int IntKind.i64 xk, AV.int IntKind.i64 xp, AV.str xt, AV.sl 3 xa none, AV.sl 5 xs none], Blk.grow g1 3 41, Blk.grow g2 5 25, Blk.mem 25 [AV.int IntKind.i64 ih3_0, AV.int IntKind.i64 ih3_1, AV.str sh3_2, AV.sl 3 eh3_3 (some 1), AV.sl 5 eh3_4 (some 2)], Blk.grow g4 3 41, Blk.grow g5 5 25, Blk.grow g6 3 41, Blk.grow g7 5 25, Blk.mem 25 [AV.int IntKind.i64 xk, AV.int IntKind.i64 ih8_1, AV.str xt, AV.sl 3 eh8_3 (some 4), AV.sl 5 eh8_4 (some 5)], Blk.grow 0 3 41, Blk.grow 0 5 25, Blk.mem 25 [AV.int IntKind.i64 (Nd.kind n6), AV.int IntKind.i64 (IntKind.wrap IntKind.i64 (Nd.pl n6 + b7)), AV.str (Nd.text n6), AV.sl 3 (List.map encA (List.map (Att.moved b7) (Nd.attrs n6))) none, AV.sl 5 (encNs (moveds (Nd.kids n6) b7)) none], Blk.grow 1 5 25] (List.length eh8_4) 5 25 (some 5) && true && true && true && decide ((List.length eh8_4 + 1) * 80 ≤ 140737488355328) && true && true) (gAnd (lowVss 9 xa && true && (lowVss 9 xs && true && true) && (lowVss 9 eh3_3 && true && (lowVss 9 eh3_4 && true && true) && (lowVss 9 eh8_3 && true && (lowVss 9 (eh8_4 ++ [[AV.int IntKind.i64 (Nd.kind n6), AV.int IntKind.i64 (IntKind.wrap IntKind.i64 (Nd.pl n6 + b7)), AV.str (Nd.text n6), AV.sl 3 (List.map encA (List.map (Att.moved b7) (Nd.attrs n6))) none, AV.sl 5 (encNs (moveds (Nd.kids n6) b7)) none]]) && true && true) && true))) (ToEnd cfg 20 (bodyOf Try.f20) (RetIs Try.prog Try.f20 v) [Fm.code [0, 1, 0, 1, 1, 1], Fm.block 2, Fm.code [1, 1, 1, 1]] XT.normal [(1, true, AV.int IntKind.i64 i1), (2, true, AV.ptr 0 0), (4, true, AV.ptr 3 0), (5, true, AV.ptr 8 0), (8, true, AV.int IntKind.i64 (IntKind.wrap IntKind.i64 (i8 + 1)))] [Blk.mem 25 [AV.int IntKind.i64 xk, AV.int IntKind.i64 xp, AV.str xt, AV.sl 3 xa none, AV.sl 5 xs none], Blk.grow g1 3 41, Blk.grow g2 5 25, Blk.mem 25 [AV.int IntKind.i64 ih3_0, AV.int IntKind.i64 ih3_1, AV.str sh3_2, AV.sl 3 eh3_3 (some 1), AV.sl 5 eh3_4 (some 2)], Blk.grow g4 3 41, Blk.grow (List.length eh8_4 + 1) 5 25, Blk.grow g6 3 41, Blk.grow g7 5 25, Blk.mem 25 [AV.int IntKind.i64 xk, AV.int IntKind.i64 ih8_1, AV.str xt, AV.sl 3 eh8_3 (some 4), AV.sl 5 (eh8_4 ++ [[AV.int IntKind.i64 (Nd.kind n6), AV.int IntKind.i64 (IntKind.wrap IntKind.i64 (Nd.pl n6 + b7)), AV.str (Nd.text n6), AV.sl 3 (List.map encA (List.map (Att.moved b7) (Nd.attrs n6))) none, AV.sl 5 (encNs (moveds (Nd.kids n6) b7)) none]]) (some 5)]])))) (AV.agg [AV.int IntKind.i64 xk, AV.int IntKind.i64 ih8_1, AV.str xt, AV.sl 3 (stripss 0 [Blk.mem 25 [AV.int IntKind.i64 xk, AV.int IntKind.i64 xp, AV.str xt, AV.sl 3 xa none, AV.sl 5 xs none], Blk.grow g1 3 41, Blk.grow g2 5 25, Blk.mem 25 [AV.int IntKind.i64 xk, AV.int IntKind.i64 ih8_1, AV.str xt, AV.sl 3 eh8_3 (some 4), AV.sl 5 eh8_4 (some 5)], Blk.grow g4 3 41, Blk.grow g5 5 25, Blk.grow g6 3 41, Blk.grow g7 5 25, Blk.mem 25 [AV.int IntKind.i64 xk, AV.int IntKind.i64 ih8_1, AV.str xt, AV.sl 3 eh8_3 (some 4), AV.sl 5 eh8_4 (some 5)]] eh8_3) none, AV.sl 5 (stripss 0 [Blk.mem 25 [AV.int IntKind.i64 xk, AV.int IntKind.i64 xp, AV.str xt, AV.sl 3 xa none, AV.sl 5 xs none], Blk.grow g1 3 41, Blk.grow g2 5 25, Blk.mem 25 [AV.int IntKind.i64 xk, AV.int IntKind.i64 ih8_1, AV.str xt, AV.sl 3 eh8_3 (some 4), AV.sl 5 eh8_4 (some 5)], Blk.grow g4 3 41, Blk.grow g5 5 25, Blk.grow g6 3 41, Blk.grow g7 5 25, Blk.mem 25 [AV.int IntKind.i64 xk, AV.int IntKind.i64 ih8_1, AV.str xt, AV.sl 3 eh8_3 (some 4), AV.sl 5 eh8_4 (some 5)]] eh8_4) none] = v)) := by kernel_rfl
  exact ends_round hT 100000 (by kernel_rfl) (e.mpr H)

theorem t15 {v : AV} {k : Int} {e : List (List AV)} (hT : TabOk cfg (ctab [])) (H :
    AV.agg [AV.int IntKind.i64 k, AV.int IntKind.i64 0, AV.str [], AV.sl 3 [] none, AV.sl 5 (stripss 0 [Blk.grow 0 3 41, Blk.grow 0 5 25, Blk.mem 25 [AV.int IntKind.i64 k, AV.int IntKind.i64 0, AV.str [], AV.sl 3 [] (some 3), AV.sl 5 e none], Blk.grow 0 3 41, Blk.grow 0 5 25] e) none] = v) :
    ToEnd cfg 15 (bodyOf Try.f15) (RetIs Try.prog Try.f15 v) ([.code []]) .normal ([(0, true, .int .i64 k), (1, true, .sl 5 e none)]) ([]) := by
  have e : unr cfg 15 (bodyOf Try.f15) (ctab []) ⟨[], []⟩ (RetIs Try.prog Try.f15 v) 100000 ([.code []]) .normal ([(0, true, .int .i64 k), (1, true, .sl 5 e none)]) ([]) =
    (AV.agg [AV.int IntKind.i64 k, AV.int IntKind.i64 0, AV.str [], AV.sl 3 [] none, AV.sl 5 (stripss 0 [Blk.grow 0 3 41, Blk.grow 0 5 25, Blk.mem 25 [AV.int IntKind.i64 k, AV.int IntKind.i64 0, AV.str [], AV.sl 3 [] (some 3), AV.sl 5 e none], Blk.grow 0 3 41, Blk.grow 0 5 25] e) none] = v) := by kernel_rfl
  exact unr_ok hT 100000 _ _ _ _ (e.mpr H)

end Go.Proofs.Ytpfbpidlglelgaa
end

section
namespace Go.Proofs.Ytpfbpidlglelgaa
open Go.Ai Go
set_option linter.unusedSimpArgs false
set_option linter.unusedVariables false
set_option maxRecDepth 100000

theorem pf20 : pureFn cfg 20 Try.f20 := ⟨by kernel_rfl, by kernel_rfl, by kernel_rfl, by kernel_rfl, by kernel_rfl, by kernel_rfl⟩
theorem moveds_map (b : Int) : ∀ l : List Nd, moveds l b = l.map fun n => n.moved b
  | [] => rfl
  | n :: r => by rw [moveds, moveds_map b r]; rfl
theorem encN_moved (n : Nd) (b : Int) : encN (n.moved b) = [.int .i64 n.kind, .int .i64 (IntKind.wrap .i64 (n.pl + b)), .str n.text, .sl 3 ((n.attrs.map (Att.moved b)).map encA) none, .sl 5 (encNs (moveds n.kids b)) none] := by
  obtain ⟨k, p, t, al, ks⟩ := n
  rw [Nd.moved, encN]; rfl
theorem snocA (pre : List Att) (x : Att) (b : Int) : ((pre.map (Att.moved b)).map encA) ++ [[AV.str x.name, AV.str x.value, AV.int .i64 (IntKind.wrap .i64 (x.pl + b))]] = ((pre ++ [x]).map (Att.moved b)).map encA := by
  simp [Att.moved, encA]
theorem snocN (pre : List Nd) (x : Nd) (b : Int) : encNs (moveds pre b) ++ [[.int .i64 x.kind, .int .i64 (IntKind.wrap .i64 (x.pl + b)), .str x.text, .sl 3 ((x.attrs.map (Att.moved b)).map encA) none, .sl 5 (encNs (moveds x.kids b)) none]] = encNs (moveds (pre ++ [x]) b) := by
  rw [← encN_moved]
  simp [encNs_map, moveds_map]
theorem lenA (pre : List Att) (b : Int) : ((pre.map (Att.moved b)).map encA).length = pre.length := by simp
theorem lenM (pre : List Nd) (b : Int) : (encNs (moveds pre b)).length = pre.length := by rw [len27, moveds_map]; simp

theorem loop20c {N : Nat} (hT : TabOk cfg (ctab [(20, movedC N)])) (k p p' b : Int) (t : List UInt8) (al bl : List Att) (v : AV) : ∀ (r pre : List Nd), (pre ++ r).length ≤ tlim → tfits r → sizes r < N → v = .agg [.int .i64 k, .int .i64 p', .str t, .sl 3 (bl.map encA) none, .sl 5 (encNs (moveds (pre ++ r) b)) none] →
    ToEnd cfg 20 (bodyOf Try.f20) (RetIs Try.prog Try.f20 v) [.code [0, 1, 0, 1, 1, 1], .block 2, .code [1, 1, 1, 1]] .normal
      [(1, true, .int .i64 b), (2, true, .ptr 0 0), (4, true, .ptr 3 0), (5, true, .ptr 8 0), (8, true, .int .i64 (pre.length : Nat))]
      [.mem 25 [.int .i64 k, .int .i64 p, .str t, .sl 3 (al.map encA) none, .sl 5 (encNs (pre ++ r)) none], .grow 0 3 41, .grow 0 5 25, .mem 25 [.int .i64 0, .int .i64 0, .str [], .sl 3 [] (some 1), .sl 5 [] (some 2)], .grow bl.length 3 41, .grow pre.length 5 25, .grow 0 3 41, .grow 0 5 25, .mem 25 [.int .i64 k, .int .i64 p', .str t, .sl 3 (bl.map encA) (some 4), .sl 5 (encNs (moveds pre b)) (some 5)]] := by
  intro r
  induction r with
  | nil =>
    intro pre hl hf hs hv
    refine t20c hT (ifP_intro (fun hc => ?_) fun _ => ?_)
    · simp [len27] at hc
    · rw [hv, stripAs, stripNs, List.append_nil]
  | cons x r ih =>
    intro pre hl hf hs hv
    obtain ⟨hf1, hf2⟩ := hf
    have hl' := hl
    simp only [List.length_append, List.length_cons] at hl'
    unfold tlim at hl'
    have hlen : pre.length < lim := by unfold lim; omega
    have hz : sizes (x :: r) = x.size + sizes r := rfl
    have hin : inR (pre.length : Int) (encNs (pre ++ x :: r)).length = true := inR_of (by omega) (by rw [len27]; simp; omega)
    refine t20c hT (ifP_intro (fun _ => ?_) fun hc => ?_)
    · refine gAnd_intro (by rw [hin]; rfl) ⟨x.kind, x.pl, x.text, x.attrs.map encA, encNs x.kids, (getE_encNs _ _ _).trans (encN_eq x), x, b, by omega, hf1, by rw [stripAs, stripNs, ← encN_eq], ?_⟩
      rw [snocN, lenM]
      refine gAnd_intro ?_ (gAnd_intro ?_ ?_)
      · simp only [tagOk, List.getElem?_cons_succ, List.getElem?_cons_zero, Nat.beq_refl, Bool.and_true, Bool.true_and, decide_eq_true_eq]
        omega
      · rw [low_encAs, low_encAs, low_encNs, low_encNs]; rfl
      · rw [wrap_succ hlen]
        have := ih (pre ++ [x]) (by simpa using hl) hf2 (by omega) (by rw [hv]; simp)
        simpa using this
    · simp [len27] at hc; omega

theorem loop20b {N : Nat} (hT : TabOk cfg (ctab [(20, movedC N)])) (k p p' b : Int) (t : List UInt8) (ks : List Nd) (v : AV) (hk : ks.length ≤ tlim) (hkf : tfits ks) (hks : sizes ks < N) : ∀ (r pre : List Att), (pre ++ r).length ≤ tlim → v = .agg [.int .i64 k, .int .i64 p', .str t, .sl 3 (((pre ++ r).map (Att.moved b)).map encA) none, .sl 5 (encNs (moveds ks b)) none] →
    ToEnd cfg 20 (bodyOf Try.f20) (RetIs Try.prog Try.f20 v) [.code [0, 1, 0, 1, 1], .block 0, .code [1, 1, 1]] .normal
      [(1, true, .int .i64 b), (2, true, .ptr 0 0), (4, true, .ptr 3 0), (5, true, .ptr 8 0), (6, true, .int .i64 (pre.length : Nat))]
      [.mem 25 [.int .i64 k, .int .i64 p, .str t, .sl 3 ((pre ++ r).map encA) none, .sl 5 (encNs ks) none], .grow 0 3 41, .grow 0 5 25, .mem 25 [.int .i64 0, .int .i64 0, .str [], .sl 3 [] (some 1), .sl 5 [] (some 2)], .grow pre.length 3 41, .grow 0 5 25, .grow 0 3 41, .grow 0 5 25, .mem 25 [.int .i64 k, .int .i64 p', .str t, .sl 3 ((pre.map (Att.moved b)).map encA) (some 4), .sl 5 [] (some 5)]] := by
  intro r
  induction r with
  | nil =>
    intro pre hl hv
    refine t20b hT (ifP_intro (fun hc => ?_) fun _ => ?_)
    · simp at hc
    · have := loop20c hT k p p' b t (pre ++ []) (pre.map (Att.moved b)) v ks [] hk hkf hks (by rw [hv]; simp)
      simpa [moveds, encNs] using this
  | cons x r ih =>
    intro pre hl hv
    have hl' := hl
    simp only [List.length_append, List.length_cons] at hl'
    unfold tlim at hl'
    have hlen : pre.length < lim := by unfold lim; omega
    have hin : inR (pre.length : Int) ((pre ++ x :: r).map encA).length = true := inR_of (by omega) (by simp; omega)
    refine t20b hT (ifP_intro (fun _ => ?_) fun hc => ?_)
    · refine gAnd_intro (by rw [hin]; rfl) ⟨x.name, x.value, x.pl, getE_pre _ _ _ _, ?_⟩
      rw [snocA, lenA]
      refine gAnd_intro ?_ (gAnd_intro ?_ ?_)
      · simp only [tagOk, List.getElem?_cons_succ, List.getElem?_cons_zero, Nat.beq_refl, Bool.and_true, Bool.true_and, decide_eq_true_eq]
        omega
      · rw [low_encAs, low_encAs, low_encNs]; rfl
      · rw [wrap_succ hlen]
        have := ih (pre ++ [x]) (by simpa using hl) (by rw [hv]; simp)
        simpa using this
    · simp at hc; omega
theorem c20 : ∀ N, COk cfg 20 (movedC N)
  | 0 => by
    refine cok_pure pf20 fun vs h K ht => ?_
    obtain ⟨n, b, hs, _⟩ := ht
    omega
  | N + 1 => by
    refine cok_pure pf20 fun vs h K ht => ?_
    obtain ⟨n, b, hs, hf, rfl, hk⟩ := ht
    refine ⟨_, hk, ?_⟩
    have hsz := n.size_eq
    rw [tfit_eq] at hf
    rw [encN_eq]
    have hT := ctab_ok (ctab_cons (c20 N) ctab_nil)
    refine t20a hT ?_
    have := loop20b hT n.kind n.pl (IntKind.wrap .i64 (n.pl + b)) b n.text n.kids _ hf.2.2.2.1 hf.2.2.2.2 (by omega) n.attrs [] (by simpa using hf.2.1) rfl
    simpa using this
end Go.Proofs.Ytpfbpidlglelgaa
end
