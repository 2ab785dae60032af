/-
  Which trees are pages, in plain terms; contracts of the functions that look. No statement about the program is made here.
  Runs of the functions of trees, printed by a home tool; each is the kernel's word.
  Which trees are pages: the small functions keep to their contracts.
  Runs of the functions of trees, printed by a home tool; each is the kernel's word.
  Which trees are pages: texts of nodes.
-/
import Derived.Test.YtpfbpidlglelgaaJTa
import Derived.Test.YtpfbpidlglelgaaCfg
section
namespace Go.Ai
open Go.RowKit
set_option linter.unusedVariables false

/-- Where a thing stands first in a list; -1: nowhere. -/
def ixOf {α : Type} (p : α → Bool) : List α → Int → Int
  | [], _ => -1
  | a :: r, i => bif p a then i else ixOf p r (i + 1)
theorem ixOf_ge {α : Type} (p : α → Bool) : ∀ (l : List α) (i : Int), 0 ≤ i → decide (0 ≤ ixOf p l i) = l.any p
  | [], i, _ => rfl
  | a :: r, i, hi => by
    rw [ixOf, List.any_cons]
    cases p a with
    | true => simp [hi]
    | false => simpa using ixOf_ge p r (i + 1) (by omega)
def encI (l : List Int) : List (List AV) := l.map fun x => [.int .i64 x]
def encT (l : List (List UInt8)) : List (List AV) := l.map fun x => [.str x]
/-- How long a text may be here. -/
def tlim : Nat := 100000
def containsC : Con := fun vs h K => ∃ s x : List UInt8, s.length ≤ tlim ∧ vs = [.str s, .str x] ∧ K (.bool (contB s x)) h
def ixIC : Con := fun vs h K => ∃ (l : List Int) (k : Int), l.length ≤ lim ∧ vs = [.sl 1 (encI l) none, .int .i64 k] ∧ K (.int .i64 (ixOf (fun x => k == x) l 0)) h
def hasIC : Con := fun vs h K => ∃ (l : List Int) (k : Int), l.length ≤ lim ∧ vs = [.sl 1 (encI l) none, .int .i64 k] ∧ K (.bool (l.any fun x => k == x)) h
def ixSC : Con := fun vs h K => ∃ (l : List (List UInt8)) (k : List UInt8), l.length ≤ lim ∧ vs = [.sl 1 (encT l) none, .str k] ∧ K (.int .i64 (ixOf (fun x => k == x) l 0)) h
def hasSC : Con := fun vs h K => ∃ (l : List (List UInt8)) (k : List UInt8), l.length ≤ lim ∧ vs = [.sl 1 (encT l) none, .str k] ∧ K (.bool (l.any fun x => k == x)) h
def kindsL : List Int := [2, 3, 4, 5, 6, 7, 10, 13, 14]
def contentB (k : Int) : Bool := kindsL.any fun x => k == x
def contentC : Con := fun vs h K => ∃ k : Int, vs = [.int .i64 k] ∧ K (.bool (contentB k)) h
def leafB (k : Int) : Bool := decide (2 ≤ k) && decide (k ≤ 6)
def leafC : Con := fun vs h K => ∃ k : Int, vs = [.int .i64 k] ∧ K (.bool (leafB k)) h
def fitB (p k i n : Int) : Bool :=
  bif p == 7 then (k == (if i = 0 then 8 else 9)) && decide (i < 2)
  else bif p == 10 then (k == 11) || (k == 12 && decide (0 < i) && i == n - 1)
  else contentB k
def fitC : Con := fun vs h K => ∃ p k i n : Int, 0 ≤ i ∧ i < n ∧ n ≤ lim ∧ vs = [.int .i64 p, .int .i64 k, .int .i64 i, .int .i64 n] ∧ K (.bool (fitB p k i n)) h
def esi1 : List UInt8 := [60, 101, 115, 105, 58]
def esi2 : List UInt8 := [60, 47, 101, 115, 105, 58]
def esi3 : List UInt8 := [60, 33, 45, 45, 101, 115, 105]
def blanksL : List (List UInt8) := [[32], [9], [10], [13]]
def taggedB (s : List UInt8) : Bool := contB s esi1 || contB s esi2 || blanksL.any fun b => contB s (esi3 ++ b)
def taggedC : Con := fun vs h K => ∃ s : List UInt8, s.length ≤ tlim ∧ vs = [.str s] ∧ K (.bool (taggedB s)) h
def fullC : Con := fun vs h K => ∃ s : List UInt8, vs = [.str s] ∧ K (.bool (!(s == []))) h
def anyC : Con := fun vs h K => ∃ s : List UInt8, vs = [.str s] ∧ K (.bool true) h
/-- A page's text stands in a block of its own. -/
def txtBlk (s : List UInt8) : Blk := .mem 9 [.str s]
def tag1C : Con := fun vs h K => ∃ s b : List UInt8, s.length ≤ tlim ∧ b.length ≤ 10 ∧ h = [.mem 9 [.str s], .grow 4 1 9] ∧ vs = [.str b, .ptr 0 0] ∧ K (.bool (contB s (esi3 ++ b))) [.mem 9 [.str s], .grow 4 1 9]
def tagHp (s : List UInt8) : Hp := [.mem 9 [.str s], .grow 4 1 9]
def blanksV : AV := .sl 1 [[.str [32]], [.str [9]], [.str [10]], [.str [13]]] (some 1)
def tagIxC : Con := fun vs h K => ∃ s : List UInt8, s.length ≤ tlim ∧ h = [.mem 9 [.str s], .grow 4 1 9] ∧ vs = [.sl 1 [[.str [32]], [.str [9]], [.str [10]], [.str [13]]] (some 1), .fn (.func 47) [] [.ptr 0 0]] ∧ K (.int .i64 (ixOf (fun b => contB s (esi3 ++ b)) blanksL 0)) [.mem 9 [.str s], .grow 4 1 9]
def tagAnyC : Con := fun vs h K => ∃ s : List UInt8, s.length ≤ tlim ∧ h = [.mem 9 [.str s], .grow 4 1 9] ∧ vs = [.sl 1 [[.str [32]], [.str [9]], [.str [10]], [.str [13]]] (some 1), .fn (.func 47) [] [.ptr 0 0]] ∧ K (.bool (blanksL.any fun b => contB s (esi3 ++ b))) [.mem 9 [.str s], .grow 4 1 9]
def inl1 : List UInt8 := [60, 47, 101, 115, 105, 58, 105, 110, 108, 105, 110, 101]
def rem1 : List UInt8 := [60, 47, 101, 115, 105, 58, 114, 101, 109, 111, 118, 101]
def textB (k : Int) (t : List UInt8) (hid : Bool) : Bool :=
  bif k == 2 then !(t == []) && !taggedB t && !(hid && contB t [45, 45, 62])
  else bif k == 4 then !contB t inl1
  else bif k == 5 then !contB t rem1 && !contB t esi1
  else t == []
def textC : Con := fun vs h K => ∃ (n : Nd) (hid : Bool), n.text.length ≤ tlim ∧ vs = [.agg (encN n), .bool hid] ∧ K (.bool (textB n.kind n.text hid)) h
/-! Attributes and their rules. -/
inductive May where
  | full
  | one (l : List (List UInt8))
  | any
structure Rul where
  name : List UInt8
  must : Bool
  may : May
def May.ok : May → List UInt8 → Bool
  | .full, v => !(v == [])
  | .one l, v => l.any fun x => v == x
  | .any, _ => true
def May.enc : May → AV
  | .full => .fn (.func 39) [] []
  | .one l => .fn (.func 40) [.sl 1 (encT l) none] []
  | .any => .fn (.func 41) [] []
def encR (r : Rul) : List AV := [.str r.name, .bool r.must, r.may.enc]
def quoB (v : List UInt8) : Bool := contB v [34] && contB v [39]
/-- How many attributes a rule speaks of; none: one of them may not be. -/
def cntR (r : Rul) : List Att → Int → Option Int
  | [], n => some n
  | a :: t, n => bif a.name == r.name then (bif r.may.ok a.value && !quoB a.value then cntR r t (n + 1) else none) else cntR r t n
def keepR : List Rul → List Att → Int → Bool
  | [], al, f => f == (al.length : Nat)
  | r :: t, al, f => match cntR r al 0 with
    | none => false
    | some n => bif decide (1 < n) then false else bif n == 0 && r.must then false else keepR t al (f + n)
def resR (m : Bool) (t : List Rul) (al : List Att) (f : Int) : Option Int → Bool
  | none => false
  | some n => bif decide (1 < n) then false else bif n == 0 && m then false else keepR t al (f + n)
theorem keepR_cons (r : Rul) (t : List Rul) (al : List Att) (f : Int) : keepR (r :: t) al f = resR r.must t al f (cntR r al 0) := by
  rw [keepR, resR.eq_def]
def rul3_0 : Rul := ⟨[115, 114, 99], true, .full⟩
def rul3_1 : Rul := ⟨[97, 108, 116], false, .full⟩
def rul3_2 : Rul := ⟨[111, 110, 101, 114, 114, 111, 114], false, .one [[99, 111, 110, 116, 105, 110, 117, 101]]⟩
def rul4_0 : Rul := ⟨[110, 97, 109, 101], true, .full⟩
def rul4_1 : Rul := ⟨[102, 101, 116, 99, 104, 97, 98, 108, 101], false, .one [[121, 101, 115], [110, 111]]⟩
def rul6_0 : Rul := ⟨[116, 101, 120, 116], true, .any⟩
def rul11_0 : Rul := ⟨[116, 101, 115, 116], true, .full⟩
def rulesL (k : Int) : List Rul :=
  bif k == 3 then [rul3_0, rul3_1, rul3_2] else bif k == 4 then [rul4_0, rul4_1] else bif k == 6 then [rul6_0] else bif k == 11 then [rul11_0] else []
def rulesC : Con := fun vs h K => ∃ k : Int, vs = [.int .i64 k] ∧ K (.sl 3 ((rulesL k).map encR) none) h
def keepC : Con := fun vs h K => ∃ (k : Int) (al : List Att), al.length ≤ tlim ∧ (∀ a ∈ al, a.value.length ≤ tlim) ∧ vs = [.agg [.sl 3 (al.map encA) none], .sl 3 ((rulesL k).map encR) none] ∧ K (.bool (keepR (rulesL k) al 0)) h
end Go.Ai
end

section
namespace Go.Proofs.Ytpfbpidlglelgaa
open Go.Ai Go
set_option maxRecDepth 100000
set_option linter.unusedVariables false
theorem t36 {v : AV} {k : Int} (hT : TabOk cfg (ctab [])) (H :
    ifP (decide (k ≥ 2)) (AV.bool (decide (k ≤ 6)) = v) (AV.bool false = v)) :
    ToEnd cfg 36 (bodyOf Try.f36) (RetIs Try.prog Try.f36 v) ([.code []]) .normal ([(0, true, .int .i64 k)]) ([]) := by
  have e : unr cfg 36 (bodyOf Try.f36) (ctab []) ⟨[], []⟩ (RetIs Try.prog Try.f36 v) 100000 ([.code []]) .normal ([(0, true, .int .i64 k)]) ([]) =
    (ifP (decide (k ≥ 2)) (AV.bool (decide (k ≤ 6)) = v) (AV.bool false = v)) := by kernel_rfl
  exact unr_ok hT 100000 _ _ _ _ (e.mpr H)

theorem t52a {v : AV} {e : List (List AV)} {k : Int} (hT : TabOk cfg (ctab [])) (H :
    ToEnd cfg 52 (bodyOf Try.f52) (RetIs Try.prog Try.f52 v) [Fm.code [0, 1, 0, 1], Fm.block 0, Fm.code [1, 1]] XT.normal [(0, true, AV.sl 1 e none), (1, true, AV.int IntKind.i64 k), (7, true, AV.int IntKind.i64 (↑(List.length e) : Int)), (8, true, AV.int IntKind.i64 0)] []) :
    ToEnd cfg 52 (bodyOf Try.f52) (RetIs Try.prog Try.f52 v) ([.code []]) .normal ([(0, true, .sl 1 e none), (1, true, .int .i64 k)]) ([]) := by
  have e : unr cfg 52 (bodyOf Try.f52) (ctab []) ⟨[[0, 1, 0, 1]], [([0, 1, 0, 0, 1, 1, 0, 0, 1, 0, 1], 3, [.int .i64])]⟩ (RetIs Try.prog Try.f52 v) 100000 ([.code []]) .normal ([(0, true, .sl 1 e none), (1, true, .int .i64 k)]) ([]) =
    (ToEnd cfg 52 (bodyOf Try.f52) (RetIs Try.prog Try.f52 v) [Fm.code [0, 1, 0, 1], Fm.block 0, Fm.code [1, 1]] XT.normal [(0, true, AV.sl 1 e none), (1, true, AV.int IntKind.i64 k), (7, true, AV.int IntKind.i64 (↑(List.length e) : Int)), (8, true, AV.int IntKind.i64 0)] []) := by kernel_rfl
  exact unr_ok hT 100000 _ _ _ _ (e.mpr H)

theorem t52b {v : AV} {e : List (List AV)}  {i1 : Int} {i7 : Int} {i8 : Int} (hT : TabOk cfg (ctab [])) (H :
    ifP (decide (i8 < i7)) (gAnd (inR i8 (List.length e) && true && true) (∃ (z1 : Int), getE e i8 = [AV.int IntKind.i64 z1] ∧ ifP (i1 == z1) (AV.int IntKind.i64 i8 = v) (gAnd (lowVss 0 e && true && true && true) (ToEnd cfg 52 (bodyOf Try.f52) (RetIs Try.prog Try.f52 v) [Fm.code [0, 1, 0, 1], Fm.block 0, Fm.code [1, 1]] XT.normal [(0, true, AV.sl 1 e none), (1, true, AV.int IntKind.i64 i1), (7, true, AV.int IntKind.i64 i7), (8, true, AV.int IntKind.i64 (IntKind.wrap IntKind.i64 (i8 + 1)))] [])))) (AV.int IntKind.i64 (-1) = v)) :
    ToEnd cfg 52 (bodyOf Try.f52) (RetIs Try.prog Try.f52 v) ([.code [0, 1, 0, 1], Fm.block 0, Fm.code [1, 1]]) .normal ([(0, true, AV.sl 1 e none), (1, true, AV.int IntKind.i64 i1), (7, true, AV.int IntKind.i64 i7), (8, true, AV.int IntKind.i64 i8)]) ([]) := by
  have e : unr cfg 52 (bodyOf Try.f52) (ctab []) ⟨[[0, 1, 0, 1]], [([0, 1, 0, 0, 1, 1, 0, 0, 1, 0, 1], 3, [.int .i64])]⟩ (RetIs Try.prog Try.f52 v) 100000 ([.code [0, 0, 1, 0, 1], .loop [0, 1, 0, 1] 0, Fm.block 0, Fm.code [1, 1]]) .normal ([(0, true, AV.sl 1 e none), (1, true, AV.int IntKind.i64 i1), (7, true, AV.int IntKind.i64 i7), (8, true, AV.int IntKind.i64 i8)]) ([]) =
    (ifP (decide (i8 < i7)) (gAnd (inR i8 (List.length e) && true && true) (∃ (z1 : Int), getE e i8 = [AV.int IntKind.i64 z1] ∧ ifP (i1 == z1) (AV.int IntKind.i64 i8 = v) (gAnd (lowVss 0 e && true && true && true) (ToEnd cfg 52 (bodyOf Try.f52) (RetIs Try.prog Try.f52 v) [Fm.code [0, 1, 0, 1], Fm.block 0, Fm.code [1, 1]] XT.normal [(0, true, AV.sl 1 e none), (1, true, AV.int IntKind.i64 i1), (7, true, AV.int IntKind.i64 i7), (8, true, AV.int IntKind.i64 (IntKind.wrap IntKind.i64 (i8 + 1)))] [])))) (AV.int IntKind.i64 (-1) = v)) := by kernel_rfl
  exact ends_round hT 100000 (by kernel_rfl) (e.mpr H)

theorem t48 {v : AV} {e : List (List AV)} {k : Int} (hT : TabOk cfg (ctab [(52, ixIC)])) (H :
    ∃ (l1 : List Int), ∃ (k2 : Int), List.length l1 ≤ 9223372036854775807 ∧ [AV.sl 1 (stripss 0 [] e) none, AV.int IntKind.i64 k] = [AV.sl 1 (encI l1) none, AV.int IntKind.i64 k2] ∧ AV.bool (decide (ixOf (fun (x : Int) ↦ k2 == x) l1 0 ≥ 0)) = v) :
    ToEnd cfg 48 (bodyOf Try.f48) (RetIs Try.prog Try.f48 v) ([.code []]) .normal ([(0, true, .sl 1 e none), (1, true, .int .i64 k)]) ([]) := by
  have e : unr cfg 48 (bodyOf Try.f48) (ctab [(52, ixIC)]) ⟨[], []⟩ (RetIs Try.prog Try.f48 v) 100000 ([.code []]) .normal ([(0, true, .sl 1 e none), (1, true, .int .i64 k)]) ([]) =
    (∃ (l1 : List Int), ∃ (k2 : Int), List.length l1 ≤ 9223372036854775807 ∧ [AV.sl 1 (stripss 0 [] e) none, AV.int IntKind.i64 k] = [AV.sl 1 (encI l1) none, AV.int IntKind.i64 k2] ∧ AV.bool (decide (ixOf (fun (x : Int) ↦ k2 == x) l1 0 ≥ 0)) = v) := by kernel_rfl
  exact unr_ok hT 100000 _ _ _ _ (e.mpr H)

theorem t43 {v : AV} {k : Int} (hT : TabOk cfg (ctab [(48, hasIC)])) (H :
    ∃ (l1 : List Int), ∃ (k2 : Int), List.length l1 ≤ 9223372036854775807 ∧ [AV.sl 1 [[AV.int IntKind.i64 2], [AV.int IntKind.i64 3], [AV.int IntKind.i64 4], [AV.int IntKind.i64 5], [AV.int IntKind.i64 6], [AV.int IntKind.i64 7], [AV.int IntKind.i64 10], [AV.int IntKind.i64 13], [AV.int IntKind.i64 14]] none, AV.int IntKind.i64 k] = [AV.sl 1 (encI l1) none, AV.int IntKind.i64 k2] ∧ AV.bool (List.any l1 fun (x : Int) ↦ k2 == x) = v) :
    ToEnd cfg 43 (bodyOf Try.f43) (RetIs Try.prog Try.f43 v) ([.code []]) .normal ([(0, true, .int .i64 k)]) ([]) := by
  have e : unr cfg 43 (bodyOf Try.f43) (ctab [(48, hasIC)]) ⟨[], []⟩ (RetIs Try.prog Try.f43 v) 100000 ([.code []]) .normal ([(0, true, .int .i64 k)]) ([]) =
    (∃ (l1 : List Int), ∃ (k2 : Int), List.length l1 ≤ 9223372036854775807 ∧ [AV.sl 1 [[AV.int IntKind.i64 2], [AV.int IntKind.i64 3], [AV.int IntKind.i64 4], [AV.int IntKind.i64 5], [AV.int IntKind.i64 6], [AV.int IntKind.i64 7], [AV.int IntKind.i64 10], [AV.int IntKind.i64 13], [AV.int IntKind.i64 14]] none, AV.int IntKind.i64 k] = [AV.sl 1 (encI l1) none, AV.int IntKind.i64 k2] ∧ AV.bool (List.any l1 fun (x : Int) ↦ k2 == x) = v) := by kernel_rfl
  exact unr_ok hT 100000 _ _ _ _ (e.mpr H)

theorem t50a {v : AV} {e : List (List AV)} {k : List UInt8} (hT : TabOk cfg (ctab [])) (H :
    ToEnd cfg 50 (bodyOf Try.f50) (RetIs Try.prog Try.f50 v) [Fm.code [0, 1, 0, 1], Fm.block 0, Fm.code [1, 1]] XT.normal [(0, true, AV.sl 1 e none), (1, true, AV.str k), (7, true, AV.int IntKind.i64 (↑(List.length e) : Int)), (8, true, AV.int IntKind.i64 0)] []) :
    ToEnd cfg 50 (bodyOf Try.f50) (RetIs Try.prog Try.f50 v) ([.code []]) .normal ([(0, true, .sl 1 e none), (1, true, .str k)]) ([]) := by
  have e : unr cfg 50 (bodyOf Try.f50) (ctab []) ⟨[[0, 1, 0, 1]], [([0, 1, 0, 0, 1, 1, 0, 0, 1, 0, 1], 3, [.str])]⟩ (RetIs Try.prog Try.f50 v) 100000 ([.code []]) .normal ([(0, true, .sl 1 e none), (1, true, .str k)]) ([]) =
    (ToEnd cfg 50 (bodyOf Try.f50) (RetIs Try.prog Try.f50 v) [Fm.code [0, 1, 0, 1], Fm.block 0, Fm.code [1, 1]] XT.normal [(0, true, AV.sl 1 e none), (1, true, AV.str k), (7, true, AV.int IntKind.i64 (↑(List.length e) : Int)), (8, true, AV.int IntKind.i64 0)] []) := by kernel_rfl
  exact unr_ok hT 100000 _ _ _ _ (e.mpr H)

theorem t50b {v : AV} {e : List (List AV)}  {s1 : List UInt8} {i7 : Int} {i8 : Int} (hT : TabOk cfg (ctab [])) (H :
    ifP (decide (i8 < i7)) (gAnd (inR i8 (List.length e) && true && true) (∃ (s1_1 : List UInt8), getE e i8 = [AV.str s1_1] ∧ ifP (s1 == s1_1) (AV.int IntKind.i64 i8 = v) (gAnd (lowVss 0 e && true && true && true) (ToEnd cfg 50 (bodyOf Try.f50) (RetIs Try.prog Try.f50 v) [Fm.code [0, 1, 0, 1], Fm.block 0, Fm.code [1, 1]] XT.normal [(0, true, AV.sl 1 e none), (1, true, AV.str s1), (7, true, AV.int IntKind.i64 i7), (8, true, AV.int IntKind.i64 (IntKind.wrap IntKind.i64 (i8 + 1)))] [])))) (AV.int IntKind.i64 (-1) = v)) :
    ToEnd cfg 50 (bodyOf Try.f50) (RetIs Try.prog Try.f50 v) ([.code [0, 1, 0, 1], Fm.block 0, Fm.code [1, 1]]) .normal ([(0, true, AV.sl 1 e none), (1, true, AV.str s1), (7, true, AV.int IntKind.i64 i7), (8, true, AV.int IntKind.i64 i8)]) ([]) := by
  have e : unr cfg 50 (bodyOf Try.f50) (ctab []) ⟨[[0, 1, 0, 1]], [([0, 1, 0, 0, 1, 1, 0, 0, 1, 0, 1], 3, [.str])]⟩ (RetIs Try.prog Try.f50 v) 100000 ([.code [0, 0, 1, 0, 1], .loop [0, 1, 0, 1] 0, Fm.block 0, Fm.code [1, 1]]) .normal ([(0, true, AV.sl 1 e none), (1, true, AV.str s1), (7, true, AV.int IntKind.i64 i7), (8, true, AV.int IntKind.i64 i8)]) ([]) =
    (ifP (decide (i8 < i7)) (gAnd (inR i8 (List.length e) && true && true) (∃ (s1_1 : List UInt8), getE e i8 = [AV.str s1_1] ∧ ifP (s1 == s1_1) (AV.int IntKind.i64 i8 = v) (gAnd (lowVss 0 e && true && true && true) (ToEnd cfg 50 (bodyOf Try.f50) (RetIs Try.prog Try.f50 v) [Fm.code [0, 1, 0, 1], Fm.block 0, Fm.code [1, 1]] XT.normal [(0, true, AV.sl 1 e none), (1, true, AV.str s1), (7, true, AV.int IntKind.i64 i7), (8, true, AV.int IntKind.i64 (IntKind.wrap IntKind.i64 (i8 + 1)))] [])))) (AV.int IntKind.i64 (-1) = v)) := by kernel_rfl
  exact ends_round hT 100000 (by kernel_rfl) (e.mpr H)

theorem t45 {v : AV} {e : List (List AV)} {k : List UInt8} (hT : TabOk cfg (ctab [(50, ixSC)])) (H :
    ∃ (l1 : List (List UInt8)), ∃ (k2 : List UInt8), List.length l1 ≤ 9223372036854775807 ∧ [AV.sl 1 (stripss 0 [] e) none, AV.str k] = [AV.sl 1 (encT l1) none, AV.str k2] ∧ AV.bool (decide (ixOf (fun (x : List UInt8) ↦ k2 == x) l1 0 ≥ 0)) = v) :
    ToEnd cfg 45 (bodyOf Try.f45) (RetIs Try.prog Try.f45 v) ([.code []]) .normal ([(0, true, .sl 1 e none), (1, true, .str k)]) ([]) := by
  have e : unr cfg 45 (bodyOf Try.f45) (ctab [(50, ixSC)]) ⟨[], []⟩ (RetIs Try.prog Try.f45 v) 100000 ([.code []]) .normal ([(0, true, .sl 1 e none), (1, true, .str k)]) ([]) =
    (∃ (l1 : List (List UInt8)), ∃ (k2 : List UInt8), List.length l1 ≤ 9223372036854775807 ∧ [AV.sl 1 (stripss 0 [] e) none, AV.str k] = [AV.sl 1 (encT l1) none, AV.str k2] ∧ AV.bool (decide (ixOf (fun (x : List UInt8) ↦ k2 == x) l1 0 ≥ 0)) = v) := by kernel_rfl
  exact unr_ok hT 100000 _ _ _ _ (e.mpr H)

theorem t40 {v : AV} {e : List (List AV)} {k : List UInt8} (hT : TabOk cfg (ctab [(45, hasSC)])) (H :
    ∃ (l1 : List (List UInt8)), ∃ (k2 : List UInt8), List.length l1 ≤ 9223372036854775807 ∧ [AV.sl 1 (stripss 0 [] e) none, AV.str k] = [AV.sl 1 (encT l1) none, AV.str k2] ∧ AV.bool (List.any l1 fun (x : List UInt8) ↦ k2 == x) = v) :
    ToEnd cfg 40 (bodyOf Try.f40) (RetIs Try.prog Try.f40 v) ([.code []]) .normal ([(0, true, .sl 1 e none), (1, true, .str k)]) ([]) := by
  have e : unr cfg 40 (bodyOf Try.f40) (ctab [(45, hasSC)]) ⟨[], []⟩ (RetIs Try.prog Try.f40 v) 100000 ([.code []]) .normal ([(0, true, .sl 1 e none), (1, true, .str k)]) ([]) =
    (∃ (l1 : List (List UInt8)), ∃ (k2 : List UInt8), List.length l1 ≤ 9223372036854775807 ∧ [AV.sl 1 (stripss 0 [] e) none, AV.str k] = [AV.sl 1 (encT l1) none, AV.str k2] ∧ AV.bool (List.any l1 fun (x : List UInt8) ↦ k2 == x) = v) := by kernel_rfl
  exact unr_ok hT 100000 _ _ _ _ (e.mpr H)

theorem t39 {v : AV} {k : List UInt8} (hT : TabOk cfg (ctab [])) (H :
    (AV.bool !k == []) = v) :
    ToEnd cfg 39 (bodyOf Try.f39) (RetIs Try.prog Try.f39 v) ([.code []]) .normal ([(0, true, .str k)]) ([]) := by
  have e : unr cfg 39 (bodyOf Try.f39) (ctab []) ⟨[], []⟩ (RetIs Try.prog Try.f39 v) 100000 ([.code []]) .normal ([(0, true, .str k)]) ([]) =
    ((AV.bool !k == []) = v) := by kernel_rfl
  exact unr_ok hT 100000 _ _ _ _ (e.mpr H)

theorem t41 {v : AV} {k : List UInt8} (hT : TabOk cfg (ctab [])) (H :
    AV.bool true = v) :
    ToEnd cfg 41 (bodyOf Try.f41) (RetIs Try.prog Try.f41 v) ([.code []]) .normal ([(0, true, .str k)]) ([]) := by
  have e : unr cfg 41 (bodyOf Try.f41) (ctab []) ⟨[], []⟩ (RetIs Try.prog Try.f41 v) 100000 ([.code []]) .normal ([(0, true, .str k)]) ([]) =
    (AV.bool true = v) := by kernel_rfl
  exact unr_ok hT 100000 _ _ _ _ (e.mpr H)

theorem t37 {v : AV} {p k i n : Int} (hT : TabOk cfg (ctab [(43, contentC)])) (H :
    ifP (p == 7) (gAnd (inR (min i 1) 2 && true && true) (∃ (z1 : Int), getE [[AV.int IntKind.i64 8], [AV.int IntKind.i64 9]] (min i 1) = [AV.int IntKind.i64 z1] ∧ ifP (k == z1) (AV.bool (decide (i < 2)) = v) (AV.bool false = v))) (ifP (p == 10) (ifP (k == 11) (AV.bool true = v) (ifP (k == 12) (ifP (decide (i > 0)) (AV.bool (i == IntKind.wrap IntKind.i64 (n - 1)) = v) (AV.bool false = v)) (AV.bool false = v))) (∃ (k2 : Int), [AV.int IntKind.i64 k] = [AV.int IntKind.i64 k2] ∧ AV.bool (contentB k2) = v))) :
    ToEnd cfg 37 (bodyOf Try.f37) (RetIs Try.prog Try.f37 v) ([.code []]) .normal ([(0, true, .int .i64 p), (1, true, .int .i64 k), (2, true, .int .i64 i), (3, true, .int .i64 n)]) ([]) := by
  have e : unr cfg 37 (bodyOf Try.f37) (ctab [(43, contentC)]) ⟨[], [([0, 0, 1, 0, 1, 0, 1], 4, [.int .i64])]⟩ (RetIs Try.prog Try.f37 v) 100000 ([.code []]) .normal ([(0, true, .int .i64 p), (1, true, .int .i64 k), (2, true, .int .i64 i), (3, true, .int .i64 n)]) ([]) =
    (ifP (p == 7) (gAnd (inR (min i 1) 2 && true && true) (∃ (z1 : Int), getE [[AV.int IntKind.i64 8], [AV.int IntKind.i64 9]] (min i 1) = [AV.int IntKind.i64 z1] ∧ ifP (k == z1) (AV.bool (decide (i < 2)) = v) (AV.bool false = v))) (ifP (p == 10) (ifP (k == 11) (AV.bool true = v) (ifP (k == 12) (ifP (decide (i > 0)) (AV.bool (i == IntKind.wrap IntKind.i64 (n - 1)) = v) (AV.bool false = v)) (AV.bool false = v))) (∃ (k2 : Int), [AV.int IntKind.i64 k] = [AV.int IntKind.i64 k2] ∧ AV.bool (contentB k2) = v))) := by kernel_rfl
  exact unr_ok hT 100000 _ _ _ _ (e.mpr H)

end Go.Proofs.Ytpfbpidlglelgaa
end

section
namespace Go.Proofs.Ytpfbpidlglelgaa
open Go.Ai Go
set_option linter.unusedSimpArgs false
set_option linter.unusedVariables false
set_option maxRecDepth 100000

theorem pf36 : pureFn cfg 36 Try.f36 := ⟨by kernel_rfl, by kernel_rfl, by kernel_rfl, by kernel_rfl, by kernel_rfl, by kernel_rfl⟩
theorem pf52 : pureFn cfg 52 Try.f52 := ⟨by kernel_rfl, by kernel_rfl, by kernel_rfl, by kernel_rfl, by kernel_rfl, by kernel_rfl⟩
theorem pf48 : pureFn cfg 48 Try.f48 := ⟨by kernel_rfl, by kernel_rfl, by kernel_rfl, by kernel_rfl, by kernel_rfl, by kernel_rfl⟩
theorem pf43 : pureFn cfg 43 Try.f43 := ⟨by kernel_rfl, by kernel_rfl, by kernel_rfl, by kernel_rfl, by kernel_rfl, by kernel_rfl⟩
theorem pf50 : pureFn cfg 50 Try.f50 := ⟨by kernel_rfl, by kernel_rfl, by kernel_rfl, by kernel_rfl, by kernel_rfl, by kernel_rfl⟩
theorem pf45 : pureFn cfg 45 Try.f45 := ⟨by kernel_rfl, by kernel_rfl, by kernel_rfl, by kernel_rfl, by kernel_rfl, by kernel_rfl⟩
theorem pf40 : pureFn cfg 40 Try.f40 := ⟨by kernel_rfl, by kernel_rfl, by kernel_rfl, by kernel_rfl, by kernel_rfl, by kernel_rfl⟩
theorem pf39 : pureFn cfg 39 Try.f39 := ⟨by kernel_rfl, by kernel_rfl, by kernel_rfl, by kernel_rfl, by kernel_rfl, by kernel_rfl⟩
theorem pf41 : pureFn cfg 41 Try.f41 := ⟨by kernel_rfl, by kernel_rfl, by kernel_rfl, by kernel_rfl, by kernel_rfl, by kernel_rfl⟩
theorem pf37 : pureFn cfg 37 Try.f37 := ⟨by kernel_rfl, by kernel_rfl, by kernel_rfl, by kernel_rfl, by kernel_rfl, by kernel_rfl⟩

theorem pure_encI (l : List Int) : pureV.pureVss (encI l) = true := by
  unfold encI
  induction l with
  | nil => rfl
  | cons a r ih => simp only [List.map_cons, pureV.pureVss, pureV.pureVs, pureV, ih, Bool.true_and]
theorem pure_encT (l : List (List UInt8)) : pureV.pureVss (encT l) = true := by
  unfold encT
  induction l with
  | nil => rfl
  | cons a r ih => simp only [List.map_cons, pureV.pureVss, pureV.pureVs, pureV, ih, Bool.true_and]
theorem stripIs (n : Nat) (h : Hp) (l : List Int) : stripss n h (encI l) = encI l := stripss_pure _ _ _ (pure_encI l)
theorem stripTs (n : Nat) (h : Hp) (l : List (List UInt8)) : stripss n h (encT l) = encT l := stripss_pure _ _ _ (pure_encT l)
theorem lowIs (n : Nat) (l : List Int) : lowVss n (encI l) = true := lowss_pure n _ (pure_encI l)
theorem lowTs (n : Nat) (l : List (List UInt8)) : lowVss n (encT l) = true := lowss_pure n _ (pure_encT l)

theorem c38 : COk cfg 38 containsC := by
  refine cok_prim (by kernel_rfl) (by kernel_rfl) (by kernel_rfl : cfg.prim 38 = some pContains) (by kernel_rfl) fun vs h K ht => ?_
  obtain ⟨s, x, hs, rfl, hk⟩ := ht
  refine ⟨.bool (contB s x), hk, ?_⟩
  have e : Nat.blt s.length 4294967281 = true := Nat.ble_eq_true_of_le (by unfold tlim at hs; omega)
  simp only [pContains, e]
theorem c36 : COk cfg 36 leafC := by
  refine cok_pure pf36 fun vs h K ht => ?_
  obtain ⟨k, rfl, hk⟩ := ht
  refine ⟨_, hk, t36 (ctab_ok ctab_nil) (ifP_intro (fun a => ?_) fun a => ?_)⟩
  · rw [decide_eq_true_eq] at a
    unfold leafB
    rw [decide_eq_true (p := 2 ≤ k) (by omega)]; rfl
  · rw [decide_eq_false_iff_not] at a
    unfold leafB
    rw [decide_eq_false (p := 2 ≤ k) (by omega)]; rfl
theorem c39 : COk cfg 39 fullC := by
  refine cok_pure pf39 fun vs h K ht => ?_
  obtain ⟨s, rfl, hk⟩ := ht
  exact ⟨_, hk, t39 (ctab_ok ctab_nil) rfl⟩
theorem c41 : COk cfg 41 anyC := by
  refine cok_pure pf41 fun vs h K ht => ?_
  obtain ⟨s, rfl, hk⟩ := ht
  exact ⟨_, hk, t41 (ctab_ok ctab_nil) rfl⟩

theorem loop52 (k v : Int) : ∀ (r pre : List Int), (pre ++ r).length ≤ lim → v = ixOf (fun x => k == x) r (pre.length : Nat) →
    ToEnd cfg 52 (bodyOf Try.f52) (RetIs Try.prog Try.f52 (.int .i64 v)) [.code [0, 1, 0, 1], .block 0, .code [1, 1]] .normal
      [(0, true, .sl 1 (encI (pre ++ r)) none), (1, true, .int .i64 k), (7, true, .int .i64 ((pre ++ r).length : Nat)), (8, true, .int .i64 pre.length)] [] := by
  intro r
  induction r with
  | nil =>
    intro pre hl hk
    refine t52b (ctab_ok ctab_nil) (ifP_intro (fun hc => ?_) fun _ => ?_)
    · simp at hc
    · rw [hk]; rfl
  | cons x r ih =>
    intro pre hl hk
    have hlen : pre.length < lim := by simp at hl; omega
    have hin : inR (pre.length : Int) (encI (pre ++ x :: r)).length = true := inR_of (by omega) (by unfold encI; simp; omega)
    refine t52b (ctab_ok ctab_nil) (ifP_intro (fun _ => ?_) fun hc => ?_)
    · refine gAnd_intro (by rw [hin]; rfl) ⟨x, getE_pre _ _ _ _, ifP_intro (fun hq => ?_) fun hq => ?_⟩
      · rw [hk, ixOf, hq]; rfl
      · refine gAnd_intro (by rw [lowIs]; rfl) ?_
        rw [wrap_succ hlen]
        have := ih (pre ++ [x]) (by simpa using hl) (by rw [hk, ixOf, hq]; simp)
        simpa using this
    · simp at hc; omega
theorem c52 : COk cfg 52 ixIC := by
  refine cok_pure pf52 fun vs h K ht => ?_
  obtain ⟨l, k, hl, rfl, hk⟩ := ht
  refine ⟨_, hk, t52a (ctab_ok ctab_nil) ?_⟩
  have := loop52 k _ l [] hl rfl
  have e : (encI l).length = l.length := by unfold encI; simp
  rw [e]
  exact this
theorem c48 : COk cfg 48 hasIC := by
  refine cok_pure pf48 fun vs h K ht => ?_
  obtain ⟨l, k, hl, rfl, hk⟩ := ht
  refine ⟨_, hk, t48 (ctab_ok (ctab_cons c52 ctab_nil)) ⟨l, k, hl, by rw [stripIs], ?_⟩⟩
  exact congrArg AV.bool (ixOf_ge _ l 0 (Int.le_refl _))
theorem c43 : COk cfg 43 contentC := by
  refine cok_pure pf43 fun vs h K ht => ?_
  obtain ⟨k, rfl, hk⟩ := ht
  exact ⟨_, hk, t43 (ctab_ok (ctab_cons c48 ctab_nil)) ⟨kindsL, k, by decide, rfl, rfl⟩⟩

theorem loop50 (k : List UInt8) (v : Int) : ∀ (r pre : List (List UInt8)), (pre ++ r).length ≤ lim → v = ixOf (fun x => k == x) r (pre.length : Nat) →
    ToEnd cfg 50 (bodyOf Try.f50) (RetIs Try.prog Try.f50 (.int .i64 v)) [.code [0, 1, 0, 1], .block 0, .code [1, 1]] .normal
      [(0, true, .sl 1 (encT (pre ++ r)) none), (1, true, .str k), (7, true, .int .i64 ((pre ++ r).length : Nat)), (8, true, .int .i64 pre.length)] [] := by
  intro r
  induction r with
  | nil =>
    intro pre hl hk
    refine t50b (ctab_ok ctab_nil) (ifP_intro (fun hc => ?_) fun _ => ?_)
    · simp at hc
    · rw [hk]; rfl
  | cons x r ih =>
    intro pre hl hk
    have hlen : pre.length < lim := by simp at hl; omega
    have hin : inR (pre.length : Int) (encT (pre ++ x :: r)).length = true := inR_of (by omega) (by unfold encT; simp; omega)
    refine t50b (ctab_ok ctab_nil) (ifP_intro (fun _ => ?_) fun hc => ?_)
    · refine gAnd_intro (by rw [hin]; rfl) ⟨x, getE_pre _ _ _ _, ifP_intro (fun hq => ?_) fun hq => ?_⟩
      · rw [hk, ixOf, hq]; rfl
      · refine gAnd_intro (by rw [lowTs]; rfl) ?_
        rw [wrap_succ hlen]
        have := ih (pre ++ [x]) (by simpa using hl) (by rw [hk, ixOf, hq]; simp)
        simpa using this
    · simp at hc; omega
theorem c50 : COk cfg 50 ixSC := by
  refine cok_pure pf50 fun vs h K ht => ?_
  obtain ⟨l, k, hl, rfl, hk⟩ := ht
  refine ⟨_, hk, t50a (ctab_ok ctab_nil) ?_⟩
  have := loop50 k _ l [] hl rfl
  have e : (encT l).length = l.length := by unfold encT; simp
  rw [e]
  exact this
theorem c45 : COk cfg 45 hasSC := by
  refine cok_pure pf45 fun vs h K ht => ?_
  obtain ⟨l, k, hl, rfl, hk⟩ := ht
  refine ⟨_, hk, t45 (ctab_ok (ctab_cons c50 ctab_nil)) ⟨l, k, hl, by rw [stripTs], ?_⟩⟩
  exact congrArg AV.bool (ixOf_ge _ l 0 (Int.le_refl _))
theorem c40 : COk cfg 40 hasSC := by
  refine cok_pure pf40 fun vs h K ht => ?_
  obtain ⟨l, k, hl, rfl, hk⟩ := ht
  exact ⟨_, hk, t40 (ctab_ok (ctab_cons c45 ctab_nil)) ⟨l, k, hl, by rw [stripTs], rfl⟩⟩
theorem c37 : COk cfg 37 fitC := by
  refine cok_pure pf37 fun vs h K ht => ?_
  obtain ⟨p, k, i, n, h0, h1, h2, rfl, hk⟩ := ht
  refine ⟨_, hk, t37 (ctab_ok (ctab_cons c43 ctab_nil)) (ifP_intro (fun a => ?_) fun a => ?_)⟩
  · unfold fitB
    rw [a, cond_true]
    refine gAnd_intro (by rw [inR_of (by omega) (by omega)]; rfl) ?_
    by_cases hi : i = 0
    · subst hi
      refine ⟨8, rfl, ifP_intro (fun b => ?_) fun b => ?_⟩
      · rw [if_pos rfl, b]; rfl
      · rw [if_pos rfl, b]; rfl
    · have e : min i 1 = 1 := by omega
      rw [e]
      refine ⟨9, rfl, ifP_intro (fun b => ?_) fun b => ?_⟩
      · rw [if_neg hi, b]; rfl
      · rw [if_neg hi, b]; rfl
  · unfold fitB
    rw [a, cond_false]
    refine ifP_intro (fun b => ?_) fun b => ?_
    · rw [b, cond_true]
      refine ifP_intro (fun c => by rw [c]; rfl) fun c => ?_
      rw [c]
      refine ifP_intro (fun d => ?_) fun d => by rw [d]; rfl
      rw [d]
      refine ifP_intro (fun e => ?_) fun e => ?_
      · rw [wrap_in (by omega) (by unfold lim at h2; omega), decide_eq_true (p := 0 < i) (by simpa using e)]; rfl
      · rw [decide_eq_false (p := 0 < i) (by simpa using e)]; rfl
    · rw [b, cond_false]
      exact ⟨k, rfl, rfl⟩
end Go.Proofs.Ytpfbpidlglelgaa
end

section
namespace Go.Proofs.Ytpfbpidlglelgaa
open Go.Ai Go
set_option maxRecDepth 100000
set_option linter.unusedVariables false
theorem t47 {K : AV → Hp → Prop} {s x : List UInt8} (hT : TabOk cfg (ctab [(38, containsC)])) (H :
    gAnd (decide (7 + List.length x ≤ 9223372036854775807)) (∃ (s1 : List UInt8), ∃ (x2 : List UInt8), List.length s1 ≤ 100000 ∧ [AV.str s, AV.str (60 :: 33 :: 45 :: 45 :: 101 :: 115 :: 105 :: List.append [] x)] = [AV.str s1, AV.str x2] ∧ K (AV.bool (contB s1 x2)) [Blk.mem 9 [AV.str s], Blk.grow 4 1 9])) :
    ToEnd cfg 47 (bodyOf Try.f47) (RetIn Try.prog Try.f47 2 K) ([.code []]) .normal ([(0, true, .str x), (1, true, .ptr 0 0)]) ([.mem 9 [.str s], .grow 4 1 9]) := by
  have e : unr cfg 47 (bodyOf Try.f47) (ctab [(38, containsC)]) ⟨[], []⟩ (RetIn Try.prog Try.f47 2 K) 100000 ([.code []]) .normal ([(0, true, .str x), (1, true, .ptr 0 0)]) ([.mem 9 [.str s], .grow 4 1 9]) =
    (gAnd (decide (7 + List.length x ≤ 9223372036854775807)) (∃ (s1 : List UInt8), ∃ (x2 : List UInt8), List.length s1 ≤ 100000 ∧ [AV.str s, AV.str (60 :: 33 :: 45 :: 45 :: 101 :: 115 :: 105 :: List.append [] x)] = [AV.str s1, AV.str x2] ∧ K (AV.bool (contB s1 x2)) [Blk.mem 9 [AV.str s], Blk.grow 4 1 9])) := by kernel_rfl
  exact unr_ok hT 100000 _ _ _ _ (e.mpr H)

theorem t51 {K : AV → Hp → Prop} {s : List UInt8} (hT : TabOk cfg (ctab [(47, tag1C)])) (H :
    ∃ (s1 : List UInt8), [AV.str [32]] = [AV.str s1] ∧ ∃ (s2 : List UInt8), ∃ (b3 : List UInt8), List.length s2 ≤ 100000 ∧ List.length b3 ≤ 10 ∧ [Blk.mem 9 [AV.str s], Blk.grow 4 1 9] = [Blk.mem 9 [AV.str s2], Blk.grow 4 1 9] ∧ [AV.str s1, AV.ptr 0 0] = [AV.str b3, AV.ptr 0 0] ∧ ifP (contB s2 ([60, 33, 45, 45, 101, 115, 105] ++ b3)) (K (AV.int IntKind.i64 0) [Blk.mem 9 [AV.str s2], Blk.grow 4 1 9]) (∃ (s4 : List UInt8), [AV.str [9]] = [AV.str s4] ∧ ∃ (s5 : List UInt8), ∃ (b6 : List UInt8), List.length s5 ≤ 100000 ∧ List.length b6 ≤ 10 ∧ [Blk.mem 9 [AV.str s2], Blk.grow 4 1 9] = [Blk.mem 9 [AV.str s5], Blk.grow 4 1 9] ∧ [AV.str s4, AV.ptr 0 0] = [AV.str b6, AV.ptr 0 0] ∧ ifP (contB s5 ([60, 33, 45, 45, 101, 115, 105] ++ b6)) (K (AV.int IntKind.i64 1) [Blk.mem 9 [AV.str s5], Blk.grow 4 1 9]) (∃ (s7 : List UInt8), [AV.str [10]] = [AV.str s7] ∧ ∃ (s8 : List UInt8), ∃ (b9 : List UInt8), List.length s8 ≤ 100000 ∧ List.length b9 ≤ 10 ∧ [Blk.mem 9 [AV.str s5], Blk.grow 4 1 9] = [Blk.mem 9 [AV.str s8], Blk.grow 4 1 9] ∧ [AV.str s7, AV.ptr 0 0] = [AV.str b9, AV.ptr 0 0] ∧ ifP (contB s8 ([60, 33, 45, 45, 101, 115, 105] ++ b9)) (K (AV.int IntKind.i64 2) [Blk.mem 9 [AV.str s8], Blk.grow 4 1 9]) (∃ (s10 : List UInt8), [AV.str [13]] = [AV.str s10] ∧ ∃ (s11 : List UInt8), ∃ (b12 : List UInt8), List.length s11 ≤ 100000 ∧ List.length b12 ≤ 10 ∧ [Blk.mem 9 [AV.str s8], Blk.grow 4 1 9] = [Blk.mem 9 [AV.str s11], Blk.grow 4 1 9] ∧ [AV.str s10, AV.ptr 0 0] = [AV.str b12, AV.ptr 0 0] ∧ ifP (contB s11 ([60, 33, 45, 45, 101, 115, 105] ++ b12)) (K (AV.int IntKind.i64 3) [Blk.mem 9 [AV.str s11], Blk.grow 4 1 9]) (K (AV.int IntKind.i64 (-1)) [Blk.mem 9 [AV.str s11], Blk.grow 4 1 9]))))) :
    ToEnd cfg 51 (bodyOf Try.f51) (RetIn Try.prog Try.f51 2 K) ([.code []]) .normal ([(0, true, .sl 1 [[.str [32]], [.str [9]], [.str [10]], [.str [13]]] (some 1)), (1, true, .fn (.func 47) [] [.ptr 0 0])]) ([.mem 9 [.str s], .grow 4 1 9]) := by
  have e : unr cfg 51 (bodyOf Try.f51) (ctab [(47, tag1C)]) ⟨[], [([0, 1, 0, 0, 1, 1, 0, 0, 1, 0, 1], 3, [.str])]⟩ (RetIn Try.prog Try.f51 2 K) 100000 ([.code []]) .normal ([(0, true, .sl 1 [[.str [32]], [.str [9]], [.str [10]], [.str [13]]] (some 1)), (1, true, .fn (.func 47) [] [.ptr 0 0])]) ([.mem 9 [.str s], .grow 4 1 9]) =
    (∃ (s1 : List UInt8), [AV.str [32]] = [AV.str s1] ∧ ∃ (s2 : List UInt8), ∃ (b3 : List UInt8), List.length s2 ≤ 100000 ∧ List.length b3 ≤ 10 ∧ [Blk.mem 9 [AV.str s], Blk.grow 4 1 9] = [Blk.mem 9 [AV.str s2], Blk.grow 4 1 9] ∧ [AV.str s1, AV.ptr 0 0] = [AV.str b3, AV.ptr 0 0] ∧ ifP (contB s2 ([60, 33, 45, 45, 101, 115, 105] ++ b3)) (K (AV.int IntKind.i64 0) [Blk.mem 9 [AV.str s2], Blk.grow 4 1 9]) (∃ (s4 : List UInt8), [AV.str [9]] = [AV.str s4] ∧ ∃ (s5 : List UInt8), ∃ (b6 : List UInt8), List.length s5 ≤ 100000 ∧ List.length b6 ≤ 10 ∧ [Blk.mem 9 [AV.str s2], Blk.grow 4 1 9] = [Blk.mem 9 [AV.str s5], Blk.grow 4 1 9] ∧ [AV.str s4, AV.ptr 0 0] = [AV.str b6, AV.ptr 0 0] ∧ ifP (contB s5 ([60, 33, 45, 45, 101, 115, 105] ++ b6)) (K (AV.int IntKind.i64 1) [Blk.mem 9 [AV.str s5], Blk.grow 4 1 9]) (∃ (s7 : List UInt8), [AV.str [10]] = [AV.str s7] ∧ ∃ (s8 : List UInt8), ∃ (b9 : List UInt8), List.length s8 ≤ 100000 ∧ List.length b9 ≤ 10 ∧ [Blk.mem 9 [AV.str s5], Blk.grow 4 1 9] = [Blk.mem 9 [AV.str s8], Blk.grow 4 1 9] ∧ [AV.str s7, AV.ptr 0 0] = [AV.str b9, AV.ptr 0 0] ∧ ifP (contB s8 ([60, 33, 45, 45, 101, 115, 105] ++ b9)) (K (AV.int IntKind.i64 2) [Blk.mem 9 [AV.str s8], Blk.grow 4 1 9]) (∃ (s10 : List UInt8), [AV.str [13]] = [AV.str s10] ∧ ∃ (s11 : List UInt8), ∃ (b12 : List UInt8), List.length s11 ≤ 100000 ∧ List.length b12 ≤ 10 ∧ [Blk.mem 9 [AV.str s8], Blk.grow 4 1 9] = [Blk.mem 9 [AV.str s11], Blk.grow 4 1 9] ∧ [AV.str s10, AV.ptr 0 0] = [AV.str b12, AV.ptr 0 0] ∧ ifP (contB s11 ([60, 33, 45, 45, 101, 115, 105] ++ b12)) (K (AV.int IntKind.i64 3) [Blk.mem 9 [AV.str s11], Blk.grow 4 1 9]) (K (AV.int IntKind.i64 (-1)) [Blk.mem 9 [AV.str s11], Blk.grow 4 1 9]))))) := by kernel_rfl
  exact unr_ok hT 100000 _ _ _ _ (e.mpr H)

theorem t46 {K : AV → Hp → Prop} {s : List UInt8} (hT : TabOk cfg (ctab [(51, tagIxC)])) (H :
    ∃ (s1 : List UInt8), List.length s1 ≤ 100000 ∧ [Blk.mem 9 [AV.str s], Blk.grow 4 1 9] = [Blk.mem 9 [AV.str s1], Blk.grow 4 1 9] ∧ [AV.sl 1 [[AV.str [32]], [AV.str [9]], [AV.str [10]], [AV.str [13]]] (some 1), AV.fn (Fn.func 47) [] [AV.ptr 0 0]] = [AV.sl 1 [[AV.str [32]], [AV.str [9]], [AV.str [10]], [AV.str [13]]] (some 1), AV.fn (Fn.func 47) [] [AV.ptr 0 0]] ∧ K (AV.bool (decide (ixOf (fun (b : List UInt8) ↦ contB s1 ([60, 33, 45, 45, 101, 115, 105] ++ b)) blanksL 0 ≥ 0))) [Blk.mem 9 [AV.str s1], Blk.grow 4 1 9]) :
    ToEnd cfg 46 (bodyOf Try.f46) (RetIn Try.prog Try.f46 2 K) ([.code []]) .normal ([(0, true, .sl 1 [[.str [32]], [.str [9]], [.str [10]], [.str [13]]] (some 1)), (1, true, .fn (.func 47) [] [.ptr 0 0])]) ([.mem 9 [.str s], .grow 4 1 9]) := by
  have e : unr cfg 46 (bodyOf Try.f46) (ctab [(51, tagIxC)]) ⟨[], []⟩ (RetIn Try.prog Try.f46 2 K) 100000 ([.code []]) .normal ([(0, true, .sl 1 [[.str [32]], [.str [9]], [.str [10]], [.str [13]]] (some 1)), (1, true, .fn (.func 47) [] [.ptr 0 0])]) ([.mem 9 [.str s], .grow 4 1 9]) =
    (∃ (s1 : List UInt8), List.length s1 ≤ 100000 ∧ [Blk.mem 9 [AV.str s], Blk.grow 4 1 9] = [Blk.mem 9 [AV.str s1], Blk.grow 4 1 9] ∧ [AV.sl 1 [[AV.str [32]], [AV.str [9]], [AV.str [10]], [AV.str [13]]] (some 1), AV.fn (Fn.func 47) [] [AV.ptr 0 0]] = [AV.sl 1 [[AV.str [32]], [AV.str [9]], [AV.str [10]], [AV.str [13]]] (some 1), AV.fn (Fn.func 47) [] [AV.ptr 0 0]] ∧ K (AV.bool (decide (ixOf (fun (b : List UInt8) ↦ contB s1 ([60, 33, 45, 45, 101, 115, 105] ++ b)) blanksL 0 ≥ 0))) [Blk.mem 9 [AV.str s1], Blk.grow 4 1 9]) := by kernel_rfl
  exact unr_ok hT 100000 _ _ _ _ (e.mpr H)

theorem t42 {v : AV} {s : List UInt8} (hT : TabOk cfg (ctab [(38, containsC), (46, tagAnyC)])) (H :
    ∃ (s1 : List UInt8), ∃ (x2 : List UInt8), List.length s1 ≤ 100000 ∧ [AV.str s, AV.str [60, 101, 115, 105, 58]] = [AV.str s1, AV.str x2] ∧ ifP (contB s1 x2) (AV.bool true = v) (∃ (s3 : List UInt8), ∃ (x4 : List UInt8), List.length s3 ≤ 100000 ∧ [AV.str s, AV.str [60, 47, 101, 115, 105, 58]] = [AV.str s3, AV.str x4] ∧ ifP (contB s3 x4) (AV.bool true = v) (∃ (s5 : List UInt8), List.length s5 ≤ 100000 ∧ [Blk.mem 9 [AV.str s], Blk.grow 4 1 9] = [Blk.mem 9 [AV.str s5], Blk.grow 4 1 9] ∧ [AV.sl 1 [[AV.str [32]], [AV.str [9]], [AV.str [10]], [AV.str [13]]] (some 1), AV.fn (Fn.func 47) [] [AV.ptr 0 0]] = [AV.sl 1 [[AV.str [32]], [AV.str [9]], [AV.str [10]], [AV.str [13]]] (some 1), AV.fn (Fn.func 47) [] [AV.ptr 0 0]] ∧ AV.bool (List.any blanksL fun (b : List UInt8) ↦ contB s5 ([60, 33, 45, 45, 101, 115, 105] ++ b)) = v))) :
    ToEnd cfg 42 (bodyOf Try.f42) (RetIs Try.prog Try.f42 v) ([.code []]) .normal ([(0, true, .str s)]) ([]) := by
  have e : unr cfg 42 (bodyOf Try.f42) (ctab [(38, containsC), (46, tagAnyC)]) ⟨[], []⟩ (RetIs Try.prog Try.f42 v) 100000 ([.code []]) .normal ([(0, true, .str s)]) ([]) =
    (∃ (s1 : List UInt8), ∃ (x2 : List UInt8), List.length s1 ≤ 100000 ∧ [AV.str s, AV.str [60, 101, 115, 105, 58]] = [AV.str s1, AV.str x2] ∧ ifP (contB s1 x2) (AV.bool true = v) (∃ (s3 : List UInt8), ∃ (x4 : List UInt8), List.length s3 ≤ 100000 ∧ [AV.str s, AV.str [60, 47, 101, 115, 105, 58]] = [AV.str s3, AV.str x4] ∧ ifP (contB s3 x4) (AV.bool true = v) (∃ (s5 : List UInt8), List.length s5 ≤ 100000 ∧ [Blk.mem 9 [AV.str s], Blk.grow 4 1 9] = [Blk.mem 9 [AV.str s5], Blk.grow 4 1 9] ∧ [AV.sl 1 [[AV.str [32]], [AV.str [9]], [AV.str [10]], [AV.str [13]]] (some 1), AV.fn (Fn.func 47) [] [AV.ptr 0 0]] = [AV.sl 1 [[AV.str [32]], [AV.str [9]], [AV.str [10]], [AV.str [13]]] (some 1), AV.fn (Fn.func 47) [] [AV.ptr 0 0]] ∧ AV.bool (List.any blanksL fun (b : List UInt8) ↦ contB s5 ([60, 33, 45, 45, 101, 115, 105] ++ b)) = v))) := by kernel_rfl
  exact unr_ok hT 100000 _ _ _ _ (e.mpr H)

theorem t35 {v : AV} {xk xp : Int} {xt : List UInt8} {xa xs : List (List AV)} {hid : Bool} (hT : TabOk cfg (ctab [(38, containsC), (42, taggedC)])) (H :
    ifP (xk == 2) (ifP (!xt == []) (∃ (s1 : List UInt8), List.length s1 ≤ 100000 ∧ [AV.str xt] = [AV.str s1] ∧ ifP (!taggedB s1) (ifP hid (∃ (s2 : List UInt8), ∃ (x3 : List UInt8), List.length s2 ≤ 100000 ∧ [AV.str xt, AV.str [45, 45, 62]] = [AV.str s2, AV.str x3] ∧ (AV.bool !contB s2 x3) = v) (AV.bool true = v)) (AV.bool false = v)) (AV.bool false = v)) (ifP (xk == 4) (∃ (s4 : List UInt8), ∃ (x5 : List UInt8), List.length s4 ≤ 100000 ∧ [AV.str xt, AV.str [60, 47, 101, 115, 105, 58, 105, 110, 108, 105, 110, 101]] = [AV.str s4, AV.str x5] ∧ (AV.bool !contB s4 x5) = v) (ifP (xk == 5) (∃ (s6 : List UInt8), ∃ (x7 : List UInt8), List.length s6 ≤ 100000 ∧ [AV.str xt, AV.str [60, 47, 101, 115, 105, 58, 114, 101, 109, 111, 118, 101]] = [AV.str s6, AV.str x7] ∧ ifP (!contB s6 x7) (∃ (s8 : List UInt8), ∃ (x9 : List UInt8), List.length s8 ≤ 100000 ∧ [AV.str xt, AV.str [60, 101, 115, 105, 58]] = [AV.str s8, AV.str x9] ∧ (AV.bool !contB s8 x9) = v) (AV.bool false = v)) (AV.bool (xt == []) = v)))) :
    ToEnd cfg 35 (bodyOf Try.f35) (RetIs Try.prog Try.f35 v) ([.code []]) .normal ([(0, true, .agg [.int .i64 xk, .int .i64 xp, .str xt, .sl 3 xa none, .sl 5 xs none]), (1, true, .bool hid)]) ([]) := by
  have e : unr cfg 35 (bodyOf Try.f35) (ctab [(38, containsC), (42, taggedC)]) ⟨[], []⟩ (RetIs Try.prog Try.f35 v) 100000 ([.code []]) .normal ([(0, true, .agg [.int .i64 xk, .int .i64 xp, .str xt, .sl 3 xa none, .sl 5 xs none]), (1, true, .bool hid)]) ([]) =
    (ifP (xk == 2) (ifP (!xt == []) (∃ (s1 : List UInt8), List.length s1 ≤ 100000 ∧ [AV.str xt] = [AV.str s1] ∧ ifP (!taggedB s1) (ifP hid (∃ (s2 : List UInt8), ∃ (x3 : List UInt8), List.length s2 ≤ 100000 ∧ [AV.str xt, AV.str [45, 45, 62]] = [AV.str s2, AV.str x3] ∧ (AV.bool !contB s2 x3) = v) (AV.bool true = v)) (AV.bool false = v)) (AV.bool false = v)) (ifP (xk == 4) (∃ (s4 : List UInt8), ∃ (x5 : List UInt8), List.length s4 ≤ 100000 ∧ [AV.str xt, AV.str [60, 47, 101, 115, 105, 58, 105, 110, 108, 105, 110, 101]] = [AV.str s4, AV.str x5] ∧ (AV.bool !contB s4 x5) = v) (ifP (xk == 5) (∃ (s6 : List UInt8), ∃ (x7 : List UInt8), List.length s6 ≤ 100000 ∧ [AV.str xt, AV.str [60, 47, 101, 115, 105, 58, 114, 101, 109, 111, 118, 101]] = [AV.str s6, AV.str x7] ∧ ifP (!contB s6 x7) (∃ (s8 : List UInt8), ∃ (x9 : List UInt8), List.length s8 ≤ 100000 ∧ [AV.str xt, AV.str [60, 101, 115, 105, 58]] = [AV.str s8, AV.str x9] ∧ (AV.bool !contB s8 x9) = v) (AV.bool false = v)) (AV.bool (xt == []) = v)))) := by kernel_rfl
  exact unr_ok hT 100000 _ _ _ _ (e.mpr H)

theorem t34 {v : AV} {k : Int} (hT : TabOk cfg (ctab [])) (H :
    ifP (k == 3) (AV.sl 3 [[AV.str [115, 114, 99], AV.bool true, AV.fn (Fn.func 39) [] []], [AV.str [97, 108, 116], AV.bool false, AV.fn (Fn.func 39) [] []], [AV.str [111, 110, 101, 114, 114, 111, 114], AV.bool false, AV.fn (Fn.func 40) [AV.sl 1 [[AV.str [99, 111, 110, 116, 105, 110, 117, 101]]] none] []]] none = v) (ifP (k == 4) (AV.sl 3 [[AV.str [110, 97, 109, 101], AV.bool true, AV.fn (Fn.func 39) [] []], [AV.str [102, 101, 116, 99, 104, 97, 98, 108, 101], AV.bool false, AV.fn (Fn.func 40) [AV.sl 1 [[AV.str [121, 101, 115]], [AV.str [110, 111]]] none] []]] none = v) (ifP (k == 6) (AV.sl 3 [[AV.str [116, 101, 120, 116], AV.bool true, AV.fn (Fn.func 41) [] []]] none = v) (ifP (k == 11) (AV.sl 3 [[AV.str [116, 101, 115, 116], AV.bool true, AV.fn (Fn.func 39) [] []]] none = v) (AV.sl 3 [] none = v))))) :
    ToEnd cfg 34 (bodyOf Try.f34) (RetIs Try.prog Try.f34 v) ([.code []]) .normal ([(0, true, .int .i64 k)]) ([]) := by
  have e : unr cfg 34 (bodyOf Try.f34) (ctab []) ⟨[], []⟩ (RetIs Try.prog Try.f34 v) 100000 ([.code []]) .normal ([(0, true, .int .i64 k)]) ([]) =
    (ifP (k == 3) (AV.sl 3 [[AV.str [115, 114, 99], AV.bool true, AV.fn (Fn.func 39) [] []], [AV.str [97, 108, 116], AV.bool false, AV.fn (Fn.func 39) [] []], [AV.str [111, 110, 101, 114, 114, 111, 114], AV.bool false, AV.fn (Fn.func 40) [AV.sl 1 [[AV.str [99, 111, 110, 116, 105, 110, 117, 101]]] none] []]] none = v) (ifP (k == 4) (AV.sl 3 [[AV.str [110, 97, 109, 101], AV.bool true, AV.fn (Fn.func 39) [] []], [AV.str [102, 101, 116, 99, 104, 97, 98, 108, 101], AV.bool false, AV.fn (Fn.func 40) [AV.sl 1 [[AV.str [121, 101, 115]], [AV.str [110, 111]]] none] []]] none = v) (ifP (k == 6) (AV.sl 3 [[AV.str [116, 101, 120, 116], AV.bool true, AV.fn (Fn.func 41) [] []]] none = v) (ifP (k == 11) (AV.sl 3 [[AV.str [116, 101, 115, 116], AV.bool true, AV.fn (Fn.func 39) [] []]] none = v) (AV.sl 3 [] none = v))))) := by kernel_rfl
  exact unr_ok hT 100000 _ _ _ _ (e.mpr H)

theorem t33x {v : AV} {ea : List (List AV)} (hT : TabOk cfg (ctab [(38, containsC), (39, fullC), (40, hasSC), (41, anyC)])) (H :
    AV.bool (0 == (↑(List.length ea) : Int)) = v) :
    ToEnd cfg 33 (bodyOf Try.f33) (RetIs Try.prog Try.f33 v) ([.code []]) .normal ([(0, true, .agg [.sl 3 ea none]), (1, true, .sl 3 [] none)]) ([]) := by
  have e : unr cfg 33 (bodyOf Try.f33) (ctab [(38, containsC), (39, fullC), (40, hasSC), (41, anyC)]) ⟨[[0, 1, 0, 1, 1, 0, 0, 1, 1, 0, 0, 1, 0, 1, 1]], [([0, 0, 0, 1, 1, 0, 0, 1, 0, 1, 1, 0, 0, 1, 1, 0, 0, 1, 0, 1, 1], 0, [.str, .str, .int .i64])]⟩ (RetIs Try.prog Try.f33 v) 100000 ([.code []]) .normal ([(0, true, .agg [.sl 3 ea none]), (1, true, .sl 3 [] none)]) ([]) =
    (AV.bool (0 == (↑(List.length ea) : Int)) = v) := by kernel_rfl
  exact unr_ok hT 100000 _ _ _ _ (e.mpr H)

theorem t33i {v : AV} {ea : List (List AV)} (hT : TabOk cfg (ctab [(38, containsC), (39, fullC), (40, hasSC), (41, anyC)])) (H :
    ToEnd cfg 33 (bodyOf Try.f33) (RetIs Try.prog Try.f33 v) [Fm.code [0, 1, 0, 1, 1, 0, 0, 1, 1, 0, 0, 1, 0, 1, 1], Fm.block 2, Fm.code [1, 1, 1, 0, 0, 1, 1, 0, 0, 1, 0, 1, 1], Fm.block 1, Fm.code [1, 1, 1, 0, 0, 1, 0, 1, 1], Fm.loop [0, 1, 0, 1, 1] 1, Fm.block 0, Fm.code [1, 1, 1]] XT.normal [(2, true, AV.ptr 0 0), (5, true, AV.int IntKind.i64 0), (7, true, AV.ptr 1 0), (8, true, AV.int IntKind.i64 0), (11, true, AV.sl 3 [[AV.str [115, 114, 99], AV.bool true, AV.fn (Fn.func 39) [] []], [AV.str [97, 108, 116], AV.bool false, AV.fn (Fn.func 39) [] []], [AV.str [111, 110, 101, 114, 114, 111, 114], AV.bool false, AV.fn (Fn.func 40) [AV.sl 1 [[AV.str [99, 111, 110, 116, 105, 110, 117, 101]]] none] []]] none), (12, true, AV.int IntKind.i64 3), (13, true, AV.int IntKind.i64 0), (18, true, AV.sl 3 ea none), (19, true, AV.int IntKind.i64 (↑(List.length ea) : Int)), (20, true, AV.int IntKind.i64 0)] [Blk.mem 61 [AV.sl 3 ea none], Blk.mem 70 [AV.str [115, 114, 99], AV.bool true, AV.fn (Fn.func 39) [] []]]) :
    ToEnd cfg 33 (bodyOf Try.f33) (RetIs Try.prog Try.f33 v) ([.code []]) .normal ([(0, true, .agg [.sl 3 ea none]), (1, true, .sl 3 [[.str [115, 114, 99], .bool true, .fn (.func 39) [] []], [.str [97, 108, 116], .bool false, .fn (.func 39) [] []], [.str [111, 110, 101, 114, 114, 111, 114], .bool false, .fn (.func 40) [.sl 1 [[.str [99, 111, 110, 116, 105, 110, 117, 101]]] none] []]] none)]) ([]) := by
  have e : unr cfg 33 (bodyOf Try.f33) (ctab [(38, containsC), (39, fullC), (40, hasSC), (41, anyC)]) ⟨[[0, 1, 0, 1, 1, 0, 0, 1, 1, 0, 0, 1, 0, 1, 1]], [([0, 0, 0, 1, 1, 0, 0, 1, 0, 1, 1, 0, 0, 1, 1, 0, 0, 1, 0, 1, 1], 0, [.str, .str, .int .i64])]⟩ (RetIs Try.prog Try.f33 v) 100000 ([.code []]) .normal ([(0, true, .agg [.sl 3 ea none]), (1, true, .sl 3 [[.str [115, 114, 99], .bool true, .fn (.func 39) [] []], [.str [97, 108, 116], .bool false, .fn (.func 39) [] []], [.str [111, 110, 101, 114, 114, 111, 114], .bool false, .fn (.func 40) [.sl 1 [[.str [99, 111, 110, 116, 105, 110, 117, 101]]] none] []]] none)]) ([]) =
    (ToEnd cfg 33 (bodyOf Try.f33) (RetIs Try.prog Try.f33 v) [Fm.code [0, 1, 0, 1, 1, 0, 0, 1, 1, 0, 0, 1, 0, 1, 1], Fm.block 2, Fm.code [1, 1, 1, 0, 0, 1, 1, 0, 0, 1, 0, 1, 1], Fm.block 1, Fm.code [1, 1, 1, 0, 0, 1, 0, 1, 1], Fm.loop [0, 1, 0, 1, 1] 1, Fm.block 0, Fm.code [1, 1, 1]] XT.normal [(2, true, AV.ptr 0 0), (5, true, AV.int IntKind.i64 0), (7, true, AV.ptr 1 0), (8, true, AV.int IntKind.i64 0), (11, true, AV.sl 3 [[AV.str [115, 114, 99], AV.bool true, AV.fn (Fn.func 39) [] []], [AV.str [97, 108, 116], AV.bool false, AV.fn (Fn.func 39) [] []], [AV.str [111, 110, 101, 114, 114, 111, 114], AV.bool false, AV.fn (Fn.func 40) [AV.sl 1 [[AV.str [99, 111, 110, 116, 105, 110, 117, 101]]] none] []]] none), (12, true, AV.int IntKind.i64 3), (13, true, AV.int IntKind.i64 0), (18, true, AV.sl 3 ea none), (19, true, AV.int IntKind.i64 (↑(List.length ea) : Int)), (20, true, AV.int IntKind.i64 0)] [Blk.mem 61 [AV.sl 3 ea none], Blk.mem 70 [AV.str [115, 114, 99], AV.bool true, AV.fn (Fn.func 39) [] []]]) := by kernel_rfl
  exact unr_ok hT 100000 _ _ _ _ (e.mpr H)

end Go.Proofs.Ytpfbpidlglelgaa
end

section
namespace Go.Proofs.Ytpfbpidlglelgaa
open Go.Ai Go
set_option linter.unusedSimpArgs false
set_option linter.unusedVariables false
set_option maxRecDepth 100000

theorem pf42 : pureFn cfg 42 Try.f42 := ⟨by kernel_rfl, by kernel_rfl, by kernel_rfl, by kernel_rfl, by kernel_rfl, by kernel_rfl⟩
theorem pf35 : pureFn cfg 35 Try.f35 := ⟨by kernel_rfl, by kernel_rfl, by kernel_rfl, by kernel_rfl, by kernel_rfl, by kernel_rfl⟩
theorem pf34 : pureFn cfg 34 Try.f34 := ⟨by kernel_rfl, by kernel_rfl, by kernel_rfl, by kernel_rfl, by kernel_rfl, by kernel_rfl⟩
theorem hf47 : heapFn cfg 47 Try.f47 := ⟨by kernel_rfl, by kernel_rfl, by kernel_rfl, by kernel_rfl, by kernel_rfl, by kernel_rfl⟩
theorem hf51 : heapFn cfg 51 Try.f51 := ⟨by kernel_rfl, by kernel_rfl, by kernel_rfl, by kernel_rfl, by kernel_rfl, by kernel_rfl⟩
theorem hf46 : heapFn cfg 46 Try.f46 := ⟨by kernel_rfl, by kernel_rfl, by kernel_rfl, by kernel_rfl, by kernel_rfl, by kernel_rfl⟩

theorem c47 : COk cfg 47 tag1C := by
  refine cok_heap hf47 fun vs h K ht => ?_
  obtain ⟨s, b, hs, hb, rfl, rfl, hk⟩ := ht
  refine t47 (ctab_ok (ctab_cons c38 ctab_nil)) (gAnd_intro ?_ ⟨_, _, hs, rfl, hk⟩)
  rw [decide_eq_true_eq]; omega
theorem c51 : COk cfg 51 tagIxC := by
  refine cok_heap hf51 fun vs h K ht => ?_
  obtain ⟨s, hs, rfl, rfl, hk⟩ := ht
  refine t51 (ctab_ok (ctab_cons c47 ctab_nil)) ?_
  simp only [blanksL, ixOf] at hk
  refine ⟨_, rfl, s, _, hs, by decide, rfl, rfl, ifP_intro (fun a => ?_) fun a => ?_⟩
  · have e : contB s (esi3 ++ [32]) = true := a
    rw [e] at hk; exact hk
  have e : contB s (esi3 ++ [32]) = false := a
  rw [e] at hk
  refine ⟨_, rfl, s, _, hs, by decide, rfl, rfl, ifP_intro (fun a => ?_) fun a => ?_⟩
  · have e : contB s (esi3 ++ [9]) = true := a
    rw [e] at hk; exact hk
  have e : contB s (esi3 ++ [9]) = false := a
  rw [e] at hk
  refine ⟨_, rfl, s, _, hs, by decide, rfl, rfl, ifP_intro (fun a => ?_) fun a => ?_⟩
  · have e : contB s (esi3 ++ [10]) = true := a
    rw [e] at hk; exact hk
  have e : contB s (esi3 ++ [10]) = false := a
  rw [e] at hk
  refine ⟨_, rfl, s, _, hs, by decide, rfl, rfl, ifP_intro (fun a => ?_) fun a => ?_⟩
  · have e : contB s (esi3 ++ [13]) = true := a
    rw [e] at hk; exact hk
  have e : contB s (esi3 ++ [13]) = false := a
  rw [e] at hk
  exact hk
theorem c46 : COk cfg 46 tagAnyC := by
  refine cok_heap hf46 fun vs h K ht => ?_
  obtain ⟨s, hs, rfl, rfl, hk⟩ := ht
  refine t46 (ctab_ok (ctab_cons c51 ctab_nil)) ⟨s, hs, rfl, rfl, ?_⟩
  have e := ixOf_ge (fun b => contB s (esi3 ++ b)) blanksL 0 (Int.le_refl _)
  rw [← e] at hk
  exact hk
theorem c42 : COk cfg 42 taggedC := by
  refine cok_pure pf42 fun vs h K ht => ?_
  obtain ⟨s, hs, rfl, hk⟩ := ht
  refine ⟨_, hk, t42 (ctab_ok (ctab_cons c38 (ctab_cons c46 ctab_nil))) ⟨_, _, hs, rfl, ifP_intro (fun a => ?_) fun a => ⟨_, _, hs, rfl, ifP_intro (fun b => ?_) fun b => ⟨_, hs, rfl, rfl, ?_⟩⟩⟩⟩
  · have e : contB s esi1 = true := a
    unfold taggedB; rw [e]; rfl
  · have e : contB s esi1 = false := a
    have e' : contB s esi2 = true := b
    unfold taggedB; rw [e, e']; rfl
  · have e : contB s esi1 = false := a
    have e' : contB s esi2 = false := b
    unfold taggedB; rw [e, e']; rfl
theorem c35 : COk cfg 35 textC := by
  refine cok_pure pf35 fun vs h K ht => ?_
  obtain ⟨n, hid, hs, rfl, hk⟩ := ht
  refine ⟨_, hk, ?_⟩
  rw [encN_eq]
  have hT := ctab_ok (ctab_cons c38 (ctab_cons c42 ctab_nil))
  generalize n.text = t at *
  generalize n.kind = k at *
  refine t35 hT (ifP_intro (fun a => ?_) fun a => ifP_intro (fun b => ?_) fun b => ifP_intro (fun c => ?_) fun c => ?_)
  · unfold textB
    rw [a, cond_true]
    refine ifP_intro (fun b => ⟨_, hs, rfl, ifP_intro (fun c => ifP_intro (fun d => ⟨_, _, hs, rfl, ?_⟩) fun d => ?_) fun c => ?_⟩) fun b => ?_
    · rw [b, c, d]; rfl
    · rw [b, c, d]; rfl
    · rw [b, c]; rfl
    · rw [b]; rfl
  · unfold textB
    rw [a, b]
    exact ⟨_, _, hs, rfl, rfl⟩
  · unfold textB
    rw [a, b, c]
    refine ⟨_, _, hs, rfl, ifP_intro (fun d => ⟨_, _, hs, rfl, ?_⟩) fun d => ?_⟩
    · have e : (!contB t rem1) = true := d
      simp only [cond_true, cond_false, e]; rfl
    · have e : (!contB t rem1) = false := d
      simp only [cond_true, cond_false, e]; rfl
  · unfold textB
    rw [a, b, c]
    rfl
end Go.Proofs.Ytpfbpidlglelgaa
end
