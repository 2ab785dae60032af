/-
  Pieces of a page's text: contracts of the functions by which the document says them. No statement about the program is made here.
  Pieces of a page's text: contracts of the document's side as a whole. No statement about the program is made here.
  Runs of the functions of a page's pieces, printed by a home tool; each is the kernel's word.
  Pieces of a page's text: bytes, words, places as the document says them, under contract.
  Runs of the functions of a page's pieces, printed by a home tool; each is the kernel's word.
  Pieces of a page's text: tags that close, attributes as the document says them, under contract.
-/
import Derived.Test.YtolmmodgneodbaaDoorJEw
import Derived.Test.YtolmmodgneodbaaDoorJEk
section
namespace Go.Ai.Ex
open Go.Ai Go.RowKit
set_option linter.unusedVariables false
def HasC : Con := fun vs h K => ∃ (s x : List UInt8) (a : Nat), x ≠ [] ∧ s.length ≤ limE ∧ x.length ≤ limE ∧ a ≤ limE ∧ vs = [.str s, .int .i64 a, .str x] ∧ K (.bool (has s x a)) h
def hidesC : Con := fun vs h K => ∃ (s : List UInt8) (a : Nat), s.length ≤ limE ∧ a ≤ limE ∧ vs = [.str s, .int .i64 a] ∧ K (.bool (hideB s a)) h
def specC : Con := fun vs h K => ∃ (s : List UInt8) (a : Nat) (hid : Bool), s.length ≤ limE ∧ a ≤ limE ∧ vs = [.str s, .int .i64 a, .bool hid] ∧ K (.bool (spec s a hid)) h
def letsC : Con := fun vs h K => ∃ (s : List UInt8) (a : Nat), s.length ≤ limE ∧ a ≤ s.length ∧ vs = [.str s, .int .i64 a] ∧ K (.int .i64 (lets s a)) h
def pastC : Con := fun vs h K => ∃ (s : List UInt8) (a : Nat), s.length ≤ limE ∧ a ≤ s.length ∧ vs = [.str s, .int .i64 a] ∧ K (.int .i64 (past s a)) h
def knownC : Con := fun vs h K => ∃ s : List UInt8, vs = [.str s] ∧ K (.bool (knownB s)) h
/-- Where a text stands first, from a place on. -/
def findR (s x : List UInt8) (a : Nat) : Int := match fnd x (s.drop a) with
  | some n => ((a + n : Nat) : Int)
  | none => -1
def fndC : Con := fun vs h K => ∃ (s x : List UInt8) (a : Nat), x ≠ [] ∧ s.length ≤ limE ∧ x.length ≤ limE ∧ a ≤ s.length ∧ vs = [.str s, .int .i64 a, .str x] ∧ K (.int .i64 (findR s x a)) h
def namesC : Con := fun vs h K => vs.isEmpty = true ∧ K (.sl 1 (namesL.map fun n => [.str n]) none) h
/-- The attributes that were read, whether or not it ended well. -/
def attrsP (s : List UInt8) (tag : Nat) : Nat → Nat → List Att → List Att
  | 0, _, l => l
  | f + 1, at', l =>
    if s.length ≤ past s at' then l else
    if s.getD (past s at') 0 = 62 ∨ s.getD (past s at') 0 = 47 then l else
    if past s at' = at' then l else
    match attrM s (past s at') tag l with
    | .error _ => l
    | .ok (a, b) => attrsP s tag f b (l ++ [a])
/-- What stands beside an error. -/
def closedE (s : List UInt8) (tag : Nat) : Tok := ⟨4, (s.drop (tag + 6)).take (lets s (tag + 6)), [], [], tag, 0⟩
def openE (s : List UInt8) (tag : Nat) : Tok :=
  if knownB ((s.drop (tag + 5)).take (lets s (tag + 5))) = false then ⟨2, (s.drop (tag + 5)).take (lets s (tag + 5)), [], [], tag, 0⟩ else
  match attrsM s tag (s.length + 1) (tag + 5 + lets s (tag + 5)) [] with
  | .error _ => ⟨2, (s.drop (tag + 5)).take (lets s (tag + 5)), attrsP s tag (s.length + 1) (tag + 5 + lets s (tag + 5)) [], [], tag, 0⟩
  | .ok (l, b) => ⟨if s.getD b 0 = 47 then 3 else 2, (s.drop (tag + 5)).take (lets s (tag + 5)), l, [], tag, 0⟩
/-- A tag that closes; an attribute; a tag that opens. -/
def closedC : Con := fun vs h K => ∃ (s : List UInt8) (tag : Nat), s.length ≤ limE ∧ tag + 6 ≤ s.length ∧ vs = [.str s, .int .i64 tag] ∧ (∀ p e, closeM s tag = .error (p, e) → K (.tup [.agg (encT (closedE s tag)), .int .i64 p, .int .i64 e]) h) ∧
  (∀ t, closeM s tag = .ok t → K (.tup [.agg (encT t), .int .i64 0, .int .i64 0]) h)
def attrRC : Con := fun vs h K => ∃ (s : List UInt8) (a tag : Nat) (l : List Att), s.length ≤ limE ∧ a ≤ s.length ∧ tag ≤ s.length ∧ l.length ≤ limE ∧ vs = [.str s, .int .i64 a, .int .i64 tag, .sl 3 (encAs l) none] ∧
  (∀ p e, attrM s a tag l = .error (p, e) → ∀ x : Att, K (.tup [.agg (encA x), .int .i64 0, .int .i64 p, .int .i64 e]) h) ∧ (∀ x b, attrM s a tag l = .ok (x, b) → K (.tup [.agg (encA x), .int .i64 b, .int .i64 0, .int .i64 0]) h)
def openRC : Con := fun vs h K => ∃ (s : List UInt8) (tag : Nat), s.length ≤ limE ∧ tag + 5 ≤ s.length ∧ vs = [.str s, .int .i64 tag] ∧ (∀ p e, openM s tag = .error (p, e) → K (.tup [.agg (encT (openE s tag)), .int .i64 p, .int .i64 e]) h) ∧
  (∀ t, openM s tag = .ok t → K (.tup [.agg (encT t), .int .i64 0, .int .i64 0]) h)
/-- A piece as the document's side holds it: a raw text has no list of attributes. -/
def enc9 (t : Tok) : List AV := if t.kind = 7 then [.int .i64 7, .str t.name, .sl 0 [] none, .str t.text, .int .i64 t.fr, .int .i64 t.to] else encT t
def nextZ (s : List UInt8) (a : Nat) : List (List AV) :=
  if has s opensS a = true then (match openM s a with | .error _ => [encT (openE s a)] | .ok _ => []) else
  if has s closesS a = true then [encT (closedE s a)] else []
/-- What stands at a place. -/
def nextC : Con := fun vs h K => ∃ (s : List UInt8) (a : Nat) (hid : Option Nat), s.length ≤ limE ∧ a < s.length ∧ spec s a hid.isSome = true ∧ vs = [.str s, .int .i64 a, .bool hid.isSome] ∧
  (∀ p e, nextM s a hid = .error (p, e) → K (.tup [.sl 6 (nextZ s a) none, .int .i64 p, .int .i64 e]) h) ∧
  (∀ l hid2, nextM s a hid = .ok (l, hid2) → K (.tup [.sl 6 (l.map enc9) none, .int .i64 0, .int .i64 0]) h)
end Go.Ai.Ex
end

section
namespace Go.Ai.Ex
open Go.Ai Go.RowKit
set_option linter.unusedVariables false
/-- The pieces of a text as the document's side tells them. -/
def tok9C : Con := fun vs h K => ∃ s : List UInt8, s.length ≤ limE ∧ vs = [.str s] ∧ (∀ p e, lexM s = .error (p, e) → K (.tup [.sl 6 [] none, .int .i64 p, .int .i64 e]) h) ∧
  (∀ l, lexM s = .ok l → K (.tup [.sl 6 (l.map enc9) none, .int .i64 0, .int .i64 0]) h)
/-- The same attributes are the same. -/
def sameAC : Con := fun vs h K => ∃ (l : List Att) (z : Nat), l.length ≤ limE ∧ (l = [] ∨ z = 3) ∧ vs = [.sl 3 (encAs l) none, .sl z (encAs l) none] ∧ K (.bool true) h

theorem low_9 (n : Nat) (l : List Tok) : lowVss n (l.map enc9) = true := by
  induction l with
  | nil => rfl
  | cons t r ih =>
    rw [List.map_cons]
    have h : lowVs n (enc9 t) = true := by
      unfold enc9
      split
      · rfl
      · have := low_as n t.attrs
        simp only [encT, lowVs, lowV, this, Bool.and_self]
    simp only [lowVss, h, ih, Bool.and_self]
theorem raw_end {s : List UInt8} {t : Tok} {l : List Tok} (ht : t.to ≤ s.length) (h : rawM s t = .ok l) : ∃ r, l = t :: r ∧ t.to ≤ lastTo l 0 ∧ lastTo l 0 ≤ s.length ∧ l.length ≤ 2 := by
  rcases rawM_ok h with ⟨_, rfl⟩ | ⟨_, _, n, hn, rfl⟩
  · exact ⟨[], rfl, Nat.le_refl _, ht, by simp⟩
  · have := fnd_le hn
    rw [List.length_drop, List.length_append] at this
    refine ⟨_, rfl, ?_, ?_, by simp⟩
    · show t.to ≤ t.to + n; omega
    · show t.to + n ≤ s.length; omega
/-- What stands at a place begins with one piece that is no raw text. -/
theorem nextM_shape {s : List UInt8} {a : Nat} {hid hid2 : Option Nat} {l : List Tok} (ha : a < s.length) (hsp : spec s a hid.isSome = true) (h : nextM s a hid = .ok (l, hid2)) :
    ∃ t r, l = t :: r ∧ t.kind ≠ 7 ∧ hid2 = (if t.kind = 5 then some a else if t.kind = 6 then none else hid) ∧ a < lastTo l 0 ∧ lastTo l 0 ≤ s.length ∧ l.length ≤ 2 := by
  unfold nextM at h
  by_cases ho : has s opensS a = true
  · have h5 := has_le ho (by simp [opensS])
    have e5 : opensS.length = 5 := rfl
    rw [if_pos ho] at h
    cases hop : openM s a with
    | error e => rw [hop] at h; cases h
    | ok t =>
      rw [hop] at h
      simp only at h
      obtain ⟨k1, k2, k3, k4, k5⟩ := openM_ok (by omega) hop
      cases hr : rawM s t with
      | error e => rw [hr] at h; cases h
      | ok l' =>
        rw [hr] at h
        simp only [Except.ok.injEq, Prod.mk.injEq] at h
        obtain ⟨rfl, rfl⟩ := h
        obtain ⟨r, q1, q2, q3, q4⟩ := raw_end k5 hr
        exact ⟨t, r, q1, by omega, by rw [if_neg (by omega), if_neg (by omega)], by omega, q3, q4⟩
  · rw [if_neg ho] at h
    by_cases hc : has s closesS a = true
    · have h6 := has_le hc (by simp [closesS])
      have e6 : closesS.length = 6 := rfl
      rw [if_pos hc] at h
      cases hop : closeM s a with
      | error e => rw [hop] at h; cases h
      | ok t =>
        rw [hop] at h
        simp only [Except.ok.injEq, Prod.mk.injEq] at h
        obtain ⟨rfl, rfl⟩ := h
        obtain ⟨k1, k2, k3, k4, k5, k6, k7⟩ := closeM_ok (by omega) hop
        exact ⟨t, [], rfl, by omega, by rw [if_neg (by omega), if_neg (by omega)], by show a < t.to; omega, by show t.to ≤ _; omega, by simp⟩
    · rw [if_neg hc] at h
      by_cases hh : hideB s a = true
      · have h8 : a + 8 ≤ s.length := by
          unfold hideB at hh
          simp only [Bool.and_eq_true, decide_eq_true_eq] at hh
          omega
        rw [if_pos hh] at h
        split at h
        · cases h
        · simp only [Except.ok.injEq, Prod.mk.injEq] at h
          obtain ⟨rfl, rfl⟩ := h
          exact ⟨_, [], rfl, (show (5 : Int) ≠ 7 by decide), rfl, by show a < a + 8; omega, h8, by simp⟩
      · rw [if_neg hh] at h
        simp only [Except.ok.injEq, Prod.mk.injEq] at h
        obtain ⟨rfl, rfl⟩ := h
        have h3 : has s showsS a = true := by
          unfold spec at hsp
          simp only [Bool.or_eq_true, Bool.and_eq_true] at hsp
          rcases hsp with h | h | h | h
          · exact absurd h ho
          · exact absurd h hc
          · exact absurd h hh
          · exact h.1
        have h3 := has_le h3 (by simp [showsS])
        have e3 : showsS.length = 3 := rfl
        exact ⟨_, [], rfl, (show (6 : Int) ≠ 7 by decide), rfl, by show a < a + 3; omega, by show a + 3 ≤ _; omega, by simp⟩
theorem lastTo_d {t : Tok} {r : List Tok} (d d' : Nat) : lastTo (t :: r) d = lastTo (t :: r) d' := by
  unfold lastTo
  rw [List.getLast?_cons]
theorem lastTo_get {t : Tok} {r : List Tok} (d : Nat) : ∃ h : (t :: r).length - 1 < (t :: r).length, lastTo (t :: r) d = ((t :: r)[(t :: r).length - 1]).to := by
  refine ⟨by simp, ?_⟩
  unfold lastTo
  rw [List.getLast?_eq_getElem?]
  simp
/-- What is read at a place, put ahead of the rest. -/
def putL (l : List Tok) : Except Bad (List Tok) → Except Bad (List Tok)
  | .error e => .error e
  | .ok q => .ok (l ++ q)
theorem lexG_spec {s : List UInt8} {f a : Nat} {hid hid2 : Option Nat} {l : List Tok} (h1 : ¬ s.length ≤ a) (h2 : spec s a hid.isSome = true) (h3 : nextM s a hid = .ok (l, hid2)) :
    lexG s (f + 1) a hid = putL l (lexG s f (lastTo l (a + 1)) hid2) := by
  conv => lhs; unfold lexG
  rw [if_neg h1, if_pos h2, h3]
  simp only
  cases lexG s f (lastTo l (a + 1)) hid2 <;> rfl
theorem lexG_text {s : List UInt8} {f a : Nat} {hid : Option Nat} (h1 : ¬ s.length ≤ a) (h2 : ¬ spec s a hid.isSome = true) :
    lexG s (f + 1) a hid = putL [⟨1, [], [], cut s a (textTo s hid.isSome (s.length - a) a), a, textTo s hid.isSome (s.length - a) a⟩] (lexG s f (textTo s hid.isSome (s.length - a) a) hid) := by
  conv => lhs; unfold lexG
  rw [if_neg h1, if_neg h2]
  simp only
  cases lexG s f (textTo s hid.isSome (s.length - a) a) hid <;> rfl
end Go.Ai.Ex
end

section
namespace Go.Proofs.YtolmmodgneodbaaDoor
open Go.Ai Go Go.Ai.Ex
set_option maxRecDepth 100000
set_option linter.unusedVariables false
theorem t55 {v : AV} {c : Int} (hT : TabOk cfg2 (ctab [])) (H :
    ifP (decide (c ≥ 97)) (AV.bool (decide (c ≤ 122)) = v) (AV.bool false = v)) :
    ToEnd cfg2 55 (bodyOf Tryd.f55) (RetIs Tryd.prog Tryd.f55 v) ([.code []]) .normal ([(0, true, .int .u8 c)]) ([]) := by
  exact unr_ok hT 100000 _ _ _ _ (show unr cfg2 55 (bodyOf Tryd.f55) (ctab []) ⟨[], []⟩ (RetIs Tryd.prog Tryd.f55 v) 100000 ([.code []]) .normal ([(0, true, .int .u8 c)]) ([]) from unr_use H (by kernel_rfl))

theorem t42 {v : AV} {c : Int} (hT : TabOk cfg2 (ctab [])) (H :
    ifP (c == 32) (AV.bool true = v) (ifP (c == 9) (AV.bool true = v) (ifP (c == 10) (AV.bool true = v) (AV.bool (c == 13) = v)))) :
    ToEnd cfg2 42 (bodyOf Tryd.f42) (RetIs Tryd.prog Tryd.f42 v) ([.code []]) .normal ([(0, true, .int .u8 c)]) ([]) := by
  exact unr_ok hT 100000 _ _ _ _ (show unr cfg2 42 (bodyOf Tryd.f42) (ctab []) ⟨[], []⟩ (RetIs Tryd.prog Tryd.f42 v) 100000 ([.code []]) .normal ([(0, true, .int .u8 c)]) ([]) from unr_use H (by kernel_rfl))

theorem t28 {v : AV} {s : List UInt8} {a : Int} {x : List UInt8} (hT : TabOk cfg2 (ctab [])) (H :
    ifP (decide (a ≥ 0)) (ifP (decide (IntKind.wrap IntKind.i64 (a + (↑(List.length x) : Int)) ≤ (↑(List.length s) : Int))) (gAnd (cutOb (List.length s) (some a) (some (IntKind.wrap IntKind.i64 (a + (↑(List.length x) : Int))))) (AV.bool (cutL s (some a) (some (IntKind.wrap IntKind.i64 (a + (↑(List.length x) : Int)))) == x) = v)) (AV.bool false = v)) (AV.bool false = v)) :
    ToEnd cfg2 28 (bodyOf Tryd.f28) (RetIs Tryd.prog Tryd.f28 v) ([.code []]) .normal ([(0, true, .str s), (1, true, .int .i64 a), (2, true, .str x)]) ([]) := by
  exact unr_ok hT 100000 _ _ _ _ (show unr cfg2 28 (bodyOf Tryd.f28) (ctab []) ⟨[], []⟩ (RetIs Tryd.prog Tryd.f28 v) 100000 ([.code []]) .normal ([(0, true, .str s), (1, true, .int .i64 a), (2, true, .str x)]) ([]) from unr_use H (by kernel_rfl))

theorem t29 {v : AV} {s : List UInt8} {a : Int}  (hT : TabOk cfg2 (ctab [(28, HasC), (42, blankC)])) (H :
    ∃ (s1 : List UInt8), ∃ (x2 : List UInt8), ∃ (a3 : Nat), x2 ≠ [] ∧ List.length s1 ≤ 1000000 ∧ List.length x2 ≤ 1000000 ∧ a3 ≤ 1000000 ∧ [AV.str s, AV.int IntKind.i64 a, AV.str [60, 33, 45, 45, 101, 115, 105]] = [AV.str s1, AV.int IntKind.i64 (↑a3 : Int), AV.str x2] ∧ ifP (has s1 x2 a3) (ifP (decide (IntKind.wrap IntKind.i64 (a + 7) < (↑(List.length s) : Int))) (gAnd (inR (IntKind.wrap IntKind.i64 (a + 7)) (List.length s)) (∃ (c4 : UInt8), [AV.int IntKind.u8 (↑(UInt8.toNat (List.getD s (Int.toNat (IntKind.wrap IntKind.i64 (a + 7))) 0)) : Int)] = [AV.int IntKind.u8 (↑(UInt8.toNat c4) : Int)] ∧ AV.bool (blB c4) = v)) (AV.bool false = v)) (AV.bool false = v)) :
    ToEnd cfg2 29 (bodyOf Tryd.f29) (RetIs Tryd.prog Tryd.f29 v) ([.code []]) .normal ([(0, true, .str s), (1, true, .int .i64 a)]) ([]) := by
  exact unr_ok hT 100000 _ _ _ _ (show unr cfg2 29 (bodyOf Tryd.f29) (ctab [(28, HasC), (42, blankC)]) ⟨[], []⟩ (RetIs Tryd.prog Tryd.f29 v) 100000 ([.code []]) .normal ([(0, true, .str s), (1, true, .int .i64 a)]) ([]) from unr_use H (by kernel_rfl))

theorem t18 {v : AV} {s : List UInt8} {a : Int} {hid : Bool} (hT : TabOk cfg2 (ctab [(28, HasC), (29, hidesC)])) (H :
    ∃ (s1 : List UInt8), ∃ (x2 : List UInt8), ∃ (a3 : Nat), x2 ≠ [] ∧ List.length s1 ≤ 1000000 ∧ List.length x2 ≤ 1000000 ∧ a3 ≤ 1000000 ∧ [AV.str s, AV.int IntKind.i64 a, AV.str [60, 101, 115, 105, 58]] = [AV.str s1, AV.int IntKind.i64 (↑a3 : Int), AV.str x2] ∧ ifP (has s1 x2 a3) (AV.bool true = v) (∃ (s4 : List UInt8), ∃ (x5 : List UInt8), ∃ (a6 : Nat), x5 ≠ [] ∧ List.length s4 ≤ 1000000 ∧ List.length x5 ≤ 1000000 ∧ a6 ≤ 1000000 ∧ [AV.str s, AV.int IntKind.i64 a, AV.str [60, 47, 101, 115, 105, 58]] = [AV.str s4, AV.int IntKind.i64 (↑a6 : Int), AV.str x5] ∧ ifP (has s4 x5 a6) (AV.bool true = v) (∃ (s7 : List UInt8), ∃ (a8 : Nat), List.length s7 ≤ 1000000 ∧ a8 ≤ 1000000 ∧ [AV.str s, AV.int IntKind.i64 a] = [AV.str s7, AV.int IntKind.i64 (↑a8 : Int)] ∧ ifP (hideB s7 a8) (AV.bool true = v) (ifP hid (∃ (s9 : List UInt8), ∃ (x10 : List UInt8), ∃ (a11 : Nat), x10 ≠ [] ∧ List.length s9 ≤ 1000000 ∧ List.length x10 ≤ 1000000 ∧ a11 ≤ 1000000 ∧ [AV.str s, AV.int IntKind.i64 a, AV.str [45, 45, 62]] = [AV.str s9, AV.int IntKind.i64 (↑a11 : Int), AV.str x10] ∧ AV.bool (has s9 x10 a11) = v) (AV.bool false = v))))) :
    ToEnd cfg2 18 (bodyOf Tryd.f18) (RetIs Tryd.prog Tryd.f18 v) ([.code []]) .normal ([(0, true, .str s), (1, true, .int .i64 a), (2, true, .bool hid)]) ([]) := by
  exact unr_ok hT 100000 _ _ _ _ (show unr cfg2 18 (bodyOf Tryd.f18) (ctab [(28, HasC), (29, hidesC)]) ⟨[], []⟩ (RetIs Tryd.prog Tryd.f18 v) 100000 ([.code []]) .normal ([(0, true, .str s), (1, true, .int .i64 a), (2, true, .bool hid)]) ([]) from unr_use H (by kernel_rfl))

theorem t43 {v : AV} {s : List UInt8} {a : Int}  (hT : TabOk cfg2 (ctab [(55, smallC)])) (H :
    ToEnd cfg2 43 (bodyOf Tryd.f43) (RetIs Tryd.prog Tryd.f43 v) [Fm.code [0, 0, 1, 1], Fm.block 0, Fm.code [1, 1, 1]] XT.normal [(0, true, AV.str s), (1, true, AV.int IntKind.i64 a), (5, true, AV.int IntKind.i64 0)] []) :
    ToEnd cfg2 43 (bodyOf Tryd.f43) (RetIs Tryd.prog Tryd.f43 v) ([.code []]) .normal ([(0, true, .str s), (1, true, .int .i64 a)]) ([]) := by
  exact unr_ok hT 100000 _ _ _ _ (show unr cfg2 43 (bodyOf Tryd.f43) (ctab [(55, smallC)]) ⟨[[0, 0, 1, 1]], []⟩ (RetIs Tryd.prog Tryd.f43 v) 100000 ([.code []]) .normal ([(0, true, .str s), (1, true, .int .i64 a)]) ([]) from unr_use H (by kernel_rfl))

theorem t43a {v : AV}    {s0 : List UInt8} {i1 : Int} {i5 : Int} (hT : TabOk cfg2 (ctab [(55, smallC)])) (H :
    ifP (decide (IntKind.wrap IntKind.i64 (i1 + i5) < (↑(List.length s0) : Int))) (gAnd (inR (IntKind.wrap IntKind.i64 (i1 + i5)) (List.length s0)) (∃ (c1 : UInt8), [AV.int IntKind.u8 (↑(UInt8.toNat (List.getD s0 (Int.toNat (IntKind.wrap IntKind.i64 (i1 + i5))) 0)) : Int)] = [AV.int IntKind.u8 (↑(UInt8.toNat c1) : Int)] ∧ ifP (smB c1) (ToEnd cfg2 43 (bodyOf Tryd.f43) (RetIs Tryd.prog Tryd.f43 v) [Fm.code [0, 0, 1, 1], Fm.block 0, Fm.code [1, 1, 1]] XT.normal [(0, true, AV.str s0), (1, true, AV.int IntKind.i64 i1), (5, true, AV.int IntKind.i64 (IntKind.wrap IntKind.i64 (i5 + 1)))] []) (AV.int IntKind.i64 i5 = v))) (AV.int IntKind.i64 i5 = v)) :
    ToEnd cfg2 43 (bodyOf Tryd.f43) (RetIs Tryd.prog Tryd.f43 v) ([.code [0, 0, 1, 1], Fm.block 0, Fm.code [1, 1, 1]]) .normal ([(0, true, AV.str s0), (1, true, AV.int IntKind.i64 i1), (5, true, AV.int IntKind.i64 i5)]) ([]) := by
  exact ends_round hT 100000 (by kernel_rfl) (show unr cfg2 43 (bodyOf Tryd.f43) (ctab [(55, smallC)]) ⟨[[0, 0, 1, 1]], []⟩ (RetIs Tryd.prog Tryd.f43 v) 100000 ([.code [0, 0, 0, 1, 1], .loop [0, 0, 1, 1] 0, Fm.block 0, Fm.code [1, 1, 1]]) .normal ([(0, true, AV.str s0), (1, true, AV.int IntKind.i64 i1), (5, true, AV.int IntKind.i64 i5)]) ([]) from unr_use H (by kernel_rfl))

theorem t45 {v : AV} {s : List UInt8} {a : Int}  (hT : TabOk cfg2 (ctab [(42, blankC)])) (H :
    ToEnd cfg2 45 (bodyOf Tryd.f45) (RetIs Tryd.prog Tryd.f45 v) [Fm.code [0, 0, 1], Fm.block 0, Fm.code [1, 1]] XT.normal [(0, true, AV.str s), (1, true, AV.int IntKind.i64 a)] []) :
    ToEnd cfg2 45 (bodyOf Tryd.f45) (RetIs Tryd.prog Tryd.f45 v) ([.code []]) .normal ([(0, true, .str s), (1, true, .int .i64 a)]) ([]) := by
  exact unr_ok hT 100000 _ _ _ _ (show unr cfg2 45 (bodyOf Tryd.f45) (ctab [(42, blankC)]) ⟨[[0, 0, 1]], []⟩ (RetIs Tryd.prog Tryd.f45 v) 100000 ([.code []]) .normal ([(0, true, .str s), (1, true, .int .i64 a)]) ([]) from unr_use H (by kernel_rfl))

theorem t45a {v : AV}    {s0 : List UInt8} {i1 : Int} (hT : TabOk cfg2 (ctab [(42, blankC)])) (H :
    ifP (decide (i1 < (↑(List.length s0) : Int))) (gAnd (inR i1 (List.length s0)) (∃ (c1 : UInt8), [AV.int IntKind.u8 (↑(UInt8.toNat (List.getD s0 (Int.toNat i1) 0)) : Int)] = [AV.int IntKind.u8 (↑(UInt8.toNat c1) : Int)] ∧ ifP (blB c1) (ToEnd cfg2 45 (bodyOf Tryd.f45) (RetIs Tryd.prog Tryd.f45 v) [Fm.code [0, 0, 1], Fm.block 0, Fm.code [1, 1]] XT.normal [(0, true, AV.str s0), (1, true, AV.int IntKind.i64 (IntKind.wrap IntKind.i64 (i1 + 1)))] []) (AV.int IntKind.i64 i1 = v))) (AV.int IntKind.i64 i1 = v)) :
    ToEnd cfg2 45 (bodyOf Tryd.f45) (RetIs Tryd.prog Tryd.f45 v) ([.code [0, 0, 1], Fm.block 0, Fm.code [1, 1]]) .normal ([(0, true, AV.str s0), (1, true, AV.int IntKind.i64 i1)]) ([]) := by
  exact ends_round hT 100000 (by kernel_rfl) (show unr cfg2 45 (bodyOf Tryd.f45) (ctab [(42, blankC)]) ⟨[[0, 0, 1]], []⟩ (RetIs Tryd.prog Tryd.f45 v) 100000 ([.code [0, 0, 0, 1], .loop [0, 0, 1] 0, Fm.block 0, Fm.code [1, 1]]) .normal ([(0, true, AV.str s0), (1, true, AV.int IntKind.i64 i1)]) ([]) from unr_use H (by kernel_rfl))

theorem t44 {v : AV} {s : List UInt8} (hT : TabOk cfg2 (ctab [(56, namesC)])) (H :
    true = true ∧ ToEnd cfg2 44 (bodyOf Tryd.f44) (RetIs Tryd.prog Tryd.f44 v) [Fm.code [0, 1, 0, 1, 1], Fm.block 0, Fm.code [1, 1, 1]] XT.normal [(0, true, AV.str s), (3, true, AV.sl 1 [[AV.str [105, 110, 99, 108, 117, 100, 101]], [AV.str [105, 110, 108, 105, 110, 101]], [AV.str [114, 101, 109, 111, 118, 101]], [AV.str [99, 111, 109, 109, 101, 110, 116]], [AV.str [116, 114, 121]], [AV.str [97, 116, 116, 101, 109, 112, 116]], [AV.str [101, 120, 99, 101, 112, 116]], [AV.str [99, 104, 111, 111, 115, 101]], [AV.str [119, 104, 101, 110]], [AV.str [111, 116, 104, 101, 114, 119, 105, 115, 101]], [AV.str [118, 97, 114, 115]]] none), (4, true, AV.int IntKind.i64 0)] []) :
    ToEnd cfg2 44 (bodyOf Tryd.f44) (RetIs Tryd.prog Tryd.f44 v) ([.code []]) .normal ([(0, true, .str s)]) ([]) := by
  exact unr_ok hT 100000 _ _ _ _ (show unr cfg2 44 (bodyOf Tryd.f44) (ctab [(56, namesC)]) ⟨[[0, 1, 0, 1, 1]], [([0, 0, 0, 1, 0, 0, 1, 0, 1, 1], 2, [.str])]⟩ (RetIs Tryd.prog Tryd.f44 v) 100000 ([.code []]) .normal ([(0, true, .str s)]) ([]) from unr_use H (by kernel_rfl))

theorem t44a {v : AV} {s : List UInt8} {es : List (List AV)} {i : Int} (hT : TabOk cfg2 (ctab [(56, namesC)])) (H :
    ifP (decide (i < (↑(List.length es) : Int))) (gAnd (inR i (List.length es) && true && true) (∃ (s1 : List UInt8), getE es i = [AV.str s1] ∧ ifP (s1 == s) (AV.bool true = v) (ToEnd cfg2 44 (bodyOf Tryd.f44) (RetIs Tryd.prog Tryd.f44 v) [Fm.code [0, 1, 0, 1, 1], Fm.block 0, Fm.code [1, 1, 1]] XT.normal [(0, true, AV.str s), (3, true, AV.sl 1 es none), (4, true, AV.int IntKind.i64 (IntKind.wrap IntKind.i64 (i + 1)))] []))) (AV.bool false = v)) :
    ToEnd cfg2 44 (bodyOf Tryd.f44) (RetIs Tryd.prog Tryd.f44 v) ([.code [0, 1, 0, 1, 1], .block 0, .code [1, 1, 1]]) .normal ([(0, true, .str s), (3, true, .sl 1 es none), (4, true, .int .i64 i)]) ([]) := by
  exact ends_round hT 100000 (by kernel_rfl) (show unr cfg2 44 (bodyOf Tryd.f44) (ctab [(56, namesC)]) ⟨[[0, 1, 0, 1, 1]], [([0, 0, 0, 1, 0, 0, 1, 0, 1, 1], 2, [.str])]⟩ (RetIs Tryd.prog Tryd.f44 v) 100000 ([.code [0, 0, 1, 0, 1, 1], .loop [0, 1, 0, 1, 1] 0, .block 0, .code [1, 1, 1]]) .normal ([(0, true, .str s), (3, true, .sl 1 es none), (4, true, .int .i64 i)]) ([]) from unr_use H (by kernel_rfl))

theorem t56 {v : AV}  (hT : TabOk cfg2 (ctab [])) (H :
    AV.sl 1 [[AV.str [105, 110, 99, 108, 117, 100, 101]], [AV.str [105, 110, 108, 105, 110, 101]], [AV.str [114, 101, 109, 111, 118, 101]], [AV.str [99, 111, 109, 109, 101, 110, 116]], [AV.str [116, 114, 121]], [AV.str [97, 116, 116, 101, 109, 112, 116]], [AV.str [101, 120, 99, 101, 112, 116]], [AV.str [99, 104, 111, 111, 115, 101]], [AV.str [119, 104, 101, 110]], [AV.str [111, 116, 104, 101, 114, 119, 105, 115, 101]], [AV.str [118, 97, 114, 115]]] none = v) :
    ToEnd cfg2 56 (bodyOf Tryd.f56) (RetIs Tryd.prog Tryd.f56 v) ([.code []]) .normal ([]) ([]) := by
  exact unr_ok hT 100000 _ _ _ _ (show unr cfg2 56 (bodyOf Tryd.f56) (ctab []) ⟨[], []⟩ (RetIs Tryd.prog Tryd.f56 v) 100000 ([.code []]) .normal ([]) ([]) from unr_use H (by kernel_rfl))

theorem t31 {v : AV} {s : List UInt8} {a : Int} {x : List UInt8} (hT : TabOk cfg2 (ctab [(28, HasC)])) (H :
    ToEnd cfg2 31 (bodyOf Tryd.f31) (RetIs Tryd.prog Tryd.f31 v) [Fm.code [0, 1, 0, 1], Fm.block 0, Fm.code [1, 1]] XT.normal [(0, true, AV.str s), (2, true, AV.str x), (7, true, AV.int IntKind.i64 a)] []) :
    ToEnd cfg2 31 (bodyOf Tryd.f31) (RetIs Tryd.prog Tryd.f31 v) ([.code []]) .normal ([(0, true, .str s), (1, true, .int .i64 a), (2, true, .str x)]) ([]) := by
  exact unr_ok hT 100000 _ _ _ _ (show unr cfg2 31 (bodyOf Tryd.f31) (ctab [(28, HasC)]) ⟨[[0, 1, 0, 1]], []⟩ (RetIs Tryd.prog Tryd.f31 v) 100000 ([.code []]) .normal ([(0, true, .str s), (1, true, .int .i64 a), (2, true, .str x)]) ([]) from unr_use H (by kernel_rfl))

theorem t31a {v : AV}    {s0 : List UInt8} {s2 : List UInt8} {i7 : Int} (hT : TabOk cfg2 (ctab [(28, HasC)])) (H :
    ifP (decide (IntKind.wrap IntKind.i64 (i7 + (↑(List.length s2) : Int)) ≤ (↑(List.length s0) : Int))) (∃ (s1 : List UInt8), ∃ (x2 : List UInt8), ∃ (a3 : Nat), x2 ≠ [] ∧ List.length s1 ≤ 1000000 ∧ List.length x2 ≤ 1000000 ∧ a3 ≤ 1000000 ∧ [AV.str s0, AV.int IntKind.i64 i7, AV.str s2] = [AV.str s1, AV.int IntKind.i64 (↑a3 : Int), AV.str x2] ∧ ifP (has s1 x2 a3) (AV.int IntKind.i64 i7 = v) (ToEnd cfg2 31 (bodyOf Tryd.f31) (RetIs Tryd.prog Tryd.f31 v) [Fm.code [0, 1, 0, 1], Fm.block 0, Fm.code [1, 1]] XT.normal [(0, true, AV.str s0), (2, true, AV.str s2), (7, true, AV.int IntKind.i64 (IntKind.wrap IntKind.i64 (i7 + 1)))] [])) (AV.int IntKind.i64 (-1) = v)) :
    ToEnd cfg2 31 (bodyOf Tryd.f31) (RetIs Tryd.prog Tryd.f31 v) ([.code [0, 1, 0, 1], Fm.block 0, Fm.code [1, 1]]) .normal ([(0, true, AV.str s0), (2, true, AV.str s2), (7, true, AV.int IntKind.i64 i7)]) ([]) := by
  exact ends_round hT 100000 (by kernel_rfl) (show unr cfg2 31 (bodyOf Tryd.f31) (ctab [(28, HasC)]) ⟨[[0, 1, 0, 1]], []⟩ (RetIs Tryd.prog Tryd.f31 v) 100000 ([.code [0, 0, 1, 0, 1], .loop [0, 1, 0, 1] 0, Fm.block 0, Fm.code [1, 1]]) .normal ([(0, true, AV.str s0), (2, true, AV.str s2), (7, true, AV.int IntKind.i64 i7)]) ([]) from unr_use H (by kernel_rfl))

end Go.Proofs.YtolmmodgneodbaaDoor
end

section
namespace Go.Proofs.YtolmmodgneodbaaDoor
open Go.Ai Go Go.Ai.Ex
set_option linter.unusedSimpArgs false
set_option linter.unusedVariables false
set_option maxRecDepth 100000
theorem pf55 : pureFn cfg2 55 Tryd.f55 := ⟨by kernel_rfl, by kernel_rfl, by kernel_rfl, by kernel_rfl, by kernel_rfl, by kernel_rfl⟩
theorem pf42 : pureFn cfg2 42 Tryd.f42 := ⟨by kernel_rfl, by kernel_rfl, by kernel_rfl, by kernel_rfl, by kernel_rfl, by kernel_rfl⟩
theorem pf28 : pureFn cfg2 28 Tryd.f28 := ⟨by kernel_rfl, by kernel_rfl, by kernel_rfl, by kernel_rfl, by kernel_rfl, by kernel_rfl⟩
theorem pf29 : pureFn cfg2 29 Tryd.f29 := ⟨by kernel_rfl, by kernel_rfl, by kernel_rfl, by kernel_rfl, by kernel_rfl, by kernel_rfl⟩
theorem pf18 : pureFn cfg2 18 Tryd.f18 := ⟨by kernel_rfl, by kernel_rfl, by kernel_rfl, by kernel_rfl, by kernel_rfl, by kernel_rfl⟩
theorem pf43 : pureFn cfg2 43 Tryd.f43 := ⟨by kernel_rfl, by kernel_rfl, by kernel_rfl, by kernel_rfl, by kernel_rfl, by kernel_rfl⟩
theorem pf45 : pureFn cfg2 45 Tryd.f45 := ⟨by kernel_rfl, by kernel_rfl, by kernel_rfl, by kernel_rfl, by kernel_rfl, by kernel_rfl⟩
theorem pf44 : pureFn cfg2 44 Tryd.f44 := ⟨by kernel_rfl, by kernel_rfl, by kernel_rfl, by kernel_rfl, by kernel_rfl, by kernel_rfl⟩
theorem pf56 : pureFn cfg2 56 Tryd.f56 := ⟨by kernel_rfl, by kernel_rfl, by kernel_rfl, by kernel_rfl, by kernel_rfl, by kernel_rfl⟩
theorem pf31 : pureFn cfg2 31 Tryd.f31 := ⟨by kernel_rfl, by kernel_rfl, by kernel_rfl, by kernel_rfl, by kernel_rfl, by kernel_rfl⟩
theorem noT2 : TabOk cfg2 (ctab []) := ctab_ok ctab_nil
theorem c55 : COk cfg2 55 smallC := by
  refine cok_pure pf55 fun vs h K ht => ?_
  obtain ⟨c, rfl, hk⟩ := ht
  refine ⟨_, hk, t55 noT2 (ifP_intro (fun a => ?_) fun a => ?_)⟩
  · rw [sm_iff, a, Bool.true_and]
  · rw [sm_iff, a, Bool.false_and]
theorem byte_is (c : UInt8) (n : Nat) (hn : n < 256) : ((c.toNat : Int) == (n : Int)) = (c == UInt8.ofNat n) := by
  rw [Bool.eq_iff_iff]
  simp only [beq_iff_eq]
  constructor
  · intro h
    apply UInt8.toNat_inj.1
    simp
    omega
  · rintro rfl
    simp
    omega
theorem c42 : COk cfg2 42 blankC := by
  refine cok_pure pf42 fun vs h K ht => ?_
  obtain ⟨c, rfl, hk⟩ := ht
  have e1 : ((c.toNat : Int) == 32) = (c == 32) := byte_is c 32 (by omega)
  have e2 : ((c.toNat : Int) == 9) = (c == 9) := byte_is c 9 (by omega)
  have e3 : ((c.toNat : Int) == 10) = (c == 10) := byte_is c 10 (by omega)
  have e4 : ((c.toNat : Int) == 13) = (c == 13) := byte_is c 13 (by omega)
  refine ⟨_, hk, t42 noT2 ?_⟩
  rw [e1, e2, e3, e4]
  unfold blB
  cases c == 32 <;> cases c == 9 <;> cases c == 10 <;> cases c == 13 <;> rfl
theorem c28 : COk cfg2 28 HasC := by
  refine cok_pure pf28 fun vs h K ht => ?_
  obtain ⟨s, x, a, hx0, hs, hx, ha, rfl, hk⟩ := ht
  unfold limE at hs hx ha
  have hw : IntKind.wrap .i64 ((a : Int) + (x.length : Int)) = ((a + x.length : Nat) : Int) := by rw [wrap_in (by omega) (by omega)]; omega
  refine ⟨_, hk, t28 noT2 (ifP_intro (fun _ => ?_) fun y => ?_)⟩
  · rw [hw]
    have hp := pref_take x (s.drop a)
    rw [List.length_drop] at hp
    refine ifP_intro (fun y => ?_) fun y => ?_
    · have y : a + x.length ≤ s.length := by simp at y; omega
      obtain ⟨q1, q2⟩ := cut_cutL s (show a ≤ a + x.length by omega) y
      refine gAnd_intro q2 ?_
      rw [q1]
      unfold has cut
      rw [hp, decide_eq_true (by omega), Bool.true_and, show a + x.length - a = x.length by omega]
    · have y : ¬ a + x.length ≤ s.length := by simp at y; omega
      unfold has
      rw [hp]
      have : 0 < x.length := List.length_pos_iff.2 hx0
      rw [decide_eq_false (by omega), Bool.false_and]
  · simp at y
theorem tab29 : TabOk cfg2 (ctab [(28, HasC), (42, blankC)]) := ctab_ok (ctab_cons c28 (ctab_cons c42 ctab_nil))
theorem c29 : COk cfg2 29 hidesC := by
  refine cok_pure pf29 fun vs h K ht => ?_
  obtain ⟨s, a, hs, ha, rfl, hk⟩ := ht
  refine ⟨_, hk, t29 tab29 ⟨s, _, a, by simp, hs, by decide, ha, rfl, ?_⟩⟩
  unfold limE at hs ha
  have hw : IntKind.wrap .i64 ((a : Int) + 7) = ((a + 7 : Nat) : Int) := by rw [wrap_in (by omega) (by omega)]; omega
  rw [hw]
  show ifP (has s hidesS a) _ _
  refine ifP_intro (fun y => ifP_intro (fun z => ?_) fun z => ?_) fun y => ?_
  · have z : a + 7 < s.length := by simp at z; omega
    refine gAnd_intro (inR_nat z) ⟨s.getD (a + 7) 0, rfl, ?_⟩
    unfold hideB
    rw [y, decide_eq_true z]; rfl
  · have z : ¬ a + 7 < s.length := by simp at z; omega
    unfold hideB
    rw [decide_eq_false z, Bool.false_and, Bool.and_false]
  · unfold hideB
    rw [y]; rfl
theorem tab18 : TabOk cfg2 (ctab [(28, HasC), (29, hidesC)]) := ctab_ok (ctab_cons c28 (ctab_cons c29 ctab_nil))
theorem c18 : COk cfg2 18 specC := by
  refine cok_pure pf18 fun vs h K ht => ?_
  obtain ⟨s, a, hid, hs, ha, rfl, hk⟩ := ht
  refine ⟨_, hk, t18 tab18 ⟨s, opensS, a, by simp [opensS], hs, by decide, ha, rfl, ifP_intro (fun x => ?_) fun x => ⟨s, closesS, a, by simp [closesS], hs, by decide, ha, rfl, ifP_intro (fun y => ?_) fun y => ⟨s, a, hs, ha, rfl, ifP_intro (fun z => ?_) fun z => ifP_intro (fun w => ⟨s, showsS, a, by simp [showsS], hs, by decide, ha, rfl, ?_⟩) fun w => ?_⟩⟩⟩⟩
  all_goals (unfold spec; simp_all)
theorem tab43 : TabOk cfg2 (ctab [(55, smallC)]) := ctab_ok (ctab_cons c55 ctab_nil)
theorem tab45 : TabOk cfg2 (ctab [(42, blankC)]) := ctab_ok (ctab_cons c42 ctab_nil)
theorem loop43 {s : List UInt8} {a : Nat} (hs : s.length ≤ limE) (ha : a ≤ s.length) : ∀ (n j : Nat), lets s a = j + n →
    ToEnd cfg2 43 (bodyOf Tryd.f43) (RetIs Tryd.prog Tryd.f43 (.int .i64 (lets s a))) [.code [0, 0, 1, 1], .block 0, .code [1, 1, 1]] .normal [(0, true, .str s), (1, true, .int .i64 a), (5, true, .int .i64 j)] []
  | 0, j, hj => by
    have hl := lets_le s a
    unfold limE at hs
    have hw : IntKind.wrap .i64 ((a : Int) + (j : Int)) = ((a + j : Nat) : Int) := by rw [wrap_in (by omega) (by omega)]; omega
    refine t43a tab43 ?_
    rw [hw]
    refine ifP_intro (fun x => ?_) fun _ => by rw [hj]; rfl
    have x : a + j < s.length := by simp at x; omega
    refine gAnd_intro (inR_nat x) ⟨s.getD (a + j) 0, rfl, ifP_intro (fun y => ?_) fun _ => by rw [hj]; rfl⟩
    have := lets_no (s := s) (a := a) (by omega)
    rw [hj, Nat.add_zero, y] at this
    cases this
  | n + 1, j, hj => by
    have hl := lets_le s a
    have hs' := hs
    unfold limE at hs'
    have hw : IntKind.wrap .i64 ((a : Int) + (j : Int)) = ((a + j : Nat) : Int) := by rw [wrap_in (by omega) (by omega)]; omega
    have hw2 : IntKind.wrap .i64 ((j : Int) + 1) = ((j + 1 : Nat) : Int) := by rw [wrap_in (by omega) (by omega)]; omega
    obtain ⟨q1, q2⟩ := lets_yes (s := s) (a := a) (b := a + j) (by omega) (by omega)
    refine t43a tab43 ?_
    rw [hw, hw2]
    refine ifP_intro (fun x => gAnd_intro (inR_nat q1) ⟨s.getD (a + j) 0, rfl, ifP_intro (fun _ => loop43 hs ha n (j + 1) (by omega)) fun y => ?_⟩) fun x => ?_
    · rw [q2] at y; cases y
    · simp at x; omega
theorem c43 : COk cfg2 43 letsC := by
  refine cok_pure pf43 fun vs h K ht => ?_
  obtain ⟨s, a, hs, ha, rfl, hk⟩ := ht
  exact ⟨_, hk, t43 tab43 (loop43 hs ha (lets s a) 0 (by omega))⟩
theorem loop45 {s : List UInt8} {a : Nat} (hs : s.length ≤ limE) (ha : a ≤ s.length) : ∀ (n j : Nat), a ≤ j → past s a = j + n →
    ToEnd cfg2 45 (bodyOf Tryd.f45) (RetIs Tryd.prog Tryd.f45 (.int .i64 (past s a))) [.code [0, 0, 1], .block 0, .code [1, 1]] .normal [(0, true, .str s), (1, true, .int .i64 j)] []
  | 0, j, haj, hj => by
    rw [Nat.add_zero] at hj
    refine t45a tab45 (ifP_intro (fun x => ?_) fun _ => by rw [hj])
    have x : j < s.length := by simpa using x
    refine gAnd_intro (inR_nat x) ⟨s.getD j 0, rfl, ifP_intro (fun y => ?_) fun _ => by rw [hj]⟩
    have := past_no (s := s) (a := a) (by omega)
    rw [hj, y] at this
    cases this
  | n + 1, j, haj, hj => by
    obtain ⟨p1, p2⟩ := past_le ha
    have hs' := hs
    unfold limE at hs'
    have hw2 : IntKind.wrap .i64 ((j : Int) + 1) = ((j + 1 : Nat) : Int) := by rw [wrap_in (by omega) (by omega)]; omega
    obtain ⟨q1, q2⟩ := past_yes (s := s) (a := a) (b := j) (by omega) (by omega)
    refine t45a tab45 ?_
    rw [hw2]
    refine ifP_intro (fun x => gAnd_intro (inR_nat q1) ⟨s.getD j 0, rfl, ifP_intro (fun _ => loop45 hs ha n (j + 1) (by omega) (by omega)) fun y => ?_⟩) fun x => ?_
    · rw [q2] at y; cases y
    · simp at x; omega
theorem c45 : COk cfg2 45 pastC := by
  refine cok_pure pf45 fun vs h K ht => ?_
  obtain ⟨s, a, hs, ha, rfl, hk⟩ := ht
  obtain ⟨p1, p2⟩ := past_le ha
  exact ⟨_, hk, t45 tab45 (loop45 hs ha (past s a - a) a (Nat.le_refl _) (by omega))⟩
theorem c56 : COk cfg2 56 namesC := by
  refine cok_pure pf56 fun vs h K ht => ?_
  obtain ⟨hv, hk⟩ := ht
  obtain rfl := List.isEmpty_iff.1 hv
  exact ⟨_, hk, t56 noT2 rfl⟩
theorem tab44 : TabOk cfg2 (ctab [(56, namesC)]) := ctab_ok (ctab_cons c56 ctab_nil)
theorem loop44 (x : List UInt8) (l : List (List UInt8)) (hl : l.length ≤ 1000) : ∀ (n i : Nat), l.length - i = n → i ≤ l.length →
    ToEnd cfg2 44 (bodyOf Tryd.f44) (RetIs Tryd.prog Tryd.f44 (.bool ((l.drop i).any (· == x)))) [.code [0, 1, 0, 1, 1], .block 0, .code [1, 1, 1]] .normal [(0, true, .str x), (3, true, .sl 1 (l.map fun n => [.str n]) none), (4, true, .int .i64 i)] []
  | 0, i, hn, hi => by
    refine t44a tab44 (ifP_intro (fun a => ?_) fun _ => by rw [List.drop_of_length_le (by omega)]; rfl)
    simp at a; omega
  | n + 1, i, hn, hi => by
    have hlt : i < l.length := by omega
    refine t44a tab44 (ifP_intro (fun _ => gAnd_intro (by rw [List.length_map, inR_nat hlt]; rfl) ⟨l[i], getE_map _ l hlt, ?_⟩) fun a => ?_)
    · rw [any_drop (· == x) l hlt]
      refine ifP_intro (fun y => by rw [y]; rfl) fun y => ?_
      rw [y, Bool.false_or, show IntKind.wrap .i64 ((i : Int) + 1) = ((i + 1 : Nat) : Int) by rw [wrap_in (by omega) (by omega)]; omega]
      exact loop44 x l hl n (i + 1) (by omega) (by omega)
    · simp at a; omega
theorem c44 : COk cfg2 44 knownC := by
  refine cok_pure pf44 fun vs h K ht => ?_
  obtain ⟨s, rfl, hk⟩ := ht
  exact ⟨_, hk, t44 tab44 ⟨rfl, loop44 s namesL (by decide) 11 0 rfl (by decide)⟩⟩
theorem findR_step {s x : List UInt8} {i : Nat} (hx : x ≠ []) (hi : i + x.length ≤ s.length) : findR s x i = if has s x i = true then (i : Int) else findR s x (i + 1) := by
  have hx0 : 0 < x.length := List.length_pos_iff.2 hx
  have h : i < s.length := by omega
  have e : fnd x (s.drop i) = if has s x i = true then some 0 else (fnd x (s.drop (i + 1))).map (· + 1) := by
    unfold has
    rw [List.drop_eq_getElem_cons h, fnd]
  unfold findR
  rw [e]
  by_cases hp : has s x i = true
  · rw [if_pos hp, if_pos hp]; simp
  · rw [if_neg hp, if_neg hp]
    cases fnd x (s.drop (i + 1)) with
    | none => rfl
    | some m => simp only [Option.map_some]; omega
theorem findR_end {s x : List UInt8} {i : Nat} (hi : ¬ i + x.length ≤ s.length) (h : i ≤ s.length) : findR s x i = -1 := by
  unfold findR
  cases hf : fnd x (s.drop i) with
  | none => rfl
  | some n =>
    have := fnd_le hf
    rw [List.length_drop] at this
    omega
theorem tab31 : TabOk cfg2 (ctab [(28, HasC)]) := ctab_ok (ctab_cons c28 ctab_nil)
theorem loop31 {s x : List UInt8} (hx0 : x ≠ []) (hs : s.length ≤ limE) (hx : x.length ≤ limE) : ∀ (n i : Nat), s.length - i = n → i ≤ s.length →
    ToEnd cfg2 31 (bodyOf Tryd.f31) (RetIs Tryd.prog Tryd.f31 (.int .i64 (findR s x i))) [.code [0, 1, 0, 1], .block 0, .code [1, 1]] .normal [(0, true, .str s), (2, true, .str x), (7, true, .int .i64 i)] [] := by
  intro n
  induction n with
  | zero =>
    intro i hn hi
    have h1 : 0 < x.length := List.length_pos_iff.2 hx0
    unfold limE at hs hx
    have hw : IntKind.wrap .i64 ((i : Int) + (x.length : Int)) = ((i + x.length : Nat) : Int) := by rw [wrap_in (by omega) (by omega)]; omega
    refine t31a tab31 ?_
    rw [hw]
    refine ifP_intro (fun y => ?_) fun y => ?_
    · simp at y; omega
    · rw [findR_end (by omega) hi]
  | succ n ih =>
    intro i hn hi
    have hs' := hs
    have hx' := hx
    unfold limE at hs' hx'
    have hw : IntKind.wrap .i64 ((i : Int) + (x.length : Int)) = ((i + x.length : Nat) : Int) := by rw [wrap_in (by omega) (by omega)]; omega
    have hw2 : IntKind.wrap .i64 ((i : Int) + 1) = ((i + 1 : Nat) : Int) := by rw [wrap_in (by omega) (by omega)]; omega
    refine t31a tab31 ?_
    rw [hw, hw2]
    refine ifP_intro (fun y => ⟨s, x, i, hx0, hs, hx, by omega, rfl, ifP_intro (fun z => ?_) fun z => ?_⟩) fun y => ?_
    · have y : i + x.length ≤ s.length := by simp at y; omega
      rw [findR_step hx0 y, if_pos z]
    · have y : i + x.length ≤ s.length := by simp at y; omega
      rw [findR_step hx0 y, if_neg (by rw [z]; simp)]
      exact ih (i + 1) (by omega) (by omega)
    · have y : ¬ i + x.length ≤ s.length := by simp at y; omega
      rw [findR_end y hi]
theorem c31 : COk cfg2 31 fndC := by
  refine cok_pure pf31 fun vs h K ht => ?_
  obtain ⟨s, x, a, hx0, hs, hx, ha, rfl, hk⟩ := ht
  exact ⟨_, hk, t31 tab31 (loop31 hx0 hs hx (s.length - a) a rfl ha)⟩
end Go.Proofs.YtolmmodgneodbaaDoor
end

section
namespace Go.Proofs.YtolmmodgneodbaaDoor
open Go.Ai Go Go.Ai.Ex
set_option maxRecDepth 100000
set_option linter.unusedVariables false
theorem t32 {v : AV} {s : List UInt8} {tag : Int} (hT : TabOk cfg2 (ctab [(43, letsC), (44, knownC), (45, pastC)])) (H :
    ∃ (s1 : List UInt8), ∃ (a2 : Nat), List.length s1 ≤ 1000000 ∧ a2 ≤ List.length s1 ∧ [AV.str s, AV.int IntKind.i64 (IntKind.wrap IntKind.i64 (tag + 6))] = [AV.str s1, AV.int IntKind.i64 (↑a2 : Int)] ∧ gAnd (cutOb (List.length s) (some (IntKind.wrap IntKind.i64 (tag + 6))) (some (IntKind.wrap IntKind.i64 (IntKind.wrap IntKind.i64 (tag + 6) + (↑(lets s1 a2) : Int))))) (∃ (s3 : List UInt8), [AV.str (cutL s (some (IntKind.wrap IntKind.i64 (tag + 6))) (some (IntKind.wrap IntKind.i64 (IntKind.wrap IntKind.i64 (tag + 6) + (↑(lets s1 a2) : Int)))))] = [AV.str s3] ∧ ifP (!knownB s3) (AV.tup [AV.agg [AV.int IntKind.i64 4, AV.str (cutL s (some (IntKind.wrap IntKind.i64 (tag + 6))) (some (IntKind.wrap IntKind.i64 (IntKind.wrap IntKind.i64 (tag + 6) + (↑(lets s1 a2) : Int))))), AV.sl 3 [] none, AV.str [], AV.int IntKind.i64 tag, AV.int IntKind.i64 0], AV.int IntKind.i64 tag, AV.int IntKind.i64 11] = v) (∃ (s4 : List UInt8), ∃ (a5 : Nat), List.length s4 ≤ 1000000 ∧ a5 ≤ List.length s4 ∧ [AV.str s, AV.int IntKind.i64 (IntKind.wrap IntKind.i64 (IntKind.wrap IntKind.i64 (tag + 6) + (↑(lets s1 a2) : Int)))] = [AV.str s4, AV.int IntKind.i64 (↑a5 : Int)] ∧ ifP ((↑(past s4 a5) : Int) == (↑(List.length s) : Int)) (AV.tup [AV.agg [AV.int IntKind.i64 4, AV.str (cutL s (some (IntKind.wrap IntKind.i64 (tag + 6))) (some (IntKind.wrap IntKind.i64 (IntKind.wrap IntKind.i64 (tag + 6) + (↑(lets s1 a2) : Int))))), AV.sl 3 [] none, AV.str [], AV.int IntKind.i64 tag, AV.int IntKind.i64 0], AV.int IntKind.i64 tag, AV.int IntKind.i64 14] = v) (gAnd (inR (↑(past s4 a5) : Int) (List.length s)) (ifP ((↑(UInt8.toNat (List.getD s (Int.toNat (↑(past s4 a5) : Int)) 0)) : Int) != 62) (AV.tup [AV.agg [AV.int IntKind.i64 4, AV.str (cutL s (some (IntKind.wrap IntKind.i64 (tag + 6))) (some (IntKind.wrap IntKind.i64 (IntKind.wrap IntKind.i64 (tag + 6) + (↑(lets s1 a2) : Int))))), AV.sl 3 [] none, AV.str [], AV.int IntKind.i64 tag, AV.int IntKind.i64 0], AV.int IntKind.i64 tag, AV.int IntKind.i64 11] = v) (gAnd (cutOb (List.length s) (some tag) (some (IntKind.wrap IntKind.i64 ((↑(past s4 a5) : Int) + 1)))) (AV.tup [AV.agg [AV.int IntKind.i64 4, AV.str (cutL s (some (IntKind.wrap IntKind.i64 (tag + 6))) (some (IntKind.wrap IntKind.i64 (IntKind.wrap IntKind.i64 (tag + 6) + (↑(lets s1 a2) : Int))))), AV.sl 3 [] none, AV.str (cutL s (some tag) (some (IntKind.wrap IntKind.i64 ((↑(past s4 a5) : Int) + 1)))), AV.int IntKind.i64 tag, AV.int IntKind.i64 (IntKind.wrap IntKind.i64 ((↑(past s4 a5) : Int) + 1))], AV.int IntKind.i64 0, AV.int IntKind.i64 0] = v))))))) :
    ToEnd cfg2 32 (bodyOf Tryd.f32) (RetIs Tryd.prog Tryd.f32 v) ([.code []]) .normal ([(0, true, .str s), (1, true, .int .i64 tag)]) ([]) := by
  exact unr_ok hT 100000 _ _ _ _ (show unr cfg2 32 (bodyOf Tryd.f32) (ctab [(43, letsC), (44, knownC), (45, pastC)]) ⟨[], []⟩ (RetIs Tryd.prog Tryd.f32 v) 100000 ([.code []]) .normal ([(0, true, .str s), (1, true, .int .i64 tag)]) ([]) from unr_use H (by kernel_rfl))

theorem t46 {v : AV} {s : List UInt8} {at' tag : Int} {es : List (List AV)} (hT : TabOk cfg2 (ctab [(43, letsC)])) (H :
    ∃ (s1 : List UInt8), ∃ (a2 : Nat), List.length s1 ≤ 1000000 ∧ a2 ≤ List.length s1 ∧ [AV.str s, AV.int IntKind.i64 at'] = [AV.str s1, AV.int IntKind.i64 (↑a2 : Int)] ∧ ifP (decide ((↑(lets s1 a2) : Int) > 16)) (gAnd (cutOb (List.length s) (some at') (some (IntKind.wrap IntKind.i64 (at' + 16)))) (ToEnd cfg2 46 (bodyOf Tryd.f46) (RetIs Tryd.prog Tryd.f46 v) [Fm.code [0, 1, 0, 1, 1, 1, 1], Fm.block 0, Fm.code [1, 1, 1, 1, 1]] XT.normal [(0, true, AV.str s), (1, true, AV.int IntKind.i64 at'), (2, true, AV.int IntKind.i64 tag), (3, true, AV.sl 3 es none), (8, true, AV.ptr 0 0), (12, true, AV.int IntKind.i64 16), (13, true, AV.ptr 1 0), (14, true, AV.int IntKind.i64 0)] [Blk.mem 40 [AV.str [], AV.str [], AV.int IntKind.i64 0], Blk.mem 40 [AV.str (cutL s (some at') (some (IntKind.wrap IntKind.i64 (at' + 16)))), AV.str [], AV.int IntKind.i64 at']])) (gAnd (cutOb (List.length s) (some at') (some (IntKind.wrap IntKind.i64 (at' + (↑(lets s1 a2) : Int))))) (ToEnd cfg2 46 (bodyOf Tryd.f46) (RetIs Tryd.prog Tryd.f46 v) [Fm.code [0, 1, 0, 1, 1, 1, 1], Fm.block 0, Fm.code [1, 1, 1, 1, 1]] XT.normal [(0, true, AV.str s), (1, true, AV.int IntKind.i64 at'), (2, true, AV.int IntKind.i64 tag), (3, true, AV.sl 3 es none), (8, true, AV.ptr 0 0), (12, true, AV.int IntKind.i64 (↑(lets s1 a2) : Int)), (13, true, AV.ptr 1 0), (14, true, AV.int IntKind.i64 0)] [Blk.mem 40 [AV.str [], AV.str [], AV.int IntKind.i64 0], Blk.mem 40 [AV.str (cutL s (some at') (some (IntKind.wrap IntKind.i64 (at' + (↑(lets s1 a2) : Int))))), AV.str [], AV.int IntKind.i64 at']]))) :
    ToEnd cfg2 46 (bodyOf Tryd.f46) (RetIs Tryd.prog Tryd.f46 v) ([.code []]) .normal ([(0, true, .str s), (1, true, .int .i64 at'), (2, true, .int .i64 tag), (3, true, .sl 3 es none)]) ([]) := by
  exact unr_ok hT 100000 _ _ _ _ (show unr cfg2 46 (bodyOf Tryd.f46) (ctab [(43, letsC)]) ⟨[[0, 1, 0, 1, 1, 1, 1], [0, 1, 0, 1, 1, 1, 1, 1, 1, 1, 1, 1, 1, 1, 1]], [([0, 0, 0, 1, 0, 0, 1, 0, 1, 1, 1, 1], 2, [.str, .str, .int .i64])]⟩ (RetIs Tryd.prog Tryd.f46 v) 100000 ([.code []]) .normal ([(0, true, .str s), (1, true, .int .i64 at'), (2, true, .int .i64 tag), (3, true, .sl 3 es none)]) ([]) from unr_use H (by kernel_rfl))

theorem t46a {v : AV} {s : List UInt8} {at' tag : Int} {es : List (List AV)} {n : Int} {nm : List UInt8} {i : Int} (hT : TabOk cfg2 (ctab [(43, letsC)])) (H :
    ifP (decide (i < (↑(List.length es) : Int))) (gAnd (inR i (List.length es) && true && true) (∃ (s1 : List UInt8), ∃ (s2 : List UInt8), ∃ (z3 : Int), getE es i = [AV.str s1, AV.str s2, AV.int IntKind.i64 z3] ∧ ifP (s1 == nm) (AV.tup [AV.agg [AV.str nm, AV.str [], AV.int IntKind.i64 at'], AV.int IntKind.i64 0, AV.int IntKind.i64 at', AV.int IntKind.i64 12] = v) (ToEnd cfg2 46 (bodyOf Tryd.f46) (RetIs Tryd.prog Tryd.f46 v) [Fm.code [0, 1, 0, 1, 1, 1, 1], Fm.block 0, Fm.code [1, 1, 1, 1, 1]] XT.normal [(0, true, AV.str s), (1, true, AV.int IntKind.i64 at'), (2, true, AV.int IntKind.i64 tag), (3, true, AV.sl 3 es none), (8, true, AV.ptr 0 0), (12, true, AV.int IntKind.i64 n), (13, true, AV.ptr 1 0), (14, true, AV.int IntKind.i64 (IntKind.wrap IntKind.i64 (i + 1)))] [Blk.mem 40 [AV.str [], AV.str [], AV.int IntKind.i64 0], Blk.mem 40 [AV.str nm, AV.str [], AV.int IntKind.i64 at']])))
  (ifP (IntKind.wrap IntKind.i64 (at' + n) == (↑(List.length s) : Int)) (AV.tup [AV.agg [AV.str nm, AV.str [], AV.int IntKind.i64 at'], AV.int IntKind.i64 0, AV.int IntKind.i64 tag, AV.int IntKind.i64 14] = v) (ifP (n == 0) (AV.tup [AV.agg [AV.str nm, AV.str [], AV.int IntKind.i64 at'], AV.int IntKind.i64 0, AV.int IntKind.i64 (IntKind.wrap IntKind.i64 (at' + n)), AV.int IntKind.i64 12] = v) (gAnd (inR (IntKind.wrap IntKind.i64 (at' + n)) (List.length s)) (ifP ((↑(UInt8.toNat (List.getD s (Int.toNat (IntKind.wrap IntKind.i64 (at' + n))) 0)) : Int) != 61) (AV.tup [AV.agg [AV.str nm, AV.str [], AV.int IntKind.i64 at'], AV.int IntKind.i64 0, AV.int IntKind.i64 (IntKind.wrap IntKind.i64 (at' + n)), AV.int IntKind.i64 12] = v) (ifP (IntKind.wrap IntKind.i64 (IntKind.wrap IntKind.i64 (at' + n) + 1) == (↑(List.length s) : Int)) (AV.tup [AV.agg [AV.str nm, AV.str [], AV.int IntKind.i64 at'], AV.int IntKind.i64 0, AV.int IntKind.i64 tag, AV.int IntKind.i64 14] = v) (gAnd (inR (IntKind.wrap IntKind.i64 (IntKind.wrap IntKind.i64 (at' + n) + 1)) (List.length s)) (ifP ((↑(UInt8.toNat (List.getD s (Int.toNat (IntKind.wrap IntKind.i64 (IntKind.wrap IntKind.i64 (at' + n) + 1))) 0)) : Int) != 34) (ifP ((↑(UInt8.toNat (List.getD s (Int.toNat (IntKind.wrap IntKind.i64 (IntKind.wrap IntKind.i64 (at' + n) + 1))) 0)) : Int) != 39) (AV.tup [AV.agg [AV.str nm, AV.str [], AV.int IntKind.i64 at'], AV.int IntKind.i64 0, AV.int IntKind.i64 (IntKind.wrap IntKind.i64 (IntKind.wrap IntKind.i64 (at' + n) + 1)), AV.int IntKind.i64 12] = v) (ToEnd cfg2 46 (bodyOf Tryd.f46) (RetIs Tryd.prog Tryd.f46 v) [Fm.code [0, 1, 0, 1, 1, 1, 1, 1, 1, 1, 1, 1, 1, 1, 1], Fm.block 2, Fm.code [1, 1, 1, 1, 1, 1, 1, 1, 1, 1, 1, 1, 1]] XT.normal [(0, true, AV.str s), (2, true, AV.int IntKind.i64 tag), (8, true, AV.ptr 0 0), (13, true, AV.ptr 1 0), (15, true, AV.int IntKind.i64 (IntKind.wrap IntKind.i64 (IntKind.wrap IntKind.i64 (at' + n) + 1))), (16, true, AV.int IntKind.u8 (↑(UInt8.toNat (List.getD s (Int.toNat (IntKind.wrap IntKind.i64 (IntKind.wrap IntKind.i64 (at' + n) + 1))) 0)) : Int)), (17, true, AV.int IntKind.i64 (IntKind.wrap IntKind.i64 (IntKind.wrap IntKind.i64 (IntKind.wrap IntKind.i64 (at' + n) + 1) + 1)))] [Blk.mem 40 [AV.str [], AV.str [], AV.int IntKind.i64 0], Blk.mem 40 [AV.str nm, AV.str [], AV.int IntKind.i64 at']])) (ToEnd cfg2 46 (bodyOf Tryd.f46) (RetIs Tryd.prog Tryd.f46 v) [Fm.code [0, 1, 0, 1, 1, 1, 1, 1, 1, 1, 1, 1, 1, 1, 1], Fm.block 2, Fm.code [1, 1, 1, 1, 1, 1, 1, 1, 1, 1, 1, 1, 1]] XT.normal [(0, true, AV.str s), (2, true, AV.int IntKind.i64 tag), (8, true, AV.ptr 0 0), (13, true, AV.ptr 1 0), (15, true, AV.int IntKind.i64 (IntKind.wrap IntKind.i64 (IntKind.wrap IntKind.i64 (at' + n) + 1))), (16, true, AV.int IntKind.u8 (↑(UInt8.toNat (List.getD s (Int.toNat (IntKind.wrap IntKind.i64 (IntKind.wrap IntKind.i64 (at' + n) + 1))) 0)) : Int)), (17, true, AV.int IntKind.i64 (IntKind.wrap IntKind.i64 (IntKind.wrap IntKind.i64 (IntKind.wrap IntKind.i64 (at' + n) + 1) + 1)))] [Blk.mem 40 [AV.str [], AV.str [], AV.int IntKind.i64 0], Blk.mem 40 [AV.str nm, AV.str [], AV.int IntKind.i64 at']]))))))))) :
    ToEnd cfg2 46 (bodyOf Tryd.f46) (RetIs Tryd.prog Tryd.f46 v) ([.code [0, 1, 0, 1, 1, 1, 1], .block 0, .code [1, 1, 1, 1, 1]]) .normal ([(0, true, .str s), (1, true, .int .i64 at'), (2, true, .int .i64 tag), (3, true, .sl 3 es none), (8, true, .ptr 0 0), (12, true, .int .i64 n), (13, true, .ptr 1 0), (14, true, .int .i64 i)]) ([.mem 40 [.str [], .str [], .int .i64 0], .mem 40 [.str nm, .str [], .int .i64 at']]) := by
  exact ends_round hT 100000 (by kernel_rfl) (show unr cfg2 46 (bodyOf Tryd.f46) (ctab [(43, letsC)]) ⟨[[0, 1, 0, 1, 1, 1, 1], [0, 1, 0, 1, 1, 1, 1, 1, 1, 1, 1, 1, 1, 1, 1]], [([0, 0, 0, 1, 0, 0, 1, 0, 1, 1, 1, 1], 2, [.str, .str, .int .i64])]⟩ (RetIs Tryd.prog Tryd.f46 v) 100000 ([.code [0, 0, 1, 0, 1, 1, 1, 1], .loop [0, 1, 0, 1, 1, 1, 1] 2, .block 0, .code [1, 1, 1, 1, 1]]) .normal ([(0, true, .str s), (1, true, .int .i64 at'), (2, true, .int .i64 tag), (3, true, .sl 3 es none), (8, true, .ptr 0 0), (12, true, .int .i64 n), (13, true, .ptr 1 0), (14, true, .int .i64 i)]) ([.mem 40 [.str [], .str [], .int .i64 0], .mem 40 [.str nm, .str [], .int .i64 at']]) from unr_use H (by kernel_rfl))

theorem t46b {v : AV} {s : List UInt8} {at' tag i j m : Int} {nm : List UInt8} (hT : TabOk cfg2 (ctab [(43, letsC)])) (H :
    ifP (decide (j < (↑(List.length s) : Int))) (gAnd (inR j (List.length s)) (ifP ((↑(UInt8.toNat (List.getD s (Int.toNat j) 0)) : Int) == m) (gAnd (cutOb (List.length s) (some (IntKind.wrap IntKind.i64 (i + 1))) (some j)) (AV.tup [AV.agg [AV.str nm, AV.str (cutL s (some (IntKind.wrap IntKind.i64 (i + 1))) (some j)), AV.int IntKind.i64 at'], AV.int IntKind.i64 (IntKind.wrap IntKind.i64 (j + 1)), AV.int IntKind.i64 0, AV.int IntKind.i64 0] = v)) (ToEnd cfg2 46 (bodyOf Tryd.f46) (RetIs Tryd.prog Tryd.f46 v) [Fm.code [0, 1, 0, 1, 1, 1, 1, 1, 1, 1, 1, 1, 1, 1, 1], Fm.block 2, Fm.code [1, 1, 1, 1, 1, 1, 1, 1, 1, 1, 1, 1, 1]] XT.normal [(0, true, AV.str s), (2, true, AV.int IntKind.i64 tag), (8, true, AV.ptr 0 0), (13, true, AV.ptr 1 0), (15, true, AV.int IntKind.i64 i), (16, true, AV.int IntKind.u8 m), (17, true, AV.int IntKind.i64 (IntKind.wrap IntKind.i64 (j + 1)))] [Blk.mem 40 [AV.str [], AV.str [], AV.int IntKind.i64 0], Blk.mem 40 [AV.str nm, AV.str [], AV.int IntKind.i64 at']]))) (AV.tup [AV.agg [AV.str nm, AV.str [], AV.int IntKind.i64 at'], AV.int IntKind.i64 0, AV.int IntKind.i64 tag, AV.int IntKind.i64 14] = v)) :
    ToEnd cfg2 46 (bodyOf Tryd.f46) (RetIs Tryd.prog Tryd.f46 v) ([.code [0, 1, 0, 1, 1, 1, 1, 1, 1, 1, 1, 1, 1, 1, 1], .block 2, .code [1, 1, 1, 1, 1, 1, 1, 1, 1, 1, 1, 1, 1]]) .normal ([(0, true, .str s), (2, true, .int .i64 tag), (8, true, .ptr 0 0), (13, true, .ptr 1 0), (15, true, .int .i64 i), (16, true, .int .u8 m), (17, true, .int .i64 j)]) ([.mem 40 [.str [], .str [], .int .i64 0], .mem 40 [.str nm, .str [], .int .i64 at']]) := by
  exact ends_round hT 100000 (by kernel_rfl) (show unr cfg2 46 (bodyOf Tryd.f46) (ctab [(43, letsC)]) ⟨[[0, 1, 0, 1, 1, 1, 1], [0, 1, 0, 1, 1, 1, 1, 1, 1, 1, 1, 1, 1, 1, 1]], [([0, 0, 0, 1, 0, 0, 1, 0, 1, 1, 1, 1], 2, [.str, .str, .int .i64])]⟩ (RetIs Tryd.prog Tryd.f46 v) 100000 ([.code [0, 0, 1, 0, 1, 1, 1, 1, 1, 1, 1, 1, 1, 1, 1, 1], .loop [0, 1, 0, 1, 1, 1, 1, 1, 1, 1, 1, 1, 1, 1, 1] 2, .block 2, .code [1, 1, 1, 1, 1, 1, 1, 1, 1, 1, 1, 1, 1]]) .normal ([(0, true, .str s), (2, true, .int .i64 tag), (8, true, .ptr 0 0), (13, true, .ptr 1 0), (15, true, .int .i64 i), (16, true, .int .u8 m), (17, true, .int .i64 j)]) ([.mem 40 [.str [], .str [], .int .i64 0], .mem 40 [.str nm, .str [], .int .i64 at']]) from unr_use H (by kernel_rfl))

end Go.Proofs.YtolmmodgneodbaaDoor
end

section
namespace Go.Proofs.YtolmmodgneodbaaDoor
open Go.Ai Go Go.Ai.Ex
set_option linter.unusedSimpArgs false
set_option linter.unusedVariables false
set_option maxRecDepth 100000
theorem pf32 : pureFn cfg2 32 Tryd.f32 := ⟨by kernel_rfl, by kernel_rfl, by kernel_rfl, by kernel_rfl, by kernel_rfl, by kernel_rfl⟩
theorem pf46 : pureFn cfg2 46 Tryd.f46 := ⟨by kernel_rfl, by kernel_rfl, by kernel_rfl, by kernel_rfl, by kernel_rfl, by kernel_rfl⟩
theorem byteN (c : UInt8) (n : Nat) (hn : n < 256) : ((c.toNat : Int) != (n : Int)) = (c != UInt8.ofNat n) := by
  simp only [bne]
  rw [byte_is c n hn]
def closedV (s : List UInt8) (tag : Nat) : AV := match closeM s tag with
  | .error (p, e) => .tup [.agg (encT ⟨4, (s.drop (tag + 6)).take (lets s (tag + 6)), [], [], tag, 0⟩), .int .i64 p, .int .i64 e]
  | .ok t => .tup [.agg (encT t), .int .i64 0, .int .i64 0]
theorem tab32 : TabOk cfg2 (ctab [(43, letsC), (44, knownC), (45, pastC)]) := ctab_ok (ctab_cons c43 (ctab_cons c44 (ctab_cons c45 ctab_nil)))
theorem wr {n : Int} {m : Nat} (h : n = m) (hm : m ≤ 4000000) : IntKind.wrap .i64 n = m := by rw [wrap_in (by omega) (by omega)]; exact h
theorem run32 {s : List UInt8} {tag : Nat} (hs : s.length ≤ limE) (ht : tag + 6 ≤ s.length) : ToEnd cfg2 32 (bodyOf Tryd.f32) (RetIs Tryd.prog Tryd.f32 (closedV s tag)) [.code []] .normal [(0, true, .str s), (1, true, .int .i64 tag)] [] := by
  have hs' : s.length ≤ 1000000 := hs
  have hn := lets_le s (tag + 6)
  have w1 : IntKind.wrap .i64 ((tag : Int) + 6) = ((tag + 6 : Nat) : Int) := wr (by omega) (by omega)
  have w2 : IntKind.wrap .i64 (((tag + 6 : Nat) : Int) + ((lets s (tag + 6) : Nat) : Int)) = ((tag + 6 + lets s (tag + 6) : Nat) : Int) := wr (by omega) (by omega)
  obtain ⟨q1, q2⟩ := cut_cutL s (show tag + 6 ≤ tag + 6 + lets s (tag + 6) by omega) (by omega)
  have hcut : cut s (tag + 6) (tag + 6 + lets s (tag + 6)) = (s.drop (tag + 6)).take (lets s (tag + 6)) := by unfold cut; rw [Nat.add_sub_cancel_left]
  obtain ⟨p1, p2⟩ := past_le (s := s) (a := tag + 6 + lets s (tag + 6)) (by omega)
  have w3 : IntKind.wrap .i64 (((past s (tag + 6 + lets s (tag + 6)) : Nat) : Int) + 1) = ((past s (tag + 6 + lets s (tag + 6)) + 1 : Nat) : Int) := wr (by omega) (by omega)
  refine t32 tab32 ⟨s, tag + 6, hs, ht, by rw [w1], ?_⟩
  rw [w1, w2, q1, hcut]
  refine gAnd_intro q2 ⟨_, rfl, ifP_intro (fun x => ?_) fun x => ⟨s, tag + 6 + lets s (tag + 6), hs, by omega, rfl, ifP_intro (fun y => ?_) fun y => gAnd_intro ?_ (ifP_intro (fun z => ?_) fun z => gAnd_intro ?_ ?_)⟩⟩
  · have x : knownB ((s.drop (tag + 6)).take (lets s (tag + 6))) = false := by simpa using x
    unfold closedV closeM
    simp only [x, if_pos]
    rfl
  · have x : ¬ knownB ((s.drop (tag + 6)).take (lets s (tag + 6))) = false := by simpa using x
    have y : s.length ≤ past s (tag + 6 + lets s (tag + 6)) := by simp at y; omega
    unfold closedV closeM
    simp only [if_neg x, if_pos y]
    rfl
  · exact inR_nat (by simp at y; omega)
  · have x : ¬ knownB ((s.drop (tag + 6)).take (lets s (tag + 6))) = false := by simpa using x
    have y : ¬ s.length ≤ past s (tag + 6 + lets s (tag + 6)) := by simp at y; omega
    have z : s.getD (past s (tag + 6 + lets s (tag + 6))) 0 ≠ 62 := by
      have := z.symm.trans (byteN _ 62 (by omega))
      simpa using this
    unfold closedV closeM
    simp only [if_neg x, if_neg y, if_pos z]
    rfl
  all_goals
    have x : ¬ knownB ((s.drop (tag + 6)).take (lets s (tag + 6))) = false := by simpa using x
    have y : ¬ s.length ≤ past s (tag + 6 + lets s (tag + 6)) := by simp at y; omega
    obtain ⟨r1, r2⟩ := cut_cutL s (show tag ≤ past s (tag + 6 + lets s (tag + 6)) + 1 by omega) (by omega)
    rw [w3]
  · exact r2
  · have z : ¬ s.getD (past s (tag + 6 + lets s (tag + 6))) 0 ≠ 62 := by
      have := z.symm.trans (byteN _ 62 (by omega))
      simpa using this
    rw [r1]
    unfold closedV closeM
    simp only [if_neg x, if_neg y, if_neg z]
    rfl
theorem c32 : COk cfg2 32 closedC := by
  refine cok_pure pf32 fun vs h K ht => ?_
  obtain ⟨s, tag, hs, htg, rfl, h1, h2⟩ := ht
  refine ⟨closedV s tag, ?_, run32 hs htg⟩
  unfold closedV
  cases hc : closeM s tag with
  | error x => obtain ⟨p, e⟩ := x; exact h1 p e hc
  | ok t => exact h2 t hc
theorem tab46 : TabOk cfg2 (ctab [(43, letsC)]) := ctab_ok (ctab_cons c43 ctab_nil)
theorem fnd_step1 {s : List UInt8} {m : UInt8} {j : Nat} (h : j < s.length) : fnd [m] (s.drop j) = if s.getD j 0 = m then some 0 else (fnd [m] (s.drop (j + 1))).map (· + 1) := by
  have e : s.getD j 0 = s[j] := by simp [List.getD_eq_getElem?_getD, h]
  rw [e, List.drop_eq_getElem_cons h, fnd]
  by_cases hm : s[j] = m
  · rw [if_pos hm, if_pos (by rw [hm]; simp [List.isPrefixOf])]
  · rw [if_neg hm, if_neg (by simp [List.isPrefixOf]; exact fun h => hm h.symm)]
/-- The value behind a mark. -/
def valV (s nm : List UInt8) (a tag b : Nat) (m : UInt8) : AV := match fnd [m] (s.drop b) with
  | none => .tup [.agg (encA ⟨nm, [], a⟩), .int .i64 0, .int .i64 tag, .int .i64 14]
  | some k => .tup [.agg (encA ⟨nm, (s.drop b).take k, a⟩), .int .i64 ((b + k + 1 : Nat) : Int), .int .i64 0, .int .i64 0]
theorem loop46b {s nm : List UInt8} {a tag i : Nat} {m : UInt8} (hs : s.length ≤ limE) (hi : i < s.length) : ∀ (k j : Nat), s.length - j = k → i + 1 ≤ j → j ≤ s.length → fnd [m] (s.drop (i + 1)) = (fnd [m] (s.drop j)).map (· + (j - (i + 1))) →
    ToEnd cfg2 46 (bodyOf Tryd.f46) (RetIs Tryd.prog Tryd.f46 (valV s nm a tag (i + 1) m)) [.code [0, 1, 0, 1, 1, 1, 1, 1, 1, 1, 1, 1, 1, 1, 1], .block 2, .code [1, 1, 1, 1, 1, 1, 1, 1, 1, 1, 1, 1, 1]] .normal
      [(0, true, .str s), (2, true, .int .i64 tag), (8, true, .ptr 0 0), (13, true, .ptr 1 0), (15, true, .int .i64 i), (16, true, .int .u8 m.toNat), (17, true, .int .i64 j)] [.mem 40 [.str [], .str [], .int .i64 0], .mem 40 [.str nm, .str [], .int .i64 a]] := by
  have hs' : s.length ≤ 1000000 := hs
  intro k
  induction k with
  | zero =>
    intro j hk hj hjs hf
    have : j = s.length := by omega
    subst this
    refine t46b tab46 (ifP_intro (fun x => ?_) fun _ => ?_)
    · simp at x
    · have hn : fnd [m] (s.drop (i + 1)) = none := by rw [hf, List.drop_of_length_le (Nat.le_refl _)]; rfl
      unfold valV
      rw [hn]
      rfl
  | succ k ih =>
    intro j hk hj hjs hf
    have hlt : j < s.length := by omega
    have hst := fnd_step1 (s := s) (m := m) hlt
    have hb : (((s.getD j 0).toNat : Int) == (m.toNat : Int)) = (s.getD j 0 == m) := by
      rw [Bool.eq_iff_iff]
      simp only [beq_iff_eq]
      constructor
      · intro h
        apply UInt8.toNat_inj.1
        omega
      · intro h; rw [h]
    refine t46b tab46 (ifP_intro (fun x => gAnd_intro (inR_nat hlt) ?_) fun x => ?_)
    · show ifP (((s.getD j 0).toNat : Int) == (m.toNat : Int)) _ _
      rw [hb]
      refine ifP_intro (fun y => ?_) fun y => ?_
      · have y : s.getD j 0 = m := by simpa using y
        rw [if_pos y] at hst
        rw [hst] at hf
        have w1 : IntKind.wrap .i64 ((i : Int) + 1) = ((i + 1 : Nat) : Int) := wr (by omega) (by omega)
        have w2 : IntKind.wrap .i64 ((j : Int) + 1) = ((j + 1 : Nat) : Int) := wr (by omega) (by omega)
        obtain ⟨q1, q2⟩ := cut_cutL s hj hjs
        rw [w1, w2, q1]
        refine gAnd_intro q2 ?_
        unfold valV
        rw [hf]
        simp only [Option.map_some, Nat.zero_add]
        rw [show i + 1 + (j - (i + 1)) + 1 = j + 1 by omega]
        rfl
      · have y : ¬ s.getD j 0 = m := by simpa using y
        rw [if_neg y] at hst
        rw [hst] at hf
        rw [show IntKind.wrap .i64 ((j : Int) + 1) = ((j + 1 : Nat) : Int) from wr (by omega) (by omega)]
        refine ih (j + 1) (by omega) (by omega) (by omega) ?_
        rw [hf, Option.map_map]
        congr 1
        funext z
        simp only [Function.comp]
        omega
    · simp at x; omega
def attrV (s : List UInt8) (a tag : Nat) (l : List Att) (n : Nat) : AV := match attrM s a tag l with
  | .error (p, e) => .tup [.agg (encA ⟨(s.drop a).take n, [], a⟩), .int .i64 0, .int .i64 p, .int .i64 e]
  | .ok (x, b) => .tup [.agg (encA x), .int .i64 b, .int .i64 0, .int .i64 0]
theorem val_attr {s : List UInt8} {a tag : Nat} {l : List Att} {n : Nat} (hn : n = min (lets s a) 16) (h1 : ¬ l.any (fun c => (s.drop a).take n == c.name) = true) (h2 : ¬ s.length ≤ a + n) (h3 : ¬ (n = 0 ∨ s.getD (a + n) 0 ≠ 61)) (h4 : ¬ s.length ≤ a + n + 1) (h5 : ¬ (s.getD (a + n + 1) 0 ≠ 34 ∧ s.getD (a + n + 1) 0 ≠ 39)) :
    attrV s a tag l n = valV s ((s.drop a).take n) a tag (a + n + 1 + 1) (s.getD (a + n + 1) 0) := by
  unfold attrV valV
  rw [attrM_eq s a tag l hn, if_neg h1, if_neg h2, if_neg h3, if_neg h4, if_neg h5]
  show _ = match fnd [s.getD (a + n + 1) 0] (s.drop (a + n + 2)) with | none => _ | some k => _
  cases fnd [s.getD (a + n + 1) 0] (s.drop (a + n + 2)) <;> rfl
theorem loop46a {s : List UInt8} {a tag n : Nat} {l : List Att} (hs : s.length ≤ limE) (ha : a ≤ s.length) (htg : tag ≤ s.length) (hl : l.length ≤ limE) (hn : n = min (lets s a) 16) : ∀ (r p : List Att), l = p ++ r → p.any (fun c => (s.drop a).take n == c.name) = false →
    ToEnd cfg2 46 (bodyOf Tryd.f46) (RetIs Tryd.prog Tryd.f46 (attrV s a tag l n)) [.code [0, 1, 0, 1, 1, 1, 1], .block 0, .code [1, 1, 1, 1, 1]] .normal
      [(0, true, .str s), (1, true, .int .i64 a), (2, true, .int .i64 tag), (3, true, .sl 3 (encAs l) none), (8, true, .ptr 0 0), (12, true, .int .i64 n), (13, true, .ptr 1 0), (14, true, .int .i64 p.length)]
      [.mem 40 [.str [], .str [], .int .i64 0], .mem 40 [.str ((s.drop a).take n), .str [], .int .i64 a]]
  | [], p, hp, hany => by
    rw [List.append_nil] at hp
    subst hp
    have hs' : s.length ≤ 1000000 := hs
    have hnl := lets_le s a
    have h1 : ¬ l.any (fun c => (s.drop a).take n == c.name) = true := by rw [hany]; simp
    have w1 : IntKind.wrap .i64 ((a : Int) + (n : Int)) = ((a + n : Nat) : Int) := wr (by omega) (by omega)
    have w2 : IntKind.wrap .i64 (((a + n : Nat) : Int) + 1) = ((a + n + 1 : Nat) : Int) := wr (by omega) (by omega)
    have w3 : IntKind.wrap .i64 (((a + n + 1 : Nat) : Int) + 1) = ((a + n + 1 + 1 : Nat) : Int) := wr (by omega) (by omega)
    refine t46a tab46 (ifP_intro (fun x => ?_) fun _ => ?_)
    · simp [encAs] at x
    rw [w1, w2, w3]
    have b61 := byteN (s.getD (a + n) 0) 61 (by omega)
    have b34 := byteN (s.getD (a + n + 1) 0) 34 (by omega)
    have b39 := byteN (s.getD (a + n + 1) 0) 39 (by omega)
    refine ifP_intro (fun x => ?_) fun x => ifP_intro (fun y => ?_) fun y => gAnd_intro ?_ (ifP_intro (fun z => ?_) fun z => ifP_intro (fun u => ?_) fun u => gAnd_intro ?_ ?_)
    · have h2 : s.length ≤ a + n := by simp at x; omega
      unfold attrV
      rw [attrM_eq s a tag l hn, if_neg h1, if_pos h2]
      rfl
    · have h2 : ¬ s.length ≤ a + n := by simp at x; omega
      have h3 : n = 0 := by simpa using y
      unfold attrV
      rw [attrM_eq s a tag l hn, if_neg h1, if_neg h2, if_pos (.inl h3)]
      rfl
    · exact inR_nat (by simp at x; omega)
    · have h2 : ¬ s.length ≤ a + n := by simp at x; omega
      have h3 : s.getD (a + n) 0 ≠ 61 := by simpa using b61.symm.trans z
      unfold attrV
      rw [attrM_eq s a tag l hn, if_neg h1, if_neg h2, if_pos (.inr h3)]
      rfl
    all_goals
      have h2 : ¬ s.length ≤ a + n := by simp at x; omega
      have h3 : ¬ (n = 0 ∨ s.getD (a + n) 0 ≠ 61) := by
        have z' : (s.getD (a + n) 0 != 61) = false := b61.symm.trans z
        have y' : ¬ n = 0 := by simpa using y
        simp at z'
        rintro (h | h)
        · exact y' h
        · exact h (by simpa using z')
    · have h4 : s.length ≤ a + n + 1 := by simp at u; omega
      unfold attrV
      rw [attrM_eq s a tag l hn, if_neg h1, if_neg h2, if_neg h3, if_pos h4]
      rfl
    · exact inR_nat (by simp at u; omega)
    · have h4 : ¬ s.length ≤ a + n + 1 := by simp at u; omega
      have go : ¬ (s.getD (a + n + 1) 0 ≠ 34 ∧ s.getD (a + n + 1) 0 ≠ 39) → ToEnd cfg2 46 (bodyOf Tryd.f46) (RetIs Tryd.prog Tryd.f46 (attrV s a tag l n)) [.code [0, 1, 0, 1, 1, 1, 1, 1, 1, 1, 1, 1, 1, 1, 1], .block 2, .code [1, 1, 1, 1, 1, 1, 1, 1, 1, 1, 1, 1, 1]] .normal
          [(0, true, .str s), (2, true, .int .i64 tag), (8, true, .ptr 0 0), (13, true, .ptr 1 0), (15, true, .int .i64 ((a + n + 1 : Nat) : Int)), (16, true, .int .u8 (s.getD (a + n + 1) 0).toNat), (17, true, .int .i64 ((a + n + 1 + 1 : Nat) : Int))] [.mem 40 [.str [], .str [], .int .i64 0], .mem 40 [.str ((s.drop a).take n), .str [], .int .i64 a]] := by
        intro h5
        rw [val_attr hn h1 h2 h3 h4 h5]
        exact loop46b hs (by omega) (s.length - (a + n + 1 + 1)) (a + n + 1 + 1) rfl (Nat.le_refl _) (by omega) (by simp)
      refine ifP_intro (fun q => ifP_intro (fun t => ?_) fun t => ?_) fun q => ?_
      · have h5 : s.getD (a + n + 1) 0 ≠ 34 ∧ s.getD (a + n + 1) 0 ≠ 39 := ⟨by simpa using b34.symm.trans q, by simpa using b39.symm.trans t⟩
        unfold attrV
        rw [attrM_eq s a tag l hn, if_neg h1, if_neg h2, if_neg h3, if_neg h4, if_pos h5]
        rfl
      · exact go fun h => h.2 (by simpa using b39.symm.trans t)
      · exact go fun h => h.1 (by simpa using b34.symm.trans q)
  | b :: r, p, hp, hany => by
    have hlen : l.length = p.length + (r.length + 1) := by rw [hp]; simp
    have hl' : l.length ≤ 1000000 := hl
    have g : inR ((p.length : Nat) : Int) (encAs l).length = true ∧ getE (encAs l) ((p.length : Nat) : Int) = encA b := by
      have hlt : p.length < l.length := by omega
      refine ⟨by rw [encAs, List.length_map]; exact inR_nat hlt, ?_⟩
      rw [encAs, getE_map encA _ hlt]
      congr 1
      simp [hp]
    refine t46a tab46 (ifP_intro (fun _ => gAnd_intro (by rw [g.1]; rfl) ⟨_, _, _, g.2, ifP_intro (fun x => ?_) fun x => ?_⟩) fun x => ?_)
    · have x : b.name = (s.drop a).take n := by simpa using x
      have h1 : l.any (fun c => (s.drop a).take n == c.name) = true := by rw [hp]; simp [x]
      unfold attrV
      rw [attrM_eq s a tag l hn, if_pos h1]
      rfl
    · rw [show IntKind.wrap .i64 ((p.length : Int) + 1) = ((p ++ [b]).length : Int) by rw [wrap_in (by omega) (by omega)]; simp]
      refine loop46a hs ha htg hl hn r (p ++ [b]) (by rw [hp]; simp) ?_
      rw [List.any_append, hany]
      have x : ¬ b.name = (s.drop a).take n := by simpa using x
      simp
      exact fun h => x h.symm
    · simp [encAs] at x; omega
theorem c46 : COk cfg2 46 attrRC := by
  refine cok_pure pf46 fun vs h K ht => ?_
  obtain ⟨s, a, tag, l, hs, ha, htg, hl, rfl, h1, h2⟩ := ht
  have hs' : s.length ≤ 1000000 := hs
  have hnl := lets_le s a
  refine ⟨attrV s a tag l (min (lets s a) 16), ?_, t46 tab46 ⟨s, a, hs, ha, rfl, ifP_intro (fun x => ?_) fun x => ?_⟩⟩
  · unfold attrV
    cases hc : attrM s a tag l with
    | error x => obtain ⟨p, e⟩ := x; exact h1 p e hc _
    | ok x => obtain ⟨x, b⟩ := x; exact h2 x b hc
  all_goals
    have go : ∀ n, n = min (lets s a) 16 → cutOb s.length (some (a : Int)) (some ((a + n : Nat) : Int)) = true ∧ ToEnd cfg2 46 (bodyOf Tryd.f46) (RetIs Tryd.prog Tryd.f46 (attrV s a tag l (min (lets s a) 16))) [.code [0, 1, 0, 1, 1, 1, 1], .block 0, .code [1, 1, 1, 1, 1]] .normal
        [(0, true, .str s), (1, true, .int .i64 a), (2, true, .int .i64 tag), (3, true, .sl 3 (encAs l) none), (8, true, .ptr 0 0), (12, true, .int .i64 n), (13, true, .ptr 1 0), (14, true, .int .i64 0)]
        [.mem 40 [.str [], .str [], .int .i64 0], .mem 40 [.str (cutL s (some (a : Int)) (some ((a + n : Nat) : Int))), .str [], .int .i64 a]] := by
      intro n hn
      obtain ⟨q1, q2⟩ := cut_cutL s (show a ≤ a + n by omega) (show a + n ≤ s.length by omega)
      refine ⟨q2, ?_⟩
      rw [q1, ← hn, show cut s a (a + n) = (s.drop a).take n by unfold cut; rw [Nat.add_sub_cancel_left]]
      exact loop46a hs ha htg hl hn l [] rfl rfl
  · have x : 16 < lets s a := by simp at x; omega
    obtain ⟨q1, q2⟩ := go 16 (by omega)
    rw [show IntKind.wrap .i64 ((a : Int) + 16) = ((a + 16 : Nat) : Int) from wr (by omega) (by omega)]
    exact gAnd_intro q1 q2
  · have x : ¬ 16 < lets s a := by simp at x; omega
    obtain ⟨q1, q2⟩ := go (lets s a) (by omega)
    rw [show IntKind.wrap .i64 ((a : Int) + ((lets s a : Nat) : Int)) = ((a + lets s a : Nat) : Int) from wr (by omega) (by omega)]
    exact gAnd_intro q1 q2
end Go.Proofs.YtolmmodgneodbaaDoor
end
