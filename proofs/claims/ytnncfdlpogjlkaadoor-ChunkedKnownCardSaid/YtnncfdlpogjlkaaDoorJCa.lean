/-
  Start lines, in plain terms: pieces ahead of blanks, tokens, versions, what a request's line and a reply's line are. No statement about the program is made here.
  Bodies in chunks, and lists of fields as bytes, in plain terms. No statement about the program is made here.
  Bodies in chunks: what is put is read again; a beginning of it lacks bytes; what stands behind makes no difference. No statement about the program is made here.
  Contracts of the functions of bodies in chunks, and of fields as bytes. No statement about the program is made here.
-/
import Derived.Test.YtnncfdlpogjlkaaDoorAiLaw
import Derived.Test.YtnncfdlpogjlkaaDoorJMa
section
namespace Go.Ai
open Go.RowKit

def isDg (c : UInt8) : Bool := decide (48 ≤ c.toNat) && decide (c.toNat ≤ 57)
def marksB : List UInt8 := [33, 35, 36, 37, 38, 39, 42, 43, 45, 46, 94, 95, 96, 124, 126]
def wordB (c : UInt8) : Bool := (decide (97 ≤ c.toNat) && decide (c.toNat ≤ 122)) || (decide (65 ≤ c.toNat) && decide (c.toNat ≤ 90)) || (decide (48 ≤ c.toNat) && decide (c.toNat ≤ 57)) || marksB.contains c
def tokenB (s : List UInt8) : Bool := s.all wordB && !s.isEmpty
def targetB (c : UInt8) : Bool := decide (33 ≤ c.toNat) && decide (c.toNat ≤ 126)
def reasonB (c : UInt8) : Bool := c == 9 || (decide (32 ≤ c.toNat) && decide (c.toNat ≤ 126)) || decide (128 ≤ c.toNat)

/-- What stands ahead of the first blank, what stands behind it, whether there is one. -/
def cutB : List UInt8 → List UInt8 × List UInt8 × Bool
  | [] => ([], [], false)
  | c :: r => if c = 32 then ([], r, true) else (c :: (cutB r).1, (cutB r).2.1, (cutB r).2.2)
theorem cutB_at : ∀ (m r : List UInt8), (∀ c ∈ m, c ≠ 32) → cutB (m ++ 32 :: r) = (m, r, true)
  | [], r, _ => by simp [cutB]
  | c :: m, r, h => by
    have h1 := h c (by simp)
    have h2 := cutB_at m r fun d hd => h d (by simp [hd])
    simp only [List.cons_append, cutB, if_neg h1, h2]
theorem cutB_no : ∀ (s : List UInt8), (∀ c ∈ s, c ≠ 32) → cutB s = (s, [], false)
  | [], _ => rfl
  | c :: m, h => by
    have h1 := h c (by simp)
    have h2 := cutB_no m fun d hd => h d (by simp [hd])
    simp only [cutB, if_neg h1, h2]
theorem cutB_spec : ∀ (s : List UInt8), (∀ c ∈ (cutB s).1, c ≠ 32) ∧ ((cutB s).2.2 = true → s = (cutB s).1 ++ 32 :: (cutB s).2.1) ∧ ((cutB s).2.2 = false → (cutB s).1 = s ∧ (cutB s).2.1 = [])
  | [] => by simp [cutB]
  | c :: r => by
    obtain ⟨h1, h2, h3⟩ := cutB_spec r
    simp only [cutB]
    split
    · rename_i hc
      subst hc
      simp
    · rename_i hc
      refine ⟨fun d hd => ?_, fun h => ?_, fun h => ?_⟩
      · rcases List.mem_cons.1 hd with rfl | hd
        · exact hc
        · exact h1 d hd
      · exact congrArg (c :: ·) (h2 h)
      · obtain ⟨q1, q2⟩ := h3 h
        exact ⟨congrArg (c :: ·) q1, q2⟩
theorem cutB_len (s : List UInt8) : (cutB s).1.length ≤ s.length ∧ (cutB s).2.1.length ≤ s.length := by
  obtain ⟨h1, h2, h3⟩ := cutB_spec s
  cases h : (cutB s).2.2 with
  | true =>
    have := congrArg List.length (h2 h)
    simp at this
    omega
  | false =>
    obtain ⟨q1, q2⟩ := h3 h
    rw [q1, q2]; simp

/-- A version's two digits. -/
def verOf : List UInt8 → Option (UInt8 × UInt8)
  | [72, 84, 84, 80, 47, a, 46, b] => if isDg a && isDg b then some (a, b) else none
  | _ => none
def verB (bad : Bool) (s : List UInt8) : Int × Int :=
  match bad, verOf s with
  | false, some (a, b) => if a = 49 then ((min 1 (b.toNat - 48) : Nat), 0) else (0, 9)
  | _, _ => (0, 4)
theorem verOf_some {s : List UInt8} {a b : UInt8} (h : verOf s = some (a, b)) : s = [72, 84, 84, 80, 47, a, 46, b] ∧ isDg a = true ∧ isDg b = true := by
  unfold verOf at h
  split at h
  · split at h
    · rename_i hd
      simp only [Bool.and_eq_true] at hd
      injection h with h
      injection h with h1 h2
      subst h1; subst h2
      exact ⟨rfl, hd.1, hd.2⟩
    · cases h
  · cases h
theorem verOf_mk {a b : UInt8} (ha : isDg a = true) (hb : isDg b = true) : verOf [72, 84, 84, 80, 47, a, 46, b] = some (a, b) := by
  simp [verOf, ha, hb]

theorem word_32 {c : UInt8} (h : wordB c = true) : c ≠ 32 := by rintro rfl; revert h; decide
theorem target_32 {c : UInt8} (h : targetB c = true) : c ≠ 32 := by rintro rfl; revert h; decide
theorem dg_32 {c : UInt8} (h : isDg c = true) : c ≠ 32 := by rintro rfl; revert h; decide

/-- A request's line. -/
def reqBad (s : List UInt8) : Bool := !(cutB s).2.2 || !(cutB (cutB s).2.1).2.2 || !((cutB (cutB s).2.1).1.all targetB) || !tokenB (cutB s).1 || (cutB (cutB s).2.1).1.isEmpty
def reqE (s : List UInt8) : Int := if (verB (reqBad s) (cutB (cutB s).2.1).2.1).2 = 0 ∧ 1024 < (cutB (cutB s).2.1).1.length then 3 else (verB (reqBad s) (cutB (cutB s).2.1).2.1).2
def reqP (s : List UInt8) : List UInt8 × List UInt8 × Int × Int :=
  if 2048 < s.length then ([], [], 0, 3) else
  if reqE s = 0 then ((cutB s).1, (cutB (cutB s).2.1).1, (verB (reqBad s) (cutB (cutB s).2.1).2.1).1, 0) else ([], [], 0, reqE s)

/-- The form of a request's line. -/
structure IsReq (s m p v : List UInt8) (a b : UInt8) : Prop where
  eq : s = m ++ 32 :: (p ++ 32 :: v)
  tok : tokenB m = true
  tgt : p.all targetB = true
  ne : p ≠ []
  ver : verOf v = some (a, b)

theorem tok_32 {m : List UInt8} (h : tokenB m = true) : ∀ c ∈ m, c ≠ 32 := by
  simp only [tokenB, Bool.and_eq_true, List.all_eq_true] at h
  exact fun c hc => word_32 (h.1 c hc)
theorem tgt_32 {m : List UInt8} (h : m.all targetB = true) : ∀ c ∈ m, c ≠ 32 := by
  simp only [List.all_eq_true] at h
  exact fun c hc => target_32 (h c hc)

theorem req_cuts {s m p v : List UInt8} {a b : UInt8} (h : IsReq s m p v a b) : cutB s = (m, p ++ 32 :: v, true) ∧ cutB (p ++ 32 :: v) = (p, v, true) := by
  obtain ⟨rfl, h1, h2, h3, h4⟩ := h
  exact ⟨cutB_at _ _ (tok_32 h1), cutB_at _ _ (tgt_32 h2)⟩
theorem req_some {s m p v : List UInt8} {a b : UInt8} (h : IsReq s m p v a b) (hl : s.length ≤ 2048) :
    reqP s = if a = 49 then (if 1024 < p.length then ([], [], 0, 3) else (m, p, ((min 1 (b.toNat - 48) : Nat) : Int), 0)) else ([], [], 0, 9) := by
  obtain ⟨q1, q2⟩ := req_cuts h
  obtain ⟨-, h1, h2, h3, h4⟩ := h
  have hb : reqBad s = false := by
    have : p.isEmpty = false := by cases p <;> simp_all
    simp only [reqBad, q1, q2, h1, h2, this]; rfl
  have hv : verB false v = if a = 49 then (((min 1 (b.toNat - 48) : Nat) : Int), 0) else (0, 9) := by simp only [verB, h4]
  unfold reqP reqE
  rw [if_neg (by omega)]
  simp only [hb, q1, q2, hv]
  by_cases ha : a = 49
  · simp only [ha, if_true]
    by_cases hp : 1024 < p.length
    · simp [hp]
    · simp [hp]
  · simp [ha]
theorem verB_bad {bad : Bool} {s : List UInt8} (h : bad = true ∨ verOf s = none) : verB bad s = (0, 4) := by
  unfold verB
  rcases h with rfl | h
  · rfl
  · rw [h]; cases bad <;> rfl
theorem req_none {s : List UInt8} (h : ∀ m p v a b, ¬IsReq s m p v a b) (hl : s.length ≤ 2048) : reqP s = ([], [], 0, 4) := by
  have hv : verB (reqBad s) (cutB (cutB s).2.1).2.1 = (0, 4) := by
    refine verB_bad ?_
    cases hb : reqBad s with
    | true => exact .inl rfl
    | false =>
      right
      cases hv : verOf (cutB (cutB s).2.1).2.1 with
      | none => rfl
      | some ab =>
        exfalso
        simp only [reqBad, Bool.or_eq_false_iff, Bool.not_eq_false'] at hb
        obtain ⟨⟨⟨⟨b1, b2⟩, b3⟩, b4⟩, b5⟩ := hb
        have e1 := (cutB_spec s).2.1 b1
        have e2 := (cutB_spec (cutB s).2.1).2.1 b2
        refine h (cutB s).1 (cutB (cutB s).2.1).1 (cutB (cutB s).2.1).2.1 ab.1 ab.2 ⟨?_, b4, b3, fun e => (by rw [e] at b5; cases b5), hv⟩
        rw [← e2]; exact e1
  unfold reqP reqE
  rw [if_neg (by omega), hv]
  rfl

/-- A reply's line. -/
def codeBad (c : List UInt8) : Bool := !c.all isDg || (bif c.length == 3 then decide ((c.getD 0 0).toNat < 49) || decide (53 < (c.getD 0 0).toNat) else true)
def stBad (s : List UInt8) : Bool := !(cutB s).2.2 || !(cutB (cutB s).2.1).2.2 || !((cutB (cutB s).2.1).2.1.all reasonB) || codeBad (cutB (cutB s).2.1).1
def codeN (c : List UInt8) : Int := 100 * ((c.getD 0 0).toNat - 48 : Nat) + 10 * ((c.getD 1 0).toNat - 48 : Nat) + ((c.getD 2 0).toNat - 48 : Nat)
def stP (s : List UInt8) : Int × List UInt8 × Int × Int :=
  if 2048 < s.length then (0, [], 0, 3) else
  if (verB (stBad s) (cutB s).1).2 = 0 then (codeN (cutB (cutB s).2.1).1, (cutB (cutB s).2.1).2.1, (verB (stBad s) (cutB s).1).1, 0) else (0, [], 0, (verB (stBad s) (cutB s).1).2)
structure IsSt (s v w : List UInt8) (c0 c1 c2 a b : UInt8) : Prop where
  eq : s = v ++ 32 :: c0 :: c1 :: c2 :: 32 :: w
  ver : verOf v = some (a, b)
  first : 49 ≤ c0.toNat ∧ c0.toNat ≤ 53
  dg1 : isDg c1 = true
  dg2 : isDg c2 = true
  rsn : w.all reasonB = true
theorem ver_32 {v : List UInt8} {a b : UInt8} (h : verOf v = some (a, b)) : ∀ c ∈ v, c ≠ 32 := by
  obtain ⟨rfl, ha, hb⟩ := verOf_some h
  intro c hc
  simp only [List.mem_cons, List.not_mem_nil, or_false] at hc
  rcases hc with rfl | rfl | rfl | rfl | rfl | rfl | rfl | rfl
  · decide
  · decide
  · decide
  · decide
  · decide
  · exact dg_32 ha
  · decide
  · exact dg_32 hb
theorem first_dg {c : UInt8} (h : 49 ≤ c.toNat ∧ c.toNat ≤ 53) : isDg c = true := by
  simp only [isDg, Bool.and_eq_true, decide_eq_true_eq]; omega
theorem st_cuts {s v w : List UInt8} {c0 c1 c2 a b : UInt8} (h : IsSt s v w c0 c1 c2 a b) : cutB s = (v, c0 :: c1 :: c2 :: 32 :: w, true) ∧ cutB (c0 :: c1 :: c2 :: 32 :: w) = ([c0, c1, c2], w, true) := by
  obtain ⟨rfl, h1, h2, h3, h4, h5⟩ := h
  refine ⟨cutB_at _ _ (ver_32 h1), cutB_at [c0, c1, c2] w fun c hc => ?_⟩
  simp only [List.mem_cons, List.not_mem_nil, or_false] at hc
  rcases hc with rfl | rfl | rfl
  · exact dg_32 (first_dg h2)
  · exact dg_32 h3
  · exact dg_32 h4
theorem st_some {s v w : List UInt8} {c0 c1 c2 a b : UInt8} (h : IsSt s v w c0 c1 c2 a b) (hl : s.length ≤ 2048) :
    stP s = if a = 49 then (codeN [c0, c1, c2], w, ((min 1 (b.toNat - 48) : Nat) : Int), 0) else (0, [], 0, 9) := by
  obtain ⟨q1, q2⟩ := st_cuts h
  obtain ⟨-, h1, h2, h3, h4, h5⟩ := h
  have hc : codeBad [c0, c1, c2] = false := by
    simp only [codeBad, List.all_cons, first_dg h2, h3, h4, List.all_nil]
    have e1 : decide (c0.toNat < 49) = false := decide_eq_false (by omega)
    have e2 : decide (53 < c0.toNat) = false := decide_eq_false (by omega)
    simp [e1, e2]
  have hb : stBad s = false := by simp only [stBad, q1, q2, h5, hc]; rfl
  have hv : verB false v = if a = 49 then (((min 1 (b.toNat - 48) : Nat) : Int), 0) else (0, 9) := by simp only [verB, h1]
  unfold stP
  rw [if_neg (by omega)]
  simp only [hb, q1, q2, hv]
  by_cases ha : a = 49 <;> simp [ha]
theorem st_none {s : List UInt8} (h : ∀ v w c0 c1 c2 a b, ¬IsSt s v w c0 c1 c2 a b) (hl : s.length ≤ 2048) : stP s = (0, [], 0, 4) := by
  have hv : verB (stBad s) (cutB s).1 = (0, 4) := by
    refine verB_bad ?_
    cases hb : stBad s with
    | true => exact .inl rfl
    | false =>
      right
      cases hv : verOf (cutB s).1 with
      | none => rfl
      | some ab =>
        exfalso
        simp only [stBad, Bool.or_eq_false_iff, Bool.not_eq_false'] at hb
        obtain ⟨⟨⟨b1, b2⟩, b3⟩, b4⟩ := hb
        have e1 := (cutB_spec s).2.1 b1
        have e2 := (cutB_spec (cutB s).2.1).2.1 b2
        simp only [codeBad, Bool.or_eq_false_iff, Bool.not_eq_false'] at b4
        obtain ⟨b4, b5⟩ := b4
        generalize hc : (cutB (cutB s).2.1).1 = c at b4 b5 e2
        cases hl3 : c.length == 3 with
        | false => rw [hl3] at b5; cases b5
        | true =>
          rw [hl3] at b5
          have hl3 : c.length = 3 := by simpa using hl3
          match c, hl3 with
          | [c0, c1, c2], _ =>
            simp only [cond_true, Bool.or_eq_false_iff, decide_eq_false_iff_not, List.getD_cons_zero] at b5
            simp only [List.all_cons, List.all_nil, Bool.and_true, Bool.and_eq_true] at b4
            refine h (cutB s).1 (cutB (cutB s).2.1).2.1 c0 c1 c2 ab.1 ab.2 ⟨?_, hv, by omega, b4.2.1, b4.2.2, b3⟩
            have e2' : (cutB s).2.1 = c0 :: c1 :: c2 :: 32 :: (cutB (cutB s).2.1).2.1 := e2
            rw [← e2']; exact e1
  unfold stP
  rw [if_neg (by omega), hv]
  rfl
end Go.Ai
end

section
namespace Go.Ai
open Go.RowKit
set_option linter.unusedVariables false

/-! Where a text stands first -/
def fnd (x : List UInt8) : List UInt8 → Option Nat
  | [] => if x.isEmpty = true then some 0 else none
  | c :: r => if x.isPrefixOf (c :: r) = true then some 0 else (fnd x r).map (· + 1)
theorem idxB_fnd (x : List UInt8) : ∀ (s : List UInt8) (i : Nat), idxB s x i = match fnd x s with | some n => ((i + n : Nat) : Int) | none => -1
  | [], i => by
    cases x <;> simp [idxB, fnd]
  | c :: r, i => by
    unfold idxB fnd
    cases h : x.isPrefixOf (c :: r) with
    | true => simp
    | false =>
      simp only [idxB_fnd x r (i + 1), Bool.false_eq_true, if_false]
      cases fnd x r with
      | none => rfl
      | some n => simp only [Option.map_some]; show ((i + 1 + n : Nat) : Int) = ((i + (n + 1) : Nat) : Int); omega
theorem fnd_some {x : List UInt8} : ∀ {s : List UInt8} {n : Nat}, fnd x s = some n → x.isPrefixOf (s.drop n) = true ∧ n + x.length ≤ s.length
  | [], n, h => by
    unfold fnd at h
    split at h
    · injection h with h; subst h
      rename_i hx
      cases x with
      | nil => simp
      | cons _ _ => simp at hx
    · cases h
  | c :: r, n, h => by
    unfold fnd at h
    split at h
    · injection h with h; subst h
      rename_i hx
      refine ⟨hx, ?_⟩
      have := (List.isPrefixOf_iff_prefix.1 hx).length_le
      omega
    · cases hr : fnd x r with
      | none => rw [hr] at h; cases h
      | some m =>
        rw [hr] at h
        injection h with h; subst h
        obtain ⟨h1, h2⟩ := fnd_some hr
        refine ⟨by simpa using h1, by simp; omega⟩
theorem fnd_least {x : List UInt8} : ∀ {s : List UInt8} {n : Nat}, fnd x s = some n → ∀ m, m < n → x.isPrefixOf (s.drop m) = false
  | [], n, h, m, hm => by
    unfold fnd at h
    split at h
    · injection h with h; omega
    · cases h
  | c :: r, n, h, m, hm => by
    unfold fnd at h
    split at h
    · injection h with h; omega
    · rename_i hx
      cases hr : fnd x r with
      | none => rw [hr] at h; cases h
      | some k =>
        rw [hr] at h
        injection h with h
        have h : k + 1 = n := h
        subst h
        cases m with
        | zero => exact eq_false_of_ne_true hx
        | succ m => simpa using fnd_least hr m (by omega)
theorem fnd_none {x : List UInt8} : ∀ {s : List UInt8}, fnd x s = none → ∀ m, x ≠ [] → x.isPrefixOf (s.drop m) = false
  | [], h, m, hx => by
    cases x with
    | nil => exact absurd rfl hx
    | cons a x => simp
  | c :: r, h, m, hx => by
    unfold fnd at h
    split at h
    · cases h
    · rename_i hp
      have hr : fnd x r = none := by
        cases hr : fnd x r with
        | none => rfl
        | some k => rw [hr] at h; cases h
      cases m with
      | zero => exact eq_false_of_ne_true hp
      | succ m => simpa using fnd_none hr m hx
theorem fnd_of {x : List UInt8} {s : List UInt8} {n : Nat} (h1 : x.isPrefixOf (s.drop n) = true) (h2 : ∀ m, m < n → x.isPrefixOf (s.drop m) = false) (hx : x ≠ []) : fnd x s = some n := by
  cases h : fnd x s with
  | none => rw [fnd_none h n hx] at h1; cases h1
  | some k =>
    rcases Nat.lt_trichotomy k n with hk | hk | hk
    · have := (fnd_some h).1; rw [h2 k hk] at this; cases this
    · rw [hk]
    · have := fnd_least h n hk; rw [h1] at this; cases this
theorem fnd_no {x : List UInt8} {s : List UInt8} (h2 : ∀ m, m < s.length → x.isPrefixOf (s.drop m) = false) (hx : x ≠ []) : fnd x s = none := by
  cases h : fnd x s with
  | none => rfl
  | some k =>
    obtain ⟨h3, h4⟩ := fnd_some h
    have : 0 < x.length := List.length_pos_iff.2 hx
    rw [h2 k (by omega)] at h3; cases h3

/-! Lines -/
def crlf : List UInt8 := [13, 10]
def crlf2 : List UInt8 := [13, 10, 13, 10]
/-- A line that ends so, in so many bytes: it, how many bytes it takes, its error. -/
def lineA (en : List UInt8) (most : Nat) (s : List UInt8) : List UInt8 × Nat × Int :=
  match fnd en (s.take most) with
  | some n => (s.take n, n + en.length, 0)
  | none => ([], 0, if most ≤ s.length then 3 else 6)

/-! Sizes -/
def hexB (c : UInt8) : Bool := (decide (48 ≤ c.toNat) && decide (c.toNat ≤ 57)) || (decide (97 ≤ c.toNat) && decide (c.toNat ≤ 102)) || (decide (65 ≤ c.toNat) && decide (c.toNat ≤ 70))
def hexD (c : UInt8) : Nat := if c.toNat ≤ 57 then c.toNat - 48 else if 97 ≤ c.toNat then c.toNat - 87 else c.toNat - 55
def hexV : Nat → List UInt8 → Nat
  | n, [] => n
  | n, c :: r => hexV (16 * n + hexD c) r
def extB (c : UInt8) : Bool := decide (c.toNat = 9) || (decide (32 ≤ c.toNat) && decide (c.toNat ≤ 126))
def sizeV (s : List UInt8) : Option Nat :=
  if s.takeWhile hexB = [] then none else if 8 < (s.takeWhile hexB).length then none else
  match s.dropWhile hexB with
  | [] => some (hexV 0 (s.takeWhile hexB))
  | c :: m => if c = 59 ∧ m.all extB = true then some (hexV 0 (s.takeWhile hexB)) else none
def sizeA (s : List UInt8) : Nat × Int := match sizeV s with
  | some n => (n, 0)
  | none => (0, 4)

/-! Fields -/

def tokS (s : List UInt8) : Bool := tokenB s
def valC (c : UInt8) : Bool := !((decide (c.toNat < 32) && !decide (c.toNat = 9)) || decide (c.toNat = 127))
def valS (s : List UInt8) : Bool := s.all valC && (trB s == s)
def mayF (f : Fld) : Bool := tokS f.name && valS f.value
def longF (f : Fld) : Bool := decide (2048 < f.name.length + 2 + f.value.length)
/-- The field of a line, its error. -/
def oneF (s : List UInt8) : Fld × Int :=
  if 2048 < s.length then (⟨[], []⟩, 3) else
  match fnd [58] s with
  | none => (⟨[], []⟩, 4)
  | some n => if mayF ⟨s.take n, trB (s.drop (n + 1))⟩ = true then (if longF ⟨s.take n, trB (s.drop (n + 1))⟩ = true then (⟨[], []⟩, 3) else (⟨s.take n, trB (s.drop (n + 1))⟩, 0)) else (⟨[], []⟩, 4)
/-- Fields out of their lines, behind so many. -/
def parF : Nat → Nat → List UInt8 → List Fld × Int
  | 0, _, _ => ([], 0)
  | n + 1, k, s =>
    if s = [] then ([], 0) else
    match fnd crlf s with
    | none => ([], 4)
    | some i =>
      if 64 ≤ k then ([], 3) else
      if (oneF (s.take i)).2 ≠ 0 then ([], (oneF (s.take i)).2) else
      if (parF n (k + 1) (s.drop (i + 2))).2 ≠ 0 then ([], (parF n (k + 1) (s.drop (i + 2))).2) else
      ((oneF (s.take i)).1 :: (parF n (k + 1) (s.drop (i + 2))).1, 0)
def parseF (s : List UInt8) : List Fld × Int := parF (s.length + 1) 0 s

/-! Bodies -/
structure Dec where
  body : List UInt8
  used : Nat
  tr : List Fld
  e : Int
def decX (e : Int) : Dec := ⟨[], 0, [], e⟩
def clip (most : Int) : Nat := (max 0 (min most 262144)).toNat
/-- Behind the last chunk. -/
def lastG (r b : List UInt8) (u : Nat) : Dec :=
  if crlf.isPrefixOf r = true then ⟨b, u + 2, [], 0⟩ else
  if (lineA crlf2 8192 r).2.2 ≠ 0 then decX (lineA crlf2 8192 r).2.2 else
  if (parseF ((lineA crlf2 8192 r).1 ++ crlf)).2 ≠ 0 then decX (parseF ((lineA crlf2 8192 r).1 ++ crlf)).2 else
  ⟨b, u + (lineA crlf2 8192 r).2.1, (parseF ((lineA crlf2 8192 r).1 ++ crlf)).1, 0⟩
/-- What stands behind a chunk's size line. -/
def restG (m : Nat) (n : Nat) (r b : List UInt8) : Int :=
  if m - b.length < n then 3 else if r.length < n then 6 else
  if crlf.isPrefixOf (r.drop n) = true then 0 else if (r.drop n).isPrefixOf crlf = true then 6 else 4
def decG (m : Nat) : Nat → List UInt8 → List UInt8 → Nat → Dec
  | 0, _, _, _ => decX 6
  | f + 1, r, b, u =>
    if (lineA crlf 2050 r).2.2 ≠ 0 then decX (lineA crlf 2050 r).2.2 else
    if (sizeA (lineA crlf 2050 r).1).2 ≠ 0 then decX (sizeA (lineA crlf 2050 r).1).2 else
    if (sizeA (lineA crlf 2050 r).1).1 = 0 then lastG (r.drop (lineA crlf 2050 r).2.1) b (u + (lineA crlf 2050 r).2.1) else
    if restG m (sizeA (lineA crlf 2050 r).1).1 (r.drop (lineA crlf 2050 r).2.1) b ≠ 0 then decX (restG m (sizeA (lineA crlf 2050 r).1).1 (r.drop (lineA crlf 2050 r).2.1) b) else
    decG m f (r.drop ((lineA crlf 2050 r).2.1 + (sizeA (lineA crlf 2050 r).1).1 + 2)) (b ++ (r.drop (lineA crlf 2050 r).2.1).take (sizeA (lineA crlf 2050 r).1).1) (u + (lineA crlf 2050 r).2.1 + (sizeA (lineA crlf 2050 r).1).1 + 2)
def decA (s : List UInt8) (most : Int) : Dec := decG (clip most) (s.length + 1) s [] 0

/-! Put in chunks -/
def hexC (n : Nat) : UInt8 := if n < 10 then UInt8.ofNat (48 + n) else UInt8.ofNat (87 + n)
def hexS : Nat → Nat → List UInt8
  | 0, _ => []
  | f + 1, n => if n < 16 then [hexC n] else hexS f (n / 16) ++ [hexC (n % 16)]
def hexT (n : Nat) : List UInt8 := hexS 17 n
/-- How long the next chunk is. -/
def stepN (l : List Nat) (k n : Nat) : Nat := if l = [] then n else min (l.getD (k % l.length) 0) n
def encG (l : List Nat) : Nat → Nat → List UInt8 → List UInt8
  | 0, _, _ => []
  | f + 1, k, s => if s = [] then [] else hexT (stepN l k s.length) ++ crlf ++ s.take (stepN l k s.length) ++ crlf ++ encG l f (k + 1) (s.drop (stepN l k s.length))
def posL (l : List Int) : List Nat := (l.filter fun n => decide (0 < n)).map Int.toNat
def encA (s : List UInt8) (l : List Int) : List UInt8 := encG (posL l) s.length 0 s ++ [48, 13, 10, 13, 10]
end Go.Ai
end

section
namespace Go.Ai
open Go.RowKit
set_option linter.unusedVariables false

/-! Lines that are cut, or go on -/
theorem fnd_take {x s : List UInt8} {n p : Nat} (h : fnd x s = some n) (hp : n + x.length ≤ p) (hx : x ≠ []) : fnd x (s.take p) = some n := by
  refine fnd_of ?_ (fun m hm => ?_) hx
  · have := (fnd_some h).1
    rw [List.isPrefixOf_iff_prefix] at this ⊢
    rw [List.drop_take]
    exact List.prefix_take_iff.2 ⟨this, by omega⟩
  · have := fnd_least h m hm
    refine eq_false_of_ne_true fun hc => ?_
    rw [List.isPrefixOf_iff_prefix, List.drop_take] at hc
    have h2 := (List.prefix_take_iff.1 hc).1
    rw [← List.isPrefixOf_iff_prefix, this] at h2
    cases h2
theorem fnd_take_no {x s : List UInt8} {p : Nat} (h : ∀ n, fnd x s = some n → p < n + x.length) (hx : x ≠ []) : fnd x (s.take p) = none := by
  cases hf : fnd x (s.take p) with
  | none => rfl
  | some k =>
    obtain ⟨h1, h2⟩ := fnd_some hf
    rw [List.isPrefixOf_iff_prefix, List.drop_take] at h1
    obtain ⟨h3, h4⟩ := List.prefix_take_iff.1 h1
    cases hs : fnd x s with
    | none =>
      have := fnd_none hs k hx
      rw [List.isPrefixOf_iff_prefix.2 h3] at this; cases this
    | some n =>
      have h5 := h n hs
      have hkn : n ≤ k := by
        rcases Nat.lt_or_ge k n with hl | hl
        · have := fnd_least hs k hl
          rw [List.isPrefixOf_iff_prefix.2 h3] at this; cases this
        · exact hl
      simp at h2
      omega
theorem fnd_app {x s : List UInt8} {n : Nat} (h : fnd x s = some n) (hx : x ≠ []) (y : List UInt8) : fnd x (s ++ y) = some n := by
  obtain ⟨h1, h2⟩ := fnd_some h
  have hl := fnd_least h
  refine fnd_of ?_ (fun m hm => ?_) hx
  · rw [List.drop_append_of_le_length (by omega)]
    rw [List.isPrefixOf_iff_prefix] at h1 ⊢
    exact h1.trans (List.prefix_append _ _)
  · refine eq_false_of_ne_true fun hc => ?_
    have h3 := hl m hm
    rw [List.drop_append_of_le_length (by omega), List.isPrefixOf_iff_prefix] at hc
    have : x <+: s.drop m := List.prefix_of_prefix_length_le hc (List.prefix_append _ _) (by simp; omega)
    rw [List.isPrefixOf_iff_prefix.2 this] at h3; cases h3
theorem lineA_ok {en s h : List UInt8} {most k : Nat} (hl : lineA en most s = (h, k, 0)) : ∃ n, fnd en (s.take most) = some n ∧ h = s.take n ∧ k = n + en.length ∧ k ≤ most ∧ k ≤ s.length := by
  unfold lineA at hl
  split at hl
  · rename_i n hn
    simp only [Prod.mk.injEq] at hl
    obtain ⟨rfl, rfl, -⟩ := hl
    have := (fnd_some hn).2
    simp at this
    exact ⟨n, hn, rfl, rfl, by omega, by omega⟩
  · simp only [Prod.mk.injEq] at hl
    have := hl.2.2
    split at this <;> cases this
theorem lineA_e (en s : List UInt8) (most : Nat) : (lineA en most s).2.2 = 0 ∨ lineA en most s = ([], 0, 3) ∨ lineA en most s = ([], 0, 6) := by
  unfold lineA
  split
  · exact .inl rfl
  · split
    · exact .inr (.inl rfl)
    · exact .inr (.inr rfl)
theorem lineA_take {en s h : List UInt8} {most k p : Nat} (hen : en ≠ []) (hl : lineA en most s = (h, k, 0)) (hp : k ≤ p) : lineA en most (s.take p) = (h, k, 0) := by
  obtain ⟨n, h1, h2, h3, h4, h5⟩ := lineA_ok hl
  have : fnd en ((s.take p).take most) = some n := by
    rw [List.take_take, Nat.min_comm, ← List.take_take]
    exact fnd_take h1 (by omega) hen
  unfold lineA
  rw [this]
  simp only [Prod.mk.injEq, and_true]
  refine ⟨?_, by omega⟩
  rw [h2, List.take_take, Nat.min_eq_left (by omega)]
theorem lineA_short {en s h : List UInt8} {most k p : Nat} (hen : en ≠ []) (hl : lineA en most s = (h, k, 0)) (hp : p < k) : lineA en most (s.take p) = ([], 0, 6) := by
  obtain ⟨n, h1, h2, h3, h4, h5⟩ := lineA_ok hl
  have : fnd en ((s.take p).take most) = none := by
    rw [List.take_take, Nat.min_comm, ← List.take_take]
    exact fnd_take_no (fun m hm => by rw [h1] at hm; injection hm; omega) hen
  unfold lineA
  rw [this, if_neg (by simp; omega)]
theorem lineA_app {en s h : List UInt8} {most k : Nat} (hen : en ≠ []) (hl : lineA en most s = (h, k, 0)) (x : List UInt8) : lineA en most (s ++ x) = (h, k, 0) := by
  obtain ⟨n, h1, h2, h3, h4, h5⟩ := lineA_ok hl
  have : fnd en ((s ++ x).take most) = some n := by
    rw [List.take_append]
    exact fnd_app h1 hen _
  unfold lineA
  rw [this]
  simp only [Prod.mk.injEq, and_true]
  refine ⟨?_, by omega⟩
  rw [h2, List.take_append_of_le_length (by omega)]

/-! One step -/
theorem decX_e (e : Int) : (decX e).e = e := rfl
theorem lastG_e (r b : List UInt8) (u : Nat) : (lastG r b u).e = 0 ∨ lastG r b u = decX (lastG r b u).e := by
  unfold lastG
  repeat' split
  · exact .inl rfl
  · exact .inr rfl
  · exact .inr rfl
  · exact .inl rfl
theorem decG_e (m : Nat) : ∀ (f : Nat) (r b : List UInt8) (u : Nat), (decG m f r b u).e = 0 ∨ decG m f r b u = decX (decG m f r b u).e
  | 0, r, b, u => .inr rfl
  | f + 1, r, b, u => by
    rw [decG]
    repeat' split
    · exact .inr rfl
    · exact .inr rfl
    · exact lastG_e _ _ _
    · exact .inr rfl
    · exact decG_e m f _ _ _
theorem decA_e (s : List UInt8) (most : Int) : (decA s most).e = 0 ∨ decA s most = decX (decA s most).e := decG_e _ _ _ _ _
theorem size_zero {s : List UInt8} {z : Nat} (h : sizeA s = (z, 0)) : 1 ≤ s.length := by
  cases s with
  | nil => simp [sizeA, sizeV] at h
  | cons _ _ => simp
/-- What a step that goes well is. -/
theorem dec_step {m f : Nat} {r b : List UInt8} {u : Nat} (h : (decG m (f + 1) r b u).e = 0) : ∃ n z, lineA crlf 2050 r = (r.take n, n + 2, 0) ∧ n + 2 ≤ r.length ∧ 1 ≤ n ∧ sizeA (r.take n) = (z, 0) ∧
    ((z = 0 ∧ decG m (f + 1) r b u = lastG (r.drop (n + 2)) b (u + (n + 2))) ∨ (z ≠ 0 ∧ restG m z (r.drop (n + 2)) b = 0 ∧ decG m (f + 1) r b u = decG m f (r.drop (n + 2 + z + 2)) (b ++ (r.drop (n + 2)).take z) (u + (n + 2) + z + 2))) := by
  have h0 := h
  rw [decG] at h
  split at h
  · rename_i hc; exact absurd h hc
  rename_i h1
  have h1 : (lineA crlf 2050 r).2.2 = 0 := by simpa using h1
  split at h
  · rename_i hc; exact absurd h hc
  rename_i h2
  have h2 : (sizeA (lineA crlf 2050 r).1).2 = 0 := by simpa using h2
  obtain ⟨n, g1, g2, g3, g4, g5⟩ := lineA_ok (en := crlf) (most := 2050) (s := r) (h := (lineA crlf 2050 r).1) (k := (lineA crlf 2050 r).2.1) (by rw [← h1])
  have e1 : lineA crlf 2050 r = (r.take n, n + 2, 0) := by
    rw [show lineA crlf 2050 r = ((lineA crlf 2050 r).1, (lineA crlf 2050 r).2.1, (lineA crlf 2050 r).2.2) from rfl, g2, g3, h1]; rfl
  have e2 : sizeA (r.take n) = ((sizeA (r.take n)).1, 0) := by
    rw [e1] at h2
    rw [show sizeA (r.take n) = ((sizeA (r.take n)).1, (sizeA (r.take n)).2) from rfl, h2]
  have hn := size_zero e2
  have hn1 : 1 ≤ n := by
    simp at hn; omega
  have g5' : n + 2 ≤ r.length := by rw [g3] at g5; exact g5
  refine ⟨n, (sizeA (r.take n)).1, e1, g5', hn1, e2, ?_⟩
  by_cases hz : (sizeA (r.take n)).1 = 0
  · refine .inl ⟨hz, ?_⟩
    rw [decG, e1]
    simp only
    rw [if_neg (by simp), if_neg (by rw [e2]; simp), if_pos hz]
  · refine .inr ⟨hz, ?_⟩
    rw [e1] at h
    simp only at h
    rw [if_neg hz] at h
    split at h
    · rename_i hc; exact absurd h hc
    rename_i h3
    have h3 : restG m (sizeA (r.take n)).1 (r.drop (n + 2)) b = 0 := by simpa using h3
    refine ⟨h3, ?_⟩
    rw [decG, e1]
    simp only
    rw [if_neg (by simp), if_neg (by rw [e2]; simp), if_neg hz, if_neg (by rw [h3]; simp)]
/-- A step out of its parts. -/
theorem dec_last {m f : Nat} {r b h : List UInt8} {u k : Nat} (h1 : lineA crlf 2050 r = (h, k, 0)) (h2 : sizeA h = (0, 0)) : decG m (f + 1) r b u = lastG (r.drop k) b (u + k) := by
  rw [decG, h1]
  simp only
  rw [if_neg (by simp), h2, if_neg (by simp), if_pos rfl]
theorem dec_more {m f z : Nat} {r b h : List UInt8} {u k : Nat} (h1 : lineA crlf 2050 r = (h, k, 0)) (h2 : sizeA h = (z, 0)) (hz : z ≠ 0) (h3 : restG m z (r.drop k) b = 0) :
    decG m (f + 1) r b u = decG m f (r.drop (k + z + 2)) (b ++ (r.drop k).take z) (u + k + z + 2) := by
  rw [decG, h1]
  simp only
  rw [if_neg (by simp), h2, if_neg (by simp), if_neg hz, if_neg (by rw [h3]; simp)]
theorem dec_rest {m f z : Nat} {r b h : List UInt8} {u k : Nat} (h1 : lineA crlf 2050 r = (h, k, 0)) (h2 : sizeA h = (z, 0)) (hz : z ≠ 0) (h3 : restG m z (r.drop k) b ≠ 0) :
    decG m (f + 1) r b u = decX (restG m z (r.drop k) b) := by
  rw [decG, h1]
  simp only
  rw [if_neg (by simp), h2, if_neg (by simp), if_neg hz, if_pos h3]
theorem restG_ok {m z : Nat} {r b : List UInt8} (h : restG m z r b = 0) : z ≤ m - b.length ∧ z + 2 ≤ r.length ∧ crlf.isPrefixOf (r.drop z) = true := by
  unfold restG at h
  split at h
  · cases h
  split at h
  · cases h
  split at h
  · rename_i h1 h2 h3
    have := (List.isPrefixOf_iff_prefix.1 h3).length_le
    simp [crlf] at this
    exact ⟨by omega, by omega, h3⟩
  · split at h <;> cases h
theorem restG_mk {m z : Nat} {r b : List UInt8} (h1 : z ≤ m - b.length) (h2 : z ≤ r.length) (h3 : crlf.isPrefixOf (r.drop z) = true) : restG m z r b = 0 := by
  unfold restG
  rw [if_neg (by omega), if_neg (by omega), if_pos h3]

/-! More fuel -/
theorem dec_fuel (m : Nat) : ∀ (f g : Nat) (r b : List UInt8) (u : Nat), (decG m f r b u).e = 0 → r.length < g → decG m g r b u = decG m f r b u
  | 0, g, r, b, u, h, _ => by cases h
  | f + 1, 0, r, b, u, h, hg => by omega
  | f + 1, g + 1, r, b, u, h, hg => by
    obtain ⟨n, z, h1, h2, h3, h4, ⟨hz, h5⟩ | ⟨hz, h5, h6⟩⟩ := dec_step h
    · subst hz
      rw [dec_last h1 h4, dec_last h1 h4]
    · rw [dec_more h1 h4 hz h5, dec_more h1 h4 hz h5]
      rw [h6] at h
      exact dec_fuel m f g _ _ _ h (by simp; omega)

/-! What stands behind -/
theorem crlf_ne : crlf ≠ [] := by simp [crlf]
theorem crlf2_ne : crlf2 ≠ [] := by simp [crlf2]
theorem pre_app {x s : List UInt8} (y : List UInt8) (h : x.isPrefixOf s = true) : x.isPrefixOf (s ++ y) = true := by
  rw [List.isPrefixOf_iff_prefix] at h ⊢
  exact h.trans (List.prefix_append _ _)
theorem pre_app_no {x s : List UInt8} (y : List UInt8) (hl : x.length ≤ s.length) (h : ¬ x.isPrefixOf s = true) : ¬ x.isPrefixOf (s ++ y) = true := fun hc => h (by
  rw [List.isPrefixOf_iff_prefix] at hc ⊢
  exact List.prefix_of_prefix_length_le hc (List.prefix_append _ _) hl)
theorem last_step {r b : List UInt8} {u : Nat} (h : (lastG r b u).e = 0) : (crlf.isPrefixOf r = true ∧ 2 ≤ r.length ∧ lastG r b u = ⟨b, u + 2, [], 0⟩) ∨
    (¬ crlf.isPrefixOf r = true ∧ ∃ n, lineA crlf2 8192 r = (r.take n, n + 4, 0) ∧ n + 4 ≤ r.length ∧ (parseF (r.take n ++ crlf)).2 = 0 ∧ lastG r b u = ⟨b, u + (n + 4), (parseF (r.take n ++ crlf)).1, 0⟩) := by
  unfold lastG at h ⊢
  by_cases hp : crlf.isPrefixOf r = true
  · have := (List.isPrefixOf_iff_prefix.1 hp).length_le
    exact .inl ⟨hp, by simpa [crlf] using this, by rw [if_pos hp]⟩
  · refine .inr ⟨hp, ?_⟩
    rw [if_neg hp] at h ⊢
    split at h
    · rename_i hc; exact absurd h hc
    rename_i h1
    have h1 : (lineA crlf2 8192 r).2.2 = 0 := by simpa using h1
    obtain ⟨n, g1, g2, g3, g4, g5⟩ := lineA_ok (en := crlf2) (most := 8192) (s := r) (h := (lineA crlf2 8192 r).1) (k := (lineA crlf2 8192 r).2.1) (by rw [← h1])
    have e1 : lineA crlf2 8192 r = (r.take n, n + 4, 0) := by
      rw [show lineA crlf2 8192 r = ((lineA crlf2 8192 r).1, (lineA crlf2 8192 r).2.1, (lineA crlf2 8192 r).2.2) from rfl, g2, g3, h1]; rfl
    rw [e1] at h ⊢
    simp only at h ⊢
    split at h
    · rename_i hc; exact absurd h hc
    rename_i h2
    have h2 : (parseF (r.take n ++ crlf)).2 = 0 := by simpa using h2
    refine ⟨n, rfl, by rw [g3] at g5; exact g5, h2, ?_⟩
    rw [if_neg (by simp), if_neg (by rw [h2]; simp)]
theorem last_mk {r b : List UInt8} {u n : Nat} {hd : List UInt8} (h1 : ¬ crlf.isPrefixOf r = true) (h2 : lineA crlf2 8192 r = (hd, n, 0)) (h3 : (parseF (hd ++ crlf)).2 = 0) : lastG r b u = ⟨b, u + n, (parseF (hd ++ crlf)).1, 0⟩ := by
  unfold lastG
  rw [if_neg h1, h2]
  simp only
  rw [if_neg (by simp), if_neg (by rw [h3]; simp)]
theorem last_app {r b : List UInt8} {u : Nat} (h : (lastG r b u).e = 0) (x : List UInt8) : lastG (r ++ x) b u = lastG r b u := by
  rcases last_step h with ⟨h1, h2, h3⟩ | ⟨h1, n, h2, h3, h4, h5⟩
  · rw [h3]
    unfold lastG
    rw [if_pos (pre_app x h1)]
  · rw [h5]
    exact last_mk (pre_app_no x (by simp [crlf]; omega) h1) (lineA_app crlf2_ne h2 x) h4
theorem dec_app (m : Nat) : ∀ (f : Nat) (r b : List UInt8) (u : Nat) (x : List UInt8), (decG m f r b u).e = 0 → decG m f (r ++ x) b u = decG m f r b u
  | 0, r, b, u, x, h => rfl
  | f + 1, r, b, u, x, h => by
    obtain ⟨n, z, h1, h2, h3, h4, ⟨hz, h5⟩ | ⟨hz, h5, h6⟩⟩ := dec_step h
    · subst hz
      rw [dec_last (lineA_app crlf_ne h1 x) h4, dec_last h1 h4, List.drop_append_of_le_length h2]
      rw [h5] at h
      exact last_app h x
    · obtain ⟨q1, q2, q3⟩ := restG_ok h5
      have q2' : n + 2 + z + 2 ≤ r.length := by simp at q2; omega
      have e0 : (r ++ x).drop (n + 2) = r.drop (n + 2) ++ x := List.drop_append_of_le_length h2
      have hr : restG m z ((r ++ x).drop (n + 2)) b = 0 := by
        rw [e0]
        exact restG_mk q1 (by simp; omega) (by rw [List.drop_append_of_le_length (by omega)]; exact pre_app x q3)
      rw [dec_more (lineA_app crlf_ne h1 x) h4 hz hr, dec_more h1 h4 hz h5, e0, List.take_append_of_le_length (by omega), List.drop_append_of_le_length q2']
      rw [h6] at h
      exact dec_app m f _ _ _ x h

/-! A beginning -/
theorem last_take {r b : List UInt8} {u : Nat} (h : (lastG r b u).e = 0) : u + 2 ≤ (lastG r b u).used ∧ (lastG r b u).used ≤ u + r.length ∧ lastG (r.take ((lastG r b u).used - u)) b u = lastG r b u ∧
    ∀ p, p < (lastG r b u).used - u → lastG (r.take p) b u = decX 6 := by
  have key : ∀ p, lineA crlf2 8192 (r.take p) = ([], 0, 6) → ¬ crlf.isPrefixOf (r.take p) = true → lastG (r.take p) b u = decX 6 := fun p h1 h2 => by
    unfold lastG
    rw [if_neg h2, h1, if_pos (by simp)]
  rcases last_step h with ⟨h1, h2, h3⟩ | ⟨h1, n, h2, h3, h4, h5⟩
  · rw [h3]
    refine ⟨Nat.le_refl _, by show u + 2 ≤ u + r.length; omega, ?_, fun p hp => ?_⟩
    · have e : (Dec.mk b (u + 2) [] 0).used - u = 2 := by show u + 2 - u = 2; omega
      rw [e]
      unfold lastG
      rw [if_pos (by rw [List.isPrefixOf_iff_prefix] at h1 ⊢; exact List.prefix_take_iff.2 ⟨h1, by simp [crlf]⟩)]
    · have hp : p < 2 := by
        have e : (Dec.mk b (u + 2) [] 0).used - u = 2 := by show u + 2 - u = 2; omega
        omega
      refine key p ?_ ?_
      · have : fnd crlf2 ((r.take p).take 8192) = none := by
          cases hf : fnd crlf2 ((r.take p).take 8192) with
          | none => rfl
          | some k => have := (fnd_some hf).2; simp [crlf2] at this; omega
        unfold lineA
        rw [this, if_neg (by simp; omega)]
      · intro hc
        have := (List.isPrefixOf_iff_prefix.1 hc).length_le
        simp [crlf] at this
        omega
  · have e : (lastG r b u).used - u = n + 4 := by rw [h5]; show u + (n + 4) - u = n + 4; omega
    have e2 : (lastG r b u).used = u + (n + 4) := by rw [h5]
    rw [e, e2]
    have hno : ∀ p, ¬ crlf.isPrefixOf (r.take p) = true := fun p hc => h1 (by
      rw [List.isPrefixOf_iff_prefix] at hc ⊢
      exact hc.trans (List.take_prefix _ _))
    refine ⟨by omega, by omega, ?_, fun p hp => key p (lineA_short crlf2_ne h2 hp) (hno p)⟩
    rw [h5]
    exact last_mk (hno _) (lineA_take crlf2_ne h2 (Nat.le_refl _)) h4
theorem dec_take (m : Nat) : ∀ (f : Nat) (r b : List UInt8) (u : Nat), (decG m f r b u).e = 0 → u + 5 ≤ (decG m f r b u).used ∧ (decG m f r b u).used ≤ u + r.length ∧ decG m f (r.take ((decG m f r b u).used - u)) b u = decG m f r b u ∧
    ∀ p g, p < (decG m f r b u).used - u → decG m g (r.take p) b u = decX 6
  | 0, r, b, u, h => by cases h
  | f + 1, r, b, u, h => by
    obtain ⟨n, z, h1, h2, h3, h4, ⟨hz, h5⟩ | ⟨hz, h5, h6⟩⟩ := dec_step h
    · subst hz
      rw [h5] at h ⊢
      obtain ⟨k1, k2, k3, k4⟩ := last_take h
      generalize hd : lastG (r.drop (n + 2)) b (u + (n + 2)) = d at *
      rw [List.length_drop] at k2
      refine ⟨by omega, by omega, ?_, fun p g hp => ?_⟩
      · rw [dec_last (lineA_take crlf_ne h1 (by omega)) h4, List.drop_take, show d.used - u - (n + 2) = d.used - (u + (n + 2)) by omega]
        exact k3
      · cases g with
        | zero => rfl
        | succ g =>
          rcases Nat.lt_or_ge p (n + 2) with hq | hq
          · rw [decG, lineA_short crlf_ne h1 hq, if_pos (by simp)]
          · rw [dec_last (lineA_take crlf_ne h1 hq) h4, List.drop_take]
            exact k4 _ (by omega)
    · obtain ⟨q1, q2, q3⟩ := restG_ok h5
      have q2' : n + 2 + z + 2 ≤ r.length := by simp at q2; omega
      rw [h6] at h ⊢
      obtain ⟨k1, k2, k3, k4⟩ := dec_take m f _ _ _ h
      generalize hd : decG m f (r.drop (n + 2 + z + 2)) (b ++ (r.drop (n + 2)).take z) (u + (n + 2) + z + 2) = d at *
      rw [List.length_drop] at k2
      have go : ∀ p g, n + 2 + z + 2 ≤ p → decG m (g + 1) (r.take p) b u = decG m g ((r.drop (n + 2 + z + 2)).take (p - (n + 2 + z + 2))) (b ++ (r.drop (n + 2)).take z) (u + (n + 2) + z + 2) := fun p g hp => by
        have e0 : (r.take p).drop (n + 2) = (r.drop (n + 2)).take (p - (n + 2)) := List.drop_take
        have hr : restG m z ((r.take p).drop (n + 2)) b = 0 := by
          rw [e0]
          refine restG_mk q1 (by simp; omega) ?_
          rw [List.drop_take]
          rw [List.isPrefixOf_iff_prefix] at q3 ⊢
          exact List.prefix_take_iff.2 ⟨q3, by simp [crlf]; omega⟩
        rw [dec_more (lineA_take crlf_ne h1 (by omega)) h4 hz hr, e0, List.take_take, Nat.min_eq_left (by omega), List.drop_take]
      refine ⟨by omega, by omega, ?_, fun p g hp => ?_⟩
      · rw [go _ _ (by omega), show d.used - u - (n + 2 + z + 2) = d.used - (u + (n + 2) + z + 2) by omega]
        exact k3
      · cases g with
        | zero => rfl
        | succ g =>
          rcases Nat.lt_or_ge p (n + 2) with hq | hq
          · rw [decG, lineA_short crlf_ne h1 hq, if_pos (by simp)]
          rcases Nat.lt_or_ge p (n + 2 + z + 2) with hq2 | hq2
          · have e0 : (r.take p).drop (n + 2) = (r.drop (n + 2)).take (p - (n + 2)) := List.drop_take
            have hr : restG m z ((r.take p).drop (n + 2)) b = 6 := by
              rw [e0]
              unfold restG
              rw [if_neg (by omega)]
              rcases Nat.lt_or_ge p (n + 2 + z) with hq3 | hq3
              · rw [if_pos (by simp; omega)]
              · rw [if_neg (by simp; omega), List.drop_take, if_neg (by
                  intro hc
                  have := (List.isPrefixOf_iff_prefix.1 hc).length_le
                  simp [crlf] at this
                  omega), if_pos (by
                  rw [List.isPrefixOf_iff_prefix] at q3 ⊢
                  exact List.prefix_of_prefix_length_le (List.take_prefix _ _) q3 (by simp [crlf]; omega))]
            rw [dec_rest (lineA_take crlf_ne h1 hq) h4 hz (by rw [hr]; decide), hr]
          · rw [go _ _ hq2]
            exact k4 _ g (by omega)
/-- P7.4 -/
theorem decA_cut {s : List UInt8} {most : Int} (h : (decA s most).e = 0) : 5 ≤ (decA s most).used ∧ (decA s most).used ≤ s.length ∧ (∀ p, p < (decA s most).used → decA (s.take p) most = decX 6) ∧
    ∀ x, decA (s.take (decA s most).used ++ x) most = decA s most := by
  have h' : (decG (clip most) (s.length + 1) s [] 0).e = 0 := h
  obtain ⟨k1, k2, k3, k4⟩ := dec_take (clip most) _ s [] 0 h'
  have e : (decG (clip most) (s.length + 1) s [] 0).used = (decA s most).used := rfl
  rw [e] at k1 k2 k3 k4
  rw [Nat.sub_zero] at k3 k4
  refine ⟨by omega, by omega, fun p hp => k4 p _ hp, fun x => ?_⟩
  have h3 : (decG (clip most) (s.length + 1) (s.take (decA s most).used) [] 0).e = 0 := by rw [k3]; exact h'
  have h4 := dec_app (clip most) (s.length + 1) _ [] 0 x h3
  have h5 := dec_fuel (clip most) (s.length + 1) ((s.take (decA s most).used ++ x).length + 1) _ [] 0 (by rw [h4]; exact h3) (Nat.lt_succ_self _)
  show decG (clip most) ((s.take (decA s most).used ++ x).length + 1) (s.take (decA s most).used ++ x) [] 0 = _
  rw [h5, h4, k3]
  rfl

/-! What is put is read -/
theorem hexC_of {n : Nat} (h : n < 16) : hexB (hexC n) = true ∧ hexD (hexC n) = n ∧ hexC n ≠ 13 := by
  have : ∀ n, n < 16 → hexB (hexC n) = true ∧ hexD (hexC n) = n ∧ hexC n ≠ 13 := by decide
  exact this n h
theorem hexS_all : ∀ (f n : Nat), ∀ c ∈ hexS f n, hexB c = true ∧ c ≠ 13
  | 0, n, c, h => by cases h
  | f + 1, n, c, h => by
    rw [hexS] at h
    split at h
    · rw [List.mem_singleton] at h
      subst h
      have := hexC_of (n := n) (by omega)
      exact ⟨this.1, this.2.2⟩
    · rcases List.mem_append.1 h with h | h
      · exact hexS_all f _ c h
      · rw [List.mem_singleton] at h
        subst h
        have := hexC_of (n := n % 16) (by omega)
        exact ⟨this.1, this.2.2⟩
theorem hexV_app : ∀ (a b : List UInt8) (n : Nat), hexV n (a ++ b) = hexV (hexV n a) b
  | [], b, n => rfl
  | c :: a, b, n => by simp only [List.cons_append, hexV]; exact hexV_app a b _
theorem hexV_hexS : ∀ (f n : Nat), n < 16 ^ f → 0 < f → hexV 0 (hexS f n) = n
  | 0, n, _, h => by omega
  | f + 1, n, h, _ => by
    rw [hexS]
    split
    · rename_i hn
      have := hexC_of hn
      simp [hexV, this.2.1]
    · rename_i hn
      have h1 : n / 16 < 16 ^ f := by rw [Nat.pow_succ] at h; omega
      have hf : 0 < f := by
        cases f with
        | zero => simp at h; omega
        | succ f => omega
      rw [hexV_app, hexV_hexS f _ h1 hf]
      have := hexC_of (n := n % 16) (by omega)
      simp only [hexV, this.2.1]
      omega
theorem hexS_len : ∀ (f n j : Nat), n < 16 ^ j → 0 < j → (hexS f n).length ≤ j
  | 0, n, j, _, _ => by simp [hexS]
  | f + 1, n, j, h, hj => by
    rw [hexS]
    split
    · simp; omega
    · rename_i hn
      cases j with
      | zero => omega
      | succ j =>
        have h1 : n / 16 < 16 ^ j := by rw [Nat.pow_succ] at h; omega
        have hj2 : 0 < j := by
          cases j with
          | zero => simp at h; omega
          | succ f => omega
        have := hexS_len f (n / 16) j h1 hj2
        simp; omega
theorem hexT_ne (n : Nat) : hexT n ≠ [] := by
  unfold hexT
  rw [hexS]
  split <;> simp
theorem takeWhile_all' {p : UInt8 → Bool} : ∀ {l : List UInt8}, (∀ c ∈ l, p c = true) → l.takeWhile p = l ∧ l.dropWhile p = []
  | [], _ => ⟨rfl, rfl⟩
  | c :: l, h => by
    obtain ⟨h1, h2⟩ := takeWhile_all' (p := p) (l := l) fun d hd => h d (by simp [hd])
    rw [List.takeWhile_cons_of_pos (h c (by simp)), List.dropWhile_cons_of_pos (h c (by simp)), h1, h2]
    exact ⟨rfl, rfl⟩
theorem sizeA_hexT {n : Nat} (h : n < 16 ^ 8) : sizeA (hexT n) = (n, 0) := by
  obtain ⟨h1, h2⟩ := takeWhile_all' (p := hexB) (l := hexT n) fun c hc => (hexS_all 17 n c hc).1
  have hl := hexS_len 17 n 8 h (by omega)
  unfold sizeA sizeV
  rw [h1, h2, if_neg (hexT_ne n), if_neg (by unfold hexT; omega)]
  simp only
  unfold hexT
  rw [hexV_hexS 17 n (Nat.lt_of_lt_of_le h (Nat.pow_le_pow_right (by omega) (by omega))) (by omega)]
theorem fnd_crlf : ∀ (a r : List UInt8), (∀ c ∈ a, c ≠ 13) → fnd crlf (a ++ (crlf ++ r)) = some a.length
  | [], r, _ => by simp [fnd, crlf]
  | c :: a, r, h => by
    have hc := h c (by simp)
    have : crlf.isPrefixOf (c :: (a ++ (crlf ++ r))) = false := by
      refine eq_false_of_ne_true fun hp => hc ?_
      simp [crlf] at hp
      exact hp.1.symm
    rw [List.cons_append, fnd, this, if_neg (by simp), fnd_crlf a r fun d hd => h d (by simp [hd])]
    rfl
theorem line_head {a r : List UInt8} (h : ∀ c ∈ a, c ≠ 13) (hl : a.length + 2 ≤ 2050) : lineA crlf 2050 (a ++ (crlf ++ r)) = (a, a.length + 2, 0) := by
  have : fnd crlf ((a ++ (crlf ++ r)).take 2050) = some a.length := fnd_take (fnd_crlf a r h) (by simpa [crlf] using hl) crlf_ne
  unfold lineA
  rw [this]
  simp [crlf]
theorem stepN_pos {l : List Nat} {k n : Nat} (hl : ∀ x ∈ l, 0 < x) (hn : 0 < n) : 0 < stepN l k n ∧ stepN l k n ≤ n := by
  unfold stepN
  split
  · exact ⟨hn, Nat.le_refl _⟩
  · rename_i h
    have hk : k % l.length < l.length := Nat.mod_lt _ (List.length_pos_iff.2 h)
    have : 0 < l.getD (k % l.length) 0 := by
      rw [List.getD_eq_getElem?_getD, List.getElem?_eq_getElem hk]
      exact hl _ (List.getElem_mem hk)
    omega
theorem posL_pos (l : List Int) : ∀ x ∈ posL l, 0 < x := fun x hx => by
  unfold posL at hx
  obtain ⟨z, hz, rfl⟩ := List.mem_map.1 hx
  have := (List.mem_filter.1 hz).2
  simp at this
  omega
def zeroT : List UInt8 := [48, 13, 10, 13, 10]
theorem dec_enc (m : Nat) {l : List Nat} (hl : ∀ x ∈ l, 0 < x) (more : List UInt8) : ∀ (g f k : Nat) (s b : List UInt8) (u : Nat), s.length ≤ g → s.length < 16 ^ 8 → s.length < f → b.length ≤ m →
    decG m f (encG l g k s ++ (zeroT ++ more)) b u = if b.length + s.length ≤ m then ⟨b ++ s, u + (encG l g k s).length + 5, [], 0⟩ else decX 3 := by
  intro g
  induction g with
  | zero =>
    intro f k s b u hg h8 hf hb
    obtain rfl : s = [] := List.eq_nil_of_length_eq_zero (by omega)
    cases f with
    | zero => simp at hf
    | succ f =>
      rw [if_pos (by simpa using hb)]
      have e : encG l 0 k [] ++ (zeroT ++ more) = [48] ++ (crlf ++ (crlf ++ more)) := rfl
      rw [e, dec_last (line_head (by decide) (by decide)) (by decide)]
      show lastG (crlf ++ more) b (u + 3) = _
      unfold lastG
      rw [if_pos (by simp [crlf])]
      simp [encG]
  | succ g ih =>
    intro f k s b u hg h8 hf hb
    cases f with
    | zero => omega
    | succ f =>
      by_cases hs : s = []
      · subst hs
        rw [if_pos (by simpa using hb)]
        have e : encG l (g + 1) k [] ++ (zeroT ++ more) = [48] ++ (crlf ++ (crlf ++ more)) := rfl
        rw [e, dec_last (line_head (by decide) (by decide)) (by decide)]
        show lastG (crlf ++ more) b (u + 3) = _
        unfold lastG
        rw [if_pos (by simp [crlf])]
        simp [encG]
      · have hs0 : 0 < s.length := List.length_pos_iff.2 hs
        obtain ⟨n1, n2⟩ := stepN_pos (k := k) hl hs0
        generalize hn : stepN l k s.length = n at *
        have e : encG l (g + 1) k s ++ (zeroT ++ more) = hexT n ++ (crlf ++ (s.take n ++ crlf ++ (encG l g (k + 1) (s.drop n) ++ (zeroT ++ more)))) := by
          rw [encG, if_neg hs, hn]
          simp
        have hlen : (hexT n).length ≤ 8 := hexS_len 17 n 8 (by omega) (by omega)
        have h1 := line_head (a := hexT n) (r := s.take n ++ crlf ++ (encG l g (k + 1) (s.drop n) ++ (zeroT ++ more))) (fun c hc => (hexS_all 17 n c hc).2) (by omega)
        have h2 := sizeA_hexT (n := n) (by omega)
        have e1 : (hexT n ++ (crlf ++ (s.take n ++ crlf ++ (encG l g (k + 1) (s.drop n) ++ (zeroT ++ more))))).drop ((hexT n).length + 2) = s.take n ++ (crlf ++ (encG l g (k + 1) (s.drop n) ++ (zeroT ++ more))) := by
          rw [List.drop_append, List.drop_eq_nil_of_le (by omega), List.nil_append, show (hexT n).length + 2 - (hexT n).length = 2 by omega]
          simp [crlf]
        have htk : (s.take n).length = n := by simp; omega
        have e2 : (s.take n ++ (crlf ++ (encG l g (k + 1) (s.drop n) ++ (zeroT ++ more)))).take n = s.take n := by
          rw [List.take_append_of_le_length (by omega), List.take_of_length_le (by omega)]
        have e3 : (hexT n ++ (crlf ++ (s.take n ++ crlf ++ (encG l g (k + 1) (s.drop n) ++ (zeroT ++ more))))).drop ((hexT n).length + 2 + n + 2) = encG l g (k + 1) (s.drop n) ++ (zeroT ++ more) := by
          rw [show (hexT n).length + 2 + n + 2 = ((hexT n).length + 2) + (n + 2) by omega, ← List.drop_drop, e1, List.drop_append, List.drop_eq_nil_of_le (by omega), List.nil_append, htk, show n + 2 - n = 2 by omega]
          simp [crlf]
        rw [e]
        by_cases hm : m - b.length < n
        · have hr : restG m n ((hexT n ++ (crlf ++ (s.take n ++ crlf ++ (encG l g (k + 1) (s.drop n) ++ (zeroT ++ more))))).drop ((hexT n).length + 2)) b = 3 := by
            unfold restG
            rw [if_pos hm]
          rw [dec_rest h1 h2 (by omega) (by rw [hr]; decide), hr, if_neg (by omega)]
        · have hr : restG m n ((hexT n ++ (crlf ++ (s.take n ++ crlf ++ (encG l g (k + 1) (s.drop n) ++ (zeroT ++ more))))).drop ((hexT n).length + 2)) b = 0 := by
            rw [e1]
            refine restG_mk (by omega) (by simp; omega) ?_
            rw [List.drop_append, List.drop_eq_nil_of_le (by omega), List.nil_append, htk, Nat.sub_self]
            simp [crlf]
          rw [dec_more h1 h2 (by omega) hr, e1, e2, e3, ih f (k + 1) (s.drop n) (b ++ s.take n) _ (by simp; omega) (by simp; omega) (by simp; omega) (by simp; omega)]
          have c1 : (b ++ s.take n).length + (s.drop n).length = b.length + s.length := by simp; omega
          rw [c1, List.append_assoc, List.take_append_drop]
          have c2 : u + ((hexT n).length + 2) + n + 2 + (encG l g (k + 1) (s.drop n)).length + 5 = u + (encG l (g + 1) k s).length + 5 := by
            rw [encG, if_neg hs, hn]
            simp [crlf]
            omega
          rw [c2]
/-- P7.3 -/
theorem decA_enc {s : List UInt8} (l : List Int) (more : List UInt8) {most : Int} (h8 : s.length < 16 ^ 8) : decA (encA s l ++ more) most = if s.length ≤ clip most then ⟨s, (encA s l).length, [], 0⟩ else decX 3 := by
  have e : encA s l ++ more = encG (posL l) s.length 0 s ++ (zeroT ++ more) := by simp [encA, zeroT]
  have hlen : ∀ (g k : Nat) (t : List UInt8), t.length ≤ g → t.length ≤ (encG (posL l) g k t).length := by
    intro g
    induction g with
    | zero => intro k t h; simp at h; simp [h]
    | succ g ih =>
      intro k t h
      by_cases ht : t = []
      · simp [ht]
      · have ht0 : 0 < t.length := List.length_pos_iff.2 ht
        obtain ⟨n1, n2⟩ := stepN_pos (k := k) (posL_pos l) ht0
        rw [encG, if_neg ht]
        generalize stepN (posL l) k t.length = n at *
        have := ih (k + 1) (t.drop n) (by simp; omega)
        simp at this ⊢
        omega
  have := dec_enc (clip most) (posL_pos l) more s.length ((encA s l ++ more).length + 1) 0 s [] 0 (Nat.le_refl _) h8 (by have := hlen s.length 0 s (Nat.le_refl _); rw [e]; simp [zeroT]; omega) (by simp)
  unfold decA
  rw [e] at this ⊢
  rw [this]
  have : 0 + (encG (posL l) s.length 0 s).length + 5 = (encA s l).length := by simp [encA]
  rw [this]
  simp
end Go.Ai
end

section
namespace Go.Ai
open Go.RowKit
set_option linter.unusedVariables false

def big : Nat := 100000
def letterB (c : UInt8) : Bool := (decide (65 ≤ c.toNat) && decide (c.toNat ≤ 90)) || (decide (97 ≤ c.toNat) && decide (c.toNat ≤ 122)) || (decide (48 ≤ c.toNat) && decide (c.toNat ≤ 57))
def byteC (p : UInt8 → Bool) : Con := fun vs h K => ∃ c : UInt8, vs = [.int .u8 c.toNat] ∧ K (.bool (p c)) h
def inC : Con := fun vs h K => ∃ (c : UInt8) (s : List UInt8), s.length ≤ big ∧ vs = [.int .u8 c.toNat, .str s] ∧ K (.bool (s.contains c)) h
def ixC : Con := fun vs h K => ∃ (s : List UInt8) (c : UInt8), vs = [.str s, .int .u8 c.toNat] ∧ K (.int .i64 (Lib.indexByte s c)) h
def strC (p : List UInt8 → Bool) : Con := fun vs h K => ∃ s : List UInt8, s.length ≤ big ∧ vs = [.str s] ∧ K (.bool (p s)) h
def prefC : Con := fun vs h K => ∃ s x : List UInt8, vs = [.str s, .str x] ∧ K (.bool (x.isPrefixOf s)) h
end Go.Ai
namespace Go.Ai
def ixSC : Con := fun vs h K => ∃ s x : List UInt8, s.length ≤ lim ∧ vs = [.str s, .str x] ∧ K (.int .i64 (idxB s x 0)) h
def cutGC : Con := fun vs h K => ∃ s x : List UInt8, s.length ≤ lim ∧ vs = [.str s, .str x] ∧ K (.tup [.str (cutS s x).1, .str (cutS s x).2.1, .bool (cutS s x).2.2]) h
def lineC : Con := fun vs h K => ∃ (s en : List UInt8) (m : Nat), s.length ≤ lim ∧ en.length ≤ 100 ∧ m ≤ lim ∧ vs = [.str s, .str en, .int .i64 m] ∧ K (.tup [.str (lineA en m s).1, .int .i64 (lineA en m s).2.1, .int .i64 (lineA en m s).2.2]) h
def hexOk (s : List UInt8) : Prop := s ≠ [] ∧ s.length ≤ 8 ∧ s.all hexB = true
def puC : Con := fun vs h K => ∃ s : List UInt8, hexOk s ∧ vs = [.str s, .int .i64 16, .int .i64 64] ∧ K (.tup [.int .u64 (hexV 0 s), .nili]) h
def sizeC : Con := fun vs h K => ∃ s : List UInt8, s.length ≤ big ∧ vs = [.str s] ∧ K (.tup [.int .i64 (sizeA s).1, .int .i64 (sizeA s).2]) h
def sizeN (s : List UInt8) : Int := match sizeV s with | some n => ((n : Nat) : Int) | none => -1
def sizeRC : Con := fun vs h K => ∃ s : List UInt8, s.length ≤ big ∧ vs = [.str s] ∧ K (.int .i64 (sizeN s)) h
def fldC (p : Fld → Bool) : Con := fun vs h K => ∃ a b : List UInt8, a.length ≤ big ∧ b.length ≤ big ∧ vs = [.agg [.str a, .str b]] ∧ K (.bool (p ⟨a, b⟩)) h
def fldSC : Con := fun vs h K => ∃ a b : List UInt8, a.length ≤ big ∧ b.length ≤ big ∧ vs = [.agg [.str a, .str b]] ∧ K (.str (a ++ [58, 32] ++ b)) h
def parseC : Con := fun vs h K => ∃ s : List UInt8, s.length ≤ big ∧ vs = [.str s] ∧ K (.tup [.sl 2 (encFs (parseF s).1) none, .int .i64 (parseF s).2]) h
def oneC : Con := fun vs h K => ∃ s : List UInt8, s.length ≤ big ∧ vs = [.str s] ∧ K (.tup [.agg [.str (oneF s).1.name, .str (oneF s).1.value], .int .i64 (oneF s).2]) h
def hexDC : Con := fun vs h K => ∃ c : UInt8, vs = [.int .u8 c.toNat] ∧ K (.int .i64 (if hexB c = true then ((hexD c : Nat) : Int) else -1)) h
/-- Does a line end at a place? -/
def endsB (s : List UInt8) (n : Nat) : Bool := crlf.isPrefixOf (s.drop n)
def endsC : Con := fun vs h K => ∃ (s : List UInt8) (n : Nat), s.length ≤ lim ∧ n ≤ lim ∧ vs = [.str s, .int .i64 n] ∧ K (.bool (endsB s n)) h
/-- Where a line ends, from a place on; where the lines behind the last chunk end. -/
def headA (s : List UInt8) (n : Nat) : Nat × Int := match fnd crlf ((s.drop n).take 2050) with
  | some i => (n + i, 0)
  | none => (0, if 2050 ≤ (s.drop n).length then 3 else 6)
def tailA (s : List UInt8) (n : Nat) : Nat × Int := if endsB s n = true then (n + 2, 0) else match fnd crlf2 ((s.drop n).take 8192) with
  | some i => (n + i + 4, 0)
  | none => (0, if 8192 ≤ (s.drop n).length then 3 else 6)
def headC : Con := fun vs h K => ∃ (s : List UInt8) (n : Nat), s.length ≤ lim ∧ n ≤ s.length ∧ vs = [.str s, .int .i64 n] ∧ K (.tup [.int .i64 (headA s n).1, .int .i64 (headA s n).2]) h
def tailC : Con := fun vs h K => ∃ (s : List UInt8) (n : Nat), s.length ≤ lim ∧ n ≤ s.length ∧ vs = [.str s, .int .i64 n] ∧ K (.tup [.int .i64 (tailA s n).1, .int .i64 (tailA s n).2]) h
def decC : Con := fun vs h K => ∃ (s : List UInt8) (m : Int), s.length ≤ lim ∧ -9223372036854775808 ≤ m ∧ m ≤ 9223372036854775807 ∧ vs = [.str s, .int .i64 m] ∧
  K (.tup [.str (decA s m).body, .int .i64 (decA s m).used, .sl 2 (encFs (decA s m).tr) none, .int .i64 (decA s m).e]) h
def hexTC : Con := fun vs h K => ∃ n : Nat, n ≤ lim ∧ vs = [.int .i64 n] ∧ K (.str (hexT n)) h
def hexPC : Con := fun vs h K => ∃ n : Nat, n ≤ lim ∧ vs = [.int .i64 n, .int .i64 16] ∧ K (.str (hexT n)) h
def encI' (l : List Int) : List (List AV) := l.map fun n => [AV.int .i64 n]
def encC : Con := fun vs h K => ∃ (s : List UInt8) (l : List Int) (sz : Nat), s.length ≤ 1000000 ∧ l.length ≤ 1000 ∧ (∀ n ∈ l, -9223372036854775808 ≤ n ∧ n ≤ 9223372036854775807) ∧ szOk sz 1 l.length ∧ vs = [.str s, .sl sz (encI' l) none] ∧ K (.str (encA s l)) h
end Go.Ai
namespace Go.Ai
def lowerBC : Con := fun vs h K => ∃ c : UInt8, vs = [.int .u8 c.toNat] ∧ K (.int .u8 ((c ||| 32).toNat : Nat)) h
end Go.Ai
namespace Go.Ai
/-- What is known of a builder that stands in block 2, its bytes in block 1. -/
def copyA : Con := fun vs h K => match h with
  | [.grow g s0 e0, .grow n s1 e1, .mem t [p, .sl s2 es (some i)]] => ∃ acc : List UInt8, (s1 = 1 ∧ e1 = 5 ∧ t = 71 ∧ s2 = 1 ∧ i = 1) ∧ (p = .nilp ∨ p = .ptr 2 0) ∧ es = rb acc ∧ vs = [.ptr 2 0] ∧ K (.tup []) [.grow g s0 e0, .grow n 1 5, .mem 71 [.ptr 2 0, .sl 1 (rb acc) (some 1)]]
  | [.grow g s0 e0, .grow m s3 e3, .grow n s1 e1, .mem t [p, .sl s2 es (some i)]] => ∃ acc : List UInt8, (s1 = 1 ∧ e1 = 5 ∧ t = 71 ∧ s2 = 1 ∧ i = 2) ∧ (p = .nilp ∨ p = .ptr 3 0) ∧ es = rb acc ∧ vs = [.ptr 3 0] ∧ K (.tup []) [.grow g s0 e0, .grow m s3 e3, .grow n 1 5, .mem 71 [.ptr 3 0, .sl 1 (rb acc) (some 2)]]
  | _ => False
def writeA : Con := fun vs h K => match h with
  | [.grow g s0 e0, .grow n s1 e1, .mem t [p, .sl s2 es (some i)]] => ∃ acc x : List UInt8, (s1 = 1 ∧ e1 = 5 ∧ t = 71 ∧ s2 = 1 ∧ i = 1) ∧ (p = .nilp ∨ p = .ptr 2 0) ∧ es = rb acc ∧ n = acc.length ∧ acc.length + x.length ≤ 1000000000 ∧ vs = [.ptr 2 0, .str x] ∧
      K (.tup [.int .i64 ((x.length : Nat) : Int), .nili]) [.grow g s0 e0, .grow (acc ++ x).length 1 5, .mem 71 [.ptr 2 0, .sl 1 (rb (acc ++ x)) (some 1)]]
  | [.grow g s0 e0, .grow m s3 e3, .grow n s1 e1, .mem t [p, .sl s2 es (some i)]] => ∃ acc x : List UInt8, (s1 = 1 ∧ e1 = 5 ∧ t = 71 ∧ s2 = 1 ∧ i = 2) ∧ (p = .nilp ∨ p = .ptr 3 0) ∧ es = rb acc ∧ n = acc.length ∧ acc.length + x.length ≤ 1000000000 ∧ vs = [.ptr 3 0, .str x] ∧
      K (.tup [.int .i64 ((x.length : Nat) : Int), .nili]) [.grow g s0 e0, .grow m s3 e3, .grow (acc ++ x).length 1 5, .mem 71 [.ptr 3 0, .sl 1 (rb (acc ++ x)) (some 2)]]
  | _ => False
def lenA' : Con := fun vs h K => match h with
  | [.grow g s0 e0, .grow n s1 e1, .mem t [p, .sl s2 es (some i)]] => ∃ acc : List UInt8, (s1 = 1 ∧ e1 = 5 ∧ t = 71 ∧ s2 = 1 ∧ i = 1) ∧ (p = .nilp ∨ p = .ptr 2 0) ∧ es = rb acc ∧ n = acc.length ∧ vs = [.ptr 2 0] ∧
      K (.int .i64 ((acc.length : Nat) : Int)) [.grow g s0 e0, .grow acc.length 1 5, .mem 71 [p, .sl 1 (rb acc) (some 1)]]
  | _ => False
def strA : Con := fun vs h K => match h with
  | [.grow g s0 e0, .grow n s1 e1, .mem t [p, .sl s2 es (some i)]] => ∃ acc : List UInt8, (s1 = 1 ∧ e1 = 5 ∧ t = 71 ∧ s2 = 1 ∧ i = 1) ∧ es = rb acc ∧ n = acc.length ∧ vs = [.ptr 2 0] ∧
      K (.str acc) [.grow g s0 e0, .dead, .mem 71 [p, .sl 1 (rb acc) (some 1)]]
  | [.grow g s0 e0, .grow m s3 e3, .grow n s1 e1, .mem t [p, .sl s2 es (some i)]] => ∃ acc : List UInt8, (s1 = 1 ∧ e1 = 5 ∧ t = 71 ∧ s2 = 1 ∧ i = 2) ∧ es = rb acc ∧ n = acc.length ∧ vs = [.ptr 3 0] ∧
      K (.str acc) [.grow g s0 e0, .grow m s3 e3, .dead, .mem 71 [p, .sl 1 (rb acc) (some 2)]]
  | _ => False
end Go.Ai
namespace Go.Ai
def powC : Con := fun vs h K => vs = [.int .i64 16] ∧ K (.bool true) h
def tzC : Con := fun vs h K => vs = [.int .u64 16] ∧ K (.int .i64 4) h
end Go.Ai
namespace Go.Ai
def fbC : Con := fun vs h K => ∃ n : Nat, n ≤ lim ∧ vs = [.sl 0 [] none, .int .u64 n, .int .i64 16, .bool false, .bool false] ∧ K (.tup [.sl 1 [] none, .str (hexT n)]) h
end Go.Ai
namespace Go.Ai
def decRC : Con := fun vs h K => ∃ (s : List UInt8) (m : Int), s.length ≤ 100000 ∧ -9223372036854775808 ≤ m ∧ m ≤ 9223372036854775807 ∧ vs = [.str s, .int .i64 m] ∧
  K (.tup [.str (decA s m).body, .int .i64 (decA s m).used, .sl 2 (encFs (decA s m).tr) none, .int .i64 (decA s m).e]) h
def givesB (s : List UInt8) (m : Int) (b : List UInt8) (u t : Int) : Bool := (decA s m).body == b && ((((decA s m).used : Nat) : Int) == u && ((((decA s m).tr.length : Nat) : Int) == t && (decA s m).e == 0))
def givesC : Con := fun vs h K => ∃ (s b : List UInt8) (m u t : Int), s.length ≤ lim ∧ (-9223372036854775808 ≤ m ∧ m ≤ 9223372036854775807) ∧ vs = [.str s, .int .i64 m, .str b, .int .i64 u, .int .i64 t] ∧ K (.bool (givesB s m b u t)) h
def failsB (s : List UInt8) (m e : Int) : Bool := (decA s m).body == [] && ((((decA s m).used : Nat) : Int) == 0 && ((((decA s m).tr.length : Nat) : Int) == 0 && (decA s m).e == e))
def failsC : Con := fun vs h K => ∃ (s : List UInt8) (m e : Int), s.length ≤ lim ∧ (-9223372036854775808 ≤ m ∧ m ≤ 9223372036854775807) ∧ vs = [.str s, .int .i64 m, .int .i64 e] ∧ K (.bool (failsB s m e)) h
def spreadC : Con := fun vs h K => ∃ n : Nat, n ≤ 10000 ∧ vs = [.int .i64 n] ∧ K (.sl 1 (rb (List.replicate n 97)) none) h
def decodesC : Con := fun vs h K => ∃ (s : List UInt8) (m : Int), (-9223372036854775808 ≤ m ∧ m ≤ 9223372036854775807) ∧ vs = [.str s, .int .i64 m] ∧ K (.bool true) h
end Go.Ai
end
