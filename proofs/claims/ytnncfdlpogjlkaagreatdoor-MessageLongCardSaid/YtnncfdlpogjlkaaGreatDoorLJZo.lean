/-
  Start lines, in plain terms: pieces ahead of blanks, tokens, versions, what a request's line and a reply's line are. No statement about the program is made here.
  Start lines, in plain terms: how they are put; what is put is read again. No statement about the program is made here.
  Contracts of the functions of start lines. No statement about the program is made here.
-/
import Derived.Test.YtnncfdlpogjlkaaGreatDoorLAiLaw
set_option linter.unusedVariables false
set_option linter.unusedSimpArgs false
set_option linter.unnecessarySimpa false
section
namespace Go.Ai
open Go.RowKit
def isDg (c : UInt8) : Bool := decide (48 ≤ c.toNat) && decide (c.toNat ≤ 57)
def marksB : List UInt8 := [33, 35, 36, 37, 38, 39, 42, 43, 45, 46, 94, 95, 96, 124, 126]
def wordB (c : UInt8) : Bool := (decide (97 ≤ c.toNat) && decide (c.toNat ≤ 122)) || (decide (65 ≤ c.toNat) && decide (c.toNat ≤ 90)) || (decide (48 ≤ c.toNat) && decide (c.toNat ≤ 57)) || marksB.contains c
def tokenB (s : List UInt8) : Bool := s.all wordB && !s.isEmpty
def targetB (c : UInt8) : Bool := decide (33 ≤ c.toNat) && decide (c.toNat ≤ 126)
def reasonB (c : UInt8) : Bool := c == 9 || (decide (32 ≤ c.toNat) && decide (c.toNat ≤ 126)) || decide (128 ≤ c.toNat)
def cutB : List UInt8 → List UInt8 × List UInt8 × Bool
  | [] => ([], [], false)
  | c :: r => if c = 32 then ([], r, true) else (c :: (cutB r).1, (cutB r).2.1, (cutB r).2.2)
theorem cutB_at : ∀ (m r : List UInt8), (∀ c ∈ m, c ≠ 32) → cutB (m ++ 32 :: r) = (m, r, true)
  | [], r, _ => by simp [cutB]
  | c :: m, r, h => by
    have h1 := h c (by simp)
    have h2 := cutB_at m r fun d hd => h d (by simp [hd])
    simp only [List.cons_append, cutB, if_neg h1, h2]
theorem cutB_spec : ∀ (s : List UInt8), (∀ c ∈ (cutB s).1, c ≠ 32) ∧ ((cutB s).2.2 = true → s = (cutB s).1 ++ 32 :: (cutB s).2.1) ∧ ((cutB s).2.2 = false → (cutB s).1 = s ∧ (cutB s).2.1 = [])
  | [] => by simp [cutB]
  | c :: r => by
    obtain ⟨h1, h2, h3⟩ := cutB_spec r; simp only [cutB]; split
    · rename_i hc; subst hc; simp
    · rename_i hc
      refine ⟨fun d hd => ?_, fun h => ?_, fun h => ?_⟩
      · rcases List.mem_cons.1 hd with rfl | hd
        · exact hc
        · exact h1 d hd
      · exact congrArg (c :: ·) (h2 h)
      · obtain ⟨q1, q2⟩ := h3 h; exact ⟨congrArg (c :: ·) q1, q2⟩
theorem cutB_len (s : List UInt8) : (cutB s).1.length ≤ s.length ∧ (cutB s).2.1.length ≤ s.length := by
  obtain ⟨h1, h2, h3⟩ := cutB_spec s
  cases h : (cutB s).2.2 with
  | true =>
    have := congrArg List.length (h2 h); simp at this; omega
  | false =>
    obtain ⟨q1, q2⟩ := h3 h; rw [q1, q2]; simp
def verOf : List UInt8 → Option (UInt8 × UInt8)
  | [72, 84, 84, 80, 47, a, 46, b] => if isDg a && isDg b then some (a, b) else none
  | _ => none
def verB (bad : Bool) (s : List UInt8) : Int × Int :=
  match bad, verOf s with
  | false, some (a, b) => if a = 49 then ((min 1 (b.toNat - 48) : Nat), 0) else (0, 9)
  | _, _ => (0, 4)
theorem verOf_some {s : List UInt8} {a b : UInt8} (h : verOf s = some (a, b)) : s = [72, 84, 84, 80, 47, a, 46, b] ∧ isDg a = true ∧ isDg b = true := by
  unfold verOf at h; split at h
  · split at h
    · rename_i hd; simp only [Bool.and_eq_true] at hd
      injection h with h
      injection h with h1 h2
      subst h1; subst h2; exact ⟨rfl, hd.1, hd.2⟩
    · cases h
  · cases h
theorem verOf_mk {a b : UInt8} (ha : isDg a = true) (hb : isDg b = true) : verOf [72, 84, 84, 80, 47, a, 46, b] = some (a, b) := by
  simp [verOf, ha, hb]
theorem word_32 {c : UInt8} (h : wordB c = true) : c ≠ 32 := by rintro rfl; revert h; decide
theorem target_32 {c : UInt8} (h : targetB c = true) : c ≠ 32 := by rintro rfl; revert h; decide
theorem dg_32 {c : UInt8} (h : isDg c = true) : c ≠ 32 := by rintro rfl; revert h; decide
def reqBad (s : List UInt8) : Bool := !(cutB s).2.2 || !(cutB (cutB s).2.1).2.2 || !((cutB (cutB s).2.1).1.all targetB) || !tokenB (cutB s).1 || (cutB (cutB s).2.1).1.isEmpty
def reqE (s : List UInt8) : Int := if (verB (reqBad s) (cutB (cutB s).2.1).2.1).2 = 0 ∧ 1024 < (cutB (cutB s).2.1).1.length then 3 else (verB (reqBad s) (cutB (cutB s).2.1).2.1).2
def reqP (s : List UInt8) : List UInt8 × List UInt8 × Int × Int :=
  if 2048 < s.length then ([], [], 0, 3) else
  if reqE s = 0 then ((cutB s).1, (cutB (cutB s).2.1).1, (verB (reqBad s) (cutB (cutB s).2.1).2.1).1, 0) else ([], [], 0, reqE s)
structure IsReq (s m p v : List UInt8) (a b : UInt8) : Prop where
  eq : s = m ++ 32 :: (p ++ 32 :: v)
  tok : tokenB m = true
  tgt : p.all targetB = true
  ne : p ≠ []
  ver : verOf v = some (a, b)
theorem tok_32 {m : List UInt8} (h : tokenB m = true) : ∀ c ∈ m, c ≠ 32 := by
  simp only [tokenB, Bool.and_eq_true, List.all_eq_true] at h
  exact fun c hc => word_32 (h.1 c hc)
theorem tgt_32 {m : List UInt8} (h : m.all targetB = true) : ∀ c ∈ m, c ≠ 32 := by
  simp only [List.all_eq_true] at h
  exact fun c hc => target_32 (h c hc)
theorem req_cuts {s m p v : List UInt8} {a b : UInt8} (h : IsReq s m p v a b) : cutB s = (m, p ++ 32 :: v, true) ∧ cutB (p ++ 32 :: v) = (p, v, true) := by
  obtain ⟨rfl, h1, h2, h3, h4⟩ := h; exact ⟨cutB_at _ _ (tok_32 h1), cutB_at _ _ (tgt_32 h2)⟩
theorem req_some {s m p v : List UInt8} {a b : UInt8} (h : IsReq s m p v a b) (hl : s.length ≤ 2048) :
    reqP s = if a = 49 then (if 1024 < p.length then ([], [], 0, 3) else (m, p, ((min 1 (b.toNat - 48) : Nat) : Int), 0)) else ([], [], 0, 9) := by
  obtain ⟨q1, q2⟩ := req_cuts h; obtain ⟨-, h1, h2, h3, h4⟩ := h
  have hb : reqBad s = false := by
    have : p.isEmpty = false := by cases p <;> simp_all
    simp only [reqBad, q1, q2, h1, h2, this]; rfl
  have hv : verB false v = if a = 49 then (((min 1 (b.toNat - 48) : Nat) : Int), 0) else (0, 9) := by simp only [verB, h4]
  unfold reqP reqE
  rw [if_neg (by omega)]
  simp only [hb, q1, q2, hv]
  by_cases ha : a = 49
  · simp only [ha, if_true]
    by_cases hp : 1024 < p.length
    · simp [hp]
    · simp [hp]
  · simp [ha]
theorem verB_bad {bad : Bool} {s : List UInt8} (h : bad = true ∨ verOf s = none) : verB bad s = (0, 4) := by
  unfold verB
  rcases h with rfl | h
  · rfl
  · rw [h]; cases bad <;> rfl
theorem req_none {s : List UInt8} (h : ∀ m p v a b, ¬IsReq s m p v a b) (hl : s.length ≤ 2048) : reqP s = ([], [], 0, 4) := by
  have hv : verB (reqBad s) (cutB (cutB s).2.1).2.1 = (0, 4) := by
    refine verB_bad ?_
    cases hb : reqBad s with
    | true => exact .inl rfl
    | false =>
      right
      cases hv : verOf (cutB (cutB s).2.1).2.1 with
      | none => rfl
      | some ab =>
        exfalso; simp only [reqBad, Bool.or_eq_false_iff, Bool.not_eq_false'] at hb; obtain ⟨⟨⟨⟨b1, b2⟩, b3⟩, b4⟩, b5⟩ := hb; have e1 := (cutB_spec s).2.1 b1; have e2 := (cutB_spec (cutB s).2.1).2.1 b2
        refine h (cutB s).1 (cutB (cutB s).2.1).1 (cutB (cutB s).2.1).2.1 ab.1 ab.2 ⟨?_, b4, b3, fun e => (by rw [e] at b5; cases b5), hv⟩
        rw [← e2]; exact e1
  unfold reqP reqE
  rw [if_neg (by omega), hv]
  rfl
def codeBad (c : List UInt8) : Bool := !c.all isDg || (bif c.length == 3 then decide ((c.getD 0 0).toNat < 49) || decide (53 < (c.getD 0 0).toNat) else true)
def stBad (s : List UInt8) : Bool := !(cutB s).2.2 || !(cutB (cutB s).2.1).2.2 || !((cutB (cutB s).2.1).2.1.all reasonB) || codeBad (cutB (cutB s).2.1).1
def codeN (c : List UInt8) : Int := 100 * ((c.getD 0 0).toNat - 48 : Nat) + 10 * ((c.getD 1 0).toNat - 48 : Nat) + ((c.getD 2 0).toNat - 48 : Nat)
def stP (s : List UInt8) : Int × List UInt8 × Int × Int :=
  if 2048 < s.length then (0, [], 0, 3) else
  if (verB (stBad s) (cutB s).1).2 = 0 then (codeN (cutB (cutB s).2.1).1, (cutB (cutB s).2.1).2.1, (verB (stBad s) (cutB s).1).1, 0) else (0, [], 0, (verB (stBad s) (cutB s).1).2)
structure IsSt (s v w : List UInt8) (c0 c1 c2 a b : UInt8) : Prop where
  eq : s = v ++ 32 :: c0 :: c1 :: c2 :: 32 :: w
  ver : verOf v = some (a, b)
  first : 49 ≤ c0.toNat ∧ c0.toNat ≤ 53
  dg1 : isDg c1 = true
  dg2 : isDg c2 = true
  rsn : w.all reasonB = true
theorem ver_32 {v : List UInt8} {a b : UInt8} (h : verOf v = some (a, b)) : ∀ c ∈ v, c ≠ 32 := by
  obtain ⟨rfl, ha, hb⟩ := verOf_some h; intro c hc; simp only [List.mem_cons, List.not_mem_nil, or_false] at hc
  rcases hc with rfl | rfl | rfl | rfl | rfl | rfl | rfl | rfl
  · decide
  · decide
  · decide
  · decide
  · decide
  · exact dg_32 ha
  · decide
  · exact dg_32 hb
theorem first_dg {c : UInt8} (h : 49 ≤ c.toNat ∧ c.toNat ≤ 53) : isDg c = true := by
  simp only [isDg, Bool.and_eq_true, decide_eq_true_eq]; omega
theorem st_cuts {s v w : List UInt8} {c0 c1 c2 a b : UInt8} (h : IsSt s v w c0 c1 c2 a b) : cutB s = (v, c0 :: c1 :: c2 :: 32 :: w, true) ∧ cutB (c0 :: c1 :: c2 :: 32 :: w) = ([c0, c1, c2], w, true) := by
  obtain ⟨rfl, h1, h2, h3, h4, h5⟩ := h
  refine ⟨cutB_at _ _ (ver_32 h1), cutB_at [c0, c1, c2] w fun c hc => ?_⟩
  simp only [List.mem_cons, List.not_mem_nil, or_false] at hc
  rcases hc with rfl | rfl | rfl
  · exact dg_32 (first_dg h2)
  · exact dg_32 h3
  · exact dg_32 h4
theorem st_some {s v w : List UInt8} {c0 c1 c2 a b : UInt8} (h : IsSt s v w c0 c1 c2 a b) (hl : s.length ≤ 2048) :
    stP s = if a = 49 then (codeN [c0, c1, c2], w, ((min 1 (b.toNat - 48) : Nat) : Int), 0) else (0, [], 0, 9) := by
  obtain ⟨q1, q2⟩ := st_cuts h; obtain ⟨-, h1, h2, h3, h4, h5⟩ := h
  have hc : codeBad [c0, c1, c2] = false := by
    simp only [codeBad, List.all_cons, first_dg h2, h3, h4, List.all_nil]
    have e1 : decide (c0.toNat < 49) = false := decide_eq_false (by omega)
    have e2 : decide (53 < c0.toNat) = false := decide_eq_false (by omega)
    simp [e1, e2]
  have hb : stBad s = false := by simp only [stBad, q1, q2, h5, hc]; rfl
  have hv : verB false v = if a = 49 then (((min 1 (b.toNat - 48) : Nat) : Int), 0) else (0, 9) := by simp only [verB, h1]
  unfold stP
  rw [if_neg (by omega)]
  simp only [hb, q1, q2, hv]
  by_cases ha : a = 49 <;> simp [ha]
theorem st_none {s : List UInt8} (h : ∀ v w c0 c1 c2 a b, ¬IsSt s v w c0 c1 c2 a b) (hl : s.length ≤ 2048) : stP s = (0, [], 0, 4) := by
  have hv : verB (stBad s) (cutB s).1 = (0, 4) := by
    refine verB_bad ?_
    cases hb : stBad s with
    | true => exact .inl rfl
    | false =>
      right
      cases hv : verOf (cutB s).1 with
      | none => rfl
      | some ab =>
        exfalso; simp only [stBad, Bool.or_eq_false_iff, Bool.not_eq_false'] at hb; obtain ⟨⟨⟨b1, b2⟩, b3⟩, b4⟩ := hb; have e1 := (cutB_spec s).2.1 b1; have e2 := (cutB_spec (cutB s).2.1).2.1 b2; simp only [codeBad, Bool.or_eq_false_iff, Bool.not_eq_false'] at b4; obtain ⟨b4, b5⟩ := b4; generalize hc : (cutB (cutB s).2.1).1 = c at b4 b5 e2
        cases hl3 : c.length == 3 with
        | false => rw [hl3] at b5; cases b5
        | true =>
          rw [hl3] at b5
          have hl3 : c.length = 3 := by simpa using hl3
          match c, hl3 with
          | [c0, c1, c2], _ =>
            simp only [cond_true, Bool.or_eq_false_iff, decide_eq_false_iff_not, List.getD_cons_zero] at b5; simp only [List.all_cons, List.all_nil, Bool.and_true, Bool.and_eq_true] at b4
            refine h (cutB s).1 (cutB (cutB s).2.1).2.1 c0 c1 c2 ab.1 ab.2 ⟨?_, hv, by omega, b4.2.1, b4.2.2, b3⟩
            have e2' : (cutB s).2.1 = c0 :: c1 :: c2 :: 32 :: (cutB (cutB s).2.1).2.1 := e2; rw [← e2']; exact e1
  unfold stP
  rw [if_neg (by omega), hv]
  rfl
end Go.Ai
end
section
namespace Go.Ai
open Go.RowKit
def verS (mi : Int) : List UInt8 := [72, 84, 84, 80, 47, 49, 46, UInt8.ofNat (48 + mi.toNat)]
def doneB (mi : Int) (bad : Bool) (s : List UInt8) : List UInt8 × Int := if (bad || decide (mi < 0) || decide (1 < mi)) = true then ([], 4) else if 2048 < s.length then ([], 3) else (s, 0)
def reqS (m p : List UInt8) (mi : Int) : List UInt8 := m ++ 32 :: (p ++ 32 :: verS mi)
def badReq (m p : List UInt8) : Bool := !tokenB m || p.isEmpty || !p.all targetB
def putReq (m p : List UInt8) (mi : Int) : List UInt8 × Int :=
  if (badReq m p || decide (mi < 0) || decide (1 < mi)) = true then ([], 4) else if 1024 < p.length ∨ 2048 < (reqS m p mi).length then ([], 3) else (reqS m p mi, 0)
def stS (st : Int) (w : List UInt8) (mi : Int) : List UInt8 := verS mi ++ 32 :: UInt8.ofNat (48 + st.toNat / 100) :: UInt8.ofNat (48 + st.toNat / 10 % 10) :: UInt8.ofNat (48 + st.toNat % 10) :: 32 :: w
def badSt (st : Int) (w : List UInt8) : Bool := decide (st < 100) || decide (599 < st) || !w.all reasonB
def putSt (st : Int) (w : List UInt8) (mi : Int) : List UInt8 × Int :=
  if (badSt st w || decide (mi < 0) || decide (1 < mi)) = true then ([], 4) else if 2048 < (stS st w mi).length then ([], 3) else (stS st w mi, 0)
theorem itoa_mi {mi : Int} (h0 : 0 ≤ mi) (h1 : mi ≤ 1) : itoaS mi = [UInt8.ofNat (48 + mi.toNat)] := by
  unfold itoaS
  rw [if_neg (by omega), decF, if_pos (by omega)]
theorem itoa_st {st : Int} (h0 : 100 ≤ st) (h1 : st ≤ 599) : itoaS st = [UInt8.ofNat (48 + st.toNat / 100), UInt8.ofNat (48 + st.toNat / 10 % 10), UInt8.ofNat (48 + st.toNat % 10)] := by
  unfold itoaS
  rw [if_neg (by omega), decF, if_neg (by omega), decF, if_neg (by omega), decF, if_pos (by omega)]
  simp [Nat.div_div_eq_div_mul]
theorem ofNat_toNat {n : Nat} (h : n < 256) : (UInt8.ofNat n).toNat = n := by
  rw [UInt8.toNat_ofNat']; exact Nat.mod_eq_of_lt h
theorem no_bad {a b c : Bool} (h : (a || b || c) = false) : a = false ∧ b = false ∧ c = false := by
  simp only [Bool.or_eq_false_iff] at h; exact ⟨h.1.1, h.1.2, h.2⟩
theorem dg_range {c : UInt8} (h : isDg c = true) : 48 ≤ c.toNat ∧ c.toNat ≤ 57 := by
  simpa [isDg] using h
end Go.Ai
end
section
namespace Go.Ai.Ln
open Go.Ai Go.RowKit
def big : Nat := 100000
def letterB (c : UInt8) : Bool := (decide (65 ≤ c.toNat) && decide (c.toNat ≤ 90)) || (decide (97 ≤ c.toNat) && decide (c.toNat ≤ 122)) || (decide (48 ≤ c.toNat) && decide (c.toNat ≤ 57))
def byteC (p : UInt8 → Bool) : Con := fun vs h K => ∃ c : UInt8, vs = [.int .u8 c.toNat] ∧ K (.bool (p c)) h
def inC : Con := fun vs h K => ∃ (c : UInt8) (s : List UInt8), s.length ≤ big ∧ vs = [.int .u8 c.toNat, .str s] ∧ K (.bool (s.contains c)) h
def ixC : Con := fun vs h K => ∃ (s : List UInt8) (c : UInt8), vs = [.str s, .int .u8 c.toNat] ∧ K (.int .i64 (Lib.indexByte s c)) h
def strC (p : List UInt8 → Bool) : Con := fun vs h K => ∃ s : List UInt8, s.length ≤ big ∧ vs = [.str s] ∧ K (.bool (p s)) h
def inL : List UInt8 → UInt8 → Bool
  | a :: b :: r, c => (decide (a.toNat ≤ c.toNat) && decide (c.toNat ≤ b.toNat)) || inL r c
  | _, _ => false
def holdsC : Con := fun vs h K => ∃ l s : List UInt8, l.length ≤ 6 ∧ l.length % 2 = 0 ∧ s.length ≤ big ∧ vs = [.str l, .str s] ∧ K (.bool (s.all (inL l))) h
def prefC : Con := fun vs h K => ∃ s x : List UInt8, vs = [.str s, .str x] ∧ K (.bool (x.isPrefixOf s)) h
def cutP (s x : List UInt8) : List UInt8 × Bool := bif x.isPrefixOf s then (s.drop x.length, true) else (s, false)
def cutPC : Con := fun vs h K => ∃ s x : List UInt8, vs = [.str s, .str x] ∧ K (.tup [.str (cutP s x).1, .bool (cutP s x).2]) h
def cutC : Con := fun vs h K => ∃ s : List UInt8, s.length ≤ big ∧ vs = [.str s, .str [32]] ∧ K (.tup [.str (cutB s).1, .str (cutB s).2.1, .bool (cutB s).2.2]) h
def itoaC : Con := fun vs h K => ∃ n : Int, -9223372036854775808 ≤ n ∧ n ≤ 9223372036854775807 ∧ vs = [.int .i64 n] ∧ K (.str (itoaS n)) h
def atoiC : Con := fun vs h K => ∃ s : List UInt8, s.length ≤ big ∧ vs = [.str s] ∧ K (.tup [.int .i64 (atoiV s), .top]) h
def untilC : Con := fun vs h K => match h with
  | [.mem t0 [.str a], .mem t1 [.str b], .mem t2 [.int k2 c], .mem t3 [.int k3 e], .mem t4 [.str r, .bool bad]] =>
    r.length ≤ big ∧ vs = [.ptr 4 0] ∧ K (.str (cutB r).1) [.mem t0 [.str a], .mem t1 [.str b], .mem t2 [.int k2 c], .mem t3 [.int k3 e], .mem t4 [.str (cutB r).2.1, .bool (bad || !(cutB r).2.2)]]
  | [.mem t0 [.int k0 a], .mem t1 [.str b], .mem t2 [.int k2 c], .mem t3 [.int k3 e], .mem t4 [.str r, .bool bad]] =>
    r.length ≤ big ∧ vs = [.ptr 4 0] ∧ K (.str (cutB r).1) [.mem t0 [.int k0 a], .mem t1 [.str b], .mem t2 [.int k2 c], .mem t3 [.int k3 e], .mem t4 [.str (cutB r).2.1, .bool (bad || !(cutB r).2.2)]]
  | _ => False
def needC (k : Nat) : Con := fun vs h K => match h with
  | [.mem t0 [.str a], .mem t1 [.str b], .mem t2 [.int k2 c], .mem t3 [.int k3 e], .mem t4 [.str r, .bool bad]] =>
    ∃ l s : List UInt8, l.length ≤ 6 ∧ l.length % 2 = 0 ∧ s.length ≤ big ∧ vs = [.ptr 4 0, .fn (.func k) [] [], .str l, .str s] ∧ K (.tup []) [.mem t0 [.str a], .mem t1 [.str b], .mem t2 [.int k2 c], .mem t3 [.int k3 e], .mem t4 [.str r, .bool (bad || !s.all (inL l))]]
  | [.mem t0 [.int k0 a], .mem t1 [.str b], .mem t2 [.int k2 c], .mem t3 [.int k3 e], .mem t4 [.str r, .bool bad]] =>
    ∃ l s : List UInt8, l.length ≤ 6 ∧ l.length % 2 = 0 ∧ s.length ≤ big ∧ vs = [.ptr 4 0, .fn (.func k) [] [], .str l, .str s] ∧ K (.tup []) [.mem t0 [.int k0 a], .mem t1 [.str b], .mem t2 [.int k2 c], .mem t3 [.int k3 e], .mem t4 [.str r, .bool (bad || !s.all (inL l))]]
  | _ => False
def verBad (bad : Bool) (s : List UInt8) : Bool := bad || (verOf s).isNone
def versionC : Con := fun vs h K => match h with
  | [.mem t0 [.str a], .mem t1 [.str b], .mem t2 [.int k2 c], .mem t3 [.int k3 e], .mem t4 [.str r, .bool bad]] =>
    ∃ s : List UInt8, s.length ≤ big ∧ vs = [.ptr 4 0, .str s] ∧ K (.tup [.int .i64 (verB bad s).1, .int .i64 (verB bad s).2]) [.mem t0 [.str a], .mem t1 [.str b], .mem t2 [.int k2 c], .mem t3 [.int k3 e], .mem t4 [.str r, .bool (verBad bad s)]]
  | [.mem t0 [.int k0 a], .mem t1 [.str b], .mem t2 [.int k2 c], .mem t3 [.int k3 e], .mem t4 [.str r, .bool bad]] =>
    ∃ s : List UInt8, s.length ≤ big ∧ vs = [.ptr 4 0, .str s] ∧ K (.tup [.int .i64 (verB bad s).1, .int .i64 (verB bad s).2]) [.mem t0 [.int k0 a], .mem t1 [.str b], .mem t2 [.int k2 c], .mem t3 [.int k3 e], .mem t4 [.str r, .bool (verBad bad s)]]
  | _ => False
def wipe1C : Con := fun vs h K => match h with
  | [.mem t0 [.str a], .mem t1 [.str b], .mem t2 [.int k2 c], .mem t3 [.int .i64 e], .mem t4 [.str r, .bool bad]] =>
    vs = [.ptr 3 0, .ptr 0 0, .ptr 1 0, .ptr 2 0] ∧ ifP (e == 0) (K (.tup []) [.mem t0 [.str a], .mem t1 [.str b], .mem t2 [.int k2 c], .mem t3 [.int .i64 e], .mem t4 [.str r, .bool bad]]) (K (.tup []) [.mem t0 [.str []], .mem t1 [.str []], .mem t2 [.int .i64 0], .mem t3 [.int .i64 e], .mem t4 [.str r, .bool bad]])
  | _ => False
def wipe2C : Con := fun vs h K => match h with
  | [.mem t0 [.int k0 a], .mem t1 [.str b], .mem t2 [.int k2 c], .mem t3 [.int .i64 e], .mem t4 [.str r, .bool bad]] =>
    vs = [.ptr 3 0, .ptr 0 0, .ptr 1 0, .ptr 2 0] ∧ ifP (e == 0) (K (.tup []) [.mem t0 [.int k0 a], .mem t1 [.str b], .mem t2 [.int k2 c], .mem t3 [.int .i64 e], .mem t4 [.str r, .bool bad]]) (K (.tup []) [.mem t0 [.int .i64 0], .mem t1 [.str []], .mem t2 [.int .i64 0], .mem t3 [.int .i64 e], .mem t4 [.str r, .bool bad]])
  | _ => False
def doneC : Con := fun vs h K => ∃ (mi : Int) (bad : Bool) (s : List UInt8), s.length ≤ big ∧ vs = [.int .i64 mi, .bool bad, .str s] ∧ K (.tup [.str (doneB mi bad s).1, .int .i64 (doneB mi bad s).2]) h
def reqC : Con := fun vs h K => ∃ s : List UInt8, s.length ≤ big ∧ vs = [.str s] ∧ K (.tup [.str (reqP s).1, .str (reqP s).2.1, .int .i64 (reqP s).2.2.1, .int .i64 (reqP s).2.2.2]) h
def stC : Con := fun vs h K => ∃ s : List UInt8, s.length ≤ big ∧ vs = [.str s] ∧ K (.tup [.int .i64 (stP s).1, .str (stP s).2.1, .int .i64 (stP s).2.2.1, .int .i64 (stP s).2.2.2]) h
def inInt (n : Int) : Prop := -9223372036854775808 ≤ n ∧ n ≤ 9223372036854775807
def putReqC : Con := fun vs h K => ∃ (a b : List UInt8) (n : Int), a.length ≤ 10000 ∧ b.length ≤ 10000 ∧ inInt n ∧ vs = [.str a, .str b, .int .i64 n] ∧ K (.tup [.str (putReq a b n).1, .int .i64 (putReq a b n).2]) h
def putStC : Con := fun vs h K => ∃ (st : Int) (w : List UInt8) (n : Int), w.length ≤ 10000 ∧ inInt st ∧ inInt n ∧ vs = [.int .i64 st, .str w, .int .i64 n] ∧ K (.tup [.str (putSt st w n).1, .int .i64 (putSt st w n).2]) h
def verM (n : Int) : List UInt8 := if n = 0 then verS 0 else verS 1
def versC : Con := fun vs h K => ∃ n : Int, vs = [.int .i64 n] ∧ K (.str (verM n)) h
def minorC : Con := fun vs h K => ∃ s : List UInt8, 8 ≤ s.length ∧ vs = [.str s] ∧ K (.int .i64 (if s.getD 7 0 = 48 then 0 else 1)) h
def asksC : Con := fun vs h K => ∃ (s m t : List UInt8) (n : Int), s.length ≤ big ∧ vs = [.str s, .str m, .str t, .int .i64 n] ∧ K (.bool (decide (reqP s = (m, t, n, 0)))) h
def trueC : Con := fun vs h K => vs.isEmpty = true ∧ K (.bool true) h
end Go.Ai.Ln
end
