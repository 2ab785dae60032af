/-
  Dates, in plain terms: years, months, days, their names and numbers as bytes. No statement about the program is made here.
  Plain laws of dates: a date's text has 29 bytes, unlike ticks have unlike texts, the first 16 bytes tell the day. No statement about the program is made here.
  Plain laws of reading a date piece by piece. No statement about the program is made here.
  Plain laws of the three forms of a date: what reads as a date is a date's text. No statement about the program is made here.
  Plain laws of the three forms of a date, whole. No statement about the program is made here.
  The document's reader of dates, in plain terms, and contracts. No statement about the program is made here.
  The plain law of dates: the program's reader and the document's answer alike. No statement about the program is made here.
-/
import Derived.Test.YtnefabbpjepppaaDoorAiLaw
section
namespace Go.Ai
open Go.RowKit

def leapN (y : Nat) : Bool := decide (y % 4 = 0 ∧ ¬y % 100 = 0 ∨ y % 400 = 0)
def ylen (y : Nat) : Nat := bif leapN y then 366 else 365
theorem ylen_eq (y : Nat) : ylen y = if y % 4 = 0 ∧ ¬y % 100 = 0 ∨ y % 400 = 0 then 366 else 365 := by
  unfold ylen leapN
  by_cases h : y % 4 = 0 ∧ ¬y % 100 = 0 ∨ y % 400 = 0
  · rw [decide_eq_true h, if_pos h]; rfl
  · rw [decide_eq_false h, if_neg h]; rfl
def longN (y m : Nat) : Nat := if m = 2 then (bif leapN y then 29 else 28) else if m = 4 ∨ m = 6 ∨ m = 9 ∨ m = 11 then 30 else 31
/-- How many days are ahead of a year, since 1970. -/
def ahd (y : Nat) : Int := 365 * ((y : Int) - 1970) + ((y - 1) / 4 : Nat) - ((y - 1) / 100 : Nat) + ((y - 1) / 400 : Nat) - 477
/-- How many days of a year are ahead of a month. -/
def bef (y : Nat) : Nat → Nat
  | 0 => 0
  | 1 => 0
  | m + 2 => bef y (m + 1) + longN y (m + 1)

theorem ahd_succ {y : Nat} (h : 1 ≤ y) : ahd (y + 1) = ahd y + ylen y := by
  rw [ylen_eq]
  unfold ahd
  obtain ⟨k, rfl⟩ : ∃ k, y = k + 1 := ⟨y - 1, by omega⟩
  simp only [Nat.add_sub_cancel]
  split <;> omega
theorem ahd_first : ahd 1970 = 0 := by decide
theorem ylen_ge (y : Nat) : 365 ≤ ylen y ∧ ylen y ≤ 366 := by unfold ylen; cases leapN y <;> decide
theorem ahd_mono {a : Nat} (ha : 1 ≤ a) : ∀ (k : Nat), ahd a + 365 * k ≤ ahd (a + k) ∧ ahd (a + k) ≤ ahd a + 366 * k
  | 0 => by simp
  | k + 1 => by
    have h1 := ahd_mono ha k
    have h2 := ahd_succ (y := a + k) (by omega)
    have h3 := ylen_ge (a + k)
    rw [show a + (k + 1) = a + k + 1 by omega, h2]
    omega
theorem ahd_le {a b : Nat} (ha : 1 ≤ a) (h : a ≤ b) : ahd a ≤ ahd b := by
  obtain ⟨k, rfl⟩ := Nat.exists_eq_add_of_le h
  have := (ahd_mono ha k).1
  omega
theorem ahd_lt {a b : Nat} (ha : 1 ≤ a) (h : a < b) : ahd a < ahd b := by
  obtain ⟨k, rfl⟩ := Nat.exists_eq_add_of_le (Nat.le_of_lt h)
  have := (ahd_mono ha k).1
  omega
/-- The year of a day. -/
def inYear (d y : Nat) : Prop := 1970 ≤ y ∧ ahd y ≤ d ∧ (d : Int) < ahd (y + 1)
theorem inYear_uniq {d a b : Nat} (h : inYear d a) (k : inYear d b) : a = b := by
  obtain ⟨h1, h2, h3⟩ := h
  obtain ⟨k1, k2, k3⟩ := k
  rcases Nat.lt_trichotomy a b with h | h | h
  · have := ahd_le (a := a + 1) (b := b) (by omega) h
    omega
  · exact h
  · have := ahd_le (a := b + 1) (b := a) (by omega) h
    omega
theorem inYear_ex (d : Nat) : ∃ y, inYear d y := by
  have key : ∀ n, ∃ y, 1970 ≤ y ∧ ahd y ≤ d ∧ ((d : Int) < ahd (y + 1) ∨ y = 1970 + n) := by
    intro n
    induction n with
    | zero => exact ⟨1970, by omega, by rw [ahd_first]; omega, .inr rfl⟩
    | succ n ih =>
      obtain ⟨y, h1, h2, h3⟩ := ih
      rcases h3 with h3 | rfl
      · exact ⟨y, h1, h2, .inl h3⟩
      · by_cases h4 : (d : Int) < ahd (1970 + n + 1)
        · exact ⟨_, h1, h2, .inl h4⟩
        · exact ⟨1970 + n + 1, by omega, by omega, .inr rfl⟩
  obtain ⟨y, h1, h2, h3⟩ := key (d + 1)
  rcases h3 with h3 | rfl
  · exact ⟨y, h1, h2, h3⟩
  · have := (ahd_mono (a := 1970) (by omega) (d + 1)).1
    rw [ahd_first] at this
    omega
theorem inYear_bound {d y : Nat} (h : inYear d y) : 1970 + d / 366 ≤ y ∧ y ≤ 1970 + d / 365 := by
  obtain ⟨h1, h2, h3⟩ := h
  obtain ⟨k, rfl⟩ := Nat.exists_eq_add_of_le h1
  have a1 := (ahd_mono (a := 1970) (by omega) k).1
  have a2 := (ahd_mono (a := 1970) (by omega) (k + 1)).2
  rw [ahd_first] at a1 a2
  rw [show 1970 + (k + 1) = 1970 + k + 1 by omega] at a2
  omega
theorem bef_13 (y : Nat) : bef y 13 = ylen y := by
  simp only [bef, longN, ylen]
  cases leapN y <;> simp
theorem longN_ge (y m : Nat) : 28 ≤ longN y m ∧ longN y m ≤ 31 := by
  unfold longN
  split
  · cases leapN y <;> decide
  · split <;> decide
theorem bef_succ (y : Nat) {m : Nat} (h : 1 ≤ m) : bef y (m + 1) = bef y m + longN y m := by
  obtain ⟨k, rfl⟩ : ∃ k, m = k + 1 := ⟨m - 1, by omega⟩
  rfl
/-- The month of a day of a year. -/
def inMonth (y r m : Nat) : Prop := 1 ≤ m ∧ m ≤ 12 ∧ bef y m ≤ r ∧ r < bef y (m + 1)

def d2 (n : Nat) : List UInt8 := [UInt8.ofNat (48 + n / 10 % 10), UInt8.ofNat (48 + n % 10)]
def d4 (n : Nat) : List UInt8 := d2 (n / 100) ++ d2 n

/-! Contracts. -/
def leapC : Con := fun vs h K => ∃ y : Nat, y ≤ 1000000 ∧ vs = [.int .i64 y] ∧ K (.bool (leapN y)) h
def longC : Con := fun vs h K => ∃ y m : Nat, y ≤ 1000000 ∧ 1 ≤ m ∧ m ≤ 12 ∧ vs = [.int .i64 y, .int .i64 m] ∧ K (.int .i64 (longN y m)) h
def aheadC : Con := fun vs h K => ∃ y : Nat, 1 ≤ y ∧ y ≤ 1000000 ∧ vs = [.int .i64 y] ∧ K (.int .i64 (ahd y)) h
def twoC : Con := fun vs h K => ∃ n : Nat, n ≤ 1000000 ∧ vs = [.int .i64 n] ∧ K (.str (d2 n)) h
def yearC : Con := fun vs h K => ∃ d y : Nat, d ≤ 4000000 ∧ inYear d y ∧ vs = [.int .i64 d] ∧ K (.tup [.int .i64 y, .int .i64 ((d : Int) - ahd y)]) h

theorem inMonth_ex {y r : Nat} (h : r < ylen y) : ∃ m, inMonth y r m := by
  have key : ∀ n, n ≤ 11 → ∃ m, 1 ≤ m ∧ m ≤ n + 1 ∧ bef y m ≤ r ∧ (r < bef y (m + 1) ∨ m = n + 1) := by
    intro n
    induction n with
    | zero => exact fun _ => ⟨1, by omega, by omega, Nat.zero_le _, .inr rfl⟩
    | succ n ih =>
      intro hn
      obtain ⟨m, h1, h2, h3, h4⟩ := ih (by omega)
      rcases h4 with h4 | rfl
      · exact ⟨m, h1, by omega, h3, .inl h4⟩
      · by_cases h5 : r < bef y (n + 1 + 1)
        · exact ⟨n + 1, by omega, by omega, h3, .inl h5⟩
        · exact ⟨n + 1 + 1, by omega, by omega, by omega, .inr rfl⟩
  obtain ⟨m, h1, h2, h3, h4⟩ := key 11 (by omega)
  rcases h4 with h4 | rfl
  · exact ⟨m, h1, h2, h3, h4⟩
  · exact ⟨12, by omega, by omega, h3, by rw [show 12 + 1 = 13 from rfl, bef_13]; exact h⟩
theorem bef_le (y : Nat) {a b : Nat} (ha : 1 ≤ a) (h : a ≤ b) : bef y a ≤ bef y b := by
  obtain ⟨k, rfl⟩ := Nat.exists_eq_add_of_le h
  clear h
  induction k with
  | zero => exact Nat.le_refl _
  | succ k ih => rw [show a + (k + 1) = a + k + 1 by omega, bef_succ y (by omega)]; omega
theorem inMonth_uniq {y r a b : Nat} (h : inMonth y r a) (k : inMonth y r b) : a = b := by
  obtain ⟨h1, _, h2, h3⟩ := h
  obtain ⟨k1, _, k2, k3⟩ := k
  rcases Nat.lt_trichotomy a b with h | h | h
  · have := bef_le y (a := a + 1) (b := b) (by omega) h
    omega
  · exact h
  · have := bef_le y (a := b + 1) (b := a) (by omega) h
    omega

noncomputable def yearOf (d : Nat) : Nat := (inYear_ex d).choose
theorem yearOf_spec (d : Nat) : inYear d (yearOf d) := (inYear_ex d).choose_spec
/-- Which day of its year a day is. -/
noncomputable def restOf (d : Nat) : Nat := ((d : Int) - ahd (yearOf d)).toNat
theorem restOf_eq (d : Nat) : (restOf d : Int) = (d : Int) - ahd (yearOf d) := by
  have := (yearOf_spec d).2.1
  unfold restOf; omega
theorem restOf_lt (d : Nat) : restOf d < ylen (yearOf d) := by
  have h := yearOf_spec d
  have h1 := ahd_succ (y := yearOf d) (by have := h.1; omega)
  have h2 := restOf_eq d
  have := h.2.2
  omega
noncomputable def monthOf (d : Nat) : Nat := (inMonth_ex (restOf_lt d)).choose
theorem monthOf_spec (d : Nat) : inMonth (yearOf d) (restOf d) (monthOf d) := (inMonth_ex (restOf_lt d)).choose_spec
noncomputable def dayOf (d : Nat) : Nat := restOf d - bef (yearOf d) (monthOf d) + 1

def lastT : Nat := 253402300799
theorem year_le {d : Nat} (h : d ≤ 2932896) : yearOf d ≤ 9999 := by
  have hy := yearOf_spec d
  by_cases hc : yearOf d ≤ 9999
  · exact hc
  · have := ahd_le (a := 10000) (b := yearOf d) (by omega) (by omega)
    have e : ahd 10000 = 2932897 := by decide
    have := hy.2.1
    omega

def digits : Nat → Nat → List UInt8
  | _, 0 => []
  | n, k + 1 => digits (n / 10) k ++ [UInt8.ofNat (48 + n % 10)]
theorem digits_2 (n : Nat) : digits n 2 = d2 n := rfl
theorem digits_4 (n : Nat) : digits n 4 = d4 n := by
  simp only [digits, d4, d2, List.nil_append, List.cons_append, Nat.div_div_eq_div_mul]

def shortL : List (List UInt8) := [[77, 111, 110], [84, 117, 101], [87, 101, 100], [84, 104, 117], [70, 114, 105], [83, 97, 116], [83, 117, 110]]
def longL : List (List UInt8) := [[77, 111, 110, 100, 97, 121], [84, 117, 101, 115, 100, 97, 121], [87, 101, 100, 110, 101, 115, 100, 97, 121], [84, 104, 117, 114, 115, 100, 97, 121], [70, 114, 105, 100, 97, 121], [83, 97, 116, 117, 114, 100, 97, 121], [83, 117, 110, 100, 97, 121]]
def monL : List (List UInt8) := [[74, 97, 110], [70, 101, 98], [77, 97, 114], [65, 112, 114], [77, 97, 121], [74, 117, 110], [74, 117, 108], [65, 117, 103], [83, 101, 112], [79, 99, 116], [78, 111, 118], [68, 101, 99]]
def encS (l : List (List UInt8)) : List (List AV) := l.map fun s => [.str s]
def wdN (n : Nat) : List UInt8 := shortL.getD ((n + 3) % 7) []
def wdL (n : Nat) : List UInt8 := longL.getD ((n + 3) % 7) []
def monN (m : Nat) : List UInt8 := monL.getD (m - 1) []
def clockS (h mi s : Nat) : List UInt8 := d2 h ++ [58] ++ d2 mi ++ [58] ++ d2 s
/-- IMF-fixdate: of a day (its number), and its date. -/
def fixedS (n d m y h mi s : Nat) : List UInt8 := wdN n ++ [44, 32] ++ d2 d ++ [32] ++ monN m ++ [32] ++ d4 y ++ [32] ++ clockS h mi s ++ [32, 71, 77, 84]
/-- A tick's date. -/
noncomputable def putS (t : Int) : List UInt8 :=
  if 0 ≤ t ∧ t ≤ lastT then fixedS (t.toNat / 86400) (dayOf (t.toNat / 86400)) (monthOf (t.toNat / 86400)) (yearOf (t.toNat / 86400)) (t.toNat % 86400 / 3600) (t.toNat % 86400 / 60 % 60) (t.toNat % 86400 % 60) else []

def digC : Con := fun vs h K => ∃ n k : Nat, n ≤ 1000000 ∧ (k = 1 ∨ k = 2 ∨ k = 4) ∧ vs = [.int .i64 n, .int .i64 k] ∧ K (.str (digits n k)) h
def namesC (L : List (List UInt8)) : Con := fun vs h K => vs.isEmpty = true ∧ K (.sl 1 (encS L) none) h
def weekC : Con := fun vs h K => ∃ (n : Nat) (L : List (List UInt8)), n ≤ 4000000 ∧ L.length = 7 ∧ vs = [.int .i64 n, .sl 1 (encS L) none] ∧ K (.str (L.getD ((n + 3) % 7) [])) h
def countC : Con := fun vs h K => ∃ y m d a b c : Nat, 1970 ≤ y ∧ y ≤ 9999 ∧ 1 ≤ m ∧ m ≤ 12 ∧ 1 ≤ d ∧ d ≤ 1000 ∧ vs = [.agg [.int .i64 y, .int .i64 m, .int .i64 d, .int .i64 a, .int .i64 b, .int .i64 c]] ∧ K (.int .i64 (ahd y + (bef y m : Nat) + (d : Int) - 1)) h
def ofC : Con := fun vs h K => ∃ t : Nat, t ≤ lastT ∧ vs = [.int .i64 t] ∧ K (.agg [.int .i64 (yearOf (t / 86400)), .int .i64 (monthOf (t / 86400)), .int .i64 (dayOf (t / 86400)), .int .i64 (t % 86400 / 3600 : Nat), .int .i64 (t % 86400 / 60 % 60 : Nat), .int .i64 (t % 86400 % 60 : Nat)]) h
def clockC : Con := fun vs h K => ∃ (y m d : Int) (a b c : Nat), a ≤ 1000000 ∧ b ≤ 1000000 ∧ c ≤ 1000000 ∧ vs = [.agg [.int .i64 y, .int .i64 m, .int .i64 d, .int .i64 a, .int .i64 b, .int .i64 c]] ∧ K (.str (clockS a b c)) h
/-- A date that may be: its parts are within bounds. -/
structure DateOk (y m d a b c : Nat) : Prop where
  y1 : 1970 ≤ y
  y2 : y ≤ 9999
  m1 : 1 ≤ m
  m2 : m ≤ 12
  d1 : 1 ≤ d
  d2 : d ≤ longN y m
  a : a ≤ 23
  b : b ≤ 59
  c : c ≤ 59
def cntN (y m d : Nat) : Nat := (ahd y + (bef y m : Nat) + (d : Int) - 1).toNat
def fixedC : Con := fun vs h K => ∃ y m d a b c : Nat, DateOk y m d a b c ∧ vs = [.agg [.int .i64 y, .int .i64 m, .int .i64 d, .int .i64 a, .int .i64 b, .int .i64 c]] ∧ K (.str (fixedS (cntN y m d) d m y a b c)) h
def putC : Con := fun vs h K => ∃ t : Int, vs = [.int .i64 t] ∧ K (.str (putS t)) h
def trueC : Con := fun vs h K => vs.isEmpty = true ∧ K (.bool true) h
def fieldsC : Con := fun vs h K => ∃ s : List UInt8, s.length ≤ 1000 ∧ (∀ b ∈ s, b.toNat < 128) ∧ vs = [.str s] ∧ K (.sl 1 (encS (Lib.fields s)) none) h

/-! Reading: prefixes, numbers, names. -/
def prefC : Con := fun vs h K => ∃ s x : List UInt8, vs = [.str s, .str x] ∧ K (.bool (x.isPrefixOf s)) h
def cutP (s x : List UInt8) : List UInt8 × Bool := bif x.isPrefixOf s then (s.drop x.length, true) else (s, false)
def cutPC : Con := fun vs h K => ∃ s x : List UInt8, vs = [.str s, .str x] ∧ K (.tup [.str (cutP s x).1, .bool (cutP s x).2]) h
def isDig (c : UInt8) : Bool := decide (48 ≤ c.toNat) && decide (c.toNat ≤ 57)
/-- A number of so many digits at a text's head: it, and what is behind. -/
def numA : Nat → Nat → List UInt8 → Option (Nat × List UInt8)
  | 0, k, s => some (k, s)
  | n + 1, k, c :: s => bif isDig c then numA n (10 * k + (c.toNat - 48)) s else none
  | _ + 1, _, [] => none
def numR (n : Nat) (s : List UInt8) : Nat × List UInt8 × Bool := match numA n 0 s with
  | some (k, r) => (k, r, true)
  | none => (0, [], false)
def numC : Con := fun vs h K => ∃ (s : List UInt8) (n : Nat), (n = 1 ∨ n = 2 ∨ n = 4) ∧ vs = [.str s, .int .i64 n] ∧ K (.tup [.int .i64 (numR n s).1, .str (numR n s).2.1, .bool (numR n s).2.2]) h
/-- The first of some names (cut to so many bytes; 0: whole) that stands at a text's head. -/
def nameA (m : Nat) (s : List UInt8) : List (List UInt8) → Nat → Option (Nat × List UInt8)
  | [], _ => none
  | x :: r, i => bif ((if 0 < m then x.take m else x).isPrefixOf s) then some (i, s.drop (if 0 < m then x.take m else x).length) else nameA m s r (i + 1)
def nameR (m : Nat) (s : List UInt8) (L : List (List UInt8)) : Nat × List UInt8 × Bool := match nameA m s L 0 with
  | some (k, r) => (k, r, true)
  | none => (0, [], false)
def nameC : Con := fun vs h K => ∃ (s : List UInt8) (L : List (List UInt8)) (m : Nat), m ≤ 3 ∧ L.length ≤ 100 ∧ (∀ x ∈ L, m ≤ x.length) ∧ vs = [.str s, .sl 1 (encS L) none, .int .i64 m] ∧ K (.tup [.int .i64 (nameR m s L).1, .str (nameR m s L).2.1, .bool (nameR m s L).2.2]) h

/-! A date's numbers, as they are read. -/
structure Mom where
  w : Nat
  d : Nat
  mo : Nat
  y : Nat
  h : Nat
  mi : Nat
  s : Nat
  two : Bool
def encM (m : Mom) : List AV := [.int .i64 m.w, .int .i64 m.d, .int .i64 m.mo, .int .i64 m.y, .int .i64 m.h, .int .i64 m.mi, .int .i64 m.s, .bool m.two]
def mom0 : Mom := ⟨0, 0, 0, 0, 0, 0, 0, false⟩
def monthsB : List UInt8 := [74, 97, 110, 70, 101, 98, 77, 97, 114, 65, 112, 114, 77, 97, 121, 74, 117, 110, 74, 117, 108, 65, 117, 103, 83, 101, 112, 79, 99, 116, 78, 111, 118, 68, 101, 99]
def thuL : List (List UInt8) := [[84, 104, 117, 114, 115, 100, 97, 121], [70, 114, 105, 100, 97, 121], [83, 97, 116, 117, 114, 100, 97, 121], [83, 117, 110, 100, 97, 121], [77, 111, 110, 100, 97, 121], [84, 117, 101, 115, 100, 97, 121], [87, 101, 100, 110, 101, 115, 100, 97, 121]]
/-- A piece of a form, taken off a text. -/
def takeR (p : Nat) (s : List UInt8) (m : Mom) : Mom × List UInt8 × Bool :=
  if p = 119 then ({ m with w := (nameR 3 s thuL).1 }, (nameR 3 s thuL).2)
  else if p = 87 then ({ m with w := (nameR 0 s thuL).1 }, (nameR 0 s thuL).2)
  else if p = 68 then ({ m with d := (numR 2 s).1 }, (numR 2 s).2)
  else if p = 69 then (bif (cutP s [32]).2 then ({ m with d := (numR 1 (cutP s [32]).1).1 }, (numR 1 (cutP s [32]).1).2) else ({ m with d := (numR 2 s).1 }, (numR 2 s).2))
  else if p = 109 then (if s.length < 3 then (m, [], false) else if idxB monthsB (s.take 3) 0 < 0 ∨ ¬(idxB monthsB (s.take 3) 0).tmod 3 = 0 then (m, [], false) else ({ m with mo := (idxB monthsB (s.take 3) 0).toNat / 3 + 1 }, s.drop 3, true))
  else if p = 89 then ({ m with y := (numR 4 s).1 }, (numR 4 s).2)
  else if p = 121 then ({ m with y := (numR 2 s).1, two := true }, (numR 2 s).2)
  else if p = 72 then ({ m with h := (numR 2 s).1 }, (numR 2 s).2)
  else if p = 73 then ({ m with mi := (numR 2 s).1 }, (numR 2 s).2)
  else if p = 83 then ({ m with s := (numR 2 s).1 }, (numR 2 s).2)
  else (m, cutP s [UInt8.ofNat p])
noncomputable def topY (now : Int) : Nat := yearOf ((max 0 (min now 253402300799)).toNat / 86400) + 50
noncomputable def nearM (m : Mom) (now : Int) : Mom := bif m.two then { m with y := topY now - (topY now - m.y) % 100 } else m
def okM (m : Mom) : Prop := 1970 ≤ m.y ∧ m.y ≤ 9999 ∧ 1 ≤ m.d ∧ m.d ≤ longN m.y m.mo ∧ m.h ≤ 23 ∧ m.mi ≤ 59 ∧ m.s ≤ 59 ∧ cntN m.y m.mo m.d % 7 = m.w
instance (m : Mom) : Decidable (okM m) := by unfold okM; infer_instance
def tickM (m : Mom) : Nat := cntN m.y m.mo m.d * 86400 + m.h * 3600 + m.mi * 60 + m.s
def tickR (m : Mom) : Nat × Bool := if okM m then (tickM m, true) else (0, false)
def idxC : Con := fun vs h K => ∃ s x : List UInt8, s.length ≤ 1000 ∧ vs = [.str s, .str x] ∧ K (.int .i64 (idxB s x 0)) h
def takeC : Con := fun vs h K => match h with
  | [.mem 46 cs, .iter f q] => ∃ (m m' : Mom) (s r : List UInt8) (ok : Bool) (p : Nat), cs = encM m ∧ vs = [.ptr 0 0, .int .i32 p, .str s] ∧ takeR p s m = (m', r, ok) ∧ p < 128 ∧ K (.tup [.str r, .bool ok]) [.mem 46 (encM m'), .iter f q]
  | _ => False
def tickC : Con := fun vs h K => match h with
  | [.mem 46 cs, .iter f q] => ∃ (m : Mom) (now : Int), cs = encM m ∧ vs = [.ptr 0 0, .int .i64 now] ∧ 1 ≤ m.mo ∧ m.mo ≤ 12 ∧ m.y ≤ 9999 ∧ (m.two = true → m.y ≤ 99) ∧ m.d ≤ 99 ∧ m.h ≤ 99 ∧ m.mi ≤ 99 ∧ m.s ≤ 99 ∧
    K (.tup [.int .i64 (tickR (nearM m now)).1, .bool (tickR (nearM m now)).2]) [.mem 46 (encM (nearM m now)), .iter f q]
  | _ => False
def form1 : List UInt8 := [119, 44, 32, 68, 32, 109, 32, 89, 32, 72, 58, 73, 58, 83, 32, 71, 77, 84]
def form2 : List UInt8 := [87, 44, 32, 68, 45, 109, 45, 121, 32, 72, 58, 73, 58, 83, 32, 71, 77, 84]
def form3 : List UInt8 := [119, 32, 109, 32, 69, 32, 72, 58, 73, 58, 83, 32, 89]
def formsC : Con := fun vs h K => vs.isEmpty = true ∧ K (.sl 1 [[.str form1], [.str form2], [.str form3]] none) h
end Go.Ai
end

section
namespace Go.Ai
open Go.RowKit
set_option linter.unusedVariables false

theorem d2_len (n : Nat) : (d2 n).length = 2 := rfl
theorem d4_len (n : Nat) : (d4 n).length = 4 := rfl
theorem wdN_len (n : Nat) : (wdN n).length = 3 := by
  unfold wdN
  have h : (n + 3) % 7 < 7 := Nat.mod_lt _ (by omega)
  generalize (n + 3) % 7 = k at h
  have : k = 0 ∨ k = 1 ∨ k = 2 ∨ k = 3 ∨ k = 4 ∨ k = 5 ∨ k = 6 := by omega
  rcases this with rfl | rfl | rfl | rfl | rfl | rfl | rfl <;> rfl
theorem monN_len {m : Nat} (h1 : 1 ≤ m) (h2 : m ≤ 12) : (monN m).length = 3 := by
  have : m = 1 ∨ m = 2 ∨ m = 3 ∨ m = 4 ∨ m = 5 ∨ m = 6 ∨ m = 7 ∨ m = 8 ∨ m = 9 ∨ m = 10 ∨ m = 11 ∨ m = 12 := by omega
  rcases this with rfl | rfl | rfl | rfl | rfl | rfl | rfl | rfl | rfl | rfl | rfl | rfl <;> rfl
theorem monN_inj {m k : Nat} (h1 : 1 ≤ m) (h2 : m ≤ 12) (h3 : 1 ≤ k) (h4 : k ≤ 12) (h : monN m = monN k) : m = k := by
  have hm : m = 1 ∨ m = 2 ∨ m = 3 ∨ m = 4 ∨ m = 5 ∨ m = 6 ∨ m = 7 ∨ m = 8 ∨ m = 9 ∨ m = 10 ∨ m = 11 ∨ m = 12 := by omega
  have hk : k = 1 ∨ k = 2 ∨ k = 3 ∨ k = 4 ∨ k = 5 ∨ k = 6 ∨ k = 7 ∨ k = 8 ∨ k = 9 ∨ k = 10 ∨ k = 11 ∨ k = 12 := by omega
  rcases hm with rfl | rfl | rfl | rfl | rfl | rfl | rfl | rfl | rfl | rfl | rfl | rfl <;> rcases hk with rfl | rfl | rfl | rfl | rfl | rfl | rfl | rfl | rfl | rfl | rfl | rfl <;> first | rfl | (revert h; decide)
theorem byte_inj {a b : Nat} (ha : a < 10) (hb : b < 10) (h : UInt8.ofNat (48 + a) = UInt8.ofNat (48 + b)) : a = b := by
  have := congrArg UInt8.toNat h
  simp [UInt8.toNat_ofNat'] at this
  omega
theorem d2_inj {a b : Nat} (ha : a < 100) (hb : b < 100) (h : d2 a = d2 b) : a = b := by
  simp only [d2, List.cons.injEq, and_true] at h
  have h1 := byte_inj (by omega) (by omega) h.1
  have h2 := byte_inj (by omega) (by omega) h.2
  omega
theorem d4_inj {a b : Nat} (ha : a < 10000) (hb : b < 10000) (h : d4 a = d4 b) : a = b := by
  have := List.append_inj h rfl
  have h1 := d2_inj (by omega) (by omega) this.1
  have e : d2 (a % 100) = d2 (b % 100) := by
    have := this.2
    simp only [d2] at this ⊢
    rw [show a % 100 / 10 % 10 = a / 10 % 10 by omega, show b % 100 / 10 % 10 = b / 10 % 10 by omega, show a % 100 % 10 = a % 10 by omega, show b % 100 % 10 = b % 10 by omega]
    exact this
  have h2 := d2_inj (by omega) (by omega) e
  omega

/-- The day's part of a text, and the time's. -/
def dayS (n d m y : Nat) : List UInt8 := wdN n ++ ([44, 32] ++ (d2 d ++ ([32] ++ (monN m ++ ([32] ++ d4 y)))))
def timeS (h mi s : Nat) : List UInt8 := [32] ++ (d2 h ++ ([58] ++ (d2 mi ++ ([58] ++ (d2 s ++ [32, 71, 77, 84])))))
theorem fixedS_eq (n d m y h mi s : Nat) : fixedS n d m y h mi s = dayS n d m y ++ timeS h mi s := by
  simp only [fixedS, dayS, timeS, clockS, List.append_assoc]
theorem dayS_len {n d m y : Nat} (h1 : 1 ≤ m) (h2 : m ≤ 12) : (dayS n d m y).length = 16 := by
  simp only [dayS, List.length_append, wdN_len, d2_len, d4_len, monN_len h1 h2, List.length_cons, List.length_nil]
theorem timeS_len (h mi s : Nat) : (timeS h mi s).length = 13 := rfl
theorem dayS_inj {n d m y n' d' m' y' : Nat} (h1 : 1 ≤ m) (h2 : m ≤ 12) (h3 : 1 ≤ m') (h4 : m' ≤ 12) (hd : d < 100) (hd' : d' < 100) (hy : y < 10000) (hy' : y' < 10000) (h : dayS n d m y = dayS n' d' m' y') : d = d' ∧ m = m' ∧ y = y' := by
  unfold dayS at h
  have a1 := (List.append_inj h (by rw [wdN_len, wdN_len])).2
  have a2 := (List.append_inj a1 rfl).2
  have a3 := List.append_inj a2 rfl
  have a4 := (List.append_inj a3.2 rfl).2
  have a5 := List.append_inj a4 (by rw [monN_len h1 h2, monN_len h3 h4])
  have a6 := (List.append_inj a5.2 rfl).2
  exact ⟨d2_inj hd hd' a3.1, monN_inj h1 h2 h3 h4 a5.1, d4_inj hy hy' a6⟩
theorem timeS_inj {a b c a' b' c' : Nat} (h1 : a < 100) (h2 : b < 100) (h3 : c < 100) (h1' : a' < 100) (h2' : b' < 100) (h3' : c' < 100) (h : timeS a b c = timeS a' b' c') : a = a' ∧ b = b' ∧ c = c' := by
  unfold timeS at h
  have a1 := (List.append_inj h rfl).2
  have a2 := List.append_inj a1 rfl
  have a3 := (List.append_inj a2.2 rfl).2
  have a4 := List.append_inj a3 rfl
  have a5 := (List.append_inj a4.2 rfl).2
  have a6 := List.append_inj a5 rfl
  exact ⟨d2_inj h1 h1' a2.1, d2_inj h2 h2' a4.1, d2_inj h3 h3' a6.1⟩

/-- What is known of a day. -/
theorem day_facts {d : Nat} (hd : d ≤ 2932896) : 1 ≤ monthOf d ∧ monthOf d ≤ 12 ∧ 1 ≤ dayOf d ∧ dayOf d ≤ 31 ∧ 1970 ≤ yearOf d ∧ yearOf d ≤ 9999 ∧ (d : Int) = ahd (yearOf d) + (bef (yearOf d) (monthOf d) : Nat) + dayOf d - 1 := by
  have hr := restOf_eq d
  obtain ⟨m1, m2, m3, m4⟩ := monthOf_spec d
  rw [bef_succ _ m1] at m4
  have hg := longN_ge (yearOf d) (monthOf d)
  have hd1 : dayOf d = restOf d - bef (yearOf d) (monthOf d) + 1 := rfl
  refine ⟨m1, m2, by omega, by omega, (yearOf_spec d).1, year_le hd, by omega⟩

theorem putS_at {n : Nat} (h : n ≤ lastT) : putS n = dayS (n / 86400) (dayOf (n / 86400)) (monthOf (n / 86400)) (yearOf (n / 86400)) ++ timeS (n % 86400 / 3600) (n % 86400 / 60 % 60) (n % 86400 % 60) := by
  unfold putS
  rw [if_pos ⟨by omega, by omega⟩, fixedS_eq]
  simp only [Int.toNat_natCast]
theorem putS_len {n : Nat} (h : n ≤ lastT) : (putS n).length = 29 := by
  unfold lastT at h
  have f := day_facts (d := n / 86400) (by omega)
  rw [putS_at (by unfold lastT; omega), List.length_append, dayS_len f.1 f.2.1, timeS_len]
theorem putS_take {n : Nat} (h : n ≤ lastT) : (putS n).take 16 = dayS (n / 86400) (dayOf (n / 86400)) (monthOf (n / 86400)) (yearOf (n / 86400)) := by
  unfold lastT at h
  have f := day_facts (d := n / 86400) (by omega)
  rw [putS_at (by unfold lastT; omega), List.take_left' (dayS_len f.1 f.2.1)]
theorem day_same {a b : Nat} (ha : a ≤ 2932896) (hb : b ≤ 2932896) (h : dayS a (dayOf a) (monthOf a) (yearOf a) = dayS b (dayOf b) (monthOf b) (yearOf b)) : a = b := by
  obtain ⟨a1, a2, a3, a4, a5, a6, a7⟩ := day_facts ha
  obtain ⟨b1, b2, b3, b4, b5, b6, b7⟩ := day_facts hb
  obtain ⟨e1, e2, e3⟩ := dayS_inj a1 a2 b1 b2 (by omega) (by omega) (by omega) (by omega) h
  rw [e1, e2, e3] at a7
  omega
theorem take_same {a b : Nat} (ha : a ≤ lastT) (hb : b ≤ lastT) : (putS a).take 16 = (putS b).take 16 ↔ a / 86400 = b / 86400 := by
  rw [putS_take ha, putS_take hb]
  unfold lastT at ha hb
  exact ⟨fun h => day_same (by omega) (by omega) h, fun h => by rw [h]⟩
theorem putS_inj {a b : Nat} (ha : a ≤ lastT) (hb : b ≤ lastT) (h : putS a = putS b) : a = b := by
  have hd := (take_same ha hb).1 (by rw [h])
  rw [putS_at ha, putS_at hb] at h
  have f := day_facts (d := a / 86400) (by unfold lastT at ha; omega)
  have g := day_facts (d := b / 86400) (by unfold lastT at hb; omega)
  have := (List.append_inj h (by rw [dayS_len f.1 f.2.1, dayS_len g.1 g.2.1])).2
  have := timeS_inj (by omega) (by omega) (by omega) (by omega) (by omega) (by omega) this
  omega
end Go.Ai
end

section
namespace Go.Ai
open Go.RowKit
set_option linter.unusedVariables false
set_option linter.unusedSimpArgs false

/-! Numbers. -/
theorem dig_of {j : Nat} (h : j < 10) : isDig (UInt8.ofNat (48 + j)) = true ∧ (UInt8.ofNat (48 + j)).toNat - 48 = j := by
  have : j = 0 ∨ j = 1 ∨ j = 2 ∨ j = 3 ∨ j = 4 ∨ j = 5 ∨ j = 6 ∨ j = 7 ∨ j = 8 ∨ j = 9 := by omega
  rcases this with rfl | rfl | rfl | rfl | rfl | rfl | rfl | rfl | rfl | rfl <;> decide
theorem dig_back {c : UInt8} (h : isDig c = true) : c.toNat - 48 < 10 ∧ c = UInt8.ofNat (48 + (c.toNat - 48)) := by
  unfold isDig at h
  simp only [Bool.and_eq_true, decide_eq_true_eq] at h
  refine ⟨by omega, ?_⟩
  rw [show 48 + (c.toNat - 48) = c.toNat by omega, UInt8.ofNat_toNat]
theorem numA_add : ∀ (n m a : Nat) (s : List UInt8), numA (n + m) a s = match numA n a s with
    | some (k, r) => numA m k r
    | none => none
  | 0, m, a, s => by rw [Nat.zero_add]; rfl
  | n + 1, m, a, [] => by rw [show n + 1 + m = n + m + 1 by omega]; rfl
  | n + 1, m, a, c :: s => by
    rw [show n + 1 + m = n + m + 1 by omega, numA, numA]
    cases isDig c with
    | true => simp only [cond_true]; exact numA_add n m _ s
    | false => rfl
theorem numA_spec : ∀ (n a : Nat) (s : List UInt8) (k : Nat) (r : List UInt8), numA n a s = some (k, r) → ∃ j, j < 10 ^ n ∧ k = a * 10 ^ n + j ∧ s = digits j n ++ r
  | 0, a, s, k, r, h => by
    simp only [numA, Option.some.injEq, Prod.mk.injEq] at h
    exact ⟨0, by simp, by simp [h.1], by simp [digits, h.2]⟩
  | n + 1, a, s, k, r, h => by
    rw [numA_add] at h
    split at h
    · rename_i k' r' h1
      obtain ⟨j, hj, rfl, rfl⟩ := numA_spec n a s k' r' h1
      rcases r' with _ | ⟨c, r'⟩
      · simp [numA] at h
      · simp only [numA] at h
        cases hd : isDig c with
        | false => rw [hd] at h; simp at h
        | true =>
          rw [hd] at h
          simp only [cond_true, Option.some.injEq, Prod.mk.injEq] at h
          obtain ⟨rfl, rfl⟩ := h
          obtain ⟨b1, b2⟩ := dig_back hd
          refine ⟨10 * j + (c.toNat - 48), by rw [Nat.pow_succ]; omega, ?_, ?_⟩
          · rw [Nat.pow_succ, ← Nat.mul_assoc]; omega
          · rw [digits, show (10 * j + (c.toNat - 48)) / 10 = j by omega, show (10 * j + (c.toNat - 48)) % 10 = c.toNat - 48 by omega, ← b2]
            simp
    · cases h
theorem numA_digits : ∀ (n a j : Nat) (r : List UInt8), j < 10 ^ n → numA n a (digits j n ++ r) = some (a * 10 ^ n + j, r)
  | 0, a, j, r, h => by
    obtain rfl : j = 0 := by simpa using h
    simp [numA, digits]
  | n + 1, a, j, r, h => by
    rw [digits, List.append_assoc, numA_add, numA_digits n a (j / 10) _ (by rw [Nat.pow_succ] at h; omega)]
    obtain ⟨h1, h2⟩ := dig_of (j := j % 10) (by omega)
    simp only [List.cons_append, List.nil_append, numA, h1, h2, cond_true, Option.some.injEq, Prod.mk.injEq, and_true]
    rw [Nat.pow_succ, ← Nat.mul_assoc]
    omega
theorem numR_spec {n : Nat} {s : List UInt8} (h : (numR n s).2.2 = true) : (numR n s).1 < 10 ^ n ∧ s = digits (numR n s).1 n ++ (numR n s).2.1 := by
  unfold numR at h ⊢
  cases hn : numA n 0 s with
  | none => rw [hn] at h; simp at h
  | some p =>
    obtain ⟨k, r⟩ := p
    obtain ⟨j, hj, rfl, rfl⟩ := numA_spec n 0 s k r hn
    simp only [Nat.zero_mul, Nat.zero_add]
    exact ⟨hj, trivial⟩
theorem numR_digits {n j : Nat} (r : List UInt8) (h : j < 10 ^ n) : numR n (digits j n ++ r) = (j, r, true) := by
  unfold numR
  rw [numA_digits n 0 j r h]
  simp

/-! Names. -/
theorem nameA_spec {m : Nat} {s : List UInt8} : ∀ (L : List (List UInt8)) (i j : Nat) (r : List UInt8), nameA m s L i = some (j, r) → ∃ k, j = i + k ∧ k < L.length ∧ s = (if 0 < m then (L.getD k []).take m else L.getD k []) ++ r
  | [], i, j, r, h => by cases h
  | x :: L, i, j, r, h => by
    rw [nameA] at h
    cases hp : (if 0 < m then x.take m else x).isPrefixOf s with
    | true =>
      rw [hp] at h
      simp only [cond_true, Option.some.injEq, Prod.mk.injEq] at h
      obtain ⟨rfl, rfl⟩ := h
      refine ⟨0, rfl, by simp, ?_⟩
      obtain ⟨t, ht⟩ := List.isPrefixOf_iff_prefix.1 hp
      simp only [List.getD_cons_zero]
      rw [← ht]; simp
    | false =>
      rw [hp] at h
      obtain ⟨k, rfl, hk, hs⟩ := nameA_spec L (i + 1) j r h
      exact ⟨k + 1, by omega, by simpa using hk, by simpa only [List.getD_cons_succ] using hs⟩
def short3 (w : Nat) : List UInt8 := (thuL.getD w []).take 3
def long3 (w : Nat) : List UInt8 := thuL.getD w []
theorem nameS_spec {s : List UInt8} (h : (nameR 3 s thuL).2.2 = true) : (nameR 3 s thuL).1 < 7 ∧ s = short3 (nameR 3 s thuL).1 ++ (nameR 3 s thuL).2.1 := by
  unfold nameR at h ⊢
  cases hn : nameA 3 s thuL 0 with
  | none => rw [hn] at h; simp at h
  | some p =>
    obtain ⟨k, r⟩ := p
    obtain ⟨j, rfl, hj, hs⟩ := nameA_spec thuL 0 k r hn
    simp only [Nat.zero_add]
    exact ⟨hj, hs⟩
theorem nameL_spec {s : List UInt8} (h : (nameR 0 s thuL).2.2 = true) : (nameR 0 s thuL).1 < 7 ∧ s = long3 (nameR 0 s thuL).1 ++ (nameR 0 s thuL).2.1 := by
  unfold nameR at h ⊢
  cases hn : nameA 0 s thuL 0 with
  | none => rw [hn] at h; simp at h
  | some p =>
    obtain ⟨k, r⟩ := p
    obtain ⟨j, rfl, hj, hs⟩ := nameA_spec thuL 0 k r hn
    simp only [Nat.zero_add]
    exact ⟨hj, hs⟩
theorem nameS_of {w : Nat} (r : List UInt8) (h : w < 7) : nameR 3 (short3 w ++ r) thuL = (w, r, true) := by
  have : w = 0 ∨ w = 1 ∨ w = 2 ∨ w = 3 ∨ w = 4 ∨ w = 5 ∨ w = 6 := by omega
  rcases this with rfl | rfl | rfl | rfl | rfl | rfl | rfl <;> rfl
theorem nameL_of {w : Nat} (r : List UInt8) (h : w < 7) : nameR 0 (long3 w ++ r) thuL = (w, r, true) := by
  have : w = 0 ∨ w = 1 ∨ w = 2 ∨ w = 3 ∨ w = 4 ∨ w = 5 ∨ w = 6 := by omega
  rcases this with rfl | rfl | rfl | rfl | rfl | rfl | rfl <;> rfl
theorem short3_wd (n : Nat) : short3 (n % 7) = wdN n := by
  unfold wdN short3
  have h : n % 7 < 7 := Nat.mod_lt _ (by omega)
  have e : (n + 3) % 7 = (n % 7 + 3) % 7 := by omega
  rw [e]
  generalize n % 7 = k at h
  have : k = 0 ∨ k = 1 ∨ k = 2 ∨ k = 3 ∨ k = 4 ∨ k = 5 ∨ k = 6 := by omega
  rcases this with rfl | rfl | rfl | rfl | rfl | rfl | rfl <;> rfl
theorem long3_wd (n : Nat) : long3 (n % 7) = wdL n := by
  unfold wdL long3
  have h : n % 7 < 7 := Nat.mod_lt _ (by omega)
  have e : (n + 3) % 7 = (n % 7 + 3) % 7 := by omega
  rw [e]
  generalize n % 7 = k at h
  have : k = 0 ∨ k = 1 ∨ k = 2 ∨ k = 3 ∨ k = 4 ∨ k = 5 ∨ k = 6 := by omega
  rcases this with rfl | rfl | rfl | rfl | rfl | rfl | rfl <;> rfl

/-! Months. -/
theorem idxB_pre : ∀ (s x : List UInt8) (i : Nat), idxB s x i = -1 ∨ ∃ j, idxB s x i = ((i + j : Nat) : Int) ∧ x.isPrefixOf (s.drop j) = true
  | [], x, i => by
    unfold idxB
    split
    · rename_i h
      refine .inr ⟨0, rfl, ?_⟩
      obtain rfl : x = [] := by simpa using h
      rfl
    · exact .inl rfl
  | c :: r, x, i => by
    unfold idxB
    split
    · rename_i h
      exact .inr ⟨0, rfl, h⟩
    · rcases idxB_pre r x (i + 1) with h | ⟨j, h1, h2⟩
      · exact .inl h
      · exact .inr ⟨j + 1, by rw [h1]; omega, h2⟩
theorem mon_of {m : Nat} (h1 : 1 ≤ m) (h2 : m ≤ 12) : idxB monthsB (monN m) 0 = ((3 * (m - 1) : Nat) : Int) := by
  have : m = 1 ∨ m = 2 ∨ m = 3 ∨ m = 4 ∨ m = 5 ∨ m = 6 ∨ m = 7 ∨ m = 8 ∨ m = 9 ∨ m = 10 ∨ m = 11 ∨ m = 12 := by omega
  rcases this with rfl | rfl | rfl | rfl | rfl | rfl | rfl | rfl | rfl | rfl | rfl | rfl <;> rfl
theorem mon_at {k : Nat} {x : List UInt8} (h : x.isPrefixOf (monthsB.drop (3 * k)) = true) (hx : x.length = 3) : k < 12 ∧ x = monN (k + 1) := by
  have hp := List.isPrefixOf_iff_prefix.1 h
  have hl := hp.length_le
  have e : monthsB.length = 36 := rfl
  rw [List.length_drop, e, hx] at hl
  have hk : k < 12 := by omega
  refine ⟨hk, ?_⟩
  rw [List.prefix_iff_eq_take.1 hp, hx]
  have : k = 0 ∨ k = 1 ∨ k = 2 ∨ k = 3 ∨ k = 4 ∨ k = 5 ∨ k = 6 ∨ k = 7 ∨ k = 8 ∨ k = 9 ∨ k = 10 ∨ k = 11 := by omega
  rcases this with rfl | rfl | rfl | rfl | rfl | rfl | rfl | rfl | rfl | rfl | rfl | rfl <;> rfl

/-! Pieces. -/
theorem cutP_spec {s x : List UInt8} (h : (cutP s x).2 = true) : s = x ++ (cutP s x).1 := by
  unfold cutP at h ⊢
  cases hp : x.isPrefixOf s with
  | false => rw [hp] at h; cases h
  | true =>
    simp only [cond_true]
    obtain ⟨t, ht⟩ := List.isPrefixOf_iff_prefix.1 hp
    rw [← ht]; simp
theorem cutP_of (x r : List UInt8) : cutP (x ++ r) x = (r, true) := by
  unfold cutP
  rw [List.isPrefixOf_iff_prefix.2 (List.prefix_append x r)]
  simp
def isLit (p : Nat) : Bool := !(p == 119 || p == 87 || p == 68 || p == 69 || p == 109 || p == 89 || p == 121 || p == 72 || p == 73 || p == 83)
theorem take_lit {p : Nat} (h : isLit p = true) (s : List UInt8) (m : Mom) : takeR p s m = (m, cutP s [UInt8.ofNat p]) := by
  simp [isLit] at h
  unfold takeR
  rw [if_neg (by omega), if_neg (by omega), if_neg (by omega), if_neg (by omega), if_neg (by omega), if_neg (by omega), if_neg (by omega), if_neg (by omega), if_neg (by omega), if_neg (by omega)]
theorem litB {p : Nat} (h : isLit p = true) {s : List UInt8} {m m1 : Mom} {r : List UInt8} (e : takeR p s m = (m1, r, true)) : m1 = m ∧ s = UInt8.ofNat p :: r := by
  rw [take_lit h] at e
  simp only [Prod.mk.injEq] at e
  obtain ⟨rfl, e⟩ := e
  have h2 : (cutP s [UInt8.ofNat p]).2 = true := by rw [e]
  have := cutP_spec h2
  rw [e] at this
  exact ⟨rfl, this⟩
theorem litF {p : Nat} (h : isLit p = true) (r : List UInt8) (m : Mom) : takeR p (UInt8.ofNat p :: r) m = (m, r, true) := by
  rw [take_lit h]
  have := cutP_of [UInt8.ofNat p] r
  rw [show [UInt8.ofNat p] ++ r = UInt8.ofNat p :: r from rfl] at this
  rw [this]
theorem monB {s : List UInt8} {m m1 : Mom} {r : List UInt8} (e : takeR 109 s m = (m1, r, true)) : ∃ k, 1 ≤ k ∧ k ≤ 12 ∧ m1 = { m with mo := k } ∧ s = monN k ++ r := by
  have e : (if s.length < 3 then (m, [], false) else if idxB monthsB (s.take 3) 0 < 0 ∨ ¬(idxB monthsB (s.take 3) 0).tmod 3 = 0 then (m, [], false) else ({ m with mo := (idxB monthsB (s.take 3) 0).toNat / 3 + 1 }, s.drop 3, true)) = (m1, r, true) := e
  split at e
  · simp at e
  · rename_i hl
    split at e
    · simp at e
    · rename_i hi
      simp only [Prod.mk.injEq, and_true] at e
      obtain ⟨rfl, rfl⟩ := e
      rcases idxB_pre monthsB (s.take 3) 0 with h | ⟨j, h1, h2⟩
      · rw [h] at hi; omega
      · rw [h1, Nat.zero_add] at hi ⊢
        have hj : j % 3 = 0 := by
          have e1 : Int.tmod (j : Int) 3 = ((j % 3 : Nat) : Int) := by rw [Int.tmod_eq_emod_of_nonneg (by omega)]; omega
          rw [e1] at hi; omega
        have e3 : j = 3 * (j / 3) := by omega
        rw [e3] at h2
        obtain ⟨h3, h4⟩ := mon_at h2 (by rw [List.length_take]; omega)
        refine ⟨j / 3 + 1, by omega, by omega, by simp only [Int.toNat_natCast], ?_⟩
        rw [← h4, List.take_append_drop]
theorem monF {k : Nat} (h1 : 1 ≤ k) (h2 : k ≤ 12) (r : List UInt8) (m : Mom) : takeR 109 (monN k ++ r) m = ({ m with mo := k }, r, true) := by
  show (if (monN k ++ r).length < 3 then _ else if idxB monthsB ((monN k ++ r).take 3) 0 < 0 ∨ ¬(idxB monthsB ((monN k ++ r).take 3) 0).tmod 3 = 0 then _ else _) = _
  have hl := monN_len h1 h2
  have e1 : (monN k ++ r).take 3 = monN k := by rw [← hl, List.take_left']; rfl
  have e2 : (monN k ++ r).drop 3 = r := by rw [← hl, List.drop_left']; rfl
  have e3 : Int.tmod (((3 * (k - 1) : Nat)) : Int) 3 = 0 := by rw [Int.tmod_eq_emod_of_nonneg (by omega)]; omega
  rw [e1, e2, mon_of h1 h2, if_neg (by rw [List.length_append]; omega), if_neg (by rw [e3]; omega)]
  rw [show (((3 * (k - 1) : Nat)) : Int).toNat / 3 + 1 = k by omega]
end Go.Ai
end

section
namespace Go.Ai
open Go.RowKit
set_option linter.unusedVariables false
set_option linter.unusedSimpArgs false

def runF : List UInt8 → List UInt8 → Mom → Mom × List UInt8 × Bool
  | [], s, m => (m, s, true)
  | p :: ps, s, m => bif (takeR p.toNat s m).2.2 then runF ps (takeR p.toNat s m).2.1 (takeR p.toNat s m).1 else ((takeR p.toNat s m).1, (takeR p.toNat s m).2.1, false)
noncomputable def formP (f s : List UInt8) (now : Int) : Option Nat :=
  bif (runF f s mom0).2.2 && (runF f s mom0).2.1.isEmpty && (tickR (nearM (runF f s mom0).1 now)).2 then some (tickR (nearM (runF f s mom0).1 now)).1 else none
noncomputable def parseP (s : List UInt8) (now : Int) : Nat × Nat := match formP form1 s now with
  | some t => (t, 0)
  | none => match formP form2 s now with
    | some t => (t, 0)
    | none => match formP form3 s now with
      | some t => (t, 0)
      | none => (0, 4)
def parseC : Con := fun vs h K => ∃ (s : List UInt8) (now : Int), vs = [.str s, .int .i64 now] ∧ K (.tup [.int .i64 (parseP s now).1, .int .i64 (parseP s now).2]) h

theorem runB {p : UInt8} {ps s : List UInt8} {m m' : Mom} {r' : List UInt8} (h : runF (p :: ps) s m = (m', r', true)) : ∃ m1 r1, takeR p.toNat s m = (m1, r1, true) ∧ runF ps r1 m1 = (m', r', true) := by
  rw [runF] at h
  cases hc : (takeR p.toNat s m).2.2 with
  | false => rw [hc] at h; simp at h
  | true =>
    rw [hc] at h
    refine ⟨_, _, ?_, h⟩
    rw [← hc]
theorem runN {m m' : Mom} {s r' : List UInt8} (h : runF [] s m = (m', r', true)) : m' = m ∧ r' = s := by
  simp only [runF, Prod.mk.injEq, and_true] at h
  exact ⟨h.1.symm, h.2.symm⟩
theorem runFw {p : UInt8} {ps s : List UInt8} {m m1 : Mom} {r1 : List UInt8} {x : Mom × List UInt8 × Bool} (h : takeR p.toNat s m = (m1, r1, true)) (k : runF ps r1 m1 = x) : runF (p :: ps) s m = x := by
  rw [runF, h]; exact k
theorem lit1 {p : UInt8} {ps s : List UInt8} {m m' : Mom} {r' : List UInt8} (hl : isLit p.toNat = true) (h : runF (p :: ps) s m = (m', r', true)) : ∃ r1, s = p :: r1 ∧ runF ps r1 m = (m', r', true) := by
  obtain ⟨m1, r1, h1, h2⟩ := runB h
  obtain ⟨rfl, h3⟩ := litB hl h1
  rw [UInt8.ofNat_toNat] at h3
  exact ⟨r1, h3, h2⟩
theorem lit2 {p : UInt8} {ps r : List UInt8} {m : Mom} {x : Mom × List UInt8 × Bool} (hl : isLit p.toNat = true) (h : runF ps r m = x) : runF (p :: ps) (p :: r) m = x := by
  refine runFw ?_ h
  have := litF hl r m
  rwa [UInt8.ofNat_toNat] at this

section
variable {s r' : List UInt8} {m m' : Mom} {ps : List UInt8}
theorem w1 (h : runF (119 :: ps) s m = (m', r', true)) : ∃ k r, k < 7 ∧ s = short3 k ++ r ∧ runF ps r { m with w := k } = (m', r', true) := by
  obtain ⟨m1, r1, h1, h2⟩ := runB h
  have h1 : ({ m with w := (nameR 3 s thuL).1 }, (nameR 3 s thuL).2) = (m1, r1, true) := h1
  simp only [Prod.mk.injEq] at h1
  obtain ⟨rfl, e1⟩ := h1
  obtain ⟨a, b⟩ := nameS_spec (s := s) (by rw [e1])
  rw [e1] at b
  exact ⟨_, r1, a, b, h2⟩
theorem W1 (h : runF (87 :: ps) s m = (m', r', true)) : ∃ k r, k < 7 ∧ s = long3 k ++ r ∧ runF ps r { m with w := k } = (m', r', true) := by
  obtain ⟨m1, r1, h1, h2⟩ := runB h
  have h1 : ({ m with w := (nameR 0 s thuL).1 }, (nameR 0 s thuL).2) = (m1, r1, true) := h1
  simp only [Prod.mk.injEq] at h1
  obtain ⟨rfl, e1⟩ := h1
  obtain ⟨a, b⟩ := nameL_spec (s := s) (by rw [e1])
  rw [e1] at b
  exact ⟨_, r1, a, b, h2⟩
theorem m1 (h : runF (109 :: ps) s m = (m', r', true)) : ∃ k r, 1 ≤ k ∧ k ≤ 12 ∧ s = monN k ++ r ∧ runF ps r { m with mo := k } = (m', r', true) := by
  obtain ⟨m1, r1, h1, h2⟩ := runB h
  obtain ⟨k, a, b, rfl, c⟩ := monB h1
  exact ⟨k, r1, a, b, c, h2⟩
theorem numB {n : Nat} {s r : List UInt8} (h : (numR n s).2 = (r, true)) : (numR n s).1 < 10 ^ n ∧ s = digits (numR n s).1 n ++ r := by
  obtain ⟨a, b⟩ := numR_spec (n := n) (s := s) (by rw [h])
  rw [h] at b
  exact ⟨a, b⟩
theorem D1' (h : runF (68 :: ps) s m = (m', r', true)) : ∃ k r, k < 100 ∧ s = digits k 2 ++ r ∧ runF ps r { m with d := k } = (m', r', true) := by
  obtain ⟨m1, r1, h1, h2⟩ := runB h
  have h1 : ({ m with d := (numR 2 s).1 }, (numR 2 s).2) = (m1, r1, true) := h1
  simp only [Prod.mk.injEq] at h1
  obtain ⟨rfl, e1⟩ := h1
  obtain ⟨a, b⟩ := numB e1
  exact ⟨_, r1, a, b, h2⟩
theorem Y1 (h : runF (89 :: ps) s m = (m', r', true)) : ∃ k r, k < 10000 ∧ s = digits k 4 ++ r ∧ runF ps r { m with y := k } = (m', r', true) := by
  obtain ⟨m1, r1, h1, h2⟩ := runB h
  have h1 : ({ m with y := (numR 4 s).1 }, (numR 4 s).2) = (m1, r1, true) := h1
  simp only [Prod.mk.injEq] at h1
  obtain ⟨rfl, e1⟩ := h1
  obtain ⟨a, b⟩ := numB e1
  exact ⟨_, r1, a, b, h2⟩
theorem y1 (h : runF (121 :: ps) s m = (m', r', true)) : ∃ k r, k < 100 ∧ s = digits k 2 ++ r ∧ runF ps r { m with y := k, two := true } = (m', r', true) := by
  obtain ⟨m1, r1, h1, h2⟩ := runB h
  have h1 : ({ m with y := (numR 2 s).1, two := true }, (numR 2 s).2) = (m1, r1, true) := h1
  simp only [Prod.mk.injEq] at h1
  obtain ⟨rfl, e1⟩ := h1
  obtain ⟨a, b⟩ := numB e1
  exact ⟨_, r1, a, b, h2⟩
theorem H1 (h : runF (72 :: ps) s m = (m', r', true)) : ∃ k r, k < 100 ∧ s = digits k 2 ++ r ∧ runF ps r { m with h := k } = (m', r', true) := by
  obtain ⟨m1, r1, h1, h2⟩ := runB h
  have h1 : ({ m with h := (numR 2 s).1 }, (numR 2 s).2) = (m1, r1, true) := h1
  simp only [Prod.mk.injEq] at h1
  obtain ⟨rfl, e1⟩ := h1
  obtain ⟨a, b⟩ := numB e1
  exact ⟨_, r1, a, b, h2⟩
theorem I1 (h : runF (73 :: ps) s m = (m', r', true)) : ∃ k r, k < 100 ∧ s = digits k 2 ++ r ∧ runF ps r { m with mi := k } = (m', r', true) := by
  obtain ⟨m1, r1, h1, h2⟩ := runB h
  have h1 : ({ m with mi := (numR 2 s).1 }, (numR 2 s).2) = (m1, r1, true) := h1
  simp only [Prod.mk.injEq] at h1
  obtain ⟨rfl, e1⟩ := h1
  obtain ⟨a, b⟩ := numB e1
  exact ⟨_, r1, a, b, h2⟩
theorem S1 (h : runF (83 :: ps) s m = (m', r', true)) : ∃ k r, k < 100 ∧ s = digits k 2 ++ r ∧ runF ps r { m with s := k } = (m', r', true) := by
  obtain ⟨m1, r1, h1, h2⟩ := runB h
  have h1 : ({ m with s := (numR 2 s).1 }, (numR 2 s).2) = (m1, r1, true) := h1
  simp only [Prod.mk.injEq] at h1
  obtain ⟨rfl, e1⟩ := h1
  obtain ⟨a, b⟩ := numB e1
  exact ⟨_, r1, a, b, h2⟩
theorem E1 (h : runF (69 :: ps) s m = (m', r', true)) : ∃ k r, ((k < 10 ∧ s = 32 :: (digits k 1 ++ r)) ∨ k < 100 ∧ s = digits k 2 ++ r) ∧ runF ps r { m with d := k } = (m', r', true) := by
  obtain ⟨m1, r1, h1, h2⟩ := runB h
  have h1 : (bif (cutP s [32]).2 then ({ m with d := (numR 1 (cutP s [32]).1).1 }, (numR 1 (cutP s [32]).1).2) else ({ m with d := (numR 2 s).1 }, (numR 2 s).2)) = (m1, r1, true) := h1
  cases hc : (cutP s [32]).2 with
  | true =>
    rw [hc] at h1
    simp only [cond_true, Prod.mk.injEq] at h1
    obtain ⟨rfl, e1⟩ := h1
    obtain ⟨a, b⟩ := numB e1
    refine ⟨_, r1, .inl ⟨a, ?_⟩, h2⟩
    have := cutP_spec hc
    rw [← b]; exact this
  | false =>
    rw [hc] at h1
    simp only [cond_false, Prod.mk.injEq] at h1
    obtain ⟨rfl, e1⟩ := h1
    obtain ⟨a, b⟩ := numB e1
    exact ⟨_, r1, .inr ⟨a, b⟩, h2⟩
end
section
variable {r : List UInt8} {m : Mom} {ps : List UInt8} {x : Mom × List UInt8 × Bool} {k : Nat}
theorem w2 (hk : k < 7) (h : runF ps r { m with w := k } = x) : runF (119 :: ps) (short3 k ++ r) m = x := by
  refine runFw ?_ h
  show ({ m with w := (nameR 3 (short3 k ++ r) thuL).1 }, (nameR 3 (short3 k ++ r) thuL).2) = _
  rw [nameS_of r hk]
theorem W2 (hk : k < 7) (h : runF ps r { m with w := k } = x) : runF (87 :: ps) (long3 k ++ r) m = x := by
  refine runFw ?_ h
  show ({ m with w := (nameR 0 (long3 k ++ r) thuL).1 }, (nameR 0 (long3 k ++ r) thuL).2) = _
  rw [nameL_of r hk]
theorem m2 (h1 : 1 ≤ k) (h2 : k ≤ 12) (h : runF ps r { m with mo := k } = x) : runF (109 :: ps) (monN k ++ r) m = x := runFw (monF h1 h2 r m) h
theorem D2' (hk : k < 100) (h : runF ps r { m with d := k } = x) : runF (68 :: ps) (digits k 2 ++ r) m = x := by
  refine runFw ?_ h
  show ({ m with d := (numR 2 (digits k 2 ++ r)).1 }, (numR 2 (digits k 2 ++ r)).2) = _
  rw [numR_digits r hk]
theorem Y2 (hk : k < 10000) (h : runF ps r { m with y := k } = x) : runF (89 :: ps) (digits k 4 ++ r) m = x := by
  refine runFw ?_ h
  show ({ m with y := (numR 4 (digits k 4 ++ r)).1 }, (numR 4 (digits k 4 ++ r)).2) = _
  rw [numR_digits r hk]
theorem y2 (hk : k < 100) (h : runF ps r { m with y := k, two := true } = x) : runF (121 :: ps) (digits k 2 ++ r) m = x := by
  refine runFw ?_ h
  show ({ m with y := (numR 2 (digits k 2 ++ r)).1, two := true }, (numR 2 (digits k 2 ++ r)).2) = _
  rw [numR_digits r hk]
theorem H2 (hk : k < 100) (h : runF ps r { m with h := k } = x) : runF (72 :: ps) (digits k 2 ++ r) m = x := by
  refine runFw ?_ h
  show ({ m with h := (numR 2 (digits k 2 ++ r)).1 }, (numR 2 (digits k 2 ++ r)).2) = _
  rw [numR_digits r hk]
theorem I2 (hk : k < 100) (h : runF ps r { m with mi := k } = x) : runF (73 :: ps) (digits k 2 ++ r) m = x := by
  refine runFw ?_ h
  show ({ m with mi := (numR 2 (digits k 2 ++ r)).1 }, (numR 2 (digits k 2 ++ r)).2) = _
  rw [numR_digits r hk]
theorem S2 (hk : k < 100) (h : runF ps r { m with s := k } = x) : runF (83 :: ps) (digits k 2 ++ r) m = x := by
  refine runFw ?_ h
  show ({ m with s := (numR 2 (digits k 2 ++ r)).1 }, (numR 2 (digits k 2 ++ r)).2) = _
  rw [numR_digits r hk]
theorem E2a (hk : k < 10) (h : runF ps r { m with d := k } = x) : runF (69 :: ps) (32 :: (digits k 1 ++ r)) m = x := by
  refine runFw ?_ h
  show (bif (cutP (32 :: (digits k 1 ++ r)) [32]).2 then ({ m with d := (numR 1 (cutP (32 :: (digits k 1 ++ r)) [32]).1).1 }, (numR 1 (cutP (32 :: (digits k 1 ++ r)) [32]).1).2) else ({ m with d := (numR 2 (32 :: (digits k 1 ++ r))).1 }, (numR 2 (32 :: (digits k 1 ++ r))).2)) = _
  have := cutP_of [32] (digits k 1 ++ r)
  rw [show [32] ++ (digits k 1 ++ r) = 32 :: (digits k 1 ++ r) from rfl] at this
  rw [this, cond_true, numR_digits r hk]
theorem E2b (hk : k < 100) (h : runF ps r { m with d := k } = x) : runF (69 :: ps) (digits k 2 ++ r) m = x := by
  refine runFw ?_ h
  show (bif (cutP (digits k 2 ++ r) [32]).2 then ({ m with d := (numR 1 (cutP (digits k 2 ++ r) [32]).1).1 }, (numR 1 (cutP (digits k 2 ++ r) [32]).1).2) else ({ m with d := (numR 2 (digits k 2 ++ r)).1 }, (numR 2 (digits k 2 ++ r)).2)) = _
  have : (cutP (digits k 2 ++ r) [32]).2 = false := by
    have hd := (dig_of (j := k / 10 % 10) (by omega)).1
    unfold cutP
    have hne : (([32] : List UInt8).isPrefixOf (digits k 2 ++ r)) = false := by
      rw [digits_2]
      unfold d2
      simp only [List.cons_append, List.isPrefixOf, Bool.and_true, beq_eq_false_iff_ne]
      intro e
      rw [← e] at hd
      revert hd; decide
    rw [hne]; rfl
  rw [this, cond_false, numR_digits r hk]
end
end Go.Ai
end

section
namespace Go.Ai
open Go.RowKit
set_option linter.unusedVariables false
set_option linter.unusedSimpArgs false

def tail3 (h mi se : Nat) (r : List UInt8) : List UInt8 := digits h 2 ++ (58 :: (digits mi 2 ++ (58 :: (digits se 2 ++ r))))
def text1 (w d mo y h mi se : Nat) (r : List UInt8) : List UInt8 := short3 w ++ (44 :: 32 :: (digits d 2 ++ (32 :: (monN mo ++ (32 :: (digits y 4 ++ (32 :: tail3 h mi se (32 :: 71 :: 77 :: 84 :: r))))))))
def text2 (w d mo y h mi se : Nat) (r : List UInt8) : List UInt8 := long3 w ++ (44 :: 32 :: (digits d 2 ++ (45 :: (monN mo ++ (45 :: (digits y 2 ++ (32 :: tail3 h mi se (32 :: 71 :: 77 :: 84 :: r))))))))
def dayE (bl : Bool) (d : Nat) (r : List UInt8) : List UInt8 := match bl with
  | true => 32 :: (digits d 1 ++ r)
  | false => digits d 2 ++ r
def text3 (bl : Bool) (w d mo y h mi se : Nat) (r : List UInt8) : List UInt8 := short3 w ++ (32 :: (monN mo ++ (32 :: dayE bl d (32 :: tail3 h mi se (32 :: (digits y 4 ++ r))))))
structure Low (w d mo h mi se : Nat) : Prop where
  w : w < 7
  d : d < 100
  m1 : 1 ≤ mo
  m2 : mo ≤ 12
  h : h < 100
  mi : mi < 100
  se : se < 100

theorem form1B {s r : List UInt8} {m : Mom} (h : runF form1 s mom0 = (m, r, true)) : ∃ w d mo y h mi se, Low w d mo h mi se ∧ y < 10000 ∧ m = ⟨w, d, mo, y, h, mi, se, false⟩ ∧ s = text1 w d mo y h mi se r := by
  obtain ⟨w, r1, hw, rfl, e1⟩ := w1 h
  obtain ⟨r2, rfl, e2⟩ := lit1 rfl e1
  obtain ⟨r3, rfl, e3⟩ := lit1 rfl e2
  obtain ⟨d, r4, hd, rfl, e4⟩ := D1' e3
  obtain ⟨r5, rfl, e5⟩ := lit1 rfl e4
  obtain ⟨mo, r6, a1, a2, rfl, e6⟩ := m1 e5
  obtain ⟨r7, rfl, e7⟩ := lit1 rfl e6
  obtain ⟨y, r8, hy, rfl, e8⟩ := Y1 e7
  obtain ⟨r9, rfl, e9⟩ := lit1 rfl e8
  obtain ⟨ho, r10, hh, rfl, e10⟩ := H1 e9
  obtain ⟨r11, rfl, e11⟩ := lit1 rfl e10
  obtain ⟨mi, r12, hmi, rfl, e12⟩ := I1 e11
  obtain ⟨r13, rfl, e13⟩ := lit1 rfl e12
  obtain ⟨se, r14, hs, rfl, e14⟩ := S1 e13
  obtain ⟨r15, rfl, e15⟩ := lit1 rfl e14
  obtain ⟨r16, rfl, e16⟩ := lit1 rfl e15
  obtain ⟨r17, rfl, e17⟩ := lit1 rfl e16
  obtain ⟨r18, rfl, e18⟩ := lit1 rfl e17
  obtain ⟨rfl, rfl⟩ := runN e18
  exact ⟨w, d, mo, y, ho, mi, se, ⟨hw, hd, a1, a2, hh, hmi, hs⟩, hy, rfl, rfl⟩
theorem form1F {w d mo y h mi se : Nat} (l : Low w d mo h mi se) (hy : y < 10000) (r : List UInt8) : runF form1 (text1 w d mo y h mi se r) mom0 = (⟨w, d, mo, y, h, mi, se, false⟩, r, true) := by
  obtain ⟨hw, hd, a1, a2, hh, hmi, hs⟩ := l
  unfold text1 tail3 form1
  refine w2 hw (lit2 rfl (lit2 rfl (D2' hd (lit2 rfl (m2 a1 a2 (lit2 rfl (Y2 hy (lit2 rfl (H2 hh (lit2 rfl (I2 hmi (lit2 rfl (S2 hs (lit2 rfl (lit2 rfl (lit2 rfl (lit2 rfl rfl)))))))))))))))))
theorem form2B {s r : List UInt8} {m : Mom} (h : runF form2 s mom0 = (m, r, true)) : ∃ w d mo y h mi se, Low w d mo h mi se ∧ y < 100 ∧ m = ⟨w, d, mo, y, h, mi, se, true⟩ ∧ s = text2 w d mo y h mi se r := by
  obtain ⟨w, r1, hw, rfl, e1⟩ := W1 h
  obtain ⟨r2, rfl, e2⟩ := lit1 rfl e1
  obtain ⟨r3, rfl, e3⟩ := lit1 rfl e2
  obtain ⟨d, r4, hd, rfl, e4⟩ := D1' e3
  obtain ⟨r5, rfl, e5⟩ := lit1 rfl e4
  obtain ⟨mo, r6, a1, a2, rfl, e6⟩ := m1 e5
  obtain ⟨r7, rfl, e7⟩ := lit1 rfl e6
  obtain ⟨y, r8, hy, rfl, e8⟩ := y1 e7
  obtain ⟨r9, rfl, e9⟩ := lit1 rfl e8
  obtain ⟨ho, r10, hh, rfl, e10⟩ := H1 e9
  obtain ⟨r11, rfl, e11⟩ := lit1 rfl e10
  obtain ⟨mi, r12, hmi, rfl, e12⟩ := I1 e11
  obtain ⟨r13, rfl, e13⟩ := lit1 rfl e12
  obtain ⟨se, r14, hs, rfl, e14⟩ := S1 e13
  obtain ⟨r15, rfl, e15⟩ := lit1 rfl e14
  obtain ⟨r16, rfl, e16⟩ := lit1 rfl e15
  obtain ⟨r17, rfl, e17⟩ := lit1 rfl e16
  obtain ⟨r18, rfl, e18⟩ := lit1 rfl e17
  obtain ⟨rfl, rfl⟩ := runN e18
  exact ⟨w, d, mo, y, ho, mi, se, ⟨hw, hd, a1, a2, hh, hmi, hs⟩, hy, rfl, rfl⟩
theorem form2F {w d mo y h mi se : Nat} (l : Low w d mo h mi se) (hy : y < 100) (r : List UInt8) : runF form2 (text2 w d mo y h mi se r) mom0 = (⟨w, d, mo, y, h, mi, se, true⟩, r, true) := by
  obtain ⟨hw, hd, a1, a2, hh, hmi, hs⟩ := l
  unfold text2 tail3 form2
  refine W2 hw (lit2 rfl (lit2 rfl (D2' hd (lit2 rfl (m2 a1 a2 (lit2 rfl (y2 hy (lit2 rfl (H2 hh (lit2 rfl (I2 hmi (lit2 rfl (S2 hs (lit2 rfl (lit2 rfl (lit2 rfl (lit2 rfl rfl)))))))))))))))))
theorem form3B {s r : List UInt8} {m : Mom} (h : runF form3 s mom0 = (m, r, true)) : ∃ bl w d mo y h mi se, Low w d mo h mi se ∧ (bl = true → d < 10) ∧ y < 10000 ∧ m = ⟨w, d, mo, y, h, mi, se, false⟩ ∧ s = text3 bl w d mo y h mi se r := by
  obtain ⟨w, r1, hw, rfl, e1⟩ := w1 h
  obtain ⟨r2, rfl, e2⟩ := lit1 rfl e1
  obtain ⟨mo, r6, a1, a2, rfl, e3⟩ := m1 e2
  obtain ⟨r3, rfl, e4⟩ := lit1 rfl e3
  obtain ⟨d, r4, hd, e5⟩ := E1 e4
  obtain ⟨r5, rfl, e6⟩ := lit1 rfl e5
  obtain ⟨ho, r10, hh, rfl, e7⟩ := H1 e6
  obtain ⟨r11, rfl, e8⟩ := lit1 rfl e7
  obtain ⟨mi, r12, hmi, rfl, e9⟩ := I1 e8
  obtain ⟨r13, rfl, e10⟩ := lit1 rfl e9
  obtain ⟨se, r14, hs, rfl, e11⟩ := S1 e10
  obtain ⟨r15, rfl, e12⟩ := lit1 rfl e11
  obtain ⟨y, r8, hy, rfl, e13⟩ := Y1 e12
  obtain ⟨rfl, rfl⟩ := runN e13
  rcases hd with ⟨hd, rfl⟩ | ⟨hd, rfl⟩
  · exact ⟨true, w, d, mo, y, ho, mi, se, ⟨hw, by omega, a1, a2, hh, hmi, hs⟩, fun _ => hd, hy, rfl, rfl⟩
  · exact ⟨false, w, d, mo, y, ho, mi, se, ⟨hw, hd, a1, a2, hh, hmi, hs⟩, (fun h => by cases h), hy, rfl, rfl⟩
theorem form3F {bl : Bool} {w d mo y h mi se : Nat} (l : Low w d mo h mi se) (hb : bl = true → d < 10) (hy : y < 10000) (r : List UInt8) : runF form3 (text3 bl w d mo y h mi se r) mom0 = (⟨w, d, mo, y, h, mi, se, false⟩, r, true) := by
  obtain ⟨hw, hd, a1, a2, hh, hmi, hs⟩ := l
  unfold text3 tail3 form3
  refine w2 hw (lit2 rfl (m2 a1 a2 (lit2 rfl ?_)))
  cases bl with
  | true => exact E2a (hb rfl) (lit2 rfl (H2 hh (lit2 rfl (I2 hmi (lit2 rfl (S2 hs (lit2 rfl (Y2 hy rfl))))))))
  | false => exact E2b hd (lit2 rfl (H2 hh (lit2 rfl (I2 hmi (lit2 rfl (S2 hs (lit2 rfl (Y2 hy rfl))))))))

/-! The texts of a date in the forms. -/
def oldS (n d m y h mi s : Nat) : List UInt8 := wdL n ++ [44, 32] ++ d2 d ++ [45] ++ monN m ++ [45] ++ d2 y ++ [32] ++ clockS h mi s ++ [32, 71, 77, 84]
def plainS (bl : Bool) (n d m y h mi s : Nat) : List UInt8 := wdN n ++ [32] ++ monN m ++ [32] ++ (bif bl then [32] ++ digits d 1 else d2 d) ++ [32] ++ clockS h mi s ++ [32] ++ d4 y
theorem fixed_text (n d m y h mi s : Nat) : fixedS n d m y h mi s = text1 (n % 7) d m y h mi s [] := by
  simp only [fixedS, text1, tail3, clockS, short3_wd, digits_2, digits_4, List.append_assoc, List.cons_append, List.nil_append]
theorem d2_mod (y : Nat) : d2 (y % 100) = d2 y := by
  unfold d2
  rw [show y % 100 / 10 % 10 = y / 10 % 10 by omega, show y % 100 % 10 = y % 10 by omega]
theorem old_text (n d m y h mi s : Nat) : oldS n d m y h mi s = text2 (n % 7) d m (y % 100) h mi s [] := by
  simp only [oldS, text2, tail3, clockS, long3_wd, digits_2, digits_4, d2_mod, List.append_assoc, List.cons_append, List.nil_append]
theorem plain_text (bl : Bool) (n d m y h mi s : Nat) : plainS bl n d m y h mi s = text3 bl (n % 7) d m y h mi s [] := by
  cases bl <;> simp only [plainS, text3, dayE, tail3, clockS, short3_wd, digits_2, digits_4, cond_true, cond_false, List.append_assoc, List.cons_append, List.nil_append, List.append_nil]

/-! What reads, is a date's text. -/
def tickN (y m d a b c : Nat) : Nat := cntN y m d * 86400 + a * 3600 + b * 60 + c
theorem ok_date {w d mo y h mi se : Nat} {b : Bool} (m1 : 1 ≤ mo) (m2 : mo ≤ 12) (k : okM ⟨w, d, mo, y, h, mi, se, b⟩) : DateOk y mo d h mi se ∧ w = cntN y mo d % 7 := by
  obtain ⟨k1, k2, k3, k4, k5, k6, k7, k8⟩ := k
  exact ⟨⟨k1, k2, m1, m2, k3, k4, k5, k6, k7⟩, k8.symm⟩
theorem date_ok {y mo d h mi se : Nat} {b : Bool} (k : DateOk y mo d h mi se) : okM ⟨cntN y mo d % 7, d, mo, y, h, mi, se, b⟩ := ⟨k.y1, k.y2, k.d1, k.d2, k.a, k.b, k.c, rfl⟩
theorem date_low {y mo d h mi se : Nat} (k : DateOk y mo d h mi se) : Low (cntN y mo d % 7) d mo h mi se := by
  have := longN_ge y mo
  have := k.d2
  have := k.a
  have := k.b
  have := k.c
  exact ⟨Nat.mod_lt _ (by omega), by omega, k.m1, k.m2, by omega, by omega, by omega⟩
theorem formP_some {f s : List UInt8} {now : Int} {t : Nat} : formP f s now = some t ↔ ∃ m, runF f s mom0 = (m, [], true) ∧ okM (nearM m now) ∧ t = tickM (nearM m now) := by
  unfold formP
  rcases hr : runF f s mom0 with ⟨m, r, ok⟩
  simp only
  by_cases hk : okM (nearM m now)
  · rw [show tickR (nearM m now) = (tickM (nearM m now), true) by unfold tickR; rw [if_pos hk]]
    cases ok with
    | false => simp
    | true =>
      cases r with
      | nil => simp [hk, eq_comm]
      | cons a b => simp
  · rw [show tickR (nearM m now) = (0, false) by unfold tickR; rw [if_neg hk]]
    simp only [Bool.and_false, cond_false]
    constructor
    · intro h; cases h
    · rintro ⟨m', h1, h2, _⟩
      simp only [Prod.mk.injEq] at h1
      rw [h1.1] at hk
      exact absurd h2 hk

theorem read1 {s : List UInt8} {now : Int} {t : Nat} : formP form1 s now = some t ↔ ∃ y m d a b c, DateOk y m d a b c ∧ s = fixedS (cntN y m d) d m y a b c ∧ t = tickN y m d a b c := by
  rw [formP_some]
  constructor
  · rintro ⟨m, h, hk, rfl⟩
    obtain ⟨w, d, mo, y, ho, mi, se, l, hy, rfl, rfl⟩ := form1B h
    obtain ⟨k, rfl⟩ := ok_date l.m1 l.m2 (b := false) hk
    exact ⟨y, mo, d, ho, mi, se, k, (fixed_text ..).symm, rfl⟩
  · rintro ⟨y, m, d, a, b, c, k, rfl, rfl⟩
    refine ⟨⟨cntN y m d % 7, d, m, y, a, b, c, false⟩, ?_, date_ok (b := false) k, rfl⟩
    rw [fixed_text]
    exact form1F (date_low k) (by have := k.y2; omega) []
theorem read3 {s : List UInt8} {now : Int} {t : Nat} : formP form3 s now = some t ↔ ∃ bl y m d a b c, DateOk y m d a b c ∧ (bl = true → d < 10) ∧ s = plainS bl (cntN y m d) d m y a b c ∧ t = tickN y m d a b c := by
  rw [formP_some]
  constructor
  · rintro ⟨m, h, hk, rfl⟩
    obtain ⟨bl, w, d, mo, y, ho, mi, se, l, hb, hy, rfl, rfl⟩ := form3B h
    obtain ⟨k, rfl⟩ := ok_date l.m1 l.m2 (b := false) hk
    exact ⟨bl, y, mo, d, ho, mi, se, k, hb, (plain_text ..).symm, rfl⟩
  · rintro ⟨bl, y, m, d, a, b, c, k, hb, rfl, rfl⟩
    refine ⟨⟨cntN y m d % 7, d, m, y, a, b, c, false⟩, ?_, date_ok (b := false) k, rfl⟩
    rw [plain_text]
    exact form3F (date_low k) hb (by have := k.y2; omega) []
theorem read2 {s : List UInt8} {now : Int} {t : Nat} : formP form2 s now = some t ↔ ∃ y m d a b c, DateOk y m d a b c ∧ y ≤ topY now ∧ topY now < y + 100 ∧ s = oldS (cntN y m d) d m y a b c ∧ t = tickN y m d a b c := by
  have ht : 2020 ≤ topY now := by unfold topY; have := (yearOf_spec ((max 0 (min now 253402300799)).toNat / 86400)).1; omega
  rw [formP_some]
  constructor
  · rintro ⟨m, h, hk, rfl⟩
    obtain ⟨w, d, mo, y, ho, mi, se, l, hy, rfl, rfl⟩ := form2B h
    obtain ⟨k, rfl⟩ := ok_date (w := w) (d := d) (mo := mo) (y := topY now - (topY now - y) % 100) (h := ho) (mi := mi) (se := se) (b := true) l.m1 l.m2 hk
    refine ⟨topY now - (topY now - y) % 100, mo, d, ho, mi, se, k, by omega, by omega, ?_, rfl⟩
    rw [old_text, show (topY now - (topY now - y) % 100) % 100 = y by omega]
  · rintro ⟨y, m, d, a, b, c, k, h1, h2, rfl, rfl⟩
    have e : nearM ⟨cntN y m d % 7, d, m, y % 100, a, b, c, true⟩ now = ⟨cntN y m d % 7, d, m, y, a, b, c, true⟩ := by
      unfold nearM
      simp only [cond_true]
      rw [show topY now - (topY now - y % 100) % 100 = y by omega]
    refine ⟨⟨cntN y m d % 7, d, m, y % 100, a, b, c, true⟩, ?_, ?_, ?_⟩
    · rw [old_text]
      exact form2F (date_low k) (by omega) []
    · rw [e]; exact date_ok k
    · rw [e]; rfl
end Go.Ai
end

section
namespace Go.Ai
open Go.RowKit
set_option linter.unusedVariables false

def numAt (s : List UInt8) (at' : Int) (n : Nat) : Int := if at' < 0 ∨ (s.length : Int) < at' + n then -1 else match numA n 0 (s.drop at'.toNat) with
  | some (k, _) => k
  | none => -1
def monG (x : List UInt8) : List (List UInt8) → Nat → Nat
  | [], _ => 0
  | y :: r, i => bif x == y then i + 1 else monG x r (i + 1)
def monAt (s : List UInt8) (at' : Int) : Nat := if at' < 0 ∨ (s.length : Int) < at' + 3 then 0 else monG ((s.drop at'.toNat).take 3) monL 0
def mayP (y m d a b c : Int) : Prop := 1970 ≤ y ∧ y ≤ 9999 ∧ 1 ≤ m ∧ m ≤ 12 ∧ 1 ≤ d ∧ d ≤ (longN y.toNat m.toNat : Nat) ∧ 0 ≤ a ∧ a ≤ 23 ∧ 0 ≤ b ∧ b ≤ 59 ∧ 0 ≤ c ∧ c ≤ 59
instance (y m d a b c : Int) : Decidable (mayP y m d a b c) := by unfold mayP; infer_instance
def mayB (y m d a b c : Int) : Bool := decide (mayP y m d a b c)
def comma : List UInt8 → Nat
  | [] => 0
  | c :: r => bif c == 44 then 0 else comma r + 1
noncomputable def near (dg : Nat) (now : Int) : Nat := topY now - (topY now - dg) % 100

/-- A date's numbers, as the document takes them: they may be none. -/
abbrev Six := Int × Int × Int × Int × Int × Int
def six6 (D : Six) : AV := .agg [.int .i64 D.1, .int .i64 D.2.1, .int .i64 D.2.2.1, .int .i64 D.2.2.2.1, .int .i64 D.2.2.2.2.1, .int .i64 D.2.2.2.2.2]

def numAtC : Con := fun vs h K => ∃ (s : List UInt8) (p : Int) (n : Nat), s.length ≤ 1000000 ∧ -1000000 ≤ p ∧ p ≤ 1000000 ∧ (n = 1 ∨ n = 2 ∨ n = 4) ∧ vs = [.str s, .int .i64 p, .int .i64 n] ∧ K (.int .i64 (numAt s p n)) h
def monAtC : Con := fun vs h K => ∃ (s : List UInt8) (p : Int), s.length ≤ 1000000 ∧ -1000000 ≤ p ∧ p ≤ 1000000 ∧ vs = [.str s, .int .i64 p] ∧ K (.int .i64 (monAt s p)) h
def timeC : Con := fun vs h K => ∃ (y m d a b c : Int) (s : List UInt8) (p : Int), s.length ≤ 1000000 ∧ -1000 ≤ p ∧ p ≤ 1000 ∧ vs = [.agg [.int .i64 y, .int .i64 m, .int .i64 d, .int .i64 a, .int .i64 b, .int .i64 c], .str s, .int .i64 p] ∧
  K (.agg [.int .i64 y, .int .i64 m, .int .i64 d, .int .i64 (numAt s p 2), .int .i64 (numAt s (p + 3) 2), .int .i64 (numAt s (p + 6) 2)]) h
def mayC : Con := fun vs h K => ∃ (y m d a b c : Int), vs = [.agg [.int .i64 y, .int .i64 m, .int .i64 d, .int .i64 a, .int .i64 b, .int .i64 c]] ∧ K (.bool (mayB y m d a b c)) h
def tickDC : Con := fun vs h K => ∃ y m d a b c : Nat, DateOk y m d a b c ∧ vs = [.agg [.int .i64 y, .int .i64 m, .int .i64 d, .int .i64 a, .int .i64 b, .int .i64 c]] ∧ K (.int .i64 (tickN y m d a b c)) h
def nearC : Con := fun vs h K => ∃ (g : Nat) (now : Int), g < 100 ∧ vs = [.int .i64 g, .int .i64 now] ∧ K (.int .i64 (near g now)) h
def oldC : Con := fun vs h K => ∃ y m d a b c : Nat, DateOk y m d a b c ∧ vs = [.agg [.int .i64 y, .int .i64 m, .int .i64 d, .int .i64 a, .int .i64 b, .int .i64 c]] ∧ K (.str (oldS (cntN y m d) d m y a b c)) h
def plainC : Con := fun vs h K => ∃ (y m d a b c : Nat) (bl : Bool), DateOk y m d a b c ∧ vs = [.agg [.int .i64 y, .int .i64 m, .int .i64 d, .int .i64 a, .int .i64 b, .int .i64 c], .bool bl] ∧ K (.str (plainS bl (cntN y m d) d m y a b c)) h

theorem may_ok {y m d a b c : Int} (h : mayB y m d a b c = true) : DateOk y.toNat m.toNat d.toNat a.toNat b.toNat c.toNat ∧ y = y.toNat ∧ m = m.toNat ∧ d = d.toNat ∧ a = a.toNat ∧ b = b.toNat ∧ c = c.toNat := by
  unfold mayB at h
  obtain ⟨h1, h2, h3, h4, h5, h6, h7, h8, h9, h10, h11, h12⟩ := of_decide_eq_true h
  exact ⟨⟨by omega, by omega, by omega, by omega, by omega, by omega, by omega, by omega, by omega⟩, by omega, by omega, by omega, by omega, by omega, by omega⟩
theorem ok_may {y m d a b c : Nat} (k : DateOk y m d a b c) : mayB y m d a b c = true := by
  obtain ⟨h1, h2, h3, h4, h5, h6, h7, h8, h9⟩ := k
  refine decide_eq_true ⟨by omega, by omega, by omega, by omega, by omega, ?_, by omega, by omega, by omega, by omega, by omega, by omega⟩
  simp only [Int.toNat_natCast]; omega

/-- One try of the document's: a date's numbers, its text, and the text that is read. -/
def tryR (D : Six) (f : Nat → Nat → Nat → Nat → Nat → Nat → Nat → List UInt8) (s : List UInt8) : Option Nat :=
  bif mayB D.1 D.2.1 D.2.2.1 D.2.2.2.1 D.2.2.2.2.1 D.2.2.2.2.2 && (f (cntN D.1.toNat D.2.1.toNat D.2.2.1.toNat) D.2.2.1.toNat D.2.1.toNat D.1.toNat D.2.2.2.1.toNat D.2.2.2.2.1.toNat D.2.2.2.2.2.toNat == s) then some (tickN D.1.toNat D.2.1.toNat D.2.2.1.toNat D.2.2.2.1.toNat D.2.2.2.2.1.toNat D.2.2.2.2.2.toNat) else none
def sixA (s : List UInt8) : Six := (numAt s 12 4, monAt s 8, numAt s 5 2, numAt s 17 2, numAt s (17 + 3) 2, numAt s (17 + 6) 2)
noncomputable def sixB (s : List UInt8) (now : Int) : Six := (near (numAt s (comma s + 9) 2).toNat now, monAt s (comma s + 5), numAt s (comma s + 2) 2, numAt s (comma s + 12) 2, numAt s (comma s + 12 + 3) 2, numAt s (comma s + 12 + 6) 2)
def sixC (s : List UInt8) (p : Int) (n : Nat) : Six := (numAt s 20 4, monAt s 4, numAt s p n, numAt s 11 2, numAt s (11 + 3) 2, numAt s (11 + 6) 2)
noncomputable def readR (s : List UInt8) (now : Int) : Option Nat := match tryR (sixA s) fixedS s with
  | some t => some t
  | none => match (if 0 ≤ numAt s (comma s + 9) 2 then tryR (sixB s now) oldS s else none) with
    | some t => some t
    | none => match tryR (sixC s 8 2) (plainS false) s with
      | some t => some t
      | none => tryR (sixC s 9 1) (plainS true) s
noncomputable def outR (o : Option Nat) : Nat × Nat := match o with
  | some t => (t, 0)
  | none => (0, 4)
def refC : Con := fun vs h K => ∃ (s : List UInt8) (now : Int), s.length ≤ 500 ∧ vs = [.str s, .int .i64 now] ∧ K (.tup [.int .i64 (outR (readR s now)).1, .int .i64 (outR (readR s now)).2]) h
noncomputable def isB (s : List UInt8) (now want : Int) : Bool := decide (((parseP s now).1 : Int) = want) && decide ((parseP s now).2 = 0)
def isTC : Con := fun vs h K => ∃ (s : List UInt8) (now want : Int), vs = [.str s, .int .i64 now, .int .i64 want] ∧ K (.bool (isB s now want)) h
end Go.Ai
end

section
namespace Go.Ai
open Go.RowKit
set_option linter.unusedVariables false
set_option linter.unusedSimpArgs false

theorem digs_len : ∀ (k n : Nat), (digits n k).length = k
  | 0, _ => rfl
  | k + 1, n => by simp [digits, digs_len k]
theorem short3_len {w : Nat} (h : w < 7) : (short3 w).length = 3 := by
  have : w = 0 ∨ w = 1 ∨ w = 2 ∨ w = 3 ∨ w = 4 ∨ w = 5 ∨ w = 6 := by omega
  rcases this with rfl | rfl | rfl | rfl | rfl | rfl | rfl <;> rfl
theorem comma_of {w : Nat} (h : w < 7) (r : List UInt8) : comma (long3 w ++ 44 :: r) = (long3 w).length := by
  have : w = 0 ∨ w = 1 ∨ w = 2 ∨ w = 3 ∨ w = 4 ∨ w = 5 ∨ w = 6 := by omega
  rcases this with rfl | rfl | rfl | rfl | rfl | rfl | rfl <;> rfl
theorem numAt_of {s pre r : List UInt8} {k n : Nat} {p : Int} (hs : s = pre ++ (digits k n ++ r)) (hp : p = pre.length) (hk : k < 10 ^ n) : numAt s p n = k := by
  subst hs hp
  unfold numAt
  rw [if_neg (by simp only [List.length_append, digs_len]; omega), Int.toNat_natCast, List.drop_left', numA_digits n 0 k r hk]
  · simp
  · rfl
theorem numAt_lt {s : List UInt8} {p : Int} {n : Nat} : numAt s p n < (10 ^ n : Nat) := by
  unfold numAt
  have h0 : 0 < 10 ^ n := Nat.pow_pos (by decide)
  split
  · omega
  · split
    · rename_i k r h
      obtain ⟨j, hj, rfl, _⟩ := numA_spec n 0 _ k _ h
      rw [Nat.zero_mul, Nat.zero_add]; omega
    · omega
theorem monG_of {m : Nat} (h1 : 1 ≤ m) (h2 : m ≤ 12) : monG (monN m) monL 0 = m := by
  have : m = 1 ∨ m = 2 ∨ m = 3 ∨ m = 4 ∨ m = 5 ∨ m = 6 ∨ m = 7 ∨ m = 8 ∨ m = 9 ∨ m = 10 ∨ m = 11 ∨ m = 12 := by omega
  rcases this with rfl | rfl | rfl | rfl | rfl | rfl | rfl | rfl | rfl | rfl | rfl | rfl <;> rfl
theorem monAt_of {s pre r : List UInt8} {k : Nat} {p : Int} (hs : s = pre ++ (monN k ++ r)) (hp : p = pre.length) (h1 : 1 ≤ k) (h2 : k ≤ 12) : monAt s p = k := by
  subst hs hp
  have hl := monN_len h1 h2
  unfold monAt
  rw [if_neg (by simp only [List.length_append, hl]; omega), Int.toNat_natCast, List.drop_left' rfl, List.take_left' hl, monG_of h1 h2]

def cast6 (y m d a b c : Nat) : Six := (y, m, d, a, b, c)
theorem try_some {D : Six} {f : Nat → Nat → Nat → Nat → Nat → Nat → Nat → List UInt8} {s : List UInt8} {t : Nat} : tryR D f s = some t ↔ ∃ y m d a b c, DateOk y m d a b c ∧ D = cast6 y m d a b c ∧ s = f (cntN y m d) d m y a b c ∧ t = tickN y m d a b c := by
  obtain ⟨y, m, d, a, b, c⟩ := D
  unfold tryR
  simp only
  cases hm : mayB y m d a b c with
  | false =>
    simp only [Bool.false_and, cond_false]
    constructor
    · intro h; cases h
    · rintro ⟨y, m, d, a, b, c, k, h, _, _⟩
      simp only [cast6, Prod.mk.injEq] at h
      obtain ⟨rfl, rfl, rfl, rfl, rfl, rfl⟩ := h
      rw [ok_may k] at hm; cases hm
  | true =>
    obtain ⟨k, e1, e2, e3, e4, e5, e6⟩ := may_ok hm
    cases hf : (f (cntN y.toNat m.toNat d.toNat) d.toNat m.toNat y.toNat a.toNat b.toNat c.toNat == s) with
    | true =>
      simp only [Bool.true_and, cond_true, Option.some.injEq]
      constructor
      · rintro rfl
        refine ⟨_, _, _, _, _, _, k, ?_, (beq_iff_eq.1 hf).symm, rfl⟩
        simp only [cast6, ← e1, ← e2, ← e3, ← e4, ← e5, ← e6]
      · rintro ⟨y', m', d', a', b', c', k', h, _, rfl⟩
        simp only [cast6, Prod.mk.injEq] at h
        obtain ⟨rfl, rfl, rfl, rfl, rfl, rfl⟩ := h
        simp only [Int.toNat_natCast]
    | false =>
      simp only [Bool.and_false, cond_false]
      constructor
      · intro h; cases h
      · rintro ⟨y', m', d', a', b', c', k', h, h2, _⟩
        simp only [cast6, Prod.mk.injEq] at h
        obtain ⟨rfl, rfl, rfl, rfl, rfl, rfl⟩ := h
        simp only [Int.toNat_natCast, beq_eq_false_iff_ne] at hf
        exact absurd h2.symm hf

section
variable {w d m y h mi se : Nat}
theorem six1 (l : Low w d m h mi se) (hy : y < 10000) : sixA (text1 w d m y h mi se []) = cast6 y m d h mi se := by
  obtain ⟨hw, hd, a1, a2, hh, hmi, hs⟩ := l
  have h3 := short3_len hw
  have hm := monN_len a1 a2
  unfold sixA cast6
  refine Prod.ext (numAt_of (pre := short3 w ++ [44, 32] ++ digits d 2 ++ [32] ++ monN m ++ [32]) (by simp [text1]; rfl) (by simp [h3, hm, digs_len]) hy) ?_
  refine Prod.ext (congrArg Int.ofNat (monAt_of (pre := short3 w ++ [44, 32] ++ digits d 2 ++ [32]) (by simp [text1]; rfl) (by simp [h3, hm, digs_len]) a1 a2)) ?_
  refine Prod.ext (numAt_of (pre := short3 w ++ [44, 32]) (by simp [text1]; rfl) (by simp [h3, hm, digs_len]) hd) ?_
  refine Prod.ext (numAt_of (pre := short3 w ++ [44, 32] ++ digits d 2 ++ [32] ++ monN m ++ [32] ++ digits y 4 ++ [32]) (by simp [text1, tail3]; rfl) (by simp [h3, hm, digs_len]) hh) ?_
  refine Prod.ext (numAt_of (pre := short3 w ++ [44, 32] ++ digits d 2 ++ [32] ++ monN m ++ [32] ++ digits y 4 ++ [32] ++ digits h 2 ++ [58]) (by simp [text1, tail3]; rfl) (by simp [h3, hm, digs_len]) hmi) ?_
  exact numAt_of (pre := short3 w ++ [44, 32] ++ digits d 2 ++ [32] ++ monN m ++ [32] ++ digits y 4 ++ [32] ++ digits h 2 ++ [58] ++ digits mi 2 ++ [58]) (by simp [text1, tail3]; rfl) (by simp [h3, hm, digs_len]) hs
theorem year2 (l : Low w d m h mi se) (hy : y < 100) : numAt (text2 w d m y h mi se []) (comma (text2 w d m y h mi se []) + 9) 2 = y := by
  obtain ⟨hw, hd, a1, a2, hh, hmi, hs⟩ := l
  have hm := monN_len a1 a2
  have hc : comma (text2 w d m y h mi se []) = (long3 w).length := comma_of hw _
  rw [hc]
  exact numAt_of (pre := long3 w ++ [44, 32] ++ digits d 2 ++ [45] ++ monN m ++ [45]) (by simp [text2]; rfl) (by simp [hm, digs_len] <;> omega) hy
theorem six2 (l : Low w d m h mi se) (hy : y < 100) (now : Int) : sixB (text2 w d m y h mi se []) now = cast6 (near y now) m d h mi se := by
  have hy2 := year2 l hy
  obtain ⟨hw, hd, a1, a2, hh, hmi, hs⟩ := l
  have hm := monN_len a1 a2
  have hc : comma (text2 w d m y h mi se []) = (long3 w).length := comma_of hw _
  unfold sixB cast6
  rw [hy2, hc, Int.toNat_natCast]
  refine Prod.ext rfl ?_
  refine Prod.ext (congrArg Int.ofNat (monAt_of (pre := long3 w ++ [44, 32] ++ digits d 2 ++ [45]) (by simp [text2]; rfl) (by simp [hm, digs_len] <;> omega) a1 a2)) ?_
  refine Prod.ext (numAt_of (pre := long3 w ++ [44, 32]) (by simp [text2]; rfl) (by simp [hm, digs_len]) hd) ?_
  refine Prod.ext (numAt_of (pre := long3 w ++ [44, 32] ++ digits d 2 ++ [45] ++ monN m ++ [45] ++ digits y 2 ++ [32]) (by simp [text2, tail3]; rfl) (by simp [hm, digs_len] <;> omega) hh) ?_
  refine Prod.ext (numAt_of (pre := long3 w ++ [44, 32] ++ digits d 2 ++ [45] ++ monN m ++ [45] ++ digits y 2 ++ [32] ++ digits h 2 ++ [58]) (by simp [text2, tail3]; rfl) (by simp [hm, digs_len] <;> omega) hmi) ?_
  exact numAt_of (pre := long3 w ++ [44, 32] ++ digits d 2 ++ [45] ++ monN m ++ [45] ++ digits y 2 ++ [32] ++ digits h 2 ++ [58] ++ digits mi 2 ++ [58]) (by simp [text2, tail3]; rfl) (by simp [hm, digs_len] <;> omega) hs
theorem six3 (l : Low w d m h mi se) (hy : y < 10000) : sixC (text3 false w d m y h mi se []) 8 2 = cast6 y m d h mi se := by
  obtain ⟨hw, hd, a1, a2, hh, hmi, hs⟩ := l
  have h3 := short3_len hw
  have hm := monN_len a1 a2
  unfold sixC cast6
  refine Prod.ext (numAt_of (pre := short3 w ++ [32] ++ monN m ++ [32] ++ digits d 2 ++ [32] ++ digits h 2 ++ [58] ++ digits mi 2 ++ [58] ++ digits se 2 ++ [32]) (r := []) (by simp [text3, tail3, dayE]) (by simp [h3, hm, digs_len]) hy) ?_
  refine Prod.ext (congrArg Int.ofNat (monAt_of (pre := short3 w ++ [32]) (by simp [text3]; rfl) (by simp [h3, hm, digs_len]) a1 a2)) ?_
  refine Prod.ext (numAt_of (pre := short3 w ++ [32] ++ monN m ++ [32]) (by simp [text3, dayE]; rfl) (by simp [h3, hm, digs_len]) hd) ?_
  refine Prod.ext (numAt_of (pre := short3 w ++ [32] ++ monN m ++ [32] ++ digits d 2 ++ [32]) (by simp [text3, tail3, dayE]; rfl) (by simp [h3, hm, digs_len]) hh) ?_
  refine Prod.ext (numAt_of (pre := short3 w ++ [32] ++ monN m ++ [32] ++ digits d 2 ++ [32] ++ digits h 2 ++ [58]) (by simp [text3, tail3, dayE]; rfl) (by simp [h3, hm, digs_len]) hmi) ?_
  exact numAt_of (pre := short3 w ++ [32] ++ monN m ++ [32] ++ digits d 2 ++ [32] ++ digits h 2 ++ [58] ++ digits mi 2 ++ [58]) (by simp [text3, tail3, dayE]; rfl) (by simp [h3, hm, digs_len]) hs
theorem six4 (l : Low w d m h mi se) (hd : d < 10) (hy : y < 10000) : sixC (text3 true w d m y h mi se []) 9 1 = cast6 y m d h mi se := by
  obtain ⟨hw, _, a1, a2, hh, hmi, hs⟩ := l
  have h3 := short3_len hw
  have hm := monN_len a1 a2
  unfold sixC cast6
  refine Prod.ext (numAt_of (pre := short3 w ++ [32] ++ monN m ++ [32, 32] ++ digits d 1 ++ [32] ++ digits h 2 ++ [58] ++ digits mi 2 ++ [58] ++ digits se 2 ++ [32]) (r := []) (by simp [text3, tail3, dayE]) (by simp [h3, hm, digs_len]) hy) ?_
  refine Prod.ext (congrArg Int.ofNat (monAt_of (pre := short3 w ++ [32]) (by simp [text3]; rfl) (by simp [h3, hm, digs_len]) a1 a2)) ?_
  refine Prod.ext (numAt_of (pre := short3 w ++ [32] ++ monN m ++ [32, 32]) (by simp [text3, dayE]; rfl) (by simp [h3, hm, digs_len]) hd) ?_
  refine Prod.ext (numAt_of (pre := short3 w ++ [32] ++ monN m ++ [32, 32] ++ digits d 1 ++ [32]) (by simp [text3, tail3, dayE]; rfl) (by simp [h3, hm, digs_len]) hh) ?_
  refine Prod.ext (numAt_of (pre := short3 w ++ [32] ++ monN m ++ [32, 32] ++ digits d 1 ++ [32] ++ digits h 2 ++ [58]) (by simp [text3, tail3, dayE]; rfl) (by simp [h3, hm, digs_len]) hmi) ?_
  exact numAt_of (pre := short3 w ++ [32] ++ monN m ++ [32, 32] ++ digits d 1 ++ [32] ++ digits h 2 ++ [58] ++ digits mi 2 ++ [58]) (by simp [text3, tail3, dayE]; rfl) (by simp [h3, hm, digs_len]) hs
end

theorem opt_ext {a b : Option Nat} (h : ∀ t, a = some t ↔ b = some t) : a = b := by
  cases a with
  | some x => exact ((h x).1 rfl).symm
  | none =>
    cases b with
    | none => rfl
    | some x => exact (h x).2 rfl
theorem same1 (s : List UInt8) (now : Int) : tryR (sixA s) fixedS s = formP form1 s now := opt_ext fun t => by
  rw [try_some, read1]
  constructor
  · rintro ⟨y, m, d, a, b, c, k, _, h, e⟩
    exact ⟨y, m, d, a, b, c, k, h, e⟩
  · rintro ⟨y, m, d, a, b, c, k, rfl, e⟩
    refine ⟨y, m, d, a, b, c, k, ?_, rfl, e⟩
    rw [fixed_text]
    exact six1 (date_low k) (by have := k.y2; omega)
theorem same2 (s : List UInt8) (now : Int) : (if 0 ≤ numAt s (comma s + 9) 2 then tryR (sixB s now) oldS s else none) = formP form2 s now := opt_ext fun t => by
  rw [read2]
  constructor
  · intro h
    split at h
    · obtain ⟨y, m, d, a, b, c, k, e, h, e2⟩ := try_some.1 h
      have e1 : near (numAt s (comma s + 9) 2).toNat now = y := by
        have := congrArg Prod.fst e
        simp only [sixB, cast6] at this
        omega
      unfold near at e1
      exact ⟨y, m, d, a, b, c, k, by omega, by omega, h, e2⟩
    · cases h
  · rintro ⟨y, m, d, a, b, c, k, h1, h2, rfl, e⟩
    have hn : near (y % 100) now = y := by unfold near; omega
    rw [if_pos]
    · refine try_some.2 ⟨y, m, d, a, b, c, k, ?_, rfl, e⟩
      rw [old_text, six2 (date_low k) (by omega), hn]
    · rw [old_text, year2 (date_low k) (by omega)]; omega
theorem same3 (s : List UInt8) (now : Int) : (match tryR (sixC s 8 2) (plainS false) s with
    | some t => some t
    | none => tryR (sixC s 9 1) (plainS true) s) = formP form3 s now := by
  have h1 : ∀ t, tryR (sixC s 8 2) (plainS false) s = some t → formP form3 s now = some t := by
    intro t h
    obtain ⟨y, m, d, a, b, c, k, _, h, e⟩ := try_some.1 h
    exact read3.2 ⟨false, y, m, d, a, b, c, k, (fun h => by cases h), h, e⟩
  have h2 : ∀ t, tryR (sixC s 9 1) (plainS true) s = some t → formP form3 s now = some t := by
    intro t h
    obtain ⟨y, m, d, a, b, c, k, e1, h, e⟩ := try_some.1 h
    refine read3.2 ⟨true, y, m, d, a, b, c, k, (fun _ => ?_), h, e⟩
    have := congrArg (fun p => p.2.2.1) e1
    simp only [sixC, cast6] at this
    have hl := numAt_lt (s := s) (p := 9) (n := 1)
    omega
  have h3 : ∀ t, formP form3 s now = some t → tryR (sixC s 8 2) (plainS false) s = some t ∨ tryR (sixC s 9 1) (plainS true) s = some t := by
    intro t h
    obtain ⟨bl, y, m, d, a, b, c, k, hb, rfl, e⟩ := read3.1 h
    cases bl with
    | false =>
      refine .inl (try_some.2 ⟨y, m, d, a, b, c, k, ?_, rfl, e⟩)
      rw [plain_text]
      exact six3 (date_low k) (by have := k.y2; omega)
    | true =>
      refine .inr (try_some.2 ⟨y, m, d, a, b, c, k, ?_, rfl, e⟩)
      rw [plain_text]
      exact six4 (date_low k) (hb rfl) (by have := k.y2; omega)
  cases a1 : tryR (sixC s 8 2) (plainS false) s with
  | some t => exact (h1 t a1).symm
  | none =>
    simp only
    cases a2 : tryR (sixC s 9 1) (plainS true) s with
    | some t => exact (h2 t a2).symm
    | none =>
      cases a3 : formP form3 s now with
      | none => rfl
      | some t =>
        rcases h3 t a3 with h | h
        · rw [h] at a1; cases a1
        · rw [h] at a2; cases a2
/-- The program's reader answers as the document's. -/
theorem reads_same (s : List UInt8) (now : Int) : parseP s now = outR (readR s now) := by
  unfold parseP readR outR
  rw [same1 s now, same2 s now]
  have h3 := same3 s now
  generalize tryR (sixC s 8 2) (plainS false) s = u at h3 ⊢
  generalize tryR (sixC s 9 1) (plainS true) s = v at h3 ⊢
  rw [← h3]
  cases formP form1 s now with
  | some t => rfl
  | none =>
    cases formP form2 s now with
    | some t => rfl
    | none =>
      cases u with
      | some t => rfl
      | none => cases v <;> rfl
end Go.Ai
end
