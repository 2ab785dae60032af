/-
  Dates, in plain terms: years, months, days, their names and numbers as bytes. No statement about the program is made here.
-/
import Derived.Test.YtnefabbpjepppaaDoorAiLaw
namespace Go.Ai
open Go.RowKit

def leapN (y : Nat) : Bool := decide (y % 4 = 0 ∧ ¬y % 100 = 0 ∨ y % 400 = 0)
def ylen (y : Nat) : Nat := bif leapN y then 366 else 365
theorem ylen_eq (y : Nat) : ylen y = if y % 4 = 0 ∧ ¬y % 100 = 0 ∨ y % 400 = 0 then 366 else 365 := by
  unfold ylen leapN
  by_cases h : y % 4 = 0 ∧ ¬y % 100 = 0 ∨ y % 400 = 0
  · rw [decide_eq_true h, if_pos h]; rfl
  · rw [decide_eq_false h, if_neg h]; rfl
def longN (y m : Nat) : Nat := if m = 2 then (bif leapN y then 29 else 28) else if m = 4 ∨ m = 6 ∨ m = 9 ∨ m = 11 then 30 else 31
/-- How many days are ahead of a year, since 1970. -/
def ahd (y : Nat) : Int := 365 * ((y : Int) - 1970) + ((y - 1) / 4 : Nat) - ((y - 1) / 100 : Nat) + ((y - 1) / 400 : Nat) - 477
/-- How many days of a year are ahead of a month. -/
def bef (y : Nat) : Nat → Nat
  | 0 => 0
  | 1 => 0
  | m + 2 => bef y (m + 1) + longN y (m + 1)

theorem ahd_succ {y : Nat} (h : 1 ≤ y) : ahd (y + 1) = ahd y + ylen y := by
  rw [ylen_eq]
  unfold ahd
  obtain ⟨k, rfl⟩ : ∃ k, y = k + 1 := ⟨y - 1, by omega⟩
  simp only [Nat.add_sub_cancel]
  split <;> omega
theorem ahd_first : ahd 1970 = 0 := by decide
theorem ylen_ge (y : Nat) : 365 ≤ ylen y ∧ ylen y ≤ 366 := by unfold ylen; cases leapN y <;> decide
theorem ahd_mono {a : Nat} (ha : 1 ≤ a) : ∀ (k : Nat), ahd a + 365 * k ≤ ahd (a + k) ∧ ahd (a + k) ≤ ahd a + 366 * k
  | 0 => by simp
  | k + 1 => by
    have h1 := ahd_mono ha k
    have h2 := ahd_succ (y := a + k) (by omega)
    have h3 := ylen_ge (a + k)
    rw [show a + (k + 1) = a + k + 1 by omega, h2]
    omega
theorem ahd_le {a b : Nat} (ha : 1 ≤ a) (h : a ≤ b) : ahd a ≤ ahd b := by
  obtain ⟨k, rfl⟩ := Nat.exists_eq_add_of_le h
  have := (ahd_mono ha k).1
  omega
theorem ahd_lt {a b : Nat} (ha : 1 ≤ a) (h : a < b) : ahd a < ahd b := by
  obtain ⟨k, rfl⟩ := Nat.exists_eq_add_of_le (Nat.le_of_lt h)
  have := (ahd_mono ha k).1
  omega
/-- The year of a day. -/
def inYear (d y : Nat) : Prop := 1970 ≤ y ∧ ahd y ≤ d ∧ (d : Int) < ahd (y + 1)
theorem inYear_uniq {d a b : Nat} (h : inYear d a) (k : inYear d b) : a = b := by
  obtain ⟨h1, h2, h3⟩ := h
  obtain ⟨k1, k2, k3⟩ := k
  rcases Nat.lt_trichotomy a b with h | h | h
  · have := ahd_le (a := a + 1) (b := b) (by omega) h
    omega
  · exact h
  · have := ahd_le (a := b + 1) (b := a) (by omega) h
    omega
theorem inYear_ex (d : Nat) : ∃ y, inYear d y := by
  have key : ∀ n, ∃ y, 1970 ≤ y ∧ ahd y ≤ d ∧ ((d : Int) < ahd (y + 1) ∨ y = 1970 + n) := by
    intro n
    induction n with
    | zero => exact ⟨1970, by omega, by rw [ahd_first]; omega, .inr rfl⟩
    | succ n ih =>
      obtain ⟨y, h1, h2, h3⟩ := ih
      rcases h3 with h3 | rfl
      · exact ⟨y, h1, h2, .inl h3⟩
      · by_cases h4 : (d : Int) < ahd (1970 + n + 1)
        · exact ⟨_, h1, h2, .inl h4⟩
        · exact ⟨1970 + n + 1, by omega, by omega, .inr rfl⟩
  obtain ⟨y, h1, h2, h3⟩ := key (d + 1)
  rcases h3 with h3 | rfl
  · exact ⟨y, h1, h2, h3⟩
  · have := (ahd_mono (a := 1970) (by omega) (d + 1)).1
    rw [ahd_first] at this
    omega
theorem inYear_bound {d y : Nat} (h : inYear d y) : 1970 + d / 366 ≤ y ∧ y ≤ 1970 + d / 365 := by
  obtain ⟨h1, h2, h3⟩ := h
  obtain ⟨k, rfl⟩ := Nat.exists_eq_add_of_le h1
  have a1 := (ahd_mono (a := 1970) (by omega) k).1
  have a2 := (ahd_mono (a := 1970) (by omega) (k + 1)).2
  rw [ahd_first] at a1 a2
  rw [show 1970 + (k + 1) = 1970 + k + 1 by omega] at a2
  omega
theorem bef_13 (y : Nat) : bef y 13 = ylen y := by
  simp only [bef, longN, ylen]
  cases leapN y <;> simp
theorem longN_ge (y m : Nat) : 28 ≤ longN y m ∧ longN y m ≤ 31 := by
  unfold longN
  split
  · cases leapN y <;> decide
  · split <;> decide
theorem bef_succ (y : Nat) {m : Nat} (h : 1 ≤ m) : bef y (m + 1) = bef y m + longN y m := by
  obtain ⟨k, rfl⟩ : ∃ k, m = k + 1 := ⟨m - 1, by omega⟩
  rfl
/-- The month of a day of a year. -/
def inMonth (y r m : Nat) : Prop := 1 ≤ m ∧ m ≤ 12 ∧ bef y m ≤ r ∧ r < bef y (m + 1)

def d2 (n : Nat) : List UInt8 := [UInt8.ofNat (48 + n / 10 % 10), UInt8.ofNat (48 + n % 10)]
def d4 (n : Nat) : List UInt8 := d2 (n / 100) ++ d2 n

/-! Contracts. -/
def leapC : Con := fun vs h K => ∃ y : Nat, y ≤ 1000000 ∧ vs = [.int .i64 y] ∧ K (.bool (leapN y)) h
def longC : Con := fun vs h K => ∃ y m : Nat, y ≤ 1000000 ∧ 1 ≤ m ∧ m ≤ 12 ∧ vs = [.int .i64 y, .int .i64 m] ∧ K (.int .i64 (longN y m)) h
def aheadC : Con := fun vs h K => ∃ y : Nat, 1 ≤ y ∧ y ≤ 1000000 ∧ vs = [.int .i64 y] ∧ K (.int .i64 (ahd y)) h
def twoC : Con := fun vs h K => ∃ n : Nat, n ≤ 1000000 ∧ vs = [.int .i64 n] ∧ K (.str (d2 n)) h
def yearC : Con := fun vs h K => ∃ d y : Nat, d ≤ 4000000 ∧ inYear d y ∧ vs = [.int .i64 d] ∧ K (.tup [.int .i64 y, .int .i64 ((d : Int) - ahd y)]) h

theorem inMonth_ex {y r : Nat} (h : r < ylen y) : ∃ m, inMonth y r m := by
  have key : ∀ n, n ≤ 11 → ∃ m, 1 ≤ m ∧ m ≤ n + 1 ∧ bef y m ≤ r ∧ (r < bef y (m + 1) ∨ m = n + 1) := by
    intro n
    induction n with
    | zero => exact fun _ => ⟨1, by omega, by omega, Nat.zero_le _, .inr rfl⟩
    | succ n ih =>
      intro hn
      obtain ⟨m, h1, h2, h3, h4⟩ := ih (by omega)
      rcases h4 with h4 | rfl
      · exact ⟨m, h1, by omega, h3, .inl h4⟩
      · by_cases h5 : r < bef y (n + 1 + 1)
        · exact ⟨n + 1, by omega, by omega, h3, .inl h5⟩
        · exact ⟨n + 1 + 1, by omega, by omega, by omega, .inr rfl⟩
  obtain ⟨m, h1, h2, h3, h4⟩ := key 11 (by omega)
  rcases h4 with h4 | rfl
  · exact ⟨m, h1, h2, h3, h4⟩
  · exact ⟨12, by omega, by omega, h3, by rw [show 12 + 1 = 13 from rfl, bef_13]; exact h⟩
theorem bef_le (y : Nat) {a b : Nat} (ha : 1 ≤ a) (h : a ≤ b) : bef y a ≤ bef y b := by
  obtain ⟨k, rfl⟩ := Nat.exists_eq_add_of_le h
  clear h
  induction k with
  | zero => exact Nat.le_refl _
  | succ k ih => rw [show a + (k + 1) = a + k + 1 by omega, bef_succ y (by omega)]; omega
theorem inMonth_uniq {y r a b : Nat} (h : inMonth y r a) (k : inMonth y r b) : a = b := by
  obtain ⟨h1, _, h2, h3⟩ := h
  obtain ⟨k1, _, k2, k3⟩ := k
  rcases Nat.lt_trichotomy a b with h | h | h
  · have := bef_le y (a := a + 1) (b := b) (by omega) h
    omega
  · exact h
  · have := bef_le y (a := b + 1) (b := a) (by omega) h
    omega

noncomputable def yearOf (d : Nat) : Nat := (inYear_ex d).choose
theorem yearOf_spec (d : Nat) : inYear d (yearOf d) := (inYear_ex d).choose_spec
/-- Which day of its year a day is. -/
noncomputable def restOf (d : Nat) : Nat := ((d : Int) - ahd (yearOf d)).toNat
theorem restOf_eq (d : Nat) : (restOf d : Int) = (d : Int) - ahd (yearOf d) := by
  have := (yearOf_spec d).2.1
  unfold restOf; omega
theorem restOf_lt (d : Nat) : restOf d < ylen (yearOf d) := by
  have h := yearOf_spec d
  have h1 := ahd_succ (y := yearOf d) (by have := h.1; omega)
  have h2 := restOf_eq d
  have := h.2.2
  omega
noncomputable def monthOf (d : Nat) : Nat := (inMonth_ex (restOf_lt d)).choose
theorem monthOf_spec (d : Nat) : inMonth (yearOf d) (restOf d) (monthOf d) := (inMonth_ex (restOf_lt d)).choose_spec
noncomputable def dayOf (d : Nat) : Nat := restOf d - bef (yearOf d) (monthOf d) + 1

def lastT : Nat := 253402300799
theorem year_le {d : Nat} (h : d ≤ 2932896) : yearOf d ≤ 9999 := by
  have hy := yearOf_spec d
  by_cases hc : yearOf d ≤ 9999
  · exact hc
  · have := ahd_le (a := 10000) (b := yearOf d) (by omega) (by omega)
    have e : ahd 10000 = 2932897 := by decide
    have := hy.2.1
    omega

def digits : Nat → Nat → List UInt8
  | _, 0 => []
  | n, k + 1 => digits (n / 10) k ++ [UInt8.ofNat (48 + n % 10)]
theorem digits_2 (n : Nat) : digits n 2 = d2 n := rfl
theorem digits_4 (n : Nat) : digits n 4 = d4 n := by
  simp only [digits, d4, d2, List.nil_append, List.cons_append, Nat.div_div_eq_div_mul]

def shortL : List (List UInt8) := [[77, 111, 110], [84, 117, 101], [87, 101, 100], [84, 104, 117], [70, 114, 105], [83, 97, 116], [83, 117, 110]]
def longL : List (List UInt8) := [[77, 111, 110, 100, 97, 121], [84, 117, 101, 115, 100, 97, 121], [87, 101, 100, 110, 101, 115, 100, 97, 121], [84, 104, 117, 114, 115, 100, 97, 121], [70, 114, 105, 100, 97, 121], [83, 97, 116, 117, 114, 100, 97, 121], [83, 117, 110, 100, 97, 121]]
def monL : List (List UInt8) := [[74, 97, 110], [70, 101, 98], [77, 97, 114], [65, 112, 114], [77, 97, 121], [74, 117, 110], [74, 117, 108], [65, 117, 103], [83, 101, 112], [79, 99, 116], [78, 111, 118], [68, 101, 99]]
def encS (l : List (List UInt8)) : List (List AV) := l.map fun s => [.str s]
def wdN (n : Nat) : List UInt8 := shortL.getD ((n + 3) % 7) []
def wdL (n : Nat) : List UInt8 := longL.getD ((n + 3) % 7) []
def monN (m : Nat) : List UInt8 := monL.getD (m - 1) []
def clockS (h mi s : Nat) : List UInt8 := d2 h ++ [58] ++ d2 mi ++ [58] ++ d2 s
/-- IMF-fixdate: of a day (its number), and its date. -/
def fixedS (n d m y h mi s : Nat) : List UInt8 := wdN n ++ [44, 32] ++ d2 d ++ [32] ++ monN m ++ [32] ++ d4 y ++ [32] ++ clockS h mi s ++ [32, 71, 77, 84]
/-- A tick's date. -/
noncomputable def putS (t : Int) : List UInt8 :=
  if 0 ≤ t ∧ t ≤ lastT then fixedS (t.toNat / 86400) (dayOf (t.toNat / 86400)) (monthOf (t.toNat / 86400)) (yearOf (t.toNat / 86400)) (t.toNat % 86400 / 3600) (t.toNat % 86400 / 60 % 60) (t.toNat % 86400 % 60) else []

def digC : Con := fun vs h K => ∃ n k : Nat, n ≤ 1000000 ∧ (k = 1 ∨ k = 2 ∨ k = 4) ∧ vs = [.int .i64 n, .int .i64 k] ∧ K (.str (digits n k)) h
def namesC (L : List (List UInt8)) : Con := fun vs h K => vs.isEmpty = true ∧ K (.sl 1 (encS L) none) h
def weekC : Con := fun vs h K => ∃ (n : Nat) (L : List (List UInt8)), n ≤ 4000000 ∧ L.length = 7 ∧ vs = [.int .i64 n, .sl 1 (encS L) none] ∧ K (.str (L.getD ((n + 3) % 7) [])) h
def countC : Con := fun vs h K => ∃ y m d a b c : Nat, 1970 ≤ y ∧ y ≤ 9999 ∧ 1 ≤ m ∧ m ≤ 12 ∧ 1 ≤ d ∧ d ≤ 1000 ∧ vs = [.agg [.int .i64 y, .int .i64 m, .int .i64 d, .int .i64 a, .int .i64 b, .int .i64 c]] ∧ K (.int .i64 (ahd y + (bef y m : Nat) + (d : Int) - 1)) h
def ofC : Con := fun vs h K => ∃ t : Nat, t ≤ lastT ∧ vs = [.int .i64 t] ∧ K (.agg [.int .i64 (yearOf (t / 86400)), .int .i64 (monthOf (t / 86400)), .int .i64 (dayOf (t / 86400)), .int .i64 (t % 86400 / 3600 : Nat), .int .i64 (t % 86400 / 60 % 60 : Nat), .int .i64 (t % 86400 % 60 : Nat)]) h
def clockC : Con := fun vs h K => ∃ (y m d : Int) (a b c : Nat), a ≤ 1000000 ∧ b ≤ 1000000 ∧ c ≤ 1000000 ∧ vs = [.agg [.int .i64 y, .int .i64 m, .int .i64 d, .int .i64 a, .int .i64 b, .int .i64 c]] ∧ K (.str (clockS a b c)) h
/-- A date that may be: its parts are within bounds. -/
structure DateOk (y m d a b c : Nat) : Prop where
  y1 : 1970 ≤ y
  y2 : y ≤ 9999
  m1 : 1 ≤ m
  m2 : m ≤ 12
  d1 : 1 ≤ d
  d2 : d ≤ longN y m
  a : a ≤ 23
  b : b ≤ 59
  c : c ≤ 59
def cntN (y m d : Nat) : Nat := (ahd y + (bef y m : Nat) + (d : Int) - 1).toNat
def fixedC : Con := fun vs h K => ∃ y m d a b c : Nat, DateOk y m d a b c ∧ vs = [.agg [.int .i64 y, .int .i64 m, .int .i64 d, .int .i64 a, .int .i64 b, .int .i64 c]] ∧ K (.str (fixedS (cntN y m d) d m y a b c)) h
def putC : Con := fun vs h K => ∃ t : Int, vs = [.int .i64 t] ∧ K (.str (putS t)) h
def trueC : Con := fun vs h K => vs.isEmpty = true ∧ K (.bool true) h
def fieldsC : Con := fun vs h K => ∃ s : List UInt8, s.length ≤ 1000 ∧ (∀ b ∈ s, b.toNat < 128) ∧ vs = [.str s] ∧ K (.sl 1 (encS (Lib.fields s)) none) h
end Go.Ai
