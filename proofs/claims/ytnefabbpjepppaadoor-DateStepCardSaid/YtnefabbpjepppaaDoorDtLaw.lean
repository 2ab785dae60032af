/-
  Plain laws of dates: a date's text has 29 bytes, unlike ticks have unlike texts, the first 16 bytes tell the day. No statement about the program is made here.
-/
import Derived.Test.YtnefabbpjepppaaDoorDtD
namespace Go.Ai
open Go.RowKit
set_option linter.unusedVariables false

theorem d2_len (n : Nat) : (d2 n).length = 2 := rfl
theorem d4_len (n : Nat) : (d4 n).length = 4 := rfl
theorem wdN_len (n : Nat) : (wdN n).length = 3 := by
  unfold wdN
  have h : (n + 3) % 7 < 7 := Nat.mod_lt _ (by omega)
  generalize (n + 3) % 7 = k at h
  have : k = 0 ∨ k = 1 ∨ k = 2 ∨ k = 3 ∨ k = 4 ∨ k = 5 ∨ k = 6 := by omega
  rcases this with rfl | rfl | rfl | rfl | rfl | rfl | rfl <;> rfl
theorem monN_len {m : Nat} (h1 : 1 ≤ m) (h2 : m ≤ 12) : (monN m).length = 3 := by
  have : m = 1 ∨ m = 2 ∨ m = 3 ∨ m = 4 ∨ m = 5 ∨ m = 6 ∨ m = 7 ∨ m = 8 ∨ m = 9 ∨ m = 10 ∨ m = 11 ∨ m = 12 := by omega
  rcases this with rfl | rfl | rfl | rfl | rfl | rfl | rfl | rfl | rfl | rfl | rfl | rfl <;> rfl
theorem monN_inj {m k : Nat} (h1 : 1 ≤ m) (h2 : m ≤ 12) (h3 : 1 ≤ k) (h4 : k ≤ 12) (h : monN m = monN k) : m = k := by
  have hm : m = 1 ∨ m = 2 ∨ m = 3 ∨ m = 4 ∨ m = 5 ∨ m = 6 ∨ m = 7 ∨ m = 8 ∨ m = 9 ∨ m = 10 ∨ m = 11 ∨ m = 12 := by omega
  have hk : k = 1 ∨ k = 2 ∨ k = 3 ∨ k = 4 ∨ k = 5 ∨ k = 6 ∨ k = 7 ∨ k = 8 ∨ k = 9 ∨ k = 10 ∨ k = 11 ∨ k = 12 := by omega
  rcases hm with rfl | rfl | rfl | rfl | rfl | rfl | rfl | rfl | rfl | rfl | rfl | rfl <;> rcases hk with rfl | rfl | rfl | rfl | rfl | rfl | rfl | rfl | rfl | rfl | rfl | rfl <;> first | rfl | (revert h; decide)
theorem byte_inj {a b : Nat} (ha : a < 10) (hb : b < 10) (h : UInt8.ofNat (48 + a) = UInt8.ofNat (48 + b)) : a = b := by
  have := congrArg UInt8.toNat h
  simp [UInt8.toNat_ofNat'] at this
  omega
theorem d2_inj {a b : Nat} (ha : a < 100) (hb : b < 100) (h : d2 a = d2 b) : a = b := by
  simp only [d2, List.cons.injEq, and_true] at h
  have h1 := byte_inj (by omega) (by omega) h.1
  have h2 := byte_inj (by omega) (by omega) h.2
  omega
theorem d4_inj {a b : Nat} (ha : a < 10000) (hb : b < 10000) (h : d4 a = d4 b) : a = b := by
  have := List.append_inj h rfl
  have h1 := d2_inj (by omega) (by omega) this.1
  have e : d2 (a % 100) = d2 (b % 100) := by
    have := this.2
    simp only [d2] at this ⊢
    rw [show a % 100 / 10 % 10 = a / 10 % 10 by omega, show b % 100 / 10 % 10 = b / 10 % 10 by omega, show a % 100 % 10 = a % 10 by omega, show b % 100 % 10 = b % 10 by omega]
    exact this
  have h2 := d2_inj (by omega) (by omega) e
  omega

/-- The day's part of a text, and the time's. -/
def dayS (n d m y : Nat) : List UInt8 := wdN n ++ ([44, 32] ++ (d2 d ++ ([32] ++ (monN m ++ ([32] ++ d4 y)))))
def timeS (h mi s : Nat) : List UInt8 := [32] ++ (d2 h ++ ([58] ++ (d2 mi ++ ([58] ++ (d2 s ++ [32, 71, 77, 84])))))
theorem fixedS_eq (n d m y h mi s : Nat) : fixedS n d m y h mi s = dayS n d m y ++ timeS h mi s := by
  simp only [fixedS, dayS, timeS, clockS, List.append_assoc]
theorem dayS_len {n d m y : Nat} (h1 : 1 ≤ m) (h2 : m ≤ 12) : (dayS n d m y).length = 16 := by
  simp only [dayS, List.length_append, wdN_len, d2_len, d4_len, monN_len h1 h2, List.length_cons, List.length_nil]
theorem timeS_len (h mi s : Nat) : (timeS h mi s).length = 13 := rfl
theorem dayS_inj {n d m y n' d' m' y' : Nat} (h1 : 1 ≤ m) (h2 : m ≤ 12) (h3 : 1 ≤ m') (h4 : m' ≤ 12) (hd : d < 100) (hd' : d' < 100) (hy : y < 10000) (hy' : y' < 10000) (h : dayS n d m y = dayS n' d' m' y') : d = d' ∧ m = m' ∧ y = y' := by
  unfold dayS at h
  have a1 := (List.append_inj h (by rw [wdN_len, wdN_len])).2
  have a2 := (List.append_inj a1 rfl).2
  have a3 := List.append_inj a2 rfl
  have a4 := (List.append_inj a3.2 rfl).2
  have a5 := List.append_inj a4 (by rw [monN_len h1 h2, monN_len h3 h4])
  have a6 := (List.append_inj a5.2 rfl).2
  exact ⟨d2_inj hd hd' a3.1, monN_inj h1 h2 h3 h4 a5.1, d4_inj hy hy' a6⟩
theorem timeS_inj {a b c a' b' c' : Nat} (h1 : a < 100) (h2 : b < 100) (h3 : c < 100) (h1' : a' < 100) (h2' : b' < 100) (h3' : c' < 100) (h : timeS a b c = timeS a' b' c') : a = a' ∧ b = b' ∧ c = c' := by
  unfold timeS at h
  have a1 := (List.append_inj h rfl).2
  have a2 := List.append_inj a1 rfl
  have a3 := (List.append_inj a2.2 rfl).2
  have a4 := List.append_inj a3 rfl
  have a5 := (List.append_inj a4.2 rfl).2
  have a6 := List.append_inj a5 rfl
  exact ⟨d2_inj h1 h1' a2.1, d2_inj h2 h2' a4.1, d2_inj h3 h3' a6.1⟩

/-- What is known of a day. -/
theorem day_facts {d : Nat} (hd : d ≤ 2932896) : 1 ≤ monthOf d ∧ monthOf d ≤ 12 ∧ 1 ≤ dayOf d ∧ dayOf d ≤ 31 ∧ 1970 ≤ yearOf d ∧ yearOf d ≤ 9999 ∧ (d : Int) = ahd (yearOf d) + (bef (yearOf d) (monthOf d) : Nat) + dayOf d - 1 := by
  have hr := restOf_eq d
  obtain ⟨m1, m2, m3, m4⟩ := monthOf_spec d
  rw [bef_succ _ m1] at m4
  have hg := longN_ge (yearOf d) (monthOf d)
  have hd1 : dayOf d = restOf d - bef (yearOf d) (monthOf d) + 1 := rfl
  refine ⟨m1, m2, by omega, by omega, (yearOf_spec d).1, year_le hd, by omega⟩

theorem putS_at {n : Nat} (h : n ≤ lastT) : putS n = dayS (n / 86400) (dayOf (n / 86400)) (monthOf (n / 86400)) (yearOf (n / 86400)) ++ timeS (n % 86400 / 3600) (n % 86400 / 60 % 60) (n % 86400 % 60) := by
  unfold putS
  rw [if_pos ⟨by omega, by omega⟩, fixedS_eq]
  simp only [Int.toNat_natCast]
theorem putS_len {n : Nat} (h : n ≤ lastT) : (putS n).length = 29 := by
  unfold lastT at h
  have f := day_facts (d := n / 86400) (by omega)
  rw [putS_at (by unfold lastT; omega), List.length_append, dayS_len f.1 f.2.1, timeS_len]
theorem putS_take {n : Nat} (h : n ≤ lastT) : (putS n).take 16 = dayS (n / 86400) (dayOf (n / 86400)) (monthOf (n / 86400)) (yearOf (n / 86400)) := by
  unfold lastT at h
  have f := day_facts (d := n / 86400) (by omega)
  rw [putS_at (by unfold lastT; omega), List.take_left' (dayS_len f.1 f.2.1)]
theorem day_same {a b : Nat} (ha : a ≤ 2932896) (hb : b ≤ 2932896) (h : dayS a (dayOf a) (monthOf a) (yearOf a) = dayS b (dayOf b) (monthOf b) (yearOf b)) : a = b := by
  obtain ⟨a1, a2, a3, a4, a5, a6, a7⟩ := day_facts ha
  obtain ⟨b1, b2, b3, b4, b5, b6, b7⟩ := day_facts hb
  obtain ⟨e1, e2, e3⟩ := dayS_inj a1 a2 b1 b2 (by omega) (by omega) (by omega) (by omega) h
  rw [e1, e2, e3] at a7
  omega
theorem take_same {a b : Nat} (ha : a ≤ lastT) (hb : b ≤ lastT) : (putS a).take 16 = (putS b).take 16 ↔ a / 86400 = b / 86400 := by
  rw [putS_take ha, putS_take hb]
  unfold lastT at ha hb
  exact ⟨fun h => day_same (by omega) (by omega) h, fun h => by rw [h]⟩
theorem putS_inj {a b : Nat} (ha : a ≤ lastT) (hb : b ≤ lastT) (h : putS a = putS b) : a = b := by
  have hd := (take_same ha hb).1 (by rw [h])
  rw [putS_at ha, putS_at hb] at h
  have f := day_facts (d := a / 86400) (by unfold lastT at ha; omega)
  have g := day_facts (d := b / 86400) (by unfold lastT at hb; omega)
  have := (List.append_inj h (by rw [dayS_len f.1 f.2.1, dayS_len g.1 g.2.1])).2
  have := timeS_inj (by omega) (by omega) (by omega) (by omega) (by omega) (by omega) this
  omega
end Go.Ai
