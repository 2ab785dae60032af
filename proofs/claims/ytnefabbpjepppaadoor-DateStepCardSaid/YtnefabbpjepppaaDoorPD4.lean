/-
  The program's Put: the text of a tick is the document's; DatePuts' contract.
-/
import Derived.Test.YtnefabbpjepppaaDoorPD3
namespace Go.Proofs.YtnefabbpjepppaaDoor
open Go.Ai Go
set_option linter.unusedSimpArgs false
set_option linter.unusedVariables false

def daysB : List UInt8 := [84, 104, 117, 114, 115, 100, 97, 121, 32, 70, 114, 105, 100, 97, 121, 32, 83, 97, 116, 117, 114, 100, 97, 121, 32, 83, 117, 110, 100, 97, 121, 32, 77, 111, 110, 100, 97, 121, 32, 84, 117, 101, 115, 100, 97, 121, 32, 87, 101, 100, 110, 101, 115, 100, 97, 121]
def monthsB : List UInt8 := [74, 97, 110, 70, 101, 98, 77, 97, 114, 65, 112, 114, 77, 97, 121, 74, 117, 110, 74, 117, 108, 65, 117, 103, 83, 101, 112, 79, 99, 116, 78, 111, 118, 68, 101, 99]
def thuL : List (List UInt8) := [[84, 104, 117, 114, 115, 100, 97, 121], [70, 114, 105, 100, 97, 121], [83, 97, 116, 117, 114, 100, 97, 121], [83, 117, 110, 100, 97, 121], [77, 111, 110, 100, 97, 121], [84, 117, 101, 115, 100, 97, 121], [87, 101, 100, 110, 101, 115, 100, 97, 121]]
theorem fields_days : Lib.fields daysB = thuL := by kernel_rfl

theorem pureSs (l : List (List UInt8)) : pureV.pureVss (encS l) = true := by
  induction l with
  | nil => rfl
  | cons a r ih =>
    have : encS (a :: r) = [.str a] :: encS r := rfl
    rw [this, pureV.pureVss, ih]; rfl

theorem c32 : COk cfg 32 fieldsC := by
  refine cok_prim (g := pFields) (by kernel_rfl) (by kernel_rfl) (by kernel_rfl) (by kernel_rfl) fun vs h K ht => ?_
  obtain ⟨s, hl, ha, rfl, hk⟩ := ht
  refine ⟨.sl 1 (encS (Lib.fields s)) none, ?_, ?_⟩
  · rw [strip_sl, stripss_pure 0 [] _ (pureSs _)]
    exact hk
  · have h1 : Nat.blt s.length 4294967281 = true := Nat.ble_eq_true_of_le (by omega)
    have h2 : s.all (fun b => Nat.blt b.toNat 128) = true := List.all_eq_true.2 fun b hb => Nat.ble_eq_true_of_le (ha b hb)
    simp only [pFields, h1, h2]
    rfl

theorem thu_short (d : Nat) : (thuL.getD (d % 7) []).take 3 = wdN d ∧ 3 ≤ (thuL.getD (d % 7) []).length := by
  unfold wdN
  have h : d % 7 < 7 := Nat.mod_lt _ (by omega)
  have e : (d + 3) % 7 = (d % 7 + 3) % 7 := by omega
  rw [e]
  generalize d % 7 = k at h
  have : k = 0 ∨ k = 1 ∨ k = 2 ∨ k = 3 ∨ k = 4 ∨ k = 5 ∨ k = 6 := by omega
  rcases this with rfl | rfl | rfl | rfl | rfl | rfl | rfl <;> exact ⟨rfl, by decide⟩

theorem mon_cut {m : Nat} (h1 : 1 ≤ m) (h2 : m ≤ 12) : cutL monthsB (some ((3 * m - 3 : Nat) : Int)) (some ((3 * m : Nat) : Int)) = monN m := by
  have : m = 1 ∨ m = 2 ∨ m = 3 ∨ m = 4 ∨ m = 5 ∨ m = 6 ∨ m = 7 ∨ m = 8 ∨ m = 9 ∨ m = 10 ∨ m = 11 ∨ m = 12 := by omega
  rcases this with rfl | rfl | rfl | rfl | rfl | rfl | rfl | rfl | rfl | rfl | rfl | rfl <;> rfl
theorem wd_le (d : Nat) : (wdN d).length ≤ 3 := short_le _
theorem mo_le (m : Nat) : (monN m).length ≤ 3 := mon_le _
theorem cut3 (s : List UInt8) : cutL s none (some 3) = s.take 3 := rfl

set_option maxHeartbeats 4000000 in
theorem loop13 (hT : TabOk cfg (ctab [(30, yearC), (31, longC), (32, fieldsC), (33, twoC)])) {d s y r m : Nat} (hd : d ≤ 4000000) (hs : s < 86400) (h1 : 1970 ≤ y) (h2 : y ≤ 9999) (hm : inMonth y r m) : ∀ (k z : Nat), z + k = m → 1 ≤ z →
    ToEnd cfg 13 (bodyOf Tryd.f13) (RetIs Tryd.prog Tryd.f13 (.str (fixedS d (r - bef y m + 1) m y (s / 3600) (s / 60 % 60) (s % 60)))) [.code [0, 0, 1, 1, 1, 1, 1], .block 0, .code [1, 1, 1, 1, 1, 1]] .normal
      [(3, true, .int .i64 d), (4, true, .int .i64 s), (5, true, .int .i64 y), (6, true, .int .i64 (r - bef y z : Nat)), (7, true, .int .i64 z)] [] := by
  obtain ⟨m1, m2, m3, m4⟩ := hm
  have hb13 := bef_max y (m := m + 1) (by omega)
  intro k
  induction k with
  | zero =>
    intro z hz hz1
    obtain rfl : z = m := by omega
    rw [bef_succ y hz1] at m4
    have hg := longN_ge y z
    have hbz := bef_max y (m := z) (by omega)
    have hthu := thu_short d
    have hwd := wd_le d
    have hmo := mo_le z
    have ed : Int.tmod (d : Int) 7 = ((d % 7 : Nat) : Int) := tmodN d 7
    have w1 : IntKind.wrap .i64 (3 * (z : Int)) = ((3 * z : Nat) : Int) := by rw [wrap_in] <;> omega
    have w2 : IntKind.wrap .i64 (((3 * z : Nat) : Int) - 3) = ((3 * z - 3 : Nat) : Int) := by rw [wrap_in] <;> omega
    have w3 : IntKind.wrap .i64 (((r - bef y z : Nat) : Int) + 1) = ((r - bef y z + 1 : Nat) : Int) := by rw [wrap_in] <;> omega
    have w4 : IntKind.wrap .i64 (Int.tdiv (y : Int) 100) = ((y / 100 : Nat) : Int) := by
      rw [show Int.tdiv (y : Int) 100 = ((y / 100 : Nat) : Int) from tdivN y 100, wrap_in] <;> omega
    have w5 : IntKind.wrap .i64 (Int.tdiv (s : Int) 3600) = ((s / 3600 : Nat) : Int) := by
      rw [show Int.tdiv (s : Int) 3600 = ((s / 3600 : Nat) : Int) from tdivN s 3600, wrap_in] <;> omega
    have w6 : IntKind.wrap .i64 (Int.tdiv (s : Int) 60) = ((s / 60 : Nat) : Int) := by
      rw [show Int.tdiv (s : Int) 60 = ((s / 60 : Nat) : Int) from tdivN s 60, wrap_in] <;> omega
    have w7 : Int.tmod ((s / 60 : Nat) : Int) 60 = ((s / 60 % 60 : Nat) : Int) := tmodN (s / 60) 60
    have w8 : Int.tmod (s : Int) 60 = ((s % 60 : Nat) : Int) := tmodN s 60
    refine t13b hT ⟨y, z, by omega, hz1, by omega, rfl, ifP_intro (fun hc => ?_) fun _ => ⟨daysB, by decide, by decide, rfl, ?_⟩⟩
    · simp at hc; omega
    · rw [fields_days, ed]
      refine gAnd_intro (by rw [inR_of (by omega) (by rw [show (encS thuL).length = 7 from rfl]; omega)]; rfl) ⟨thuL.getD (d % 7) [], getE_encS thuL (by show d % 7 < 7; omega), gAnd_intro ?_ ?_⟩
      · simp only [cutOb, Bool.and_eq_true, decide_eq_true_eq]; omega
      · have hmc := mon_cut hz1 m2
        unfold monthsB at hmc
        simp only [cut3, hthu.1, w1, w2, hmc]
        rw [w3, w4, w5, w6, w7, w8]
        refine gAnd_intro (okLen (by first | omega | (simp only [List.length_append, List.length_cons, List.length_nil]; omega))) ⟨r - bef y z + 1, by omega, rfl, ?_⟩
        refine gAnd_intro (okLen (by first | omega | (simp only [List.length_append, List.length_cons, List.length_nil]; omega))) ?_
        refine gAnd_intro (okLen (by first | omega | (simp only [List.length_append, List.length_cons, List.length_nil]; omega))) ?_
        refine gAnd_intro (by simp only [cutOb, Bool.and_eq_true, decide_eq_true_eq]; omega) ?_
        refine gAnd_intro (okLen (by first | omega | (simp only [List.length_append, List.length_cons, List.length_nil]; omega))) ?_
        refine gAnd_intro (okLen (by first | omega | (simp only [List.length_append, List.length_cons, List.length_nil]; omega))) ⟨y / 100, by omega, rfl, ?_⟩
        refine gAnd_intro (okLen (by first | omega | (simp only [List.length_append, List.length_cons, List.length_nil]; omega))) ⟨y, by omega, rfl, ?_⟩
        refine gAnd_intro (okLen (by first | omega | (simp only [List.length_append, List.length_cons, List.length_nil]; omega))) ?_
        refine gAnd_intro (okLen (by first | omega | (simp only [List.length_append, List.length_cons, List.length_nil]; omega))) ⟨s / 3600, by omega, rfl, ?_⟩
        refine gAnd_intro (okLen (by first | omega | (simp only [List.length_append, List.length_cons, List.length_nil]; omega))) ?_
        refine gAnd_intro (okLen (by first | omega | (simp only [List.length_append, List.length_cons, List.length_nil]; omega))) ⟨s / 60 % 60, by omega, rfl, ?_⟩
        refine gAnd_intro (okLen (by first | omega | (simp only [List.length_append, List.length_cons, List.length_nil]; omega))) ?_
        refine gAnd_intro (okLen (by first | omega | (simp only [List.length_append, List.length_cons, List.length_nil]; omega))) ⟨s % 60, by omega, rfl, ?_⟩
        refine gAnd_intro (okLen (by first | omega | (simp only [List.length_append, List.length_cons, List.length_nil]; omega))) ?_
        refine gAnd_intro (okLen (by first | omega | (simp only [List.length_append, List.length_cons, List.length_nil]; omega))) ?_
        simp [fixedS, clockS, d4, d2]
  | succ k ih =>
    intro z hz hz1
    have hle := bef_le y (a := z + 1) (b := m) (by omega) (by omega)
    rw [bef_succ y hz1] at hle
    have hg := longN_ge y z
    refine t13b hT ⟨y, z, by omega, hz1, by omega, rfl, ifP_intro (fun _ => ⟨y, z, by omega, hz1, by omega, rfl, ?_⟩) fun hc => ?_⟩
    · rw [wrap_in (n := (z : Int) + 1) (by omega) (by omega), wrap_in (by omega) (by omega)]
      have := ih (z + 1) (by omega) (by omega)
      rw [bef_succ y hz1] at this
      rw [show ((r - bef y z : Nat) : Int) - (longN y z : Nat) = ((r - (bef y z + longN y z) : Nat) : Int) by omega]
      exact this
    · simp at hc; omega

theorem c13 : COk cfg 13 putC := by
  refine cok_pure pf13 fun vs h K ht => ?_
  obtain ⟨t, rfl, hk⟩ := ht
  have hT := ctab_ok (ctab_cons c30 (ctab_cons c31 (ctab_cons c32 (ctab_cons c33 ctab_nil))))
  refine ⟨_, hk, t13a hT ?_⟩
  unfold putS
  refine ifP_intro (fun h1 => ?_) fun h1 => ifP_intro (fun h2 => ?_) fun h2 => ?_
  · simp at h1; rw [if_neg (by omega)]
  · simp at h2; rw [if_neg (by unfold lastT; omega)]
  · simp at h1 h2
    rw [if_pos ⟨h1, by unfold lastT; omega⟩]
    obtain ⟨n, rfl⟩ : ∃ n : Nat, t = n := ⟨t.toNat, by omega⟩
    have e1 : Int.tdiv (n : Int) 86400 = ((n / 86400 : Nat) : Int) := tdivN n 86400
    have e2 : Int.tmod (n : Int) 86400 = ((n % 86400 : Nat) : Int) := tmodN n 86400
    have hy := yearOf_spec (n / 86400)
    have hr := restOf_eq (n / 86400)
    have hm := monthOf_spec (n / 86400)
    have := loop13 hT (d := n / 86400) (s := n % 86400) (by omega) (by omega) hy.1 (year_le (by omega)) hm (monthOf (n / 86400) - 1) 1 (by have := hm.1; omega) (by omega)
    simp only [bef, Nat.sub_zero, hr] at this
    rw [e1, e2, wrap_in (n := ((n / 86400 : Nat) : Int)) (by omega) (by omega)]
    exact ⟨n / 86400, yearOf (n / 86400), by omega, hy, rfl, this⟩
end Go.Proofs.YtnefabbpjepppaaDoor
