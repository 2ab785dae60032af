/-
  Functions of dates keep to their contracts: leap years, months' lengths, days ahead of a year, two digits, the year of a day.
-/
import Derived.Test.YtnefabbpjepppaaDoorD1
namespace Go.Proofs.YtnefabbpjepppaaDoor
open Go.Ai Go
set_option linter.unusedSimpArgs false
set_option linter.unusedVariables false

theorem noT : TabOk cfg (ctab []) := ctab_ok ctab_nil
theorem pf48 : pureFn cfg 48 Tryd.f48 := ⟨by kernel_rfl, by kernel_rfl, by kernel_rfl, by kernel_rfl, by kernel_rfl, by kernel_rfl⟩
theorem pf34 : pureFn cfg 34 Tryd.f34 := ⟨by kernel_rfl, by kernel_rfl, by kernel_rfl, by kernel_rfl, by kernel_rfl, by kernel_rfl⟩
theorem pf47 : pureFn cfg 47 Tryd.f47 := ⟨by kernel_rfl, by kernel_rfl, by kernel_rfl, by kernel_rfl, by kernel_rfl, by kernel_rfl⟩
theorem pf33 : pureFn cfg 33 Tryd.f33 := ⟨by kernel_rfl, by kernel_rfl, by kernel_rfl, by kernel_rfl, by kernel_rfl, by kernel_rfl⟩
theorem pf31 : pureFn cfg 31 Tryd.f31 := ⟨by kernel_rfl, by kernel_rfl, by kernel_rfl, by kernel_rfl, by kernel_rfl, by kernel_rfl⟩
theorem pf35 : pureFn cfg 35 Tryd.f35 := ⟨by kernel_rfl, by kernel_rfl, by kernel_rfl, by kernel_rfl, by kernel_rfl, by kernel_rfl⟩
theorem pf30 : pureFn cfg 30 Tryd.f30 := ⟨by kernel_rfl, by kernel_rfl, by kernel_rfl, by kernel_rfl, by kernel_rfl, by kernel_rfl⟩
theorem pf39 : pureFn cfg 39 Tryd.f39 := ⟨by kernel_rfl, by kernel_rfl, by kernel_rfl, by kernel_rfl, by kernel_rfl, by kernel_rfl⟩
theorem pf36 : pureFn cfg 36 Tryd.f36 := ⟨by kernel_rfl, by kernel_rfl, by kernel_rfl, by kernel_rfl, by kernel_rfl, by kernel_rfl⟩

theorem tmodN (a b : Nat) : Int.tmod (a : Int) (b : Int) = ((a % b : Nat) : Int) := by
  rw [Int.tmod_eq_emod_of_nonneg (by omega)]; omega
theorem tdivN (a b : Nat) : Int.tdiv (a : Int) (b : Int) = ((a / b : Nat) : Int) := by
  rw [Int.tdiv_eq_ediv_of_nonneg (by omega)]; omega

theorem leap_at {y : Nat} {v : AV} (hv : v = .bool (leapN y)) : ifP (Int.tmod (y : Int) 4 == 0) (ifP (Int.tmod (y : Int) 100 != 0) (AV.bool true = v) (AV.bool (Int.tmod (y : Int) 400 == 0) = v)) (AV.bool (Int.tmod (y : Int) 400 == 0) = v) := by
  have h4 : Int.tmod ((y : Nat) : Int) 4 = ((y % 4 : Nat) : Int) := tmodN y 4
  have h100 : Int.tmod ((y : Nat) : Int) 100 = ((y % 100 : Nat) : Int) := tmodN y 100
  have h400 : Int.tmod ((y : Nat) : Int) 400 = ((y % 400 : Nat) : Int) := tmodN y 400
  subst hv
  rw [h4, h100, h400]
  unfold leapN
  refine ifP_intro (fun a => ifP_intro (fun b => ?_) fun b => ?_) fun a => ?_
  all_goals
    congr 1
    apply Eq.symm
    rw [Bool.eq_iff_iff]
    simp at *
    omega
theorem c48 : COk cfg 48 leapC := by
  refine cok_pure pf48 fun vs h K ht => ?_
  obtain ⟨y, _, rfl, hk⟩ := ht
  exact ⟨_, hk, t48 noT (leap_at rfl)⟩
theorem c34 : COk cfg 34 leapC := by
  refine cok_pure pf34 fun vs h K ht => ?_
  obtain ⟨y, _, rfl, hk⟩ := ht
  refine ⟨_, hk, t34 noT ?_⟩
  have h4 : Int.tmod ((y : Nat) : Int) 4 = ((y % 4 : Nat) : Int) := tmodN y 4
  have h100 : Int.tmod ((y : Nat) : Int) 100 = ((y % 100 : Nat) : Int) := tmodN y 100
  have h400 : Int.tmod ((y : Nat) : Int) 400 = ((y % 400 : Nat) : Int) := tmodN y 400
  rw [h4, h100, h400]
  unfold leapN
  refine ifP_intro (fun a => ?_) fun a => ifP_intro (fun b => ?_) fun b => ?_
  all_goals
    congr 1
    apply Eq.symm
    rw [Bool.eq_iff_iff]
    simp at *
    omega

theorem c31 : COk cfg 31 longC := by
  refine cok_pure pf31 fun vs h K ht => ?_
  obtain ⟨y, m, hy, h1, h2, rfl, hk⟩ := ht
  refine ⟨_, hk, t31 (ctab_ok (ctab_cons c48 ctab_nil)) ?_⟩
  unfold longN
  refine ifP_intro (fun a => ⟨y, hy, rfl, ifP_intro (fun b => ?_) fun b => ?_⟩) fun a => ifP_intro (fun b => ?_) fun b => ifP_intro (fun c => ?_) fun c => ifP_intro (fun d => ?_) fun d => ifP_intro (fun e => ?_) fun e => ?_
  · have : m = 2 := by simp at a; omega
    simp [this, b]
  · have : m = 2 := by simp at a; omega
    simp [this, b]
  all_goals
    simp at *
    have : ¬m = 2 := by omega
    simp only [this, if_false]
    first
      | rw [if_pos (by omega)]; rfl
      | rw [if_neg (by omega)]; rfl

theorem c35 : COk cfg 35 longC := by
  refine cok_pure pf35 fun vs h K ht => ?_
  obtain ⟨y, m, hy, h1, h2, rfl, hk⟩ := ht
  refine ⟨_, hk, t35 (ctab_ok (ctab_cons c34 ctab_nil)) ?_⟩
  have hw : IntKind.wrap .i64 ((m : Int) - 1) = ((m - 1 : Nat) : Int) := by rw [wrap_in] <;> omega
  have hin : inR ((m - 1 : Nat) : Int) 12 = true := inR_of (by omega) (by omega)
  have key : ¬(m = 2 ∧ leapN y = true) → getE [[AV.int .i64 31], [.int .i64 28], [.int .i64 31], [.int .i64 30], [.int .i64 31], [.int .i64 30], [.int .i64 31], [.int .i64 31], [.int .i64 30], [.int .i64 31], [.int .i64 30], [.int .i64 31]] ((m - 1 : Nat) : Int) = [.int .i64 (longN y m)] := by
    intro hn
    have hm : m = 1 ∨ m = 2 ∨ m = 3 ∨ m = 4 ∨ m = 5 ∨ m = 6 ∨ m = 7 ∨ m = 8 ∨ m = 9 ∨ m = 10 ∨ m = 11 ∨ m = 12 := by omega
    rcases hm with rfl | rfl | rfl | rfl | rfl | rfl | rfl | rfl | rfl | rfl | rfl | rfl
    case inr.inl =>
      have : leapN y = false := by simpa using hn
      simp [getE, longN, this]
    all_goals simp [getE, longN]
  rw [hw]
  refine ifP_intro (fun a => ⟨y, hy, rfl, ifP_intro (fun b => ?_) fun b => gAnd_intro (by rw [hin]; rfl) ⟨_, key (by simp [b]), rfl⟩⟩) fun a => gAnd_intro (by rw [hin]; rfl) ⟨_, key (fun h => ?_), rfl⟩
  · have : m = 2 := by simp at a; omega
    simp [this, b, longN]
  · simp at a; omega

theorem c47 : COk cfg 47 aheadC := by
  refine cok_pure pf47 fun vs h K ht => ?_
  obtain ⟨y, h1, h2, rfl, hk⟩ := ht
  refine ⟨_, hk, t47 noT ?_⟩
  have e1 : IntKind.wrap .i64 ((y : Int) - 1) = ((y - 1 : Nat) : Int) := by rw [wrap_in] <;> omega
  have e2 : Int.tdiv (((y - 1) : Nat) : Int) 4 = (((y - 1) / 4 : Nat) : Int) := tdivN (y - 1) 4
  have e3 : Int.tdiv (((y - 1) : Nat) : Int) 100 = (((y - 1) / 100 : Nat) : Int) := tdivN (y - 1) 100
  have e4 : Int.tdiv (((y - 1) : Nat) : Int) 400 = (((y - 1) / 400 : Nat) : Int) := tdivN (y - 1) 400
  rw [e1, e2, e3, e4]
  unfold ahd
  rw [wrap_in (n := (y : Int) - 1970) (by omega) (by omega), wrap_in (n := (((y - 1) / 4 : Nat) : Int)) (by omega) (by omega), wrap_in (n := (((y - 1) / 100 : Nat) : Int)) (by omega) (by omega), wrap_in (n := (((y - 1) / 400 : Nat) : Int)) (by omega) (by omega),
    wrap_in (n := 365 * ((y : Int) - 1970)) (by omega) (by omega), wrap_in (n := 365 * ((y : Int) - 1970) + ((y - 1) / 4 : Nat)) (by omega) (by omega),
    wrap_in (n := 365 * ((y : Int) - 1970) + ((y - 1) / 4 : Nat) - ((y - 1) / 100 : Nat)) (by omega) (by omega), wrap_in (n := 365 * ((y : Int) - 1970) + ((y - 1) / 4 : Nat) - ((y - 1) / 100 : Nat) + ((y - 1) / 400 : Nat)) (by omega) (by omega),
    wrap_in (n := 365 * ((y : Int) - 1970) + ((y - 1) / 4 : Nat) - ((y - 1) / 100 : Nat) + ((y - 1) / 400 : Nat) - 492) (by omega) (by omega), wrap_in (n := 365 * ((y : Int) - 1970) + ((y - 1) / 4 : Nat) - ((y - 1) / 100 : Nat) + ((y - 1) / 400 : Nat) - 492 + 19) (by omega) (by omega), wrap_in (by omega) (by omega)]
  congr 1
  omega

theorem wrap_u8_in {n : Int} (h1 : 0 ≤ n) (h2 : n < 256) : IntKind.wrap .u8 n = n := by
  rw [IntKind.wrap_u8]; omega
theorem dig_at (n : Nat) : IntKind.wrap .u8 (IntKind.wrap .i64 (48 + Int.tmod (n : Int) 10)) = ((48 + n % 10 : Nat) : Int) := by
  have : Int.tmod ((n : Nat) : Int) 10 = ((n % 10 : Nat) : Int) := tmodN n 10
  rw [this, wrap_in (by omega) (by omega), wrap_u8_in (by omega) (by omega)]
  omega
theorem div10 {n : Nat} (h : n ≤ 1000000) : IntKind.wrap .i64 (Int.tdiv (n : Int) 10) = ((n / 10 : Nat) : Int) := by
  have : Int.tdiv ((n : Nat) : Int) 10 = ((n / 10 : Nat) : Int) := tdivN n 10
  rw [this, wrap_in] <;> omega
theorem dig_ok (n : Nat) : (decide ((0 : Int) ≤ ((48 + n % 10 : Nat) : Int)) && decide (((48 + n % 10 : Nat) : Int) < 256)) = true := by
  simp only [Bool.and_eq_true, decide_eq_true_eq]; omega

theorem c33 : COk cfg 33 twoC := by
  refine cok_pure pf33 fun vs h K ht => ?_
  obtain ⟨n, hn, rfl, hk⟩ := ht
  refine ⟨_, hk, t33 noT ?_⟩
  rw [div10 hn, dig_at, dig_at]
  have g1 := dig_ok (n / 10)
  have g2 := dig_ok n
  refine gAnd_intro ?_ ?_
  · rw [g1, g2]; rfl
  · simp only [Int.toNat_natCast]; rfl

theorem loop30 (hT : TabOk cfg (ctab [(47, aheadC)])) {d y : Nat} (hd : d ≤ 4000000) (hy : inYear d y) : ∀ (k z : Nat), z + k = y → 1970 ≤ z →
    ToEnd cfg 30 (bodyOf Tryd.f30) (RetIs Tryd.prog Tryd.f30 (.tup [.int .i64 y, .int .i64 ((d : Int) - ahd y)])) [.code [0, 0, 1, 1], .block 0, .code [1, 1, 1]] .normal [(0, true, .int .i64 d), (2, true, .int .i64 z)] [] := by
  have hb := inYear_bound hy
  intro k
  induction k with
  | zero =>
    intro z hz h1
    obtain rfl : z = y := by omega
    have hw : IntKind.wrap .i64 ((z : Int) + 1) = ((z + 1 : Nat) : Int) := by rw [wrap_in] <;> omega
    refine t30b hT ⟨z + 1, by omega, by omega, by rw [hw], ifP_intro (fun hc => ?_) fun _ => ⟨z, by omega, by omega, rfl, ?_⟩⟩
    · simp only [decide_eq_true_eq] at hc
      have := hy.2.2
      omega
    · rw [wrap_in]
      · have := hy.2.1; omega
      · have := (ahd_mono (a := 1970) (by omega) (z - 1970)).1
        rw [ahd_first, show 1970 + (z - 1970) = z by omega] at this
        omega
  | succ k ih =>
    intro z hz h1
    have hw : IntKind.wrap .i64 ((z : Int) + 1) = ((z + 1 : Nat) : Int) := by rw [wrap_in] <;> omega
    refine t30b hT ⟨z + 1, by omega, by omega, by rw [hw], ifP_intro (fun _ => ?_) fun hc => ?_⟩
    · rw [hw]
      exact ih (z + 1) (by omega) (by omega)
    · simp only [decide_eq_false_iff_not] at hc
      have := ahd_le (a := z + 1) (b := y) (by omega) (by omega)
      have := hy.2.1
      omega

theorem c30 : COk cfg 30 yearC := by
  refine cok_pure pf30 fun vs h K ht => ?_
  obtain ⟨d, y, hd, hy, rfl, hk⟩ := ht
  have hb := inYear_bound hy
  have hT := ctab_ok (ctab_cons c47 ctab_nil)
  refine ⟨_, hk, t30a hT ?_⟩
  have e : Int.tdiv ((d : Nat) : Int) 366 = ((d / 366 : Nat) : Int) := tdivN d 366
  rw [e, wrap_in (n := ((d / 366 : Nat) : Int)) (by omega) (by omega), wrap_in (by omega) (by omega)]
  have := loop30 hT hd hy (y - (1970 + d / 366)) (1970 + d / 366) (by omega) (by omega)
  simpa using this
end Go.Proofs.YtnefabbpjepppaaDoor
