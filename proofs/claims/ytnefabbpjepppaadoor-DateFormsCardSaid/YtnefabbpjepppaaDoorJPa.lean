/-
  Functions of dates keep to their contracts: leap years, months' lengths, days ahead of a year, two digits, the year of a day.
  More functions of dates keep to their contracts: digits, names, how many days are ahead, the date of a tick, its text.
  The text of a date, the document's and the program's: contracts of Fixed and of both Puts.
-/
import Derived.Test.YtnefabbpjepppaaDoorJTr
section
namespace Go.Proofs.YtnefabbpjepppaaDoor
open Go.Ai Go
set_option linter.unusedSimpArgs false
set_option linter.unusedVariables false

theorem noT : TabOk cfg (ctab []) := ctab_ok ctab_nil
theorem pf48 : pureFn cfg 48 Tryd.f48 := ⟨by kernel_rfl, by kernel_rfl, by kernel_rfl, by kernel_rfl, by kernel_rfl, by kernel_rfl⟩
theorem pf34 : pureFn cfg 34 Tryd.f34 := ⟨by kernel_rfl, by kernel_rfl, by kernel_rfl, by kernel_rfl, by kernel_rfl, by kernel_rfl⟩
theorem pf47 : pureFn cfg 47 Tryd.f47 := ⟨by kernel_rfl, by kernel_rfl, by kernel_rfl, by kernel_rfl, by kernel_rfl, by kernel_rfl⟩
theorem pf33 : pureFn cfg 33 Tryd.f33 := ⟨by kernel_rfl, by kernel_rfl, by kernel_rfl, by kernel_rfl, by kernel_rfl, by kernel_rfl⟩
theorem pf31 : pureFn cfg 31 Tryd.f31 := ⟨by kernel_rfl, by kernel_rfl, by kernel_rfl, by kernel_rfl, by kernel_rfl, by kernel_rfl⟩
theorem pf35 : pureFn cfg 35 Tryd.f35 := ⟨by kernel_rfl, by kernel_rfl, by kernel_rfl, by kernel_rfl, by kernel_rfl, by kernel_rfl⟩
theorem pf30 : pureFn cfg 30 Tryd.f30 := ⟨by kernel_rfl, by kernel_rfl, by kernel_rfl, by kernel_rfl, by kernel_rfl, by kernel_rfl⟩
theorem pf39 : pureFn cfg 39 Tryd.f39 := ⟨by kernel_rfl, by kernel_rfl, by kernel_rfl, by kernel_rfl, by kernel_rfl, by kernel_rfl⟩
theorem pf36 : pureFn cfg 36 Tryd.f36 := ⟨by kernel_rfl, by kernel_rfl, by kernel_rfl, by kernel_rfl, by kernel_rfl, by kernel_rfl⟩

theorem tmodN (a b : Nat) : Int.tmod (a : Int) (b : Int) = ((a % b : Nat) : Int) := by
  rw [Int.tmod_eq_emod_of_nonneg (by omega)]; omega
theorem tdivN (a b : Nat) : Int.tdiv (a : Int) (b : Int) = ((a / b : Nat) : Int) := by
  rw [Int.tdiv_eq_ediv_of_nonneg (by omega)]; omega

theorem leap_at {y : Nat} {v : AV} (hv : v = .bool (leapN y)) : ifP (Int.tmod (y : Int) 4 == 0) (ifP (Int.tmod (y : Int) 100 != 0) (AV.bool true = v) (AV.bool (Int.tmod (y : Int) 400 == 0) = v)) (AV.bool (Int.tmod (y : Int) 400 == 0) = v) := by
  have h4 : Int.tmod ((y : Nat) : Int) 4 = ((y % 4 : Nat) : Int) := tmodN y 4
  have h100 : Int.tmod ((y : Nat) : Int) 100 = ((y % 100 : Nat) : Int) := tmodN y 100
  have h400 : Int.tmod ((y : Nat) : Int) 400 = ((y % 400 : Nat) : Int) := tmodN y 400
  subst hv
  rw [h4, h100, h400]
  unfold leapN
  refine ifP_intro (fun a => ifP_intro (fun b => ?_) fun b => ?_) fun a => ?_
  all_goals
    congr 1
    apply Eq.symm
    rw [Bool.eq_iff_iff]
    simp at *
    omega
theorem c48 : COk cfg 48 leapC := by
  refine cok_pure pf48 fun vs h K ht => ?_
  obtain ⟨y, _, rfl, hk⟩ := ht
  exact ⟨_, hk, t48 noT (leap_at rfl)⟩
theorem c34 : COk cfg 34 leapC := by
  refine cok_pure pf34 fun vs h K ht => ?_
  obtain ⟨y, _, rfl, hk⟩ := ht
  refine ⟨_, hk, t34 noT ?_⟩
  have h4 : Int.tmod ((y : Nat) : Int) 4 = ((y % 4 : Nat) : Int) := tmodN y 4
  have h100 : Int.tmod ((y : Nat) : Int) 100 = ((y % 100 : Nat) : Int) := tmodN y 100
  have h400 : Int.tmod ((y : Nat) : Int) 400 = ((y % 400 : Nat) : Int) := tmodN y 400
  rw [h4, h100, h400]
  unfold leapN
  refine ifP_intro (fun a => ?_) fun a => ifP_intro (fun b => ?_) fun b => ?_
  all_goals
    congr 1
    apply Eq.symm
    rw [Bool.eq_iff_iff]
    simp at *
    omega

theorem c31 : COk cfg 31 longC := by
  refine cok_pure pf31 fun vs h K ht => ?_
  obtain ⟨y, m, hy, h1, h2, rfl, hk⟩ := ht
  refine ⟨_, hk, t31 (ctab_ok (ctab_cons c48 ctab_nil)) ?_⟩
  unfold longN
  refine ifP_intro (fun a => ⟨y, hy, rfl, ifP_intro (fun b => ?_) fun b => ?_⟩) fun a => ifP_intro (fun b => ?_) fun b => ifP_intro (fun c => ?_) fun c => ifP_intro (fun d => ?_) fun d => ifP_intro (fun e => ?_) fun e => ?_
  · have : m = 2 := by simp at a; omega
    simp [this, b]
  · have : m = 2 := by simp at a; omega
    simp [this, b]
  all_goals
    simp at *
    have : ¬m = 2 := by omega
    simp only [this, if_false]
    first
      | rw [if_pos (by omega)]; rfl
      | rw [if_neg (by omega)]; rfl

theorem c35 : COk cfg 35 longC := by
  refine cok_pure pf35 fun vs h K ht => ?_
  obtain ⟨y, m, hy, h1, h2, rfl, hk⟩ := ht
  refine ⟨_, hk, t35 (ctab_ok (ctab_cons c34 ctab_nil)) ?_⟩
  have hw : IntKind.wrap .i64 ((m : Int) - 1) = ((m - 1 : Nat) : Int) := by rw [wrap_in] <;> omega
  have hin : inR ((m - 1 : Nat) : Int) 12 = true := inR_of (by omega) (by omega)
  have key : ¬(m = 2 ∧ leapN y = true) → getE [[AV.int .i64 31], [.int .i64 28], [.int .i64 31], [.int .i64 30], [.int .i64 31], [.int .i64 30], [.int .i64 31], [.int .i64 31], [.int .i64 30], [.int .i64 31], [.int .i64 30], [.int .i64 31]] ((m - 1 : Nat) : Int) = [.int .i64 (longN y m)] := by
    intro hn
    have hm : m = 1 ∨ m = 2 ∨ m = 3 ∨ m = 4 ∨ m = 5 ∨ m = 6 ∨ m = 7 ∨ m = 8 ∨ m = 9 ∨ m = 10 ∨ m = 11 ∨ m = 12 := by omega
    rcases hm with rfl | rfl | rfl | rfl | rfl | rfl | rfl | rfl | rfl | rfl | rfl | rfl
    case inr.inl =>
      have : leapN y = false := by simpa using hn
      simp [getE, longN, this]
    all_goals simp [getE, longN]
  rw [hw]
  refine ifP_intro (fun a => ⟨y, hy, rfl, ifP_intro (fun b => ?_) fun b => gAnd_intro (by rw [hin]; rfl) ⟨_, key (by simp [b]), rfl⟩⟩) fun a => gAnd_intro (by rw [hin]; rfl) ⟨_, key (fun h => ?_), rfl⟩
  · have : m = 2 := by simp at a; omega
    simp [this, b, longN]
  · simp at a; omega

theorem c47 : COk cfg 47 aheadC := by
  refine cok_pure pf47 fun vs h K ht => ?_
  obtain ⟨y, h1, h2, rfl, hk⟩ := ht
  refine ⟨_, hk, t47 noT ?_⟩
  have e1 : IntKind.wrap .i64 ((y : Int) - 1) = ((y - 1 : Nat) : Int) := by rw [wrap_in] <;> omega
  have e2 : Int.tdiv (((y - 1) : Nat) : Int) 4 = (((y - 1) / 4 : Nat) : Int) := tdivN (y - 1) 4
  have e3 : Int.tdiv (((y - 1) : Nat) : Int) 100 = (((y - 1) / 100 : Nat) : Int) := tdivN (y - 1) 100
  have e4 : Int.tdiv (((y - 1) : Nat) : Int) 400 = (((y - 1) / 400 : Nat) : Int) := tdivN (y - 1) 400
  rw [e1, e2, e3, e4]
  unfold ahd
  rw [wrap_in (n := (y : Int) - 1970) (by omega) (by omega), wrap_in (n := (((y - 1) / 4 : Nat) : Int)) (by omega) (by omega), wrap_in (n := (((y - 1) / 100 : Nat) : Int)) (by omega) (by omega), wrap_in (n := (((y - 1) / 400 : Nat) : Int)) (by omega) (by omega),
    wrap_in (n := 365 * ((y : Int) - 1970)) (by omega) (by omega), wrap_in (n := 365 * ((y : Int) - 1970) + ((y - 1) / 4 : Nat)) (by omega) (by omega),
    wrap_in (n := 365 * ((y : Int) - 1970) + ((y - 1) / 4 : Nat) - ((y - 1) / 100 : Nat)) (by omega) (by omega), wrap_in (n := 365 * ((y : Int) - 1970) + ((y - 1) / 4 : Nat) - ((y - 1) / 100 : Nat) + ((y - 1) / 400 : Nat)) (by omega) (by omega),
    wrap_in (n := 365 * ((y : Int) - 1970) + ((y - 1) / 4 : Nat) - ((y - 1) / 100 : Nat) + ((y - 1) / 400 : Nat) - 492) (by omega) (by omega), wrap_in (n := 365 * ((y : Int) - 1970) + ((y - 1) / 4 : Nat) - ((y - 1) / 100 : Nat) + ((y - 1) / 400 : Nat) - 492 + 19) (by omega) (by omega), wrap_in (by omega) (by omega)]
  congr 1
  omega

theorem wrap_u8_in {n : Int} (h1 : 0 ≤ n) (h2 : n < 256) : IntKind.wrap .u8 n = n := by
  rw [IntKind.wrap_u8]; omega
theorem dig_at (n : Nat) : IntKind.wrap .u8 (IntKind.wrap .i64 (48 + Int.tmod (n : Int) 10)) = ((48 + n % 10 : Nat) : Int) := by
  have : Int.tmod ((n : Nat) : Int) 10 = ((n % 10 : Nat) : Int) := tmodN n 10
  rw [this, wrap_in (by omega) (by omega), wrap_u8_in (by omega) (by omega)]
  omega
theorem div10 {n : Nat} (h : n ≤ 1000000) : IntKind.wrap .i64 (Int.tdiv (n : Int) 10) = ((n / 10 : Nat) : Int) := by
  have : Int.tdiv ((n : Nat) : Int) 10 = ((n / 10 : Nat) : Int) := tdivN n 10
  rw [this, wrap_in] <;> omega
theorem dig_ok (n : Nat) : (decide ((0 : Int) ≤ ((48 + n % 10 : Nat) : Int)) && decide (((48 + n % 10 : Nat) : Int) < 256)) = true := by
  simp only [Bool.and_eq_true, decide_eq_true_eq]; omega

theorem c33 : COk cfg 33 twoC := by
  refine cok_pure pf33 fun vs h K ht => ?_
  obtain ⟨n, hn, rfl, hk⟩ := ht
  refine ⟨_, hk, t33 noT ?_⟩
  rw [div10 hn, dig_at, dig_at]
  have g1 := dig_ok (n / 10)
  have g2 := dig_ok n
  refine gAnd_intro ?_ ?_
  · rw [g1, g2]; rfl
  · simp only [Int.toNat_natCast]; rfl

theorem loop30 (hT : TabOk cfg (ctab [(47, aheadC)])) {d y : Nat} (hd : d ≤ 4000000) (hy : inYear d y) : ∀ (k z : Nat), z + k = y → 1970 ≤ z →
    ToEnd cfg 30 (bodyOf Tryd.f30) (RetIs Tryd.prog Tryd.f30 (.tup [.int .i64 y, .int .i64 ((d : Int) - ahd y)])) [.code [0, 0, 1, 1], .block 0, .code [1, 1, 1]] .normal [(0, true, .int .i64 d), (2, true, .int .i64 z)] [] := by
  have hb := inYear_bound hy
  intro k
  induction k with
  | zero =>
    intro z hz h1
    obtain rfl : z = y := by omega
    have hw : IntKind.wrap .i64 ((z : Int) + 1) = ((z + 1 : Nat) : Int) := by rw [wrap_in] <;> omega
    refine t30b hT ⟨z + 1, by omega, by omega, by rw [hw], ifP_intro (fun hc => ?_) fun _ => ⟨z, by omega, by omega, rfl, ?_⟩⟩
    · simp only [decide_eq_true_eq] at hc
      have := hy.2.2
      omega
    · rw [wrap_in]
      · have := hy.2.1; omega
      · have := (ahd_mono (a := 1970) (by omega) (z - 1970)).1
        rw [ahd_first, show 1970 + (z - 1970) = z by omega] at this
        omega
  | succ k ih =>
    intro z hz h1
    have hw : IntKind.wrap .i64 ((z : Int) + 1) = ((z + 1 : Nat) : Int) := by rw [wrap_in] <;> omega
    refine t30b hT ⟨z + 1, by omega, by omega, by rw [hw], ifP_intro (fun _ => ?_) fun hc => ?_⟩
    · rw [hw]
      exact ih (z + 1) (by omega) (by omega)
    · simp only [decide_eq_false_iff_not] at hc
      have := ahd_le (a := z + 1) (b := y) (by omega) (by omega)
      have := hy.2.1
      omega

theorem c30 : COk cfg 30 yearC := by
  refine cok_pure pf30 fun vs h K ht => ?_
  obtain ⟨d, y, hd, hy, rfl, hk⟩ := ht
  have hb := inYear_bound hy
  have hT := ctab_ok (ctab_cons c47 ctab_nil)
  refine ⟨_, hk, t30a hT ?_⟩
  have e : Int.tdiv ((d : Nat) : Int) 366 = ((d / 366 : Nat) : Int) := tdivN d 366
  rw [e, wrap_in (n := ((d / 366 : Nat) : Int)) (by omega) (by omega), wrap_in (by omega) (by omega)]
  have := loop30 hT hd hy (y - (1970 + d / 366)) (1970 + d / 366) (by omega) (by omega)
  simpa using this
end Go.Proofs.YtnefabbpjepppaaDoor
end

section
namespace Go.Proofs.YtnefabbpjepppaaDoor
open Go.Ai Go
set_option linter.unusedSimpArgs false
set_option linter.unusedVariables false

theorem pf38 : pureFn cfg 38 Tryd.f38 := ⟨by kernel_rfl, by kernel_rfl, by kernel_rfl, by kernel_rfl, by kernel_rfl, by kernel_rfl⟩
theorem pf40 : pureFn cfg 40 Tryd.f40 := ⟨by kernel_rfl, by kernel_rfl, by kernel_rfl, by kernel_rfl, by kernel_rfl, by kernel_rfl⟩
theorem pf42 : pureFn cfg 42 Tryd.f42 := ⟨by kernel_rfl, by kernel_rfl, by kernel_rfl, by kernel_rfl, by kernel_rfl, by kernel_rfl⟩
theorem pf37 : pureFn cfg 37 Tryd.f37 := ⟨by kernel_rfl, by kernel_rfl, by kernel_rfl, by kernel_rfl, by kernel_rfl, by kernel_rfl⟩
theorem pf15 : pureFn cfg 15 Tryd.f15 := ⟨by kernel_rfl, by kernel_rfl, by kernel_rfl, by kernel_rfl, by kernel_rfl, by kernel_rfl⟩
theorem pf41 : pureFn cfg 41 Tryd.f41 := ⟨by kernel_rfl, by kernel_rfl, by kernel_rfl, by kernel_rfl, by kernel_rfl, by kernel_rfl⟩
theorem pf16 : pureFn cfg 16 Tryd.f16 := ⟨by kernel_rfl, by kernel_rfl, by kernel_rfl, by kernel_rfl, by kernel_rfl, by kernel_rfl⟩
theorem pf14 : pureFn cfg 14 Tryd.f14 := ⟨by kernel_rfl, by kernel_rfl, by kernel_rfl, by kernel_rfl, by kernel_rfl, by kernel_rfl⟩
theorem pf13 : pureFn cfg 13 Tryd.f13 := ⟨by kernel_rfl, by kernel_rfl, by kernel_rfl, by kernel_rfl, by kernel_rfl, by kernel_rfl⟩

theorem digits_len : ∀ (k n : Nat), (digits n k).length = k
  | 0, _ => rfl
  | k + 1, n => by simp [digits, digits_len k]

set_option maxRecDepth 100000 in
theorem c39 : COk cfg 39 digC := by
  refine cok_pure pf39 fun vs h K ht => ?_
  obtain ⟨n, k, hn, hk1, rfl, hk⟩ := ht
  refine ⟨_, hk, ?_⟩
  have e1 := div10 (n := n) hn
  have e2 := div10 (n := n / 10) (by omega)
  have e3 := div10 (n := n / 10 / 10) (by omega)
  have g0 := dig_ok n
  have g1 := dig_ok (n / 10)
  have g2 := dig_ok (n / 10 / 10)
  have g3 := dig_ok (n / 10 / 10 / 10)
  rcases hk1 with rfl | rfl | rfl
  · refine t39_1 noT ?_
    rw [dig_at]
    refine gAnd_intro ?_ ?_
    · rw [g0]; rfl
    · simp only [Int.toNat_natCast, digits, List.nil_append, List.cons_append]
  · refine t39_2 noT ?_
    rw [e1, dig_at, dig_at]
    refine gAnd_intro ?_ (gAnd_intro ?_ ?_)
    · rw [g0]; rfl
    · rw [g1]; rfl
    · simp only [Int.toNat_natCast, digits, List.nil_append, List.cons_append]
  · refine t39_4 noT ?_
    rw [e1, e2, e3, dig_at, dig_at, dig_at, dig_at]
    refine gAnd_intro ?_ (gAnd_intro ?_ (gAnd_intro ?_ (gAnd_intro ?_ ?_)))
    · rw [g0]; rfl
    · rw [g1]; rfl
    · rw [g2]; rfl
    · rw [g3]; rfl
    · simp only [Int.toNat_natCast, digits, List.nil_append, List.cons_append]

theorem c38 : COk cfg 38 (namesC shortL) := by
  refine cok_pure pf38 fun vs h K ht => ?_
  obtain ⟨hv, hk⟩ := ht
  obtain rfl : vs = [] := by simpa using hv
  exact ⟨_, hk, t38 noT rfl⟩
theorem c40 : COk cfg 40 (namesC monL) := by
  refine cok_pure pf40 fun vs h K ht => ?_
  obtain ⟨hv, hk⟩ := ht
  obtain rfl : vs = [] := by simpa using hv
  exact ⟨_, hk, t40 noT rfl⟩
theorem c42 : COk cfg 42 (namesC longL) := by
  refine cok_pure pf42 fun vs h K ht => ?_
  obtain ⟨hv, hk⟩ := ht
  obtain rfl : vs = [] := by simpa using hv
  exact ⟨_, hk, t42 noT rfl⟩

theorem getE_at {α : Type} (f : α → List AV) (l : List α) {i : Nat} (h : i < l.length) : getE (l.map f) (i : Int) = f l[i] := by
  unfold getE
  simp [h]
theorem getE_encS (L : List (List UInt8)) {i : Nat} (h : i < L.length) : getE (encS L) (i : Int) = [.str (L.getD i [])] := by
  unfold encS
  rw [getE_at _ _ h]
  simp [List.getD, h]

theorem c36 : COk cfg 36 weekC := by
  refine cok_pure pf36 fun vs h K ht => ?_
  obtain ⟨n, L, hn, hL, rfl, hk⟩ := ht
  refine ⟨_, hk, t36 noT ?_⟩
  have e : Int.tmod ((n + 3 : Nat) : Int) 7 = (((n + 3) % 7 : Nat) : Int) := tmodN (n + 3) 7
  have ew : IntKind.wrap .i64 ((n : Int) + 3) = ((n + 3 : Nat) : Int) := by rw [wrap_in] <;> omega
  rw [ew, e]
  have hlen : (encS L).length = 7 := by simp [encS, hL]
  exact gAnd_intro (by rw [inR_of (by omega) (by omega)]; rfl) ⟨_, getE_encS L (by omega), rfl⟩

/-! Count -/
theorem ahd_pos {y : Nat} (h : 1970 ≤ y) : 0 ≤ ahd y := by
  have := ahd_le (a := 1970) (b := y) (by omega) h
  rwa [ahd_first] at this
theorem ahd_9999 {y : Nat} (h1 : 1970 ≤ y) (h : y ≤ 9999) : ahd y ≤ 2932532 := by
  have := ahd_le (a := y) (b := 9999) (by omega) h
  have e : ahd 9999 = 2932532 := by decide
  omega
theorem bef_max (y : Nat) {m : Nat} (h : m ≤ 13) : bef y m ≤ 366 := by
  rcases Nat.eq_zero_or_pos m with rfl | h1
  · exact Nat.zero_le _
  · have := bef_le y h1 h
    rw [bef_13] at this
    have := ylen_ge y
    omega

theorem loop37c (hT : TabOk cfg (ctab [(34, leapC), (35, longC)])) {y m d : Nat} (a b c : Int) (h1 : 1970 ≤ y) (h2 : y ≤ 9999) (h4 : m ≤ 12) (h6 : d ≤ 1000) : ∀ (k z : Nat), z + k = m → 1 ≤ z →
    ToEnd cfg 37 (bodyOf Tryd.f37) (RetIs Tryd.prog Tryd.f37 (.int .i64 (ahd y + (bef y m : Nat) + (d : Int) - 1))) [.code [0, 1, 0, 1, 1, 1], .block 2, .code [1, 1, 1, 1]] .normal
      [(1, true, .ptr 0 0), (3, true, .int .i64 ((d : Int) - 1 + ahd y + (bef y z : Nat))), (5, true, .int .i64 z)] [.mem 34 [.int .i64 y, .int .i64 m, .int .i64 d, .int .i64 a, .int .i64 b, .int .i64 c]] := by
  intro k
  have q1 := ahd_pos h1
  have q2 := ahd_9999 h1 h2
  induction k with
  | zero =>
    intro z hz hz1
    obtain rfl : z = m := by omega
    refine t37c hT (ifP_intro (fun hc => ?_) fun _ => ?_)
    · simp at hc
    · congr 1; omega
  | succ k ih =>
    intro z hz hz1
    refine t37c hT (ifP_intro (fun _ => ⟨y, z, by omega, hz1, by omega, rfl, ?_⟩) fun hc => ?_)
    · have hb := bef_max y (m := z) (by omega)
      have hg := longN_ge y z
      rw [wrap_in (n := (z : Int) + 1) (by omega) (by omega), wrap_in (by omega) (by omega)]
      have := ih (z + 1) (by omega) (by omega)
      rw [bef_succ y hz1] at this
      have e : (d : Int) - 1 + ahd y + ((bef y z + longN y z : Nat) : Int) = (d : Int) - 1 + ahd y + (bef y z : Nat) + (longN y z : Nat) := by omega
      rw [e] at this
      exact this
    · simp at hc; omega

theorem loop37b (hT : TabOk cfg (ctab [(34, leapC), (35, longC)])) {y m d : Nat} (a b c : Int) (h2 : y ≤ 9999) (h3 : 1 ≤ m) (h4 : m ≤ 12) (h5 : 1 ≤ d) (h6 : d ≤ 1000) : ∀ (k z : Nat), z + k = y → 1970 ≤ z →
    ToEnd cfg 37 (bodyOf Tryd.f37) (RetIs Tryd.prog Tryd.f37 (.int .i64 (ahd y + (bef y m : Nat) + (d : Int) - 1))) [.code [0, 1, 0, 1, 1], .block 0, .code [1, 1, 1]] .normal
      [(1, true, .ptr 0 0), (3, true, .int .i64 ((d : Int) - 1 + ahd z)), (4, true, .int .i64 z)] [.mem 34 [.int .i64 y, .int .i64 m, .int .i64 d, .int .i64 a, .int .i64 b, .int .i64 c]] := by
  intro k
  induction k with
  | zero =>
    intro z hz hz1
    obtain rfl : z = y := by omega
    refine t37b hT (ifP_intro (fun hc => ?_) fun _ => ?_)
    · simp at hc
    · have := loop37c hT a b c hz1 h2 h4 h6 (m - 1) 1 (by omega) (by omega)
      simpa [bef] using this
  | succ k ih =>
    intro z hz hz1
    have q1 := ahd_pos hz1
    have q2 := ahd_9999 hz1 (by omega)
    have hs := ahd_succ (y := z) (by omega)
    have := ih (z + 1) (by omega) (by omega)
    rw [hs] at this
    refine t37b hT (ifP_intro (fun _ => ⟨z, by omega, rfl, ifP_intro (fun hl => ?_) fun hl => ?_⟩) fun hc => ?_)
    · rw [wrap_in (n := (z : Int) + 1) (by omega) (by omega), wrap_in (n := (d : Int) - 1 + ahd z + 365) (by omega) (by omega), wrap_in (by omega) (by omega)]
      have e : ylen z = 366 := by unfold ylen; rw [hl]; rfl
      rw [e] at this
      rw [show (d : Int) - 1 + ahd z + 365 + 1 = (d : Int) - 1 + (ahd z + (366 : Nat)) by omega]
      exact this
    · rw [wrap_in (n := (z : Int) + 1) (by omega) (by omega), wrap_in (n := (d : Int) - 1 + ahd z + 365) (by omega) (by omega)]
      have e : ylen z = 365 := by unfold ylen; rw [hl]; rfl
      rw [e] at this
      rw [show (d : Int) - 1 + ahd z + 365 = (d : Int) - 1 + (ahd z + (365 : Nat)) by omega]
      exact this
    · simp at hc; omega

theorem c37 : COk cfg 37 countC := by
  refine cok_pure pf37 fun vs h K ht => ?_
  obtain ⟨y, m, d, a, b, c, h1, h2, h3, h4, h5, h6, rfl, hk⟩ := ht
  have hT := ctab_ok (ctab_cons c34 (ctab_cons c35 ctab_nil))
  refine ⟨_, hk, t37a hT ?_⟩
  rw [wrap_in (by omega) (by omega)]
  have := loop37b hT (a : Int) (b : Int) (c : Int) h2 h3 h4 h5 h6 (y - 1970) 1970 (by omega) (by omega)
  rw [ahd_first, Int.add_zero] at this
  exact this

/-! Of -/
theorem loop15c (hT : TabOk cfg (ctab [(34, leapC), (35, longC)])) {y r m : Nat} (h1 : 1970 ≤ y) (h2 : y ≤ 9999) (hm : inMonth y r m) (a0 a1 a2 a3 a4 a5 b2 b3 b4 b5 : Int) : ∀ (k z : Nat), z + k = m → 1 ≤ z →
    ToEnd cfg 15 (bodyOf Tryd.f15) (RetIs Tryd.prog Tryd.f15 (.agg [.int .i64 y, .int .i64 m, .int .i64 (r - bef y m + 1 : Nat), .int .i64 b3, .int .i64 b4, .int .i64 b5])) [.code [0, 0, 1, 1, 1, 1, 1], .block 2, .code [1, 1, 1, 1, 1, 1]] .normal
      [(2, true, .ptr 0 0), (3, true, .int .i64 (r - bef y z : Nat)), (5, true, .ptr 1 0)] [.mem 34 [.int .i64 a0, .int .i64 a1, .int .i64 a2, .int .i64 a3, .int .i64 a4, .int .i64 a5], .mem 34 [.int .i64 y, .int .i64 z, .int .i64 b2, .int .i64 b3, .int .i64 b4, .int .i64 b5]] := by
  obtain ⟨m1, m2, m3, m4⟩ := hm
  have hb13 := bef_max y (m := m + 1) (by omega)
  intro k
  induction k with
  | zero =>
    intro z hz hz1
    obtain rfl : z = m := by omega
    rw [bef_succ y hz1] at m4
    have hg := longN_ge y z
    have hbz := bef_max y (m := z) (by omega)
    refine t15c hT ⟨y, z, by omega, hz1, by omega, rfl, ifP_intro (fun hc => ?_) fun _ => ?_⟩
    · simp at hc; omega
    · rw [wrap_in (by omega) (by omega)]
      rfl
  | succ k ih =>
    intro z hz hz1
    have hle := bef_le y (a := z + 1) (b := m) (by omega) (by omega)
    rw [bef_succ y hz1] at hle
    have hg := longN_ge y z
    refine t15c hT ⟨y, z, by omega, hz1, by omega, rfl, ifP_intro (fun _ => ⟨y, z, by omega, hz1, by omega, rfl, ?_⟩) fun hc => ?_⟩
    · rw [wrap_in (n := (z : Int) + 1) (by omega) (by omega), wrap_in (by omega) (by omega)]
      have := ih (z + 1) (by omega) (by omega)
      rw [bef_succ y hz1] at this
      rw [show ((r - bef y z : Nat) : Int) - (longN y z : Nat) = ((r - (bef y z + longN y z) : Nat) : Int) by omega]
      exact this
    · simp at hc; omega

theorem loop15b (hT : TabOk cfg (ctab [(34, leapC), (35, longC)])) {d : Nat} (hd : d ≤ 2932896) (a0 a1 a2 a3 a4 a5 b2 b3 b4 b5 : Int) : ∀ (k z : Nat), z + k = yearOf d → 1970 ≤ z →
    ToEnd cfg 15 (bodyOf Tryd.f15) (RetIs Tryd.prog Tryd.f15 (.agg [.int .i64 (yearOf d), .int .i64 (monthOf d), .int .i64 (dayOf d), .int .i64 b3, .int .i64 b4, .int .i64 b5])) [.code [0, 0, 1, 1, 1, 1], .block 0, .code [1, 1, 1, 1, 1]] .normal
      [(2, true, .ptr 0 0), (3, true, .int .i64 ((d : Int) - ahd z)), (5, true, .ptr 1 0)] [.mem 34 [.int .i64 a0, .int .i64 a1, .int .i64 a2, .int .i64 a3, .int .i64 a4, .int .i64 a5], .mem 34 [.int .i64 z, .int .i64 1, .int .i64 b2, .int .i64 b3, .int .i64 b4, .int .i64 b5]] := by
  have hy := yearOf_spec d
  have hyl := year_le hd
  intro k
  induction k with
  | zero =>
    intro z hz hz1
    obtain rfl : z = yearOf d := by omega
    have hr := restOf_eq d
    have hlt := restOf_lt d
    have next := loop15c hT (r := restOf d) (m := monthOf d) hz1 hyl (monthOf_spec d) a0 a1 a2 a3 a4 a5 b2 b3 b4 b5 (monthOf d - 1) 1 (by have := (monthOf_spec d).1; omega) (by omega)
    simp only [bef, Nat.sub_zero, hr] at next
    refine t15b hT ⟨yearOf d, by omega, rfl, ifP_intro (fun hl => ifP_intro (fun _ => next) fun hc => ?_) fun hl => ifP_intro (fun _ => next) fun hc => ?_⟩
    · have e : ylen (yearOf d) = 366 := by unfold ylen; rw [hl]; rfl
      simp at hc; omega
    · have e : ylen (yearOf d) = 365 := by unfold ylen; rw [hl]; rfl
      simp at hc; omega
  | succ k ih =>
    intro z hz hz1
    have hs := ahd_succ (y := z) (by omega)
    have hle := ahd_le (a := z + 1) (b := yearOf d) (by omega) (by omega)
    have hle0 := ahd_pos hz1
    have h2 := hy.2.1
    have := ih (z + 1) (by omega) (by omega)
    rw [hs] at this
    refine t15b hT ⟨z, by omega, rfl, ifP_intro (fun hl => ifP_intro (fun hc => ?_) fun _ => ?_) fun hl => ifP_intro (fun hc => ?_) fun _ => ?_⟩
    · have e : ylen z = 366 := by unfold ylen; rw [hl]; rfl
      simp at hc; omega
    · have e : ylen z = 366 := by unfold ylen; rw [hl]; rfl
      rw [e] at this
      rw [wrap_in (n := (z : Int) + 1) (by omega) (by omega), wrap_in (by omega) (by omega), show (d : Int) - ahd z - 366 = (d : Int) - (ahd z + (366 : Nat)) by omega]
      exact this
    · have e : ylen z = 365 := by unfold ylen; rw [hl]; rfl
      simp at hc; omega
    · have e : ylen z = 365 := by unfold ylen; rw [hl]; rfl
      rw [e] at this
      rw [wrap_in (n := (z : Int) + 1) (by omega) (by omega), wrap_in (by omega) (by omega), show (d : Int) - ahd z - 365 = (d : Int) - (ahd z + (365 : Nat)) by omega]
      exact this

theorem c15 : COk cfg 15 ofC := by
  refine cok_pure pf15 fun vs h K ht => ?_
  obtain ⟨t, hlt, rfl, hk⟩ := ht
  have hT := ctab_ok (ctab_cons c34 (ctab_cons c35 ctab_nil))
  refine ⟨_, hk, t15a hT ?_⟩
  unfold lastT at hlt
  have e1 : Int.tdiv (t : Int) 86400 = ((t / 86400 : Nat) : Int) := tdivN t 86400
  have e2 : Int.tmod (t : Int) 86400 = ((t % 86400 : Nat) : Int) := tmodN t 86400
  have e3 : Int.tdiv ((t % 86400 : Nat) : Int) 3600 = ((t % 86400 / 3600 : Nat) : Int) := tdivN (t % 86400) 3600
  have e4 : Int.tdiv ((t % 86400 : Nat) : Int) 60 = ((t % 86400 / 60 : Nat) : Int) := tdivN (t % 86400) 60
  have e5 : Int.tmod ((t % 86400 / 60 : Nat) : Int) 60 = ((t % 86400 / 60 % 60 : Nat) : Int) := tmodN (t % 86400 / 60) 60
  have e6 : Int.tmod ((t % 86400 : Nat) : Int) 60 = ((t % 86400 % 60 : Nat) : Int) := tmodN (t % 86400) 60
  rw [e1, e2, e3, e4, wrap_in (n := ((t / 86400 : Nat) : Int)) (by omega) (by omega), wrap_in (n := ((t % 86400 / 3600 : Nat) : Int)) (by omega) (by omega), wrap_in (n := ((t % 86400 / 60 : Nat) : Int)) (by omega) (by omega), e5, e6]
  have hy := (yearOf_spec (t / 86400)).1
  have := loop15b hT (d := t / 86400) (by omega) 0 0 0 0 0 0 0 ((t % 86400 / 3600 : Nat) : Int) ((t % 86400 / 60 % 60 : Nat) : Int) ((t % 86400 % 60 : Nat) : Int) (yearOf (t / 86400) - 1970) 1970 (by omega) (by omega)
  rw [ahd_first, Int.sub_zero] at this
  exact this
end Go.Proofs.YtnefabbpjepppaaDoor
end

section
namespace Go.Proofs.YtnefabbpjepppaaDoor
open Go.Ai Go
set_option linter.unusedSimpArgs false
set_option linter.unusedVariables false

theorem okLen {a : Nat} (h : a ≤ 1000) : decide (a ≤ 9223372036854775807) = true := decide_eq_true (by omega)
theorem c41 : COk cfg 41 clockC := by
  refine cok_pure pf41 fun vs h K ht => ?_
  obtain ⟨y, m, d, a, b, c, ha, hb, hc, rfl, hk⟩ := ht
  refine ⟨_, hk, t41 (ctab_ok (ctab_cons c39 ctab_nil)) ?_⟩
  exact ⟨a, 2, ha, .inr (.inl rfl), rfl, gAnd_intro (okLen (by simp only [digits_len]; omega)) ⟨b, 2, hb, .inr (.inl rfl), rfl, gAnd_intro (okLen (by simp [digits_len])) (gAnd_intro (okLen (by simp [digits_len])) ⟨c, 2, hc, .inr (.inl rfl), rfl, gAnd_intro (okLen (by simp [digits_len])) rfl⟩)⟩⟩

theorem getD_le (L : List (List UInt8)) (n : Nat) (h : ∀ s ∈ L, s.length ≤ n) (i : Nat) : (L.getD i []).length ≤ n := by
  simp only [List.getD]
  cases hi : L[i]? with
  | none => simp
  | some s => simpa using h s (List.mem_of_getElem? hi)
theorem short_le (i : Nat) : (shortL.getD i []).length ≤ 3 := getD_le shortL 3 (by decide) i
theorem long_le (i : Nat) : (longL.getD i []).length ≤ 9 := getD_le longL 9 (by decide) i
theorem mon_le (i : Nat) : (monL.getD i []).length ≤ 3 := getD_le monL 3 (by decide) i

theorem cntN_eq {y m d : Nat} (h1 : 1970 ≤ y) (h : 1 ≤ d) : ((cntN y m d : Nat) : Int) = ahd y + (bef y m : Nat) + (d : Int) - 1 := by
  have := ahd_pos h1
  unfold cntN
  omega

theorem c16 : COk cfg 16 fixedC := by
  refine cok_pure pf16 fun vs h K ht => ?_
  obtain ⟨y, m, d, a, b, c, ok, rfl, hk⟩ := ht
  obtain ⟨y1, y2, m1, m2, d1, d2', a1, b1, c1⟩ := ok
  have hlg := longN_ge y m
  have hT := ctab_ok (ctab_cons c36 (ctab_cons c37 (ctab_cons c38 (ctab_cons c39 (ctab_cons c40 (ctab_cons c41 ctab_nil))))))
  refine ⟨_, hk, t16 hT ?_⟩
  have hc := cntN_eq (m := m) y1 d1
  have hb1 := bef_max y (m := m) (by omega)
  have ha9 := ahd_9999 y1 y2
  have hw := short_le ((cntN y m d + 3) % 7)
  have hmo := mon_le (m - 1)
  have hmw : IntKind.wrap .i64 ((m : Int) - 1) = ((m - 1 : Nat) : Int) := by rw [wrap_in] <;> omega
  have hml : (encS monL).length = 12 := by decide
  refine ⟨y, m, d, a, b, c, y1, y2, m1, m2, d1, by omega, rfl, rfl, cntN y m d, shortL, by omega, rfl, by rw [hc]; rfl, gAnd_intro (okLen (by omega)) ⟨d, 2, by omega, .inr (.inl rfl), rfl, ?_⟩⟩
  refine gAnd_intro (okLen ?_) (gAnd_intro (okLen ?_) ⟨rfl, gAnd_intro ?_ ⟨monL.getD (m - 1) [], ?_, gAnd_intro (okLen ?_) (gAnd_intro (okLen ?_) ⟨y, 4, by omega, .inr (.inr rfl), rfl, gAnd_intro (okLen ?_) (gAnd_intro (okLen ?_) ⟨y, m, d, a, b, c, by omega, by omega, by omega, rfl, gAnd_intro (okLen ?_) (gAnd_intro (okLen ?_) ?_)⟩)⟩)⟩⟩)
  · simp only [List.length_append, List.length_cons, List.length_nil, digits_len]; omega
  · simp only [List.length_append, List.length_cons, List.length_nil, digits_len]; omega
  · rw [hmw, inR_of (by omega) (by omega)]; rfl
  · rw [hmw]; exact getE_encS monL (by show m - 1 < 12; omega)
  · simp only [List.length_append, List.length_cons, List.length_nil, digits_len]; omega
  · simp only [List.length_append, List.length_cons, List.length_nil, digits_len]; omega
  · simp only [List.length_append, List.length_cons, List.length_nil, digits_len]; omega
  · simp only [List.length_append, List.length_cons, List.length_nil, digits_len]; omega
  · simp only [List.length_append, List.length_cons, List.length_nil, digits_len]; omega
  · simp only [List.length_append, List.length_cons, List.length_nil, digits_len]; omega
  · rw [digits_4]
    rfl

theorem dateOk_of {d : Nat} (hd : d ≤ 2932896) (s : Nat) (hs : s < 86400) : DateOk (yearOf d) (monthOf d) (dayOf d) (s / 3600) (s / 60 % 60) (s % 60) := by
  have hm := monthOf_spec d
  obtain ⟨m1, m2, m3, m4⟩ := hm
  rw [bef_succ _ m1] at m4
  refine ⟨(yearOf_spec d).1, year_le hd, m1, m2, by unfold dayOf; omega, by unfold dayOf; omega, by omega, by omega, by omega⟩
theorem cnt_of {d : Nat} : cntN (yearOf d) (monthOf d) (dayOf d) = d := by
  have hr := restOf_eq d
  have hm := monthOf_spec d
  obtain ⟨m1, m2, m3, m4⟩ := hm
  unfold cntN dayOf
  omega

theorem c14 : COk cfg 14 putC := by
  refine cok_pure pf14 fun vs h K ht => ?_
  obtain ⟨t, rfl, hk⟩ := ht
  refine ⟨_, hk, t14 (ctab_ok (ctab_cons c15 (ctab_cons c16 ctab_nil))) ?_⟩
  unfold putS
  refine ifP_intro (fun h1 => ?_) fun h1 => ifP_intro (fun h2 => ?_) fun h2 => ?_
  · simp at h1; rw [if_neg (by omega)]
  · simp at h2; rw [if_neg (by unfold lastT; omega)]
  · simp at h1 h2
    rw [if_pos ⟨h1, by unfold lastT; omega⟩]
    obtain ⟨n, rfl⟩ : ∃ n : Nat, t = n := ⟨t.toNat, by omega⟩
    have ok := dateOk_of (d := n / 86400) (by omega) (n % 86400) (by omega)
    refine ⟨n, by omega, rfl, _, _, _, _, _, _, ok, rfl, ?_⟩
    rw [cnt_of]
    rfl
end Go.Proofs.YtnefabbpjepppaaDoor
end
