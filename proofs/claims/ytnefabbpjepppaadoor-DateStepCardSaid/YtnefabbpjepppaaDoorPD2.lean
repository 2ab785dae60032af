/-
  More functions of dates keep to their contracts: digits, names, how many days are ahead, the date of a tick, its text.
-/
import Derived.Test.YtnefabbpjepppaaDoorD2
import Derived.Test.YtnefabbpjepppaaDoorPD1
namespace Go.Proofs.YtnefabbpjepppaaDoor
open Go.Ai Go
set_option linter.unusedSimpArgs false
set_option linter.unusedVariables false

theorem pf38 : pureFn cfg 38 Tryd.f38 := ⟨by kernel_rfl, by kernel_rfl, by kernel_rfl, by kernel_rfl, by kernel_rfl, by kernel_rfl⟩
theorem pf40 : pureFn cfg 40 Tryd.f40 := ⟨by kernel_rfl, by kernel_rfl, by kernel_rfl, by kernel_rfl, by kernel_rfl, by kernel_rfl⟩
theorem pf42 : pureFn cfg 42 Tryd.f42 := ⟨by kernel_rfl, by kernel_rfl, by kernel_rfl, by kernel_rfl, by kernel_rfl, by kernel_rfl⟩
theorem pf37 : pureFn cfg 37 Tryd.f37 := ⟨by kernel_rfl, by kernel_rfl, by kernel_rfl, by kernel_rfl, by kernel_rfl, by kernel_rfl⟩
theorem pf15 : pureFn cfg 15 Tryd.f15 := ⟨by kernel_rfl, by kernel_rfl, by kernel_rfl, by kernel_rfl, by kernel_rfl, by kernel_rfl⟩
theorem pf41 : pureFn cfg 41 Tryd.f41 := ⟨by kernel_rfl, by kernel_rfl, by kernel_rfl, by kernel_rfl, by kernel_rfl, by kernel_rfl⟩
theorem pf16 : pureFn cfg 16 Tryd.f16 := ⟨by kernel_rfl, by kernel_rfl, by kernel_rfl, by kernel_rfl, by kernel_rfl, by kernel_rfl⟩
theorem pf14 : pureFn cfg 14 Tryd.f14 := ⟨by kernel_rfl, by kernel_rfl, by kernel_rfl, by kernel_rfl, by kernel_rfl, by kernel_rfl⟩
theorem pf13 : pureFn cfg 13 Tryd.f13 := ⟨by kernel_rfl, by kernel_rfl, by kernel_rfl, by kernel_rfl, by kernel_rfl, by kernel_rfl⟩

theorem digits_len : ∀ (k n : Nat), (digits n k).length = k
  | 0, _ => rfl
  | k + 1, n => by simp [digits, digits_len k]

set_option maxRecDepth 100000 in
theorem c39 : COk cfg 39 digC := by
  refine cok_pure pf39 fun vs h K ht => ?_
  obtain ⟨n, k, hn, hk1, rfl, hk⟩ := ht
  refine ⟨_, hk, ?_⟩
  have e1 := div10 (n := n) hn
  have e2 := div10 (n := n / 10) (by omega)
  have e3 := div10 (n := n / 10 / 10) (by omega)
  have g0 := dig_ok n
  have g1 := dig_ok (n / 10)
  have g2 := dig_ok (n / 10 / 10)
  have g3 := dig_ok (n / 10 / 10 / 10)
  rcases hk1 with rfl | rfl | rfl
  · refine t39_1 noT ?_
    rw [dig_at]
    refine gAnd_intro ?_ ?_
    · rw [g0]; rfl
    · simp only [Int.toNat_natCast, digits, List.nil_append, List.cons_append]
  · refine t39_2 noT ?_
    rw [e1, dig_at, dig_at]
    refine gAnd_intro ?_ (gAnd_intro ?_ ?_)
    · rw [g0]; rfl
    · rw [g1]; rfl
    · simp only [Int.toNat_natCast, digits, List.nil_append, List.cons_append]
  · refine t39_4 noT ?_
    rw [e1, e2, e3, dig_at, dig_at, dig_at, dig_at]
    refine gAnd_intro ?_ (gAnd_intro ?_ (gAnd_intro ?_ (gAnd_intro ?_ ?_)))
    · rw [g0]; rfl
    · rw [g1]; rfl
    · rw [g2]; rfl
    · rw [g3]; rfl
    · simp only [Int.toNat_natCast, digits, List.nil_append, List.cons_append]

theorem c38 : COk cfg 38 (namesC shortL) := by
  refine cok_pure pf38 fun vs h K ht => ?_
  obtain ⟨hv, hk⟩ := ht
  obtain rfl : vs = [] := by simpa using hv
  exact ⟨_, hk, t38 noT rfl⟩
theorem c40 : COk cfg 40 (namesC monL) := by
  refine cok_pure pf40 fun vs h K ht => ?_
  obtain ⟨hv, hk⟩ := ht
  obtain rfl : vs = [] := by simpa using hv
  exact ⟨_, hk, t40 noT rfl⟩
theorem c42 : COk cfg 42 (namesC longL) := by
  refine cok_pure pf42 fun vs h K ht => ?_
  obtain ⟨hv, hk⟩ := ht
  obtain rfl : vs = [] := by simpa using hv
  exact ⟨_, hk, t42 noT rfl⟩

theorem getE_at {α : Type} (f : α → List AV) (l : List α) {i : Nat} (h : i < l.length) : getE (l.map f) (i : Int) = f l[i] := by
  unfold getE
  simp [h]
theorem getE_encS (L : List (List UInt8)) {i : Nat} (h : i < L.length) : getE (encS L) (i : Int) = [.str (L.getD i [])] := by
  unfold encS
  rw [getE_at _ _ h]
  simp [List.getD, h]

theorem c36 : COk cfg 36 weekC := by
  refine cok_pure pf36 fun vs h K ht => ?_
  obtain ⟨n, L, hn, hL, rfl, hk⟩ := ht
  refine ⟨_, hk, t36 noT ?_⟩
  have e : Int.tmod ((n + 3 : Nat) : Int) 7 = (((n + 3) % 7 : Nat) : Int) := tmodN (n + 3) 7
  have ew : IntKind.wrap .i64 ((n : Int) + 3) = ((n + 3 : Nat) : Int) := by rw [wrap_in] <;> omega
  rw [ew, e]
  have hlen : (encS L).length = 7 := by simp [encS, hL]
  exact gAnd_intro (by rw [inR_of (by omega) (by omega)]; rfl) ⟨_, getE_encS L (by omega), rfl⟩

/-! Count -/
theorem ahd_pos {y : Nat} (h : 1970 ≤ y) : 0 ≤ ahd y := by
  have := ahd_le (a := 1970) (b := y) (by omega) h
  rwa [ahd_first] at this
theorem ahd_9999 {y : Nat} (h1 : 1970 ≤ y) (h : y ≤ 9999) : ahd y ≤ 2932532 := by
  have := ahd_le (a := y) (b := 9999) (by omega) h
  have e : ahd 9999 = 2932532 := by decide
  omega
theorem bef_max (y : Nat) {m : Nat} (h : m ≤ 13) : bef y m ≤ 366 := by
  rcases Nat.eq_zero_or_pos m with rfl | h1
  · exact Nat.zero_le _
  · have := bef_le y h1 h
    rw [bef_13] at this
    have := ylen_ge y
    omega

theorem loop37c (hT : TabOk cfg (ctab [(34, leapC), (35, longC)])) {y m d : Nat} (a b c : Int) (h1 : 1970 ≤ y) (h2 : y ≤ 9999) (h4 : m ≤ 12) (h6 : d ≤ 1000) : ∀ (k z : Nat), z + k = m → 1 ≤ z →
    ToEnd cfg 37 (bodyOf Tryd.f37) (RetIs Tryd.prog Tryd.f37 (.int .i64 (ahd y + (bef y m : Nat) + (d : Int) - 1))) [.code [0, 1, 0, 1, 1, 1], .block 2, .code [1, 1, 1, 1]] .normal
      [(1, true, .ptr 0 0), (3, true, .int .i64 ((d : Int) - 1 + ahd y + (bef y z : Nat))), (5, true, .int .i64 z)] [.mem 34 [.int .i64 y, .int .i64 m, .int .i64 d, .int .i64 a, .int .i64 b, .int .i64 c]] := by
  intro k
  have q1 := ahd_pos h1
  have q2 := ahd_9999 h1 h2
  induction k with
  | zero =>
    intro z hz hz1
    obtain rfl : z = m := by omega
    refine t37c hT (ifP_intro (fun hc => ?_) fun _ => ?_)
    · simp at hc
    · congr 1; omega
  | succ k ih =>
    intro z hz hz1
    refine t37c hT (ifP_intro (fun _ => ⟨y, z, by omega, hz1, by omega, rfl, ?_⟩) fun hc => ?_)
    · have hb := bef_max y (m := z) (by omega)
      have hg := longN_ge y z
      rw [wrap_in (n := (z : Int) + 1) (by omega) (by omega), wrap_in (by omega) (by omega)]
      have := ih (z + 1) (by omega) (by omega)
      rw [bef_succ y hz1] at this
      have e : (d : Int) - 1 + ahd y + ((bef y z + longN y z : Nat) : Int) = (d : Int) - 1 + ahd y + (bef y z : Nat) + (longN y z : Nat) := by omega
      rw [e] at this
      exact this
    · simp at hc; omega

theorem loop37b (hT : TabOk cfg (ctab [(34, leapC), (35, longC)])) {y m d : Nat} (a b c : Int) (h2 : y ≤ 9999) (h3 : 1 ≤ m) (h4 : m ≤ 12) (h5 : 1 ≤ d) (h6 : d ≤ 1000) : ∀ (k z : Nat), z + k = y → 1970 ≤ z →
    ToEnd cfg 37 (bodyOf Tryd.f37) (RetIs Tryd.prog Tryd.f37 (.int .i64 (ahd y + (bef y m : Nat) + (d : Int) - 1))) [.code [0, 1, 0, 1, 1], .block 0, .code [1, 1, 1]] .normal
      [(1, true, .ptr 0 0), (3, true, .int .i64 ((d : Int) - 1 + ahd z)), (4, true, .int .i64 z)] [.mem 34 [.int .i64 y, .int .i64 m, .int .i64 d, .int .i64 a, .int .i64 b, .int .i64 c]] := by
  intro k
  induction k with
  | zero =>
    intro z hz hz1
    obtain rfl : z = y := by omega
    refine t37b hT (ifP_intro (fun hc => ?_) fun _ => ?_)
    · simp at hc
    · have := loop37c hT a b c hz1 h2 h4 h6 (m - 1) 1 (by omega) (by omega)
      simpa [bef] using this
  | succ k ih =>
    intro z hz hz1
    have q1 := ahd_pos hz1
    have q2 := ahd_9999 hz1 (by omega)
    have hs := ahd_succ (y := z) (by omega)
    have := ih (z + 1) (by omega) (by omega)
    rw [hs] at this
    refine t37b hT (ifP_intro (fun _ => ⟨z, by omega, rfl, ifP_intro (fun hl => ?_) fun hl => ?_⟩) fun hc => ?_)
    · rw [wrap_in (n := (z : Int) + 1) (by omega) (by omega), wrap_in (n := (d : Int) - 1 + ahd z + 365) (by omega) (by omega), wrap_in (by omega) (by omega)]
      have e : ylen z = 366 := by unfold ylen; rw [hl]; rfl
      rw [e] at this
      rw [show (d : Int) - 1 + ahd z + 365 + 1 = (d : Int) - 1 + (ahd z + (366 : Nat)) by omega]
      exact this
    · rw [wrap_in (n := (z : Int) + 1) (by omega) (by omega), wrap_in (n := (d : Int) - 1 + ahd z + 365) (by omega) (by omega)]
      have e : ylen z = 365 := by unfold ylen; rw [hl]; rfl
      rw [e] at this
      rw [show (d : Int) - 1 + ahd z + 365 = (d : Int) - 1 + (ahd z + (365 : Nat)) by omega]
      exact this
    · simp at hc; omega

theorem c37 : COk cfg 37 countC := by
  refine cok_pure pf37 fun vs h K ht => ?_
  obtain ⟨y, m, d, a, b, c, h1, h2, h3, h4, h5, h6, rfl, hk⟩ := ht
  have hT := ctab_ok (ctab_cons c34 (ctab_cons c35 ctab_nil))
  refine ⟨_, hk, t37a hT ?_⟩
  rw [wrap_in (by omega) (by omega)]
  have := loop37b hT (a : Int) (b : Int) (c : Int) h2 h3 h4 h5 h6 (y - 1970) 1970 (by omega) (by omega)
  rw [ahd_first, Int.add_zero] at this
  exact this

/-! Of -/
theorem loop15c (hT : TabOk cfg (ctab [(34, leapC), (35, longC)])) {y r m : Nat} (h1 : 1970 ≤ y) (h2 : y ≤ 9999) (hm : inMonth y r m) (a0 a1 a2 a3 a4 a5 b2 b3 b4 b5 : Int) : ∀ (k z : Nat), z + k = m → 1 ≤ z →
    ToEnd cfg 15 (bodyOf Tryd.f15) (RetIs Tryd.prog Tryd.f15 (.agg [.int .i64 y, .int .i64 m, .int .i64 (r - bef y m + 1 : Nat), .int .i64 b3, .int .i64 b4, .int .i64 b5])) [.code [0, 0, 1, 1, 1, 1, 1], .block 2, .code [1, 1, 1, 1, 1, 1]] .normal
      [(2, true, .ptr 0 0), (3, true, .int .i64 (r - bef y z : Nat)), (5, true, .ptr 1 0)] [.mem 34 [.int .i64 a0, .int .i64 a1, .int .i64 a2, .int .i64 a3, .int .i64 a4, .int .i64 a5], .mem 34 [.int .i64 y, .int .i64 z, .int .i64 b2, .int .i64 b3, .int .i64 b4, .int .i64 b5]] := by
  obtain ⟨m1, m2, m3, m4⟩ := hm
  have hb13 := bef_max y (m := m + 1) (by omega)
  intro k
  induction k with
  | zero =>
    intro z hz hz1
    obtain rfl : z = m := by omega
    rw [bef_succ y hz1] at m4
    have hg := longN_ge y z
    have hbz := bef_max y (m := z) (by omega)
    refine t15c hT ⟨y, z, by omega, hz1, by omega, rfl, ifP_intro (fun hc => ?_) fun _ => ?_⟩
    · simp at hc; omega
    · rw [wrap_in (by omega) (by omega)]
      rfl
  | succ k ih =>
    intro z hz hz1
    have hle := bef_le y (a := z + 1) (b := m) (by omega) (by omega)
    rw [bef_succ y hz1] at hle
    have hg := longN_ge y z
    refine t15c hT ⟨y, z, by omega, hz1, by omega, rfl, ifP_intro (fun _ => ⟨y, z, by omega, hz1, by omega, rfl, ?_⟩) fun hc => ?_⟩
    · rw [wrap_in (n := (z : Int) + 1) (by omega) (by omega), wrap_in (by omega) (by omega)]
      have := ih (z + 1) (by omega) (by omega)
      rw [bef_succ y hz1] at this
      rw [show ((r - bef y z : Nat) : Int) - (longN y z : Nat) = ((r - (bef y z + longN y z) : Nat) : Int) by omega]
      exact this
    · simp at hc; omega

theorem loop15b (hT : TabOk cfg (ctab [(34, leapC), (35, longC)])) {d : Nat} (hd : d ≤ 2932896) (a0 a1 a2 a3 a4 a5 b2 b3 b4 b5 : Int) : ∀ (k z : Nat), z + k = yearOf d → 1970 ≤ z →
    ToEnd cfg 15 (bodyOf Tryd.f15) (RetIs Tryd.prog Tryd.f15 (.agg [.int .i64 (yearOf d), .int .i64 (monthOf d), .int .i64 (dayOf d), .int .i64 b3, .int .i64 b4, .int .i64 b5])) [.code [0, 0, 1, 1, 1, 1], .block 0, .code [1, 1, 1, 1, 1]] .normal
      [(2, true, .ptr 0 0), (3, true, .int .i64 ((d : Int) - ahd z)), (5, true, .ptr 1 0)] [.mem 34 [.int .i64 a0, .int .i64 a1, .int .i64 a2, .int .i64 a3, .int .i64 a4, .int .i64 a5], .mem 34 [.int .i64 z, .int .i64 1, .int .i64 b2, .int .i64 b3, .int .i64 b4, .int .i64 b5]] := by
  have hy := yearOf_spec d
  have hyl := year_le hd
  intro k
  induction k with
  | zero =>
    intro z hz hz1
    obtain rfl : z = yearOf d := by omega
    have hr := restOf_eq d
    have hlt := restOf_lt d
    have next := loop15c hT (r := restOf d) (m := monthOf d) hz1 hyl (monthOf_spec d) a0 a1 a2 a3 a4 a5 b2 b3 b4 b5 (monthOf d - 1) 1 (by have := (monthOf_spec d).1; omega) (by omega)
    simp only [bef, Nat.sub_zero, hr] at next
    refine t15b hT ⟨yearOf d, by omega, rfl, ifP_intro (fun hl => ifP_intro (fun _ => next) fun hc => ?_) fun hl => ifP_intro (fun _ => next) fun hc => ?_⟩
    · have e : ylen (yearOf d) = 366 := by unfold ylen; rw [hl]; rfl
      simp at hc; omega
    · have e : ylen (yearOf d) = 365 := by unfold ylen; rw [hl]; rfl
      simp at hc; omega
  | succ k ih =>
    intro z hz hz1
    have hs := ahd_succ (y := z) (by omega)
    have hle := ahd_le (a := z + 1) (b := yearOf d) (by omega) (by omega)
    have hle0 := ahd_pos hz1
    have h2 := hy.2.1
    have := ih (z + 1) (by omega) (by omega)
    rw [hs] at this
    refine t15b hT ⟨z, by omega, rfl, ifP_intro (fun hl => ifP_intro (fun hc => ?_) fun _ => ?_) fun hl => ifP_intro (fun hc => ?_) fun _ => ?_⟩
    · have e : ylen z = 366 := by unfold ylen; rw [hl]; rfl
      simp at hc; omega
    · have e : ylen z = 366 := by unfold ylen; rw [hl]; rfl
      rw [e] at this
      rw [wrap_in (n := (z : Int) + 1) (by omega) (by omega), wrap_in (by omega) (by omega), show (d : Int) - ahd z - 366 = (d : Int) - (ahd z + (366 : Nat)) by omega]
      exact this
    · have e : ylen z = 365 := by unfold ylen; rw [hl]; rfl
      simp at hc; omega
    · have e : ylen z = 365 := by unfold ylen; rw [hl]; rfl
      rw [e] at this
      rw [wrap_in (n := (z : Int) + 1) (by omega) (by omega), wrap_in (by omega) (by omega), show (d : Int) - ahd z - 365 = (d : Int) - (ahd z + (365 : Nat)) by omega]
      exact this

theorem c15 : COk cfg 15 ofC := by
  refine cok_pure pf15 fun vs h K ht => ?_
  obtain ⟨t, hlt, rfl, hk⟩ := ht
  have hT := ctab_ok (ctab_cons c34 (ctab_cons c35 ctab_nil))
  refine ⟨_, hk, t15a hT ?_⟩
  unfold lastT at hlt
  have e1 : Int.tdiv (t : Int) 86400 = ((t / 86400 : Nat) : Int) := tdivN t 86400
  have e2 : Int.tmod (t : Int) 86400 = ((t % 86400 : Nat) : Int) := tmodN t 86400
  have e3 : Int.tdiv ((t % 86400 : Nat) : Int) 3600 = ((t % 86400 / 3600 : Nat) : Int) := tdivN (t % 86400) 3600
  have e4 : Int.tdiv ((t % 86400 : Nat) : Int) 60 = ((t % 86400 / 60 : Nat) : Int) := tdivN (t % 86400) 60
  have e5 : Int.tmod ((t % 86400 / 60 : Nat) : Int) 60 = ((t % 86400 / 60 % 60 : Nat) : Int) := tmodN (t % 86400 / 60) 60
  have e6 : Int.tmod ((t % 86400 : Nat) : Int) 60 = ((t % 86400 % 60 : Nat) : Int) := tmodN (t % 86400) 60
  rw [e1, e2, e3, e4, wrap_in (n := ((t / 86400 : Nat) : Int)) (by omega) (by omega), wrap_in (n := ((t % 86400 / 3600 : Nat) : Int)) (by omega) (by omega), wrap_in (n := ((t % 86400 / 60 : Nat) : Int)) (by omega) (by omega), e5, e6]
  have hy := (yearOf_spec (t / 86400)).1
  have := loop15b hT (d := t / 86400) (by omega) 0 0 0 0 0 0 0 ((t % 86400 / 3600 : Nat) : Int) ((t % 86400 / 60 % 60 : Nat) : Int) ((t % 86400 % 60 : Nat) : Int) (yearOf (t / 86400) - 1970) 1970 (by omega) (by omega)
  rw [ahd_first, Int.sub_zero] at this
  exact this
end Go.Proofs.YtnefabbpjepppaaDoor
