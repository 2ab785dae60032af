/-
  The text of a date, the document's and the program's: contracts of Fixed and of both Puts.
-/
import Derived.Test.YtnefabbpjepppaaDoorPD2
namespace Go.Proofs.YtnefabbpjepppaaDoor
open Go.Ai Go
set_option linter.unusedSimpArgs false
set_option linter.unusedVariables false

theorem okLen {a : Nat} (h : a ≤ 1000) : decide (a ≤ 9223372036854775807) = true := decide_eq_true (by omega)
theorem c41 : COk cfg 41 clockC := by
  refine cok_pure pf41 fun vs h K ht => ?_
  obtain ⟨y, m, d, a, b, c, ha, hb, hc, rfl, hk⟩ := ht
  refine ⟨_, hk, t41 (ctab_ok (ctab_cons c39 ctab_nil)) ?_⟩
  exact ⟨a, 2, ha, .inr (.inl rfl), rfl, gAnd_intro (okLen (by simp only [digits_len]; omega)) ⟨b, 2, hb, .inr (.inl rfl), rfl, gAnd_intro (okLen (by simp [digits_len])) (gAnd_intro (okLen (by simp [digits_len])) ⟨c, 2, hc, .inr (.inl rfl), rfl, gAnd_intro (okLen (by simp [digits_len])) rfl⟩)⟩⟩

theorem getD_le (L : List (List UInt8)) (n : Nat) (h : ∀ s ∈ L, s.length ≤ n) (i : Nat) : (L.getD i []).length ≤ n := by
  simp only [List.getD]
  cases hi : L[i]? with
  | none => simp
  | some s => simpa using h s (List.mem_of_getElem? hi)
theorem short_le (i : Nat) : (shortL.getD i []).length ≤ 3 := getD_le shortL 3 (by decide) i
theorem long_le (i : Nat) : (longL.getD i []).length ≤ 9 := getD_le longL 9 (by decide) i
theorem mon_le (i : Nat) : (monL.getD i []).length ≤ 3 := getD_le monL 3 (by decide) i

theorem cntN_eq {y m d : Nat} (h1 : 1970 ≤ y) (h : 1 ≤ d) : ((cntN y m d : Nat) : Int) = ahd y + (bef y m : Nat) + (d : Int) - 1 := by
  have := ahd_pos h1
  unfold cntN
  omega

theorem c16 : COk cfg 16 fixedC := by
  refine cok_pure pf16 fun vs h K ht => ?_
  obtain ⟨y, m, d, a, b, c, ok, rfl, hk⟩ := ht
  obtain ⟨y1, y2, m1, m2, d1, d2', a1, b1, c1⟩ := ok
  have hlg := longN_ge y m
  have hT := ctab_ok (ctab_cons c36 (ctab_cons c37 (ctab_cons c38 (ctab_cons c39 (ctab_cons c40 (ctab_cons c41 ctab_nil))))))
  refine ⟨_, hk, t16 hT ?_⟩
  have hc := cntN_eq (m := m) y1 d1
  have hb1 := bef_max y (m := m) (by omega)
  have ha9 := ahd_9999 y1 y2
  have hw := short_le ((cntN y m d + 3) % 7)
  have hmo := mon_le (m - 1)
  have hmw : IntKind.wrap .i64 ((m : Int) - 1) = ((m - 1 : Nat) : Int) := by rw [wrap_in] <;> omega
  have hml : (encS monL).length = 12 := by decide
  refine ⟨y, m, d, a, b, c, y1, y2, m1, m2, d1, by omega, rfl, rfl, cntN y m d, shortL, by omega, rfl, by rw [hc]; rfl, gAnd_intro (okLen (by omega)) ⟨d, 2, by omega, .inr (.inl rfl), rfl, ?_⟩⟩
  refine gAnd_intro (okLen ?_) (gAnd_intro (okLen ?_) ⟨rfl, gAnd_intro ?_ ⟨monL.getD (m - 1) [], ?_, gAnd_intro (okLen ?_) (gAnd_intro (okLen ?_) ⟨y, 4, by omega, .inr (.inr rfl), rfl, gAnd_intro (okLen ?_) (gAnd_intro (okLen ?_) ⟨y, m, d, a, b, c, by omega, by omega, by omega, rfl, gAnd_intro (okLen ?_) (gAnd_intro (okLen ?_) ?_)⟩)⟩)⟩⟩)
  · simp only [List.length_append, List.length_cons, List.length_nil, digits_len]; omega
  · simp only [List.length_append, List.length_cons, List.length_nil, digits_len]; omega
  · rw [hmw, inR_of (by omega) (by omega)]; rfl
  · rw [hmw]; exact getE_encS monL (by show m - 1 < 12; omega)
  · simp only [List.length_append, List.length_cons, List.length_nil, digits_len]; omega
  · simp only [List.length_append, List.length_cons, List.length_nil, digits_len]; omega
  · simp only [List.length_append, List.length_cons, List.length_nil, digits_len]; omega
  · simp only [List.length_append, List.length_cons, List.length_nil, digits_len]; omega
  · simp only [List.length_append, List.length_cons, List.length_nil, digits_len]; omega
  · simp only [List.length_append, List.length_cons, List.length_nil, digits_len]; omega
  · rw [digits_4]
    rfl

theorem dateOk_of {d : Nat} (hd : d ≤ 2932896) (s : Nat) (hs : s < 86400) : DateOk (yearOf d) (monthOf d) (dayOf d) (s / 3600) (s / 60 % 60) (s % 60) := by
  have hm := monthOf_spec d
  obtain ⟨m1, m2, m3, m4⟩ := hm
  rw [bef_succ _ m1] at m4
  refine ⟨(yearOf_spec d).1, year_le hd, m1, m2, by unfold dayOf; omega, by unfold dayOf; omega, by omega, by omega, by omega⟩
theorem cnt_of {d : Nat} : cntN (yearOf d) (monthOf d) (dayOf d) = d := by
  have hr := restOf_eq d
  have hm := monthOf_spec d
  obtain ⟨m1, m2, m3, m4⟩ := hm
  unfold cntN dayOf
  omega

theorem c14 : COk cfg 14 putC := by
  refine cok_pure pf14 fun vs h K ht => ?_
  obtain ⟨t, rfl, hk⟩ := ht
  refine ⟨_, hk, t14 (ctab_ok (ctab_cons c15 (ctab_cons c16 ctab_nil))) ?_⟩
  unfold putS
  refine ifP_intro (fun h1 => ?_) fun h1 => ifP_intro (fun h2 => ?_) fun h2 => ?_
  · simp at h1; rw [if_neg (by omega)]
  · simp at h2; rw [if_neg (by unfold lastT; omega)]
  · simp at h1 h2
    rw [if_pos ⟨h1, by unfold lastT; omega⟩]
    obtain ⟨n, rfl⟩ : ∃ n : Nat, t = n := ⟨t.toNat, by omega⟩
    have ok := dateOk_of (d := n / 86400) (by omega) (n % 86400) (by omega)
    refine ⟨n, by omega, rfl, _, _, _, _, _, _, ok, rfl, ?_⟩
    rw [cnt_of]
    rfl
end Go.Proofs.YtnefabbpjepppaaDoor
