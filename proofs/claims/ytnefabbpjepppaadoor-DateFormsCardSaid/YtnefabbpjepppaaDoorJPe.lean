/-
  The document's readers of numbers, months and times keep to their contracts.
  The document's texts of a date in the other two forms: contracts of Old and Plain.
  The document's Parse keeps to its contract.
-/
import Derived.Test.YtnefabbpjepppaaDoorJPc
import Derived.Test.YtnefabbpjepppaaDoorJDt
import Derived.Test.YtnefabbpjepppaaDoorJTr
import Derived.Test.YtnefabbpjepppaaDoorJTy
section
namespace Go.Proofs.YtnefabbpjepppaaDoor
open Go.Ai Go
set_option linter.unusedSimpArgs false
set_option linter.unusedVariables false
set_option maxRecDepth 100000

theorem pf17 : pureFn cfg 17 Tryd.f17 := ⟨by kernel_rfl, by kernel_rfl, by kernel_rfl, by kernel_rfl, by kernel_rfl, by kernel_rfl⟩
theorem pf18 : pureFn cfg 18 Tryd.f18 := ⟨by kernel_rfl, by kernel_rfl, by kernel_rfl, by kernel_rfl, by kernel_rfl, by kernel_rfl⟩
theorem pf24 : pureFn cfg 24 Tryd.f24 := ⟨by kernel_rfl, by kernel_rfl, by kernel_rfl, by kernel_rfl, by kernel_rfl, by kernel_rfl⟩
theorem pf25 : pureFn cfg 25 Tryd.f25 := ⟨by kernel_rfl, by kernel_rfl, by kernel_rfl, by kernel_rfl, by kernel_rfl, by kernel_rfl⟩
theorem pf26 : pureFn cfg 26 Tryd.f26 := ⟨by kernel_rfl, by kernel_rfl, by kernel_rfl, by kernel_rfl, by kernel_rfl, by kernel_rfl⟩
theorem pf27 : pureFn cfg 27 Tryd.f27 := ⟨by kernel_rfl, by kernel_rfl, by kernel_rfl, by kernel_rfl, by kernel_rfl, by kernel_rfl⟩
theorem pf28 : pureFn cfg 28 Tryd.f28 := ⟨by kernel_rfl, by kernel_rfl, by kernel_rfl, by kernel_rfl, by kernel_rfl, by kernel_rfl⟩
theorem pf29 : pureFn cfg 29 Tryd.f29 := ⟨by kernel_rfl, by kernel_rfl, by kernel_rfl, by kernel_rfl, by kernel_rfl, by kernel_rfl⟩

def numV (o : Option (Nat × List UInt8)) : AV := .int .i64 (match o with
  | some (k, _) => (k : Int)
  | none => -1)
/-- A round of num: so many digits are still to be read. -/
theorem loop24 (hT : TabOk cfg (ctab [])) (s : List UInt8) (p n : Nat) (hp : p ≤ 1000000) (hn : n ≤ 4) (hl : p + n ≤ s.length) : ∀ (r i k : Nat), i + r = p + n → k < 10 ^ (n - r) → r ≤ n →
    ToEnd cfg 24 (bodyOf Tryd.f24) (RetIs Tryd.prog Tryd.f24 (numV (numA r k (s.drop i)))) [Fm.code [0, 1, 0, 1, 1, 1], Fm.block 0, Fm.code [1, 1, 1, 1]] XT.normal [(0, true, AV.str s), (1, true, .int .i64 p), (2, true, .int .i64 n), (7, true, .int .i64 k), (8, true, .int .i64 i)] [] := by
  have hw : IntKind.wrap .i64 ((p : Int) + (n : Int)) = ((p + n : Nat) : Int) := by rw [wrap_in (by omega) (by omega)]; omega
  intro r
  induction r with
  | zero =>
    intro i k hi hk hr
    refine t24b hT (ifP_intro (fun a => ?_) fun a => rfl)
    rw [hw] at a; simp at a; omega
  | succ r ih =>
    intro i k hi hk hr
    have hil : i < s.length := by omega
    have hd : s.drop i = s[i] :: s.drop (i + 1) := List.drop_eq_getElem_cons hil
    have hg : s.getD i 0 = s[i] := by simp [List.getD, hil]
    have ih' := ih (i + 1) (10 * k + (s[i].toNat - 48)) (by omega)
    have hk4 : k < 1000 := by
      have : 10 ^ (n - (r + 1)) ≤ 10 ^ 3 := Nat.pow_le_pow_right (by omega) (by omega)
      omega
    refine t24b hT (ifP_intro (fun a => ?_) fun a => ?_)
    · simp only [Int.toNat_natCast, hg]
      refine gAnd_intro (inR_of (by omega) (by omega)) (ifP_intro (fun h => ?_) fun lo => gAnd_intro (inR_of (by omega) (by omega)) (ifP_intro (fun h => ?_) fun hi' => gAnd_intro (inR_of (by omega) (by omega)) ?_))
      · have e := dig_lo h
        rw [hd, numA, e]; rfl
      · have e := dig_hi h
        rw [hd, numA, e]; rfl
      · obtain ⟨e, b⟩ := digc_ok lo hi'
        rw [dig_val b, w_next (by omega) (by omega), wrap_in (n := (i : Int) + 1) (by omega) (by omega)]
        rw [hd, numA, e, cond_true]
        refine ih' ?_ (by omega)
        rw [show n - r = n - (r + 1) + 1 by omega, Nat.pow_succ]; omega
    · rw [hw] at a; simp at a; omega
theorem c24 : COk cfg 24 numAtC := by
  refine cok_pure pf24 fun vs h K ht => ?_
  obtain ⟨s, p, n, hs, p1, p2, hn, rfl, hk⟩ := ht
  refine ⟨_, hk, ?_⟩
  unfold numAt
  have hw : IntKind.wrap .i64 (p + (n : Int)) = p + n := by rw [wrap_in] <;> omega
  refine t24a noT (ifP_intro (fun a => ?_) fun a => ifP_intro (fun b => ?_) fun b => ?_)
  · simp at a; rw [if_pos (.inl a)]
  · rw [hw] at b; simp at b; rw [if_pos (.inr b)]
  · rw [hw] at b; simp at a b
    rw [if_neg (by omega)]
    obtain ⟨q, rfl⟩ : ∃ q : Nat, p = q := ⟨p.toNat, by omega⟩
    exact loop24 noT s q n (by omega) (by omega) (by omega) n q 0 rfl (by simp) (Nat.le_refl _)

theorem loop25 (hT : TabOk cfg (ctab [(40, namesC monL)])) (s : List UInt8) (p : Int) (hs : s.length ≤ 1000000) (p1 : -1000000 ≤ p) (p2 : p ≤ 1000000) : ∀ (r pre : List (List UInt8)), (pre ++ r).length ≤ 100 →
    ToEnd cfg 25 (bodyOf Tryd.f25) (RetIs Tryd.prog Tryd.f25 (.int .i64 (if p < 0 ∨ (s.length : Int) < p + 3 then 0 else monG ((s.drop p.toNat).take 3) r pre.length : Nat))) [Fm.code [0, 1, 0, 1, 1], Fm.block 0, Fm.code [1, 1, 1]] XT.normal [(0, true, AV.str s), (1, true, .int .i64 p), (5, true, .sl 1 (encS (pre ++ r)) none), (6, true, .int .i64 pre.length)] [] := by
  have hw : IntKind.wrap .i64 (p + 3) = p + 3 := by rw [wrap_in] <;> omega
  intro r
  induction r with
  | nil =>
    intro pre hl
    refine t25b hT (ifP_intro (fun a => ?_) fun a => ?_)
    · rw [encS_len] at a; simp at a
    · simp only [monG]
      split <;> rfl
  | cons x r ih =>
    intro pre hl
    have hl' : pre.length + (r.length + 1) ≤ 100 := by simpa using hl
    have e : (pre ++ [x]) ++ r = pre ++ x :: r := by simp
    have ih := ih (pre ++ [x]) (by rw [e]; exact hl)
    have el : (pre ++ [x]).length = pre.length + 1 := by simp
    rw [e, el] at ih
    have ew : IntKind.wrap .i64 ((pre.length : Int) + 1) = ((pre.length + 1 : Nat) : Int) := by rw [wrap_in (by omega) (by omega)]; omega
    have eg : getE (encS (pre ++ x :: r)) (pre.length : Int) = [.str x] := by
      rw [getE_encS _ (by simp)]; simp
    refine t25b hT (ifP_intro (fun a => ?_) fun a => ?_)
    · rw [ew, hw]
      refine ifP_intro (fun b => ifP_intro (fun c => ?_) fun c => ?_) fun b => ?_
      · simp at b c
        refine gAnd_intro ?_ (gAnd_intro (by rw [inR_of (by omega) (by rw [encS_len]; simp only [List.length_append, List.length_cons]; omega)]; rfl) ⟨x, eg, ?_⟩)
        · simp only [cutOb, Bool.and_eq_true, decide_eq_true_eq]; omega
        · have ec : cutL s (some p) (some (p + 3)) = (s.drop p.toNat).take 3 := by
            show (s.take (p + 3).toNat).drop p.toNat = _
            rw [show (p + 3).toNat = p.toNat + 3 by omega, List.drop_take]
            congr 1; omega
          rw [ec]
          rw [if_neg (by omega)] at ih ⊢
          rw [monG]
          refine ifP_intro (fun d => ?_) fun d => ?_
          · rw [d]; rfl
          · rw [d]; exact ih
      · simp at c
        rw [if_pos (.inr c)] at ih ⊢
        exact ih
      · simp at b
        rw [if_pos (.inl b)] at ih ⊢
        exact ih
    · rw [encS_len] at a; simp at a; omega
theorem c25 : COk cfg 25 monAtC := by
  have hT := ctab_ok (ctab_cons c40 ctab_nil)
  refine cok_pure pf25 fun vs h K ht => ?_
  obtain ⟨s, p, hs, p1, p2, rfl, hk⟩ := ht
  exact ⟨_, hk, t25a hT ⟨rfl, loop25 hT s p hs p1 p2 monL [] (by decide)⟩⟩
theorem c26 : COk cfg 26 timeC := by
  refine cok_pure pf26 fun vs h K ht => ?_
  obtain ⟨y, m, d, a, b, c, s, p, hs, p1, p2, rfl, hk⟩ := ht
  refine ⟨_, hk, t26 (ctab_ok (ctab_cons c24 ctab_nil)) ⟨s, p, 2, hs, by omega, by omega, .inr (.inl rfl), rfl, s, p + 3, 2, hs, by omega, by omega, .inr (.inl rfl), ?_, s, p + 6, 2, hs, by omega, by omega, .inr (.inl rfl), ?_, rfl⟩⟩
  · rw [wrap_in (by omega) (by omega)]; rfl
  · rw [wrap_in (by omega) (by omega)]; rfl
theorem c27 : COk cfg 27 mayC := by
  refine cok_pure pf27 fun vs h K ht => ?_
  obtain ⟨y, m, d, a, b, c, rfl, hk⟩ := ht
  have hno : ¬mayP y m d a b c → AV.bool false = AV.bool (mayB y m d a b c) := fun h => by unfold mayB; rw [decide_eq_false h]
  refine ⟨_, hk, t27 (ctab_ok (ctab_cons c35 ctab_nil)) (ifP_intro (fun a1 => ifP_intro (fun a2 => ifP_intro (fun a3 => ifP_intro (fun a4 => ifP_intro (fun a5 => ?_) fun h => ?_) fun h => ?_) fun h => ?_) fun h => ?_) fun h => ?_)⟩
  · simp at a1 a2 a3 a4 a5
    refine ⟨y.toNat, m.toNat, by omega, by omega, by omega, ?_, ifP_intro (fun a6 => ifP_intro (fun a7 => ifP_intro (fun a8 => ifP_intro (fun a9 => ifP_intro (fun a10 => ifP_intro (fun a11 => ?_) fun h => ?_) fun h => ?_) fun h => ?_) fun h => ?_) fun h => ?_) fun h => ?_⟩
    · rw [Int.toNat_of_nonneg (by omega), Int.toNat_of_nonneg (by omega)]
    · simp at a6 a7 a8 a9 a10 a11
      congr 1
      unfold mayB
      rw [decide_eq_decide]
      unfold mayP
      constructor
      · intro h; exact ⟨a1, a2, a3, a4, a5, a6, a7, a8, a9, a10, a11, h⟩
      · intro h; exact h.2.2.2.2.2.2.2.2.2.2.2
    all_goals simp at h; exact hno (by unfold mayP; omega)
  all_goals simp at h; exact hno (by unfold mayP; omega)
theorem c28 : COk cfg 28 tickDC := by
  refine cok_pure pf28 fun vs h K ht => ?_
  obtain ⟨y, m, d, a, b, c, ok, rfl, hk⟩ := ht
  obtain ⟨y1, y2, m1, m2, d1, d2', a1, b1, c1⟩ := ok
  have hlg := longN_ge y m
  refine ⟨_, hk, t28 (ctab_ok (ctab_cons c37 ctab_nil)) ⟨y, m, d, a, b, c, y1, y2, m1, m2, d1, by omega, rfl, ?_⟩⟩
  have hc := cntN_eq (m := m) y1 d1
  have hb1 := bef_max y (m := m) (by omega)
  have ha9 := ahd_9999 y1 y2
  have hcb : cntN y m d ≤ 3000000 := by omega
  rw [← hc]
  congr 1
  unfold tickN
  rw [wrap_in (n := ((cntN y m d : Nat) : Int) * 86400) (by omega) (by omega), wrap_in (n := 3600 * (a : Int)) (by omega) (by omega), wrap_in (n := 60 * (b : Int)) (by omega) (by omega), wrap_in (n := 3600 * (a : Int) + 60 * (b : Int)) (by omega) (by omega), wrap_in (n := 3600 * (a : Int) + 60 * (b : Int) + (c : Int)) (by omega) (by omega), wrap_in (by omega) (by omega)]
  omega
theorem loop29 (hT : TabOk cfg (ctab [(15, ofC)])) (g : Nat) (hg : g < 100) (t : Nat) (t1 : 2020 ≤ t) (t2 : t ≤ 10049) : ∀ (k y : Nat), y = t - (t - g) % 100 + k → y ≤ t →
    ToEnd cfg 29 (bodyOf Tryd.f29) (RetIs Tryd.prog Tryd.f29 (.int .i64 ((t - (t - g) % 100 : Nat)))) [Fm.code [0, 0, 1, 1, 1, 1], Fm.block 0, Fm.code [1, 1, 1, 1, 1]] XT.normal [(0, true, .int .i64 g), (5, true, .int .i64 y)] [] := by
  intro k
  induction k with
  | zero =>
    intro y hy hl
    refine t29b hT (ifP_intro (fun a => ?_) fun a => ?_)
    · rw [show Int.tmod (y : Int) 100 = ((y % 100 : Nat) : Int) from tmodN y 100] at a
      simp at a; omega
    · rw [hy]; rfl
  | succ k ih =>
    intro y hy hl
    refine t29b hT (ifP_intro (fun a => ?_) fun a => ?_)
    · rw [wrap_in (by omega) (by omega), show (y : Int) - 1 = ((y - 1 : Nat) : Int) by omega]
      exact ih (y - 1) (by omega) (by omega)
    · rw [show Int.tmod (y : Int) 100 = ((y % 100 : Nat) : Int) from tmodN y 100] at a
      simp at a; omega
theorem top_le2 (now : Int) : 2020 ≤ topY now ∧ topY now ≤ 10049 := by
  unfold topY
  have h1 := (yearOf_spec ((max 0 (min now 253402300799)).toNat / 86400)).1
  have h2 := year_le (d := (max 0 (min now 253402300799)).toNat / 86400) (by omega)
  omega
theorem c29 : COk cfg 29 nearC := by
  have hT := ctab_ok (ctab_cons c15 ctab_nil)
  refine cok_pure pf29 fun vs h K ht => ?_
  obtain ⟨g, now, hg, rfl, hk⟩ := ht
  refine ⟨_, hk, ?_⟩
  have hb := top_le2 now
  have key : ∀ t : Nat, (t : Int) = max 0 (min now 253402300799) → ToEnd cfg 29 (bodyOf Tryd.f29) (RetIs Tryd.prog Tryd.f29 (.int .i64 (near g now))) [Fm.code [0, 0, 1, 1, 1, 1], Fm.block 0, Fm.code [1, 1, 1, 1, 1]] XT.normal [(0, true, .int .i64 g), (5, true, .int .i64 (IntKind.wrap .i64 ((yearOf (t / 86400) : Int) + 50)))] [] := by
    intro t ht
    have e : topY now = yearOf (t / 86400) + 50 := by unfold topY; rw [← ht]; rfl
    rw [show (yearOf (t / 86400) : Int) + 50 = ((topY now : Nat) : Int) by omega, wrap_in (by omega) (by omega)]
    exact loop29 hT g hg (topY now) hb.1 hb.2 ((topY now - g) % 100) (topY now) (by omega) (Nat.le_refl _)
  refine t29a hT (ifP_intro (fun a => ⟨0, by omega, rfl, ?_⟩) fun a => ifP_intro (fun b => ⟨253402300799, by omega, rfl, ?_⟩) fun b => ⟨now.toNat, ?_, ?_, ?_⟩)
  · simp at a; exact key 0 (by omega)
  · simp at b; exact key 253402300799 (by omega)
  · simp at a b; omega
  · simp at a b; rw [Int.toNat_of_nonneg (by omega)]
  · simp at a b; exact key now.toNat (by omega)
end Go.Proofs.YtnefabbpjepppaaDoor
end

section
namespace Go.Proofs.YtnefabbpjepppaaDoor
open Go.Ai Go
set_option linter.unusedSimpArgs false
set_option linter.unusedVariables false
set_option maxRecDepth 100000

theorem c17 : COk cfg 17 oldC := by
  refine cok_pure pf17 fun vs h K ht => ?_
  obtain ⟨y, m, d, a, b, c, ok, rfl, hk⟩ := ht
  obtain ⟨y1, y2, m1, m2, d1, d2', a1, b1, c1⟩ := ok
  have hlg := longN_ge y m
  have hT := ctab_ok (ctab_cons c36 (ctab_cons c37 (ctab_cons c42 (ctab_cons c39 (ctab_cons c40 (ctab_cons c41 ctab_nil))))))
  refine ⟨_, hk, t17 hT ?_⟩
  have hc := cntN_eq (m := m) y1 d1
  have hb1 := bef_max y (m := m) (by omega)
  have ha9 := ahd_9999 y1 y2
  have hw := long_le ((cntN y m d + 3) % 7)
  have hmo := mon_le (m - 1)
  have hmw : IntKind.wrap .i64 ((m : Int) - 1) = ((m - 1 : Nat) : Int) := by rw [wrap_in] <;> omega
  have hml : (encS monL).length = 12 := by decide
  refine ⟨y, m, d, a, b, c, y1, y2, m1, m2, d1, by omega, rfl, rfl, cntN y m d, longL, by omega, rfl, by rw [hc]; rfl, gAnd_intro (okLen ?_) ⟨d, 2, by omega, .inr (.inl rfl), rfl, ?_⟩⟩
  · omega
  refine gAnd_intro (okLen ?_) (gAnd_intro (okLen ?_) ⟨rfl, gAnd_intro ?_ ⟨monL.getD (m - 1) [], ?_, gAnd_intro (okLen ?_) (gAnd_intro (okLen ?_) ⟨y, 2, by omega, .inr (.inl rfl), rfl, gAnd_intro (okLen ?_) (gAnd_intro (okLen ?_) ⟨y, m, d, a, b, c, by omega, by omega, by omega, rfl, gAnd_intro (okLen ?_) (gAnd_intro (okLen ?_) rfl)⟩)⟩)⟩⟩)
  · simp only [List.length_append, List.length_cons, List.length_nil, digits_len]; omega
  · simp only [List.length_append, List.length_cons, List.length_nil, digits_len]; omega
  · rw [hmw, inR_of (by omega) (by omega)]; rfl
  · rw [hmw]; exact getE_encS monL (by show m - 1 < 12; omega)
  · simp only [List.length_append, List.length_cons, List.length_nil, digits_len]; omega
  · simp only [List.length_append, List.length_cons, List.length_nil, digits_len]; omega
  · simp only [List.length_append, List.length_cons, List.length_nil, digits_len]; omega
  · simp only [List.length_append, List.length_cons, List.length_nil, digits_len]; omega
  · simp only [List.length_append, List.length_cons, List.length_nil, digits_len]; omega
  · simp only [List.length_append, List.length_cons, List.length_nil, digits_len]; omega

theorem c18 : COk cfg 18 plainC := by
  refine cok_pure pf18 fun vs h K ht => ?_
  obtain ⟨y, m, d, a, b, c, bl, ok, rfl, hk⟩ := ht
  obtain ⟨y1, y2, m1, m2, d1, d2', a1, b1, c1⟩ := ok
  have hlg := longN_ge y m
  have hT := ctab_ok (ctab_cons c36 (ctab_cons c37 (ctab_cons c38 (ctab_cons c39 (ctab_cons c40 (ctab_cons c41 ctab_nil))))))
  refine ⟨_, hk, t18 hT ?_⟩
  have hc := cntN_eq (m := m) y1 d1
  have hb1 := bef_max y (m := m) (by omega)
  have ha9 := ahd_9999 y1 y2
  have hw := short_le ((cntN y m d + 3) % 7)
  have hmo := mon_le (m - 1)
  have hmw : IntKind.wrap .i64 ((m : Int) - 1) = ((m - 1 : Nat) : Int) := by rw [wrap_in] <;> omega
  have hml : (encS monL).length = 12 := by decide
  have h1 : (digits d 1).length = 1 := digits_len 1 d
  refine ⟨d, 2, by omega, .inr (.inl rfl), rfl, ifP_intro (fun e => ⟨d, 1, by omega, .inl rfl, rfl, gAnd_intro (okLen (by omega)) ?_⟩) fun e => ?_⟩
  · subst e
    refine ⟨y, m, d, a, b, c, y1, y2, m1, m2, d1, by omega, rfl, rfl, cntN y m d, shortL, by omega, rfl, by rw [hc]; rfl, gAnd_intro (okLen ?_) ⟨rfl, gAnd_intro ?_ ⟨monL.getD (m - 1) [], ?_, ?_⟩⟩⟩
    · omega
    · rw [hmw, inR_of (by omega) (by omega)]; rfl
    · rw [hmw]; exact getE_encS monL (by show m - 1 < 12; omega)
    · refine gAnd_intro (okLen ?_) (gAnd_intro (okLen ?_) (gAnd_intro (okLen ?_) (gAnd_intro (okLen ?_) ⟨y, m, d, a, b, c, by omega, by omega, by omega, rfl, gAnd_intro (okLen ?_) (gAnd_intro (okLen ?_) ⟨y, 4, by omega, .inr (.inr rfl), rfl, gAnd_intro (okLen ?_) ?_⟩)⟩)))
      all_goals first
        | (simp only [List.length_append, List.length_cons, List.length_nil, digits_len, List.append_eq, List.nil_append]; omega)
        | (rw [digits_4]; rfl)
  · subst e
    refine ⟨y, m, d, a, b, c, y1, y2, m1, m2, d1, by omega, rfl, rfl, cntN y m d, shortL, by omega, rfl, by rw [hc]; rfl, gAnd_intro (okLen ?_) ⟨rfl, gAnd_intro ?_ ⟨monL.getD (m - 1) [], ?_, ?_⟩⟩⟩
    · omega
    · rw [hmw, inR_of (by omega) (by omega)]; rfl
    · rw [hmw]; exact getE_encS monL (by show m - 1 < 12; omega)
    · refine gAnd_intro (okLen ?_) (gAnd_intro (okLen ?_) (gAnd_intro (okLen ?_) (gAnd_intro (okLen ?_) ⟨y, m, d, a, b, c, by omega, by omega, by omega, rfl, gAnd_intro (okLen ?_) (gAnd_intro (okLen ?_) ⟨y, 4, by omega, .inr (.inr rfl), rfl, gAnd_intro (okLen ?_) ?_⟩)⟩)))
      all_goals first
        | (simp only [List.length_append, List.length_cons, List.length_nil, digits_len]; omega)
        | (rw [digits_4]; rfl)
end Go.Proofs.YtnefabbpjepppaaDoor
end

section
namespace Go.Proofs.YtnefabbpjepppaaDoor
open Go.Ai Go
set_option linter.unusedSimpArgs false
set_option linter.unusedVariables false
set_option maxRecDepth 100000

theorem pf12 : pureFn cfg 12 Tryd.f12 := ⟨by kernel_rfl, by kernel_rfl, by kernel_rfl, by kernel_rfl, by kernel_rfl, by kernel_rfl⟩
noncomputable def outV (o : Option Nat) : AV := .tup [.int .i64 (outR o).1, .int .i64 (outR o).2]

theorem try_step {y m d a b c : Int} {f : Nat → Nat → Nat → Nat → Nat → Nat → Nat → List UInt8} {s : List UInt8} {v : AV} {A : Prop}
    (hS : ∀ t : Nat, tryR (y, m, d, a, b, c) f s = some t → AV.tup [.int .i64 t, .int .i64 0] = v) (hA : tryR (y, m, d, a, b, c) f s = none → A) :
    ifP (mayB y m d a b c) (∃ (y1 : Nat), ∃ (m1 : Nat), ∃ (d1 : Nat), ∃ (a1 : Nat), ∃ (b1 : Nat), ∃ (c1 : Nat), DateOk y1 m1 d1 a1 b1 c1 ∧ [AV.agg [.int .i64 y, .int .i64 m, .int .i64 d, .int .i64 a, .int .i64 b, .int .i64 c]] = [AV.agg [.int .i64 y1, .int .i64 m1, .int .i64 d1, .int .i64 a1, .int .i64 b1, .int .i64 c1]] ∧
      ifP (f (cntN y1 m1 d1) d1 m1 y1 a1 b1 c1 == s) (∃ (y2 : Nat), ∃ (m2 : Nat), ∃ (d2 : Nat), ∃ (a2 : Nat), ∃ (b2 : Nat), ∃ (c2 : Nat), DateOk y2 m2 d2 a2 b2 c2 ∧ [AV.agg [.int .i64 y, .int .i64 m, .int .i64 d, .int .i64 a, .int .i64 b, .int .i64 c]] = [AV.agg [.int .i64 y2, .int .i64 m2, .int .i64 d2, .int .i64 a2, .int .i64 b2, .int .i64 c2]] ∧
        AV.tup [.int .i64 (tickN y2 m2 d2 a2 b2 c2), .int .i64 0] = v) A) A := by
  refine ifP_intro (fun h => ?_) fun h => hA (by unfold tryR; dsimp only; rw [h]; rfl)
  obtain ⟨k, e1, e2, e3, e4, e5, e6⟩ := may_ok h
  have eq : [AV.agg [.int .i64 y, .int .i64 m, .int .i64 d, .int .i64 a, .int .i64 b, .int .i64 c]] = [AV.agg [.int .i64 y.toNat, .int .i64 m.toNat, .int .i64 d.toNat, .int .i64 a.toNat, .int .i64 b.toNat, .int .i64 c.toNat]] := by
    rw [← e1, ← e2, ← e3, ← e4, ← e5, ← e6]
  exact ⟨_, _, _, _, _, _, k, eq, ifP_intro (fun h2 => ⟨_, _, _, _, _, _, k, eq, hS _ (by unfold tryR; dsimp only; rw [h, h2]; rfl)⟩) fun h2 => hA (by unfold tryR; dsimp only; rw [h, h2]; rfl)⟩
theorem try_plain {y m d a b c : Int} {bl : Bool} {s : List UInt8} {v : AV} {A : Prop}
    (hS : ∀ t : Nat, tryR (y, m, d, a, b, c) (Go.Ai.plainS bl) s = some t → AV.tup [.int .i64 t, .int .i64 0] = v) (hA : tryR (y, m, d, a, b, c) (Go.Ai.plainS bl) s = none → A) :
    ifP (mayB y m d a b c) (∃ (y1 : Nat), ∃ (m1 : Nat), ∃ (d1 : Nat), ∃ (a1 : Nat), ∃ (b1 : Nat), ∃ (c1 : Nat), ∃ (bk : Bool), DateOk y1 m1 d1 a1 b1 c1 ∧ [AV.agg [.int .i64 y, .int .i64 m, .int .i64 d, .int .i64 a, .int .i64 b, .int .i64 c], .bool bl] = [AV.agg [.int .i64 y1, .int .i64 m1, .int .i64 d1, .int .i64 a1, .int .i64 b1, .int .i64 c1], .bool bk] ∧
      ifP (Go.Ai.plainS bk (cntN y1 m1 d1) d1 m1 y1 a1 b1 c1 == s) (∃ (y2 : Nat), ∃ (m2 : Nat), ∃ (d2 : Nat), ∃ (a2 : Nat), ∃ (b2 : Nat), ∃ (c2 : Nat), DateOk y2 m2 d2 a2 b2 c2 ∧ [AV.agg [.int .i64 y, .int .i64 m, .int .i64 d, .int .i64 a, .int .i64 b, .int .i64 c]] = [AV.agg [.int .i64 y2, .int .i64 m2, .int .i64 d2, .int .i64 a2, .int .i64 b2, .int .i64 c2]] ∧
        AV.tup [.int .i64 (tickN y2 m2 d2 a2 b2 c2), .int .i64 0] = v) A) A := by
  refine ifP_intro (fun h => ?_) fun h => hA (by unfold tryR; dsimp only; rw [h]; rfl)
  obtain ⟨k, e1, e2, e3, e4, e5, e6⟩ := may_ok h
  have eq : [AV.agg [.int .i64 y, .int .i64 m, .int .i64 d, .int .i64 a, .int .i64 b, .int .i64 c]] = [AV.agg [.int .i64 y.toNat, .int .i64 m.toNat, .int .i64 d.toNat, .int .i64 a.toNat, .int .i64 b.toNat, .int .i64 c.toNat]] := by
    rw [← e1, ← e2, ← e3, ← e4, ← e5, ← e6]
  have eq2 : [AV.agg [.int .i64 y, .int .i64 m, .int .i64 d, .int .i64 a, .int .i64 b, .int .i64 c], .bool bl] = [AV.agg [.int .i64 y.toNat, .int .i64 m.toNat, .int .i64 d.toNat, .int .i64 a.toNat, .int .i64 b.toNat, .int .i64 c.toNat], .bool bl] := by
    rw [← e1, ← e2, ← e3, ← e4, ← e5, ← e6]
  exact ⟨_, _, _, _, _, _, bl, k, eq2, ifP_intro (fun h2 => ⟨_, _, _, _, _, _, k, eq, hS _ (by unfold tryR; dsimp only; rw [h, h2]; rfl)⟩) fun h2 => hA (by unfold tryR; dsimp only; rw [h, h2]; rfl)⟩

theorem comma_le (s : List UInt8) : comma s ≤ s.length := by
  induction s with
  | nil => exact Nat.le_refl _
  | cons c r ih =>
    simp only [comma, List.length_cons]
    cases (c == 44) with
    | true => simp
    | false => simp only [cond_false]; omega

abbrev TabR : Tab := ctab [(16, fixedC), (17, oldC), (18, plainC), (24, numAtC), (25, monAtC), (26, timeC), (27, mayC), (28, tickDC), (29, nearC)]
theorem tabR_ok : TabOk cfg TabR := ctab_ok (ctab_cons c16 (ctab_cons c17 (ctab_cons c18 (ctab_cons c24 (ctab_cons c25 (ctab_cons c26 (ctab_cons c27 (ctab_cons c28 (ctab_cons c29 ctab_nil)))))))))

section
variable {s : List UInt8} (hs : s.length ≤ 500) {v : AV}
include hs
theorem end12a {i0 i1 i2 i3 i4 i5 : Int} (hv : outV (tryR (sixC s 9 1) (Go.Ai.plainS true) s) = v) : ToEnd cfg 12 (bodyOf Tryd.f12) (RetIs Tryd.prog Tryd.f12 v) [.code [1, 1, 1, 1, 1, 1, 1, 1, 1]] .normal [(0, true, .str s), (10, true, .ptr 1 0)]
    [.mem 34 [.int .i64 i0, .int .i64 i1, .int .i64 i2, .int .i64 i3, .int .i64 i4, .int .i64 i5], .mem 34 [.int .i64 (numAt s 20 4), .int .i64 (monAt s 4), .int .i64 (numAt s 8 2), .int .i64 (numAt s 11 2), .int .i64 (numAt s (11 + 3) 2), .int .i64 (numAt s (11 + 6) 2)]] :=
  t12e1 tabR_ok ⟨s, 9, 1, by omega, by omega, by omega, .inl rfl, rfl, _, _, _, _, _, _, rfl, try_plain (fun t h => by rw [← hv]; unfold sixC; rw [h]; rfl) fun h => by rw [← hv]; unfold sixC; rw [h]; rfl⟩
theorem end12b {i0 i1 i2 i3 i4 i5 j0 j1 j2 j3 j4 j5 : Int} (hv : outV (tryR (sixC s 9 1) (Go.Ai.plainS true) s) = v) : ToEnd cfg 12 (bodyOf Tryd.f12) (RetIs Tryd.prog Tryd.f12 v) [.code [1, 1, 1, 1, 1, 1, 1, 1, 1]] .normal [(0, true, .str s), (10, true, .ptr 2 0)]
    [.mem 34 [.int .i64 i0, .int .i64 i1, .int .i64 i2, .int .i64 i3, .int .i64 i4, .int .i64 i5], .mem 34 [.int .i64 j0, .int .i64 j1, .int .i64 j2, .int .i64 j3, .int .i64 j4, .int .i64 j5], .mem 34 [.int .i64 (numAt s 20 4), .int .i64 (monAt s 4), .int .i64 (numAt s 8 2), .int .i64 (numAt s 11 2), .int .i64 (numAt s (11 + 3) 2), .int .i64 (numAt s (11 + 6) 2)]] :=
  t12e2 tabR_ok ⟨s, 9, 1, by omega, by omega, by omega, .inl rfl, rfl, _, _, _, _, _, _, rfl, try_plain (fun t h => by rw [← hv]; unfold sixC; rw [h]; rfl) fun h => by rw [← hv]; unfold sixC; rw [h]; rfl⟩
noncomputable def tail12 (s : List UInt8) : Option Nat := match tryR (sixC s 8 2) (Go.Ai.plainS false) s with
  | some t => some t
  | none => tryR (sixC s 9 1) (Go.Ai.plainS true) s
theorem mid12a {i0 i1 i2 i3 i4 i5 : Int} (hv : outV (tail12 s) = v) : ToEnd cfg 12 (bodyOf Tryd.f12) (RetIs Tryd.prog Tryd.f12 v) [.code [1, 1, 1, 1, 1, 1, 1]] .normal [(0, true, .str s)]
    [.mem 34 [.int .i64 i0, .int .i64 i1, .int .i64 i2, .int .i64 i3, .int .i64 i4, .int .i64 i5]] :=
  t12d1 tabR_ok ⟨s, 8, 2, by omega, by omega, by omega, .inr (.inl rfl), rfl, s, 4, by omega, by omega, by omega, rfl, s, 20, 4, by omega, by omega, by omega, .inr (.inr rfl), rfl, _, _, _, _, _, _, s, 11, by omega, by omega, by omega, rfl, _, _, _, _, _, _, rfl,
    try_plain (fun t h => by rw [← hv]; unfold tail12 sixC; rw [h]; rfl) fun h => end12a hs (by rw [← hv]; unfold tail12; rw [show tryR (sixC s 8 2) (Go.Ai.plainS false) s = none from h])⟩
theorem mid12b {i0 i1 i2 i3 i4 i5 j0 j1 j2 j3 j4 j5 : Int} (hv : outV (tail12 s) = v) : ToEnd cfg 12 (bodyOf Tryd.f12) (RetIs Tryd.prog Tryd.f12 v) [.code [1, 1, 1, 1, 1, 1, 1]] .normal [(0, true, .str s)]
    [.mem 34 [.int .i64 i0, .int .i64 i1, .int .i64 i2, .int .i64 i3, .int .i64 i4, .int .i64 i5], .mem 34 [.int .i64 j0, .int .i64 j1, .int .i64 j2, .int .i64 j3, .int .i64 j4, .int .i64 j5]] :=
  t12d2 tabR_ok ⟨s, 8, 2, by omega, by omega, by omega, .inr (.inl rfl), rfl, s, 4, by omega, by omega, by omega, rfl, s, 20, 4, by omega, by omega, by omega, .inr (.inr rfl), rfl, _, _, _, _, _, _, s, 11, by omega, by omega, by omega, rfl, _, _, _, _, _, _, rfl,
    try_plain (fun t h => by rw [← hv]; unfold tail12 sixC; rw [h]; rfl) fun h => end12b hs (by rw [← hv]; unfold tail12; rw [show tryR (sixC s 8 2) (Go.Ai.plainS false) s = none from h])⟩
noncomputable def from12 (s : List UInt8) (now : Int) : Option Nat := match (if 0 ≤ numAt s (comma s + 9) 2 then tryR (sixB s now) oldS s else none) with
  | some t => some t
  | none => tail12 s
theorem loop12 {now : Int} {i0 i1 i2 i3 i4 i5 : Int} (hv : outV (from12 s now) = v) : ∀ (k i : Nat), i + k = s.length → comma s = i + comma (s.drop i) →
    ToEnd cfg 12 (bodyOf Tryd.f12) (RetIs Tryd.prog Tryd.f12 v) [.code [0, 0, 1, 1, 1, 1], Fm.block 0, Fm.code [1, 1, 1, 1, 1]] .normal [(0, true, .str s), (1, true, .int .i64 now), (7, true, .int .i64 i)]
    [.mem 34 [.int .i64 i0, .int .i64 i1, .int .i64 i2, .int .i64 i3, .int .i64 i4, .int .i64 i5]] := by
  have hcl := comma_le s
  have w9 : IntKind.wrap .i64 (((comma s : Nat) : Int) + 9) = ((comma s : Nat) : Int) + 9 := by rw [wrap_in] <;> omega
  have w2 : IntKind.wrap .i64 (((comma s : Nat) : Int) + 2) = ((comma s : Nat) : Int) + 2 := by rw [wrap_in] <;> omega
  have w5 : IntKind.wrap .i64 (((comma s : Nat) : Int) + 5) = ((comma s : Nat) : Int) + 5 := by rw [wrap_in] <;> omega
  have w12 : IntKind.wrap .i64 (((comma s : Nat) : Int) + 12) = ((comma s : Nat) : Int) + 12 := by rw [wrap_in] <;> omega
  have hlt : numAt s (((comma s : Nat) : Int) + 9) 2 < 100 := numAt_lt
  have hno : ∀ (h : ¬0 ≤ numAt s (((comma s : Nat) : Int) + 9) 2), outV (tail12 s) = v := fun h => by rw [← hv]; unfold from12; rw [if_neg h]
  have hyes : ∀ (h : 0 ≤ numAt s (((comma s : Nat) : Int) + 9) 2) (t : Nat), tryR (sixB s now) oldS s = some t → AV.tup [.int .i64 t, .int .i64 0] = v := fun h t e => by rw [← hv]; unfold from12; rw [if_pos h, e]; rfl
  have hnot : ∀ (h : 0 ≤ numAt s (((comma s : Nat) : Int) + 9) 2), tryR (sixB s now) oldS s = none → outV (tail12 s) = v := fun h e => by rw [← hv]; unfold from12; rw [if_pos h, e]
  have hg : ∀ (h : 0 ≤ numAt s (((comma s : Nat) : Int) + 9) 2), [AV.int .i64 (numAt s (((comma s : Nat) : Int) + 9) 2), .int .i64 now] = [AV.int .i64 (((numAt s (((comma s : Nat) : Int) + 9) 2).toNat : Nat) : Int), .int .i64 now] := fun h => by rw [Int.toNat_of_nonneg h]
  intro k
  induction k with
  | zero =>
    intro i hi hc
    have hd : s.drop i = [] := List.drop_eq_nil_of_le (by omega)
    rw [hd] at hc
    obtain rfl : i = comma s := by simp only [comma] at hc; omega
    refine t12c tabR_ok (ifP_intro (fun a => ?_) fun a => ?_)
    · simp at a; omega
    · rw [w9, w2, w5, w12]
      refine ⟨s, _, 2, by omega, by omega, by omega, .inr (.inl rfl), rfl, ifP_intro (fun b => ?_) fun b => mid12a hs (hno (by simpa using b))⟩
      have b : 0 ≤ numAt s (((comma s : Nat) : Int) + 9) 2 := by simpa using b
      exact ⟨s, _, 2, by omega, by omega, by omega, .inr (.inl rfl), rfl, s, _, by omega, by omega, by omega, rfl, _, _, by omega, hg b, _, _, _, _, _, _, s, _, by omega, by omega, by omega, rfl, _, _, _, _, _, _, rfl,
        try_step (fun t h => hyes b t h) fun h => mid12b hs (hnot b h)⟩
  | succ k ih =>
    intro i hi hc
    have hil : i < s.length := by omega
    have hd : s.drop i = s[i] :: s.drop (i + 1) := List.drop_eq_getElem_cons hil
    have hgd : s.getD i 0 = s[i] := by simp [List.getD, hil]
    refine t12c tabR_ok (ifP_intro (fun a => gAnd_intro (inR_of (by omega) (by omega)) ?_) fun a => ?_)
    · rw [Int.toNat_natCast, hgd]
      refine ifP_intro (fun b => ?_) fun b => ?_
      · rw [wrap_in (n := (i : Int) + 1) (by omega) (by omega)]
        refine ih (i + 1) (by omega) ?_
        rw [hc, hd, comma]
        have : (s[i] == 44) = false := by
          simp only [bne_iff_ne, ne_eq] at b
          rw [beq_eq_false_iff_ne]
          intro e; rw [e] at b; exact b rfl
        rw [this, cond_false]; omega
      · have he : (s[i] == 44) = true := by
          simp only [bne_eq_false_iff_eq] at b
          rw [beq_iff_eq]
          apply UInt8.toNat_inj.1; show _ = 44; omega
        rw [hd, comma, he, cond_true, Nat.add_zero] at hc
        obtain rfl := hc
        rw [w9, w2, w5, w12]
        refine ⟨s, _, 2, by omega, by omega, by omega, .inr (.inl rfl), rfl, ifP_intro (fun b => ?_) fun b => mid12a hs (hno (by simpa using b))⟩
        have b : 0 ≤ numAt s (((comma s : Nat) : Int) + 9) 2 := by simpa using b
        exact ⟨s, _, 2, by omega, by omega, by omega, .inr (.inl rfl), rfl, s, _, by omega, by omega, by omega, rfl, _, _, by omega, hg b, _, _, _, _, _, _, s, _, by omega, by omega, by omega, rfl, _, _, _, _, _, _, rfl,
          try_step (fun t h => hyes b t h) fun h => mid12b hs (hnot b h)⟩
    · simp at a; omega
end
theorem c12 : COk cfg 12 refC := by
  refine cok_pure pf12 fun vs h K ht => ?_
  obtain ⟨s, now, hs, rfl, hk⟩ := ht
  refine ⟨_, hk, ?_⟩
  have hl : ∀ {i0 i1 i2 i3 i4 i5 : Int}, outV (from12 s now) = outV (readR s now) → ToEnd cfg 12 (bodyOf Tryd.f12) (RetIs Tryd.prog Tryd.f12 (outV (readR s now))) [.code [1, 1, 1]] .normal [(0, true, .str s), (1, true, .int .i64 now)]
    [.mem 34 [.int .i64 i0, .int .i64 i1, .int .i64 i2, .int .i64 i3, .int .i64 i4, .int .i64 i5]] := fun hv => t12b tabR_ok (loop12 hs hv s.length 0 (by omega) (by simp))
  refine t12a tabR_ok ⟨s, 5, 2, by omega, by omega, by omega, .inr (.inl rfl), rfl, s, 8, by omega, by omega, by omega, rfl, s, 12, 4, by omega, by omega, by omega, .inr (.inr rfl), rfl, _, _, _, _, _, _, s, 17, by omega, by omega, by omega, rfl, _, _, _, _, _, _, rfl,
    try_step (fun t h => ?_) fun h => hl ?_⟩
  · unfold readR
    rw [show tryR (sixA s) fixedS s = some t from h]; rfl
  · unfold readR
    rw [show tryR (sixA s) fixedS s = none from h]; rfl
end Go.Proofs.YtnefabbpjepppaaDoor
end
