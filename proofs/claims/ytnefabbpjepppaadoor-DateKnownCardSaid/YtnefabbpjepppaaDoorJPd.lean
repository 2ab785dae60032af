/-
  DateBack's and DateOne's contracts: a tick is read from its date; what reads in the first form is a tick's date.
-/
import Derived.Test.YtnefabbpjepppaaDoorJPc
import Derived.Test.YtnefabbpjepppaaDoorJPb
import Derived.Test.YtnefabbpjepppaaDoorJDt
import Derived.Test.YtnefabbpjepppaaDoorJTr
section
namespace Go.Proofs.YtnefabbpjepppaaDoor
open Go.Ai Go
set_option linter.unusedSimpArgs false
set_option linter.unusedVariables false
set_option maxRecDepth 100000

theorem pf20 : pureFn cfg 20 Tryd.f20 := ⟨by kernel_rfl, by kernel_rfl, by kernel_rfl, by kernel_rfl, by kernel_rfl, by kernel_rfl⟩
theorem pf7 : pureFn cfg 7 Tryd.f7 := ⟨by kernel_rfl, by kernel_rfl, by kernel_rfl, by kernel_rfl, by kernel_rfl, by kernel_rfl⟩
theorem pf8 : pureFn cfg 8 Tryd.f8 := ⟨by kernel_rfl, by kernel_rfl, by kernel_rfl, by kernel_rfl, by kernel_rfl, by kernel_rfl⟩

theorem cnt_lt {y m d a b c : Nat} (k : DateOk y m d a b c) : cntN y m d ≤ 2932896 ∧ inYear (cntN y m d) y := by
  obtain ⟨y1, y2, m1, m2, d1, d2, _, _, _⟩ := k
  have hc := cntN_eq (m := m) y1 d1
  have h1 := bef_le y (a := m + 1) (b := 13) (by omega) (by omega)
  rw [bef_13, bef_succ y m1] at h1
  have h2 := ahd_succ (y := y) (by omega)
  have h3 := ahd_le (a := y + 1) (b := 10000) (by omega) (by omega)
  have e : ahd 10000 = 2932897 := by decide
  exact ⟨by omega, y1, by omega, by omega⟩
theorem put_tick {y m d a b c : Nat} (k : DateOk y m d a b c) : tickN y m d a b c ≤ lastT ∧ putS (tickN y m d a b c) = fixedS (cntN y m d) d m y a b c := by
  obtain ⟨h1, hy⟩ := cnt_lt k
  have k' := k
  obtain ⟨y1, y2, m1, m2, d1, d2, a1, b1, c1⟩ := k
  have ht : tickN y m d a b c = cntN y m d * 86400 + a * 3600 + b * 60 + c := rfl
  have hl : tickN y m d a b c ≤ lastT := by unfold lastT; omega
  refine ⟨hl, ?_⟩
  have e1 : tickN y m d a b c / 86400 = cntN y m d := by omega
  have e2 : tickN y m d a b c % 86400 / 3600 = a := by omega
  have e3 : tickN y m d a b c % 86400 / 60 % 60 = b := by omega
  have e4 : tickN y m d a b c % 86400 % 60 = c := by omega
  have ey : yearOf (cntN y m d) = y := inYear_uniq (yearOf_spec _) hy
  have hc := cntN_eq (m := m) y1 d1
  have hr := restOf_eq (cntN y m d)
  rw [ey] at hr
  have hrm : restOf (cntN y m d) = bef y m + d - 1 := by omega
  have hm := monthOf_spec (cntN y m d)
  rw [ey, hrm] at hm
  have em : monthOf (cntN y m d) = m := inMonth_uniq hm ⟨m1, m2, by omega, by rw [bef_succ y m1]; omega⟩
  have ed : dayOf (cntN y m d) = d := by unfold dayOf; rw [ey, em, hrm]; omega
  unfold putS
  rw [if_pos ⟨by omega, by omega⟩]
  rw [Int.toNat_natCast, e1, e2, e3, e4, ey, em, ed]
theorem put_back {n : Nat} (h : n ≤ lastT) (now : Int) : parseP (putS n) now = (n, 0) := by
  unfold lastT at h
  have ok := dateOk_of (d := n / 86400) (by omega) (n % 86400) (by omega)
  have e : formP form1 (putS n) now = some n := by
    refine read1.2 ⟨_, _, _, _, _, _, ok, ?_, ?_⟩
    · unfold putS
      rw [if_pos ⟨by omega, by unfold lastT; omega⟩, cnt_of]
      rfl
    · unfold tickN
      rw [cnt_of]; omega
  unfold parseP
  rw [e]
theorem parse_no {s : List UInt8} {now : Int} (h : ¬(parseP s now).2 = 0) : (parseP s now).1 = 0 := by
  unfold parseP at h ⊢
  cases h1 : formP form1 s now with
  | some t => rw [h1] at h; exact absurd rfl h
  | none =>
    cases h2 : formP form2 s now with
    | some t => rw [h1, h2] at h; exact absurd rfl h
    | none =>
      cases h3 : formP form3 s now with
      | some t => rw [h1, h2, h3] at h; exact absurd rfl h
      | none => rfl
theorem long_at {w : Nat} (h : w < 7) (r : List UInt8) : (long3 w ++ r).getD 3 0 ≠ 44 := by
  have : w = 0 ∨ w = 1 ∨ w = 2 ∨ w = 3 ∨ w = 4 ∨ w = 5 ∨ w = 6 := by omega
  rcases this with rfl | rfl | rfl | rfl | rfl | rfl | rfl
  · show (114 : UInt8) ≠ 44; decide
  · show (100 : UInt8) ≠ 44; decide
  · show (117 : UInt8) ≠ 44; decide
  · show (100 : UInt8) ≠ 44; decide
  · show (100 : UInt8) ≠ 44; decide
  · show (115 : UInt8) ≠ 44; decide
  · show (110 : UInt8) ≠ 44; decide
theorem short_at {w : Nat} (h : w < 7) (r : List UInt8) : (short3 w ++ 32 :: r).getD 3 0 ≠ 44 := by
  have : w = 0 ∨ w = 1 ∨ w = 2 ∨ w = 3 ∨ w = 4 ∨ w = 5 ∨ w = 6 := by omega
  rcases this with rfl | rfl | rfl | rfl | rfl | rfl | rfl <;> (show (32 : UInt8) ≠ 44; decide)
theorem parse_yes {s : List UInt8} {now : Int} (h : (parseP s now).2 = 0) : (parseP s now).1 ≤ lastT ∧ (s.getD 3 0 = 44 → putS (parseP s now).1 = s) := by
  unfold parseP at h ⊢
  cases h1 : formP form1 s now with
  | some t =>
    obtain ⟨y, m, d, a, b, c, k, rfl, rfl⟩ := read1.1 h1
    obtain ⟨p1, p2⟩ := put_tick k
    exact ⟨p1, fun _ => p2⟩
  | none =>
    cases h2 : formP form2 s now with
    | some t =>
      obtain ⟨y, m, d, a, b, c, k, _, _, rfl, rfl⟩ := read2.1 h2
      obtain ⟨p1, p2⟩ := put_tick k
      refine ⟨p1, fun h => absurd h ?_⟩
      rw [old_text]
      exact long_at (date_low k).w _
    | none =>
      cases h3 : formP form3 s now with
      | some t =>
        obtain ⟨bl, y, m, d, a, b, c, k, _, rfl, rfl⟩ := read3.1 h3
        obtain ⟨p1, p2⟩ := put_tick k
        refine ⟨p1, fun h => absurd h ?_⟩
        rw [plain_text]
        exact short_at (date_low k).w _
      | none => rw [h1, h2, h3] at h; cases h

theorem c20 : COk cfg 20 isTC := by
  refine cok_pure pf20 fun vs h K ht => ?_
  obtain ⟨s, now, want, rfl, hk⟩ := ht
  refine ⟨_, hk, t20 (ctab_ok (ctab_cons c10 (ctab_cons c11 ctab_nil))) ⟨s, now, rfl, ifP_intro (fun a => ?_) fun a => ?_⟩⟩
  · congr 1
    unfold isB
    simp only [beq_iff_eq] at a
    rw [decide_eq_true a, Bool.true_and, Bool.eq_iff_iff]
    simp
  · congr 1
    unfold isB
    simp only [beq_eq_false_iff_ne] at a
    rw [decide_eq_false a, Bool.false_and]
theorem isB_put {n : Nat} (h : n ≤ lastT) (now : Int) : isB (putS n) now n = true := by
  unfold isB
  rw [put_back h now]
  simp
theorem c7 : COk cfg 7 (fun vs h K => ∃ (t : Nat) (now : Int), t < 2 ^ 64 ∧ vs = [.int .u64 t, .int .i64 now] ∧ K (.bool true) h) := by
  refine cok_pure pf7 fun vs h K ht => ?_
  obtain ⟨t, now, htl, rfl, hk⟩ := ht
  have hT := ctab_ok (ctab_cons c10 (ctab_cons c11 (ctab_cons c13 (ctab_cons c20 ctab_nil))))
  refine ⟨_, hk, ?_⟩
  have e : Int.tmod (t : Int) 253402300800 = ((t % 253402300800 : Nat) : Int) := tmodN t 253402300800
  have hn : t % 253402300800 ≤ lastT := by unfold lastT; omega
  have hw : IntKind.wrap .i64 ((t % 253402300800 : Nat) : Int) = ((t % 253402300800 : Nat) : Int) := by rw [wrap_in] <;> omega
  have hlen : (((putS ((t % 253402300800 : Nat) : Int)).length : Int) == 29) = true := by rw [putS_len hn]; rfl
  have hfin : ifP ((((putS ((t % 253402300800 : Nat) : Int)).length : Int)) == 29) (∃ (s9 : List UInt8), ∃ (now10 : Int), ∃ (want11 : Int), [AV.str (putS ((t % 253402300800 : Nat) : Int)), .int .i64 now, .int .i64 ((t % 253402300800 : Nat) : Int)] = [AV.str s9, .int .i64 now10, .int .i64 want11] ∧ ifP (isB s9 now10 want11) (true = true ∧ AV.bool true = AV.bool true) (AV.bool false = AV.bool true)) (AV.bool false = AV.bool true) :=
    ifP_intro (fun _ => ⟨_, _, _, rfl, ifP_intro (fun _ => ⟨rfl, rfl⟩) fun a => by rw [isB_put hn] at a; cases a⟩) fun a => by rw [hlen] at a; cases a
  refine t7 hT ⟨((t % 253402300800 : Nat) : Int), by rw [e, hw], ?_⟩
  rw [e, hw]
  refine ifP_intro (fun a => ?_) fun a => ?_
  · generalize hq : decide ((t : Int) < 9223372036854775808) = q
    refine ifP_intro (fun b => ?_) fun b => ?_
    · subst b
      have b := of_decide_eq_true hq
      have ew : IntKind.wrap .i64 (t : Int) = (t : Int) := by rw [wrap_in] <;> omega
      have ep : putS (t : Int) = [] := by
        simp only [decide_eq_true_eq] at a
        unfold putS; rw [if_neg (by unfold lastT; omega)]
      refine ⟨(t : Int), by rw [ew], ?_⟩
      rw [ep]
      refine ifP_intro (fun c => ?_) fun c => ?_
      · cases c
      · exact hfin
    · exact hfin
  · exact hfin
theorem c8 : COk cfg 8 (fun vs h K => ∃ (s : List UInt8) (now : Int), vs = [.str s, .int .i64 now] ∧ K (.bool true) h) := by
  refine cok_pure pf8 fun vs h K ht => ?_
  obtain ⟨s, now, rfl, hk⟩ := ht
  have hT := ctab_ok (ctab_cons c10 (ctab_cons c11 (ctab_cons c13 (ctab_cons c20 ctab_nil))))
  refine ⟨_, hk, t8 hT ⟨s, now, rfl, ifP_intro (fun a => ?_) fun a => ?_⟩⟩
  · simp only [bne_iff_ne, ne_eq] at a
    have h1 := parse_no (s := s) (now := now) (by omega)
    rw [h1]
    exact ifP_intro (fun _ => ⟨rfl, rfl⟩) fun c => by cases c
  · simp only [bne_eq_false_iff_eq] at a
    obtain ⟨p1, p2⟩ := parse_yes (s := s) (now := now) (by omega)
    have hfin : ∃ (t12 : Int), [AV.int .i64 ((parseP s now).1 : Int)] = [AV.int .i64 t12] ∧ ∃ (s13 : List UInt8), ∃ (now14 : Int), ∃ (want15 : Int), [AV.str (putS t12), .int .i64 now, .int .i64 ((parseP s now).1 : Int)] = [AV.str s13, .int .i64 now14, .int .i64 want15] ∧ ifP (isB s13 now14 want15) (true = true ∧ AV.bool true = AV.bool true) (AV.bool false = AV.bool true) :=
      ⟨_, rfl, _, _, _, rfl, ifP_intro (fun _ => ⟨rfl, rfl⟩) fun b => by rw [isB_put p1] at b; cases b⟩
    refine ifP_intro (fun b => ?_) fun b => ifP_intro (fun c => gAnd_intro ?_ (ifP_intro (fun d => ⟨_, rfl, ifP_intro (fun e => ?_) fun e => hfin⟩) fun d => hfin)) fun c => hfin
    · simp at b; unfold lastT at p1; omega
    · simp only [beq_iff_eq] at c
      rw [inR_of (by omega) (by omega)]
    · simp only [beq_iff_eq] at d
      rw [p2 (by apply UInt8.toNat_inj.1; show _ = 44; omega)] at e
      simp at e
end Go.Proofs.YtnefabbpjepppaaDoor
end
