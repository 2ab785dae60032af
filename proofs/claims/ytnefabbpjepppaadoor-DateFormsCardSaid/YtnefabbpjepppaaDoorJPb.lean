/-
  The program's Put: the text of a tick is the document's; DatePuts' contract.
  DatePuts and DateStep keep to their contracts: at any ticks they answer true.
-/
import Derived.Test.YtnefabbpjepppaaDoorJPa
import Derived.Test.YtnefabbpjepppaaDoorJTr
import Derived.Test.YtnefabbpjepppaaDoorJDt
section
namespace Go.Proofs.YtnefabbpjepppaaDoor
open Go.Ai Go
set_option linter.unusedSimpArgs false
set_option linter.unusedVariables false

def daysB : List UInt8 := [84, 104, 117, 114, 115, 100, 97, 121, 32, 70, 114, 105, 100, 97, 121, 32, 83, 97, 116, 117, 114, 100, 97, 121, 32, 83, 117, 110, 100, 97, 121, 32, 77, 111, 110, 100, 97, 121, 32, 84, 117, 101, 115, 100, 97, 121, 32, 87, 101, 100, 110, 101, 115, 100, 97, 121]
theorem fields_days : Lib.fields daysB = thuL := by kernel_rfl

theorem pureSs (l : List (List UInt8)) : pureV.pureVss (encS l) = true := by
  induction l with
  | nil => rfl
  | cons a r ih =>
    have : encS (a :: r) = [.str a] :: encS r := rfl
    rw [this, pureV.pureVss, ih]; rfl

theorem c32 : COk cfg 32 fieldsC := by
  refine cok_prim (g := pFields) (by kernel_rfl) (by kernel_rfl) (by kernel_rfl) (by kernel_rfl) fun vs h K ht => ?_
  obtain ⟨s, hl, ha, rfl, hk⟩ := ht
  refine ⟨.sl 1 (encS (Lib.fields s)) none, ?_, ?_⟩
  · rw [strip_sl, stripss_pure 0 [] _ (pureSs _)]
    exact hk
  · have h1 : Nat.blt s.length 4294967281 = true := Nat.ble_eq_true_of_le (by omega)
    have h2 : s.all (fun b => Nat.blt b.toNat 128) = true := List.all_eq_true.2 fun b hb => Nat.ble_eq_true_of_le (ha b hb)
    simp only [pFields, h1, h2]
    rfl

theorem thu_short (d : Nat) : (thuL.getD (d % 7) []).take 3 = wdN d ∧ 3 ≤ (thuL.getD (d % 7) []).length := by
  unfold wdN
  have h : d % 7 < 7 := Nat.mod_lt _ (by omega)
  have e : (d + 3) % 7 = (d % 7 + 3) % 7 := by omega
  rw [e]
  generalize d % 7 = k at h
  have : k = 0 ∨ k = 1 ∨ k = 2 ∨ k = 3 ∨ k = 4 ∨ k = 5 ∨ k = 6 := by omega
  rcases this with rfl | rfl | rfl | rfl | rfl | rfl | rfl <;> exact ⟨rfl, by decide⟩

theorem mon_cut {m : Nat} (h1 : 1 ≤ m) (h2 : m ≤ 12) : cutL monthsB (some ((3 * m - 3 : Nat) : Int)) (some ((3 * m : Nat) : Int)) = monN m := by
  have : m = 1 ∨ m = 2 ∨ m = 3 ∨ m = 4 ∨ m = 5 ∨ m = 6 ∨ m = 7 ∨ m = 8 ∨ m = 9 ∨ m = 10 ∨ m = 11 ∨ m = 12 := by omega
  rcases this with rfl | rfl | rfl | rfl | rfl | rfl | rfl | rfl | rfl | rfl | rfl | rfl <;> rfl
theorem wd_le (d : Nat) : (wdN d).length ≤ 3 := short_le _
theorem mo_le (m : Nat) : (monN m).length ≤ 3 := mon_le _
theorem cut3 (s : List UInt8) : cutL s none (some 3) = s.take 3 := rfl

set_option maxHeartbeats 4000000 in
theorem loop13 (hT : TabOk cfg (ctab [(30, yearC), (31, longC), (32, fieldsC), (33, twoC)])) {d s y r m : Nat} (hd : d ≤ 4000000) (hs : s < 86400) (h1 : 1970 ≤ y) (h2 : y ≤ 9999) (hm : inMonth y r m) : ∀ (k z : Nat), z + k = m → 1 ≤ z →
    ToEnd cfg 13 (bodyOf Tryd.f13) (RetIs Tryd.prog Tryd.f13 (.str (fixedS d (r - bef y m + 1) m y (s / 3600) (s / 60 % 60) (s % 60)))) [.code [0, 0, 1, 1, 1, 1, 1], .block 0, .code [1, 1, 1, 1, 1, 1]] .normal
      [(3, true, .int .i64 d), (4, true, .int .i64 s), (5, true, .int .i64 y), (6, true, .int .i64 (r - bef y z : Nat)), (7, true, .int .i64 z)] [] := by
  obtain ⟨m1, m2, m3, m4⟩ := hm
  have hb13 := bef_max y (m := m + 1) (by omega)
  intro k
  induction k with
  | zero =>
    intro z hz hz1
    obtain rfl : z = m := by omega
    rw [bef_succ y hz1] at m4
    have hg := longN_ge y z
    have hbz := bef_max y (m := z) (by omega)
    have hthu := thu_short d
    have hwd := wd_le d
    have hmo := mo_le z
    have ed : Int.tmod (d : Int) 7 = ((d % 7 : Nat) : Int) := tmodN d 7
    have w1 : IntKind.wrap .i64 (3 * (z : Int)) = ((3 * z : Nat) : Int) := by rw [wrap_in] <;> omega
    have w2 : IntKind.wrap .i64 (((3 * z : Nat) : Int) - 3) = ((3 * z - 3 : Nat) : Int) := by rw [wrap_in] <;> omega
    have w3 : IntKind.wrap .i64 (((r - bef y z : Nat) : Int) + 1) = ((r - bef y z + 1 : Nat) : Int) := by rw [wrap_in] <;> omega
    have w4 : IntKind.wrap .i64 (Int.tdiv (y : Int) 100) = ((y / 100 : Nat) : Int) := by
      rw [show Int.tdiv (y : Int) 100 = ((y / 100 : Nat) : Int) from tdivN y 100, wrap_in] <;> omega
    have w5 : IntKind.wrap .i64 (Int.tdiv (s : Int) 3600) = ((s / 3600 : Nat) : Int) := by
      rw [show Int.tdiv (s : Int) 3600 = ((s / 3600 : Nat) : Int) from tdivN s 3600, wrap_in] <;> omega
    have w6 : IntKind.wrap .i64 (Int.tdiv (s : Int) 60) = ((s / 60 : Nat) : Int) := by
      rw [show Int.tdiv (s : Int) 60 = ((s / 60 : Nat) : Int) from tdivN s 60, wrap_in] <;> omega
    have w7 : Int.tmod ((s / 60 : Nat) : Int) 60 = ((s / 60 % 60 : Nat) : Int) := tmodN (s / 60) 60
    have w8 : Int.tmod (s : Int) 60 = ((s % 60 : Nat) : Int) := tmodN s 60
    refine t13b hT ⟨y, z, by omega, hz1, by omega, rfl, ifP_intro (fun hc => ?_) fun _ => ⟨daysB, by decide, by decide, rfl, ?_⟩⟩
    · simp at hc; omega
    · rw [fields_days, ed]
      refine gAnd_intro (by rw [inR_of (by omega) (by rw [show (encS thuL).length = 7 from rfl]; omega)]; rfl) ⟨thuL.getD (d % 7) [], getE_encS thuL (by show d % 7 < 7; omega), gAnd_intro ?_ ?_⟩
      · simp only [cutOb, Bool.and_eq_true, decide_eq_true_eq]; omega
      · have hmc := mon_cut hz1 m2
        unfold monthsB at hmc
        simp only [cut3, hthu.1, w1, w2, hmc]
        rw [w3, w4, w5, w6, w7, w8]
        refine gAnd_intro (okLen (by first | omega | (simp only [List.length_append, List.length_cons, List.length_nil]; omega))) ⟨r - bef y z + 1, by omega, rfl, ?_⟩
        refine gAnd_intro (okLen (by first | omega | (simp only [List.length_append, List.length_cons, List.length_nil]; omega))) ?_
        refine gAnd_intro (okLen (by first | omega | (simp only [List.length_append, List.length_cons, List.length_nil]; omega))) ?_
        refine gAnd_intro (by simp only [cutOb, Bool.and_eq_true, decide_eq_true_eq]; omega) ?_
        refine gAnd_intro (okLen (by first | omega | (simp only [List.length_append, List.length_cons, List.length_nil]; omega))) ?_
        refine gAnd_intro (okLen (by first | omega | (simp only [List.length_append, List.length_cons, List.length_nil]; omega))) ⟨y / 100, by omega, rfl, ?_⟩
        refine gAnd_intro (okLen (by first | omega | (simp only [List.length_append, List.length_cons, List.length_nil]; omega))) ⟨y, by omega, rfl, ?_⟩
        refine gAnd_intro (okLen (by first | omega | (simp only [List.length_append, List.length_cons, List.length_nil]; omega))) ?_
        refine gAnd_intro (okLen (by first | omega | (simp only [List.length_append, List.length_cons, List.length_nil]; omega))) ⟨s / 3600, by omega, rfl, ?_⟩
        refine gAnd_intro (okLen (by first | omega | (simp only [List.length_append, List.length_cons, List.length_nil]; omega))) ?_
        refine gAnd_intro (okLen (by first | omega | (simp only [List.length_append, List.length_cons, List.length_nil]; omega))) ⟨s / 60 % 60, by omega, rfl, ?_⟩
        refine gAnd_intro (okLen (by first | omega | (simp only [List.length_append, List.length_cons, List.length_nil]; omega))) ?_
        refine gAnd_intro (okLen (by first | omega | (simp only [List.length_append, List.length_cons, List.length_nil]; omega))) ⟨s % 60, by omega, rfl, ?_⟩
        refine gAnd_intro (okLen (by first | omega | (simp only [List.length_append, List.length_cons, List.length_nil]; omega))) ?_
        refine gAnd_intro (okLen (by first | omega | (simp only [List.length_append, List.length_cons, List.length_nil]; omega))) ?_
        simp [fixedS, clockS, d4, d2]
  | succ k ih =>
    intro z hz hz1
    have hle := bef_le y (a := z + 1) (b := m) (by omega) (by omega)
    rw [bef_succ y hz1] at hle
    have hg := longN_ge y z
    refine t13b hT ⟨y, z, by omega, hz1, by omega, rfl, ifP_intro (fun _ => ⟨y, z, by omega, hz1, by omega, rfl, ?_⟩) fun hc => ?_⟩
    · rw [wrap_in (n := (z : Int) + 1) (by omega) (by omega), wrap_in (by omega) (by omega)]
      have := ih (z + 1) (by omega) (by omega)
      rw [bef_succ y hz1] at this
      rw [show ((r - bef y z : Nat) : Int) - (longN y z : Nat) = ((r - (bef y z + longN y z) : Nat) : Int) by omega]
      exact this
    · simp at hc; omega

theorem c13 : COk cfg 13 putC := by
  refine cok_pure pf13 fun vs h K ht => ?_
  obtain ⟨t, rfl, hk⟩ := ht
  have hT := ctab_ok (ctab_cons c30 (ctab_cons c31 (ctab_cons c32 (ctab_cons c33 ctab_nil))))
  refine ⟨_, hk, t13a hT ?_⟩
  unfold putS
  refine ifP_intro (fun h1 => ?_) fun h1 => ifP_intro (fun h2 => ?_) fun h2 => ?_
  · simp at h1; rw [if_neg (by omega)]
  · simp at h2; rw [if_neg (by unfold lastT; omega)]
  · simp at h1 h2
    rw [if_pos ⟨h1, by unfold lastT; omega⟩]
    obtain ⟨n, rfl⟩ : ∃ n : Nat, t = n := ⟨t.toNat, by omega⟩
    have e1 : Int.tdiv (n : Int) 86400 = ((n / 86400 : Nat) : Int) := tdivN n 86400
    have e2 : Int.tmod (n : Int) 86400 = ((n % 86400 : Nat) : Int) := tmodN n 86400
    have hy := yearOf_spec (n / 86400)
    have hr := restOf_eq (n / 86400)
    have hm := monthOf_spec (n / 86400)
    have := loop13 hT (d := n / 86400) (s := n % 86400) (by omega) (by omega) hy.1 (year_le (by omega)) hm (monthOf (n / 86400) - 1) 1 (by have := hm.1; omega) (by omega)
    simp only [bef, Nat.sub_zero, hr] at this
    rw [e1, e2, wrap_in (n := ((n / 86400 : Nat) : Int)) (by omega) (by omega)]
    exact ⟨n / 86400, yearOf (n / 86400), by omega, hy, rfl, this⟩
end Go.Proofs.YtnefabbpjepppaaDoor
end

section
namespace Go.Proofs.YtnefabbpjepppaaDoor
open Go.Ai Go
set_option linter.unusedSimpArgs false
set_option linter.unusedVariables false

theorem pf10 : pureFn cfg 10 Tryd.f10 := ⟨by kernel_rfl, by kernel_rfl, by kernel_rfl, by kernel_rfl, by kernel_rfl, by kernel_rfl⟩
theorem pf4 : pureFn cfg 4 Tryd.f4 := ⟨by kernel_rfl, by kernel_rfl, by kernel_rfl, by kernel_rfl, by kernel_rfl, by kernel_rfl⟩
theorem pf9 : pureFn cfg 9 Tryd.f9 := ⟨by kernel_rfl, by kernel_rfl, by kernel_rfl, by kernel_rfl, by kernel_rfl, by kernel_rfl⟩
theorem awake_eval : isTrue (call cfg false 100000 10 [] []) = true := by kernel_rfl
theorem c10 : COk cfg 10 trueC := cok_true pf10 awake_eval

theorem tabPuts : TabOk cfg (ctab [(10, trueC), (13, putC), (14, putC)]) := ctab_ok (ctab_cons c10 (ctab_cons c13 (ctab_cons c14 ctab_nil)))

theorem c4 : COk cfg 4 (fun vs h K => ∃ t : Int, vs = [.int .i64 t] ∧ K (.bool true) h) := by
  refine cok_pure pf4 fun vs h K ht => ?_
  obtain ⟨t, rfl, hk⟩ := ht
  refine ⟨_, hk, t4 tabPuts ⟨t, rfl, t, rfl, ifP_intro (fun _ => ⟨rfl, rfl⟩) fun hc => ?_⟩⟩
  simp at hc

theorem c9 : COk cfg 9 (fun vs h K => ∃ a b : Nat, vs = [.int .u64 a, .int .u64 b] ∧ K (.bool true) h) := by
  refine cok_pure pf9 fun vs h K ht => ?_
  obtain ⟨a, b, rfl, hk⟩ := ht
  refine ⟨_, hk, t9 tabPuts ?_⟩
  have ea : IntKind.wrap .i64 (Int.tmod (a : Int) 253402300800) = ((a % 253402300800 : Nat) : Int) := by
    rw [show Int.tmod (a : Int) 253402300800 = ((a % 253402300800 : Nat) : Int) from tmodN a 253402300800, wrap_in] <;> omega
  have eb : IntKind.wrap .i64 (Int.tmod (b : Int) 253402300800) = ((b % 253402300800 : Nat) : Int) := by
    rw [show Int.tmod (b : Int) 253402300800 = ((b % 253402300800 : Nat) : Int) from tmodN b 253402300800, wrap_in] <;> omega
  rw [ea, eb]
  have ha : a % 253402300800 ≤ lastT := by unfold lastT; omega
  have hb : b % 253402300800 ≤ lastT := by unfold lastT; omega
  generalize a % 253402300800 = x at ha
  generalize b % 253402300800 = y at hb
  have dx : IntKind.wrap .i64 (Int.tdiv (x : Int) 86400) = ((x / 86400 : Nat) : Int) := by
    rw [show Int.tdiv (x : Int) 86400 = ((x / 86400 : Nat) : Int) from tdivN x 86400]
    unfold lastT at ha; rw [wrap_in] <;> omega
  have dy : IntKind.wrap .i64 (Int.tdiv (y : Int) 86400) = ((y / 86400 : Nat) : Int) := by
    rw [show Int.tdiv (y : Int) 86400 = ((y / 86400 : Nat) : Int) from tdivN y 86400]
    unfold lastT at hb; rw [wrap_in] <;> omega
  have lx := putS_len ha
  have ly := putS_len hb
  refine ⟨x, rfl, y, rfl, ifP_intro (fun h => ?_) fun _ => ifP_intro (fun h => ?_) fun _ => ifP_intro (fun h => ?_) fun _ => gAnd_intro ?_ (gAnd_intro ?_ (ifP_intro (fun _ => ⟨rfl, rfl⟩) fun h => ?_))⟩
  · rw [lx] at h; simp at h
  · rw [ly] at h; simp at h
  · exfalso
    have e : (putS x == putS y) = ((x : Int) == (y : Int)) := by
      by_cases hxy : x = y
      · subst hxy; simp
      · have : ¬putS x = putS y := fun hp => hxy (putS_inj ha hb hp)
        have h1 : (putS x == putS y) = false := by simpa using this
        have h2 : ((x : Int) == (y : Int)) = false := by simp; omega
        rw [h1, h2]
    rw [e] at h
    simp at h
  · rw [lx]; rfl
  · rw [ly]; rfl
  · exfalso
    rw [dx, dy] at h
    have e : (cutL (putS x) none (some 16) == cutL (putS y) none (some 16)) = (((x / 86400 : Nat) : Int) == ((y / 86400 : Nat) : Int)) := by
      have t := take_same ha hb
      by_cases hd : x / 86400 = y / 86400
      · have := t.2 hd
        have h1 : (cutL (putS x) none (some 16) == cutL (putS y) none (some 16)) = true := by
          show ((putS x).take 16 == (putS y).take 16) = true
          simpa using this
        rw [h1, hd]; simp
      · have : ¬(putS x).take 16 = (putS y).take 16 := fun hp => hd (t.1 hp)
        have h1 : (cutL (putS x) none (some 16) == cutL (putS y) none (some 16)) = false := by
          show ((putS x).take 16 == (putS y).take 16) = false
          simpa using this
        rw [h1]
        symm
        simp; omega
    rw [e] at h
    simp at h

/-! What a row reads at the types of these laws. -/
def plainS : List TypeId := [2, 3, 5, 9, 31, 32]
theorem plainS_ok : closedT Tryd.prog plainS plainS = true := by kernel_rfl
theorem arg_i64 {n : Nat} {v : AV} (h : argOf Tryd.prog n 2 v) : ∃ z : Int, (Lit.int .i64 z).wf = true ∧ v = .int .i64 z := by
  cases n with
  | zero => exact False.elim h
  | succ n =>
    have h' : wt Tryd.prog (n + 1) 2 [v] := h
    simp only [wt, Tryd.underlying2] at h'
    obtain ⟨z, h1, h2⟩ := h'
    injection h2 with h2 _
    exact ⟨z, h1, h2⟩
theorem arg_u64 {n : Nat} {v : AV} (h : argOf Tryd.prog n 31 v) : ∃ z : Nat, z < 18446744073709551616 ∧ v = .int .u64 z := by
  cases n with
  | zero => exact False.elim h
  | succ n =>
    have h' : wt Tryd.prog (n + 1) 31 [v] := h
    simp only [wt, Tryd.underlying31] at h'
    obtain ⟨z, h1, h2⟩ := h'
    injection h2 with h2 _
    have hw : 0 ≤ z ∧ z ≤ 18446744073709551615 := by simpa [Lit.wf, IntKind.min, IntKind.max, IntKind.signed, IntKind.bits] using h1
    exact ⟨z.toNat, by omega, by rw [h2]; congr 1; omega⟩
theorem arg_string {n : Nat} {v : AV} (h : argOf Tryd.prog n 9 v) : ∃ s : List UInt8, s.length ≤ maxLen ∧ v = .str s := by
  cases n with
  | zero => exact False.elim h
  | succ n =>
    have h' : wt Tryd.prog (n + 1) 9 [v] := h
    simp only [wt, Tryd.underlying9] at h'
    obtain ⟨z, h1, h2⟩ := h'
    injection h2 with h2 _
    exact ⟨z, h1, h2⟩
end Go.Proofs.YtnefabbpjepppaaDoor
end
