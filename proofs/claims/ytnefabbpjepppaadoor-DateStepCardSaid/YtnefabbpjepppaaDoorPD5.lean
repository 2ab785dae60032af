/-
  DatePuts and DateStep keep to their contracts: at any ticks they answer true.
-/
import Derived.Test.YtnefabbpjepppaaDoorD3
import Derived.Test.YtnefabbpjepppaaDoorPD4
import Derived.Test.YtnefabbpjepppaaDoorDtLaw
namespace Go.Proofs.YtnefabbpjepppaaDoor
open Go.Ai Go
set_option linter.unusedSimpArgs false
set_option linter.unusedVariables false

theorem pf10 : pureFn cfg 10 Tryd.f10 := ⟨by kernel_rfl, by kernel_rfl, by kernel_rfl, by kernel_rfl, by kernel_rfl, by kernel_rfl⟩
theorem pf4 : pureFn cfg 4 Tryd.f4 := ⟨by kernel_rfl, by kernel_rfl, by kernel_rfl, by kernel_rfl, by kernel_rfl, by kernel_rfl⟩
theorem pf9 : pureFn cfg 9 Tryd.f9 := ⟨by kernel_rfl, by kernel_rfl, by kernel_rfl, by kernel_rfl, by kernel_rfl, by kernel_rfl⟩
theorem awake_eval : isTrue (call cfg false 100000 10 [] []) = true := by kernel_rfl
theorem c10 : COk cfg 10 trueC := cok_true pf10 awake_eval

theorem tabPuts : TabOk cfg (ctab [(10, trueC), (13, putC), (14, putC)]) := ctab_ok (ctab_cons c10 (ctab_cons c13 (ctab_cons c14 ctab_nil)))

theorem c4 : COk cfg 4 (fun vs h K => ∃ t : Int, vs = [.int .i64 t] ∧ K (.bool true) h) := by
  refine cok_pure pf4 fun vs h K ht => ?_
  obtain ⟨t, rfl, hk⟩ := ht
  refine ⟨_, hk, t4 tabPuts ⟨t, rfl, t, rfl, ifP_intro (fun _ => ⟨rfl, rfl⟩) fun hc => ?_⟩⟩
  simp at hc

theorem c9 : COk cfg 9 (fun vs h K => ∃ a b : Nat, vs = [.int .u64 a, .int .u64 b] ∧ K (.bool true) h) := by
  refine cok_pure pf9 fun vs h K ht => ?_
  obtain ⟨a, b, rfl, hk⟩ := ht
  refine ⟨_, hk, t9 tabPuts ?_⟩
  have ea : IntKind.wrap .i64 (Int.tmod (a : Int) 253402300800) = ((a % 253402300800 : Nat) : Int) := by
    rw [show Int.tmod (a : Int) 253402300800 = ((a % 253402300800 : Nat) : Int) from tmodN a 253402300800, wrap_in] <;> omega
  have eb : IntKind.wrap .i64 (Int.tmod (b : Int) 253402300800) = ((b % 253402300800 : Nat) : Int) := by
    rw [show Int.tmod (b : Int) 253402300800 = ((b % 253402300800 : Nat) : Int) from tmodN b 253402300800, wrap_in] <;> omega
  rw [ea, eb]
  have ha : a % 253402300800 ≤ lastT := by unfold lastT; omega
  have hb : b % 253402300800 ≤ lastT := by unfold lastT; omega
  generalize a % 253402300800 = x at ha
  generalize b % 253402300800 = y at hb
  have dx : IntKind.wrap .i64 (Int.tdiv (x : Int) 86400) = ((x / 86400 : Nat) : Int) := by
    rw [show Int.tdiv (x : Int) 86400 = ((x / 86400 : Nat) : Int) from tdivN x 86400]
    unfold lastT at ha; rw [wrap_in] <;> omega
  have dy : IntKind.wrap .i64 (Int.tdiv (y : Int) 86400) = ((y / 86400 : Nat) : Int) := by
    rw [show Int.tdiv (y : Int) 86400 = ((y / 86400 : Nat) : Int) from tdivN y 86400]
    unfold lastT at hb; rw [wrap_in] <;> omega
  have lx := putS_len ha
  have ly := putS_len hb
  refine ⟨x, rfl, y, rfl, ifP_intro (fun h => ?_) fun _ => ifP_intro (fun h => ?_) fun _ => ifP_intro (fun h => ?_) fun _ => gAnd_intro ?_ (gAnd_intro ?_ (ifP_intro (fun _ => ⟨rfl, rfl⟩) fun h => ?_))⟩
  · rw [lx] at h; simp at h
  · rw [ly] at h; simp at h
  · exfalso
    have e : (putS x == putS y) = ((x : Int) == (y : Int)) := by
      by_cases hxy : x = y
      · subst hxy; simp
      · have : ¬putS x = putS y := fun hp => hxy (putS_inj ha hb hp)
        have h1 : (putS x == putS y) = false := by simpa using this
        have h2 : ((x : Int) == (y : Int)) = false := by simp; omega
        rw [h1, h2]
    rw [e] at h
    simp at h
  · rw [lx]; rfl
  · rw [ly]; rfl
  · exfalso
    rw [dx, dy] at h
    have e : (cutL (putS x) none (some 16) == cutL (putS y) none (some 16)) = (((x / 86400 : Nat) : Int) == ((y / 86400 : Nat) : Int)) := by
      have t := take_same ha hb
      by_cases hd : x / 86400 = y / 86400
      · have := t.2 hd
        have h1 : (cutL (putS x) none (some 16) == cutL (putS y) none (some 16)) = true := by
          show ((putS x).take 16 == (putS y).take 16) = true
          simpa using this
        rw [h1, hd]; simp
      · have : ¬(putS x).take 16 = (putS y).take 16 := fun hp => hd (t.1 hp)
        have h1 : (cutL (putS x) none (some 16) == cutL (putS y) none (some 16)) = false := by
          show ((putS x).take 16 == (putS y).take 16) = false
          simpa using this
        rw [h1]
        symm
        simp; omega
    rw [e] at h
    simp at h

/-! What a row reads at the types of these laws. -/
def plainS : List TypeId := [2, 3, 5, 9, 31, 32]
theorem plainS_ok : closedT Tryd.prog plainS plainS = true := by kernel_rfl
theorem arg_i64 {n : Nat} {v : AV} (h : argOf Tryd.prog n 2 v) : ∃ z : Int, (Lit.int .i64 z).wf = true ∧ v = .int .i64 z := by
  cases n with
  | zero => exact False.elim h
  | succ n =>
    have h' : wt Tryd.prog (n + 1) 2 [v] := h
    simp only [wt, Tryd.underlying2] at h'
    obtain ⟨z, h1, h2⟩ := h'
    injection h2 with h2 _
    exact ⟨z, h1, h2⟩
theorem arg_u64 {n : Nat} {v : AV} (h : argOf Tryd.prog n 31 v) : ∃ z : Nat, z < 18446744073709551616 ∧ v = .int .u64 z := by
  cases n with
  | zero => exact False.elim h
  | succ n =>
    have h' : wt Tryd.prog (n + 1) 31 [v] := h
    simp only [wt, Tryd.underlying31] at h'
    obtain ⟨z, h1, h2⟩ := h'
    injection h2 with h2 _
    have hw : 0 ≤ z ∧ z ≤ 18446744073709551615 := by simpa [Lit.wf, IntKind.min, IntKind.max, IntKind.signed, IntKind.bits] using h1
    exact ⟨z.toNat, by omega, by rw [h2]; congr 1; omega⟩
theorem arg_string {n : Nat} {v : AV} (h : argOf Tryd.prog n 9 v) : ∃ s : List UInt8, s.length ≤ maxLen ∧ v = .str s := by
  cases n with
  | zero => exact False.elim h
  | succ n =>
    have h' : wt Tryd.prog (n + 1) 9 [v] := h
    simp only [wt, Tryd.underlying9] at h'
    obtain ⟨z, h1, h2⟩ := h'
    injection h2 with h2 _
    exact ⟨z, h1, h2⟩
end Go.Proofs.YtnefabbpjepppaaDoor
