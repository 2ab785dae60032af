/-
  The program's readers of pieces keep to their contracts: prefixes, numbers, names.
  The program's reader of one piece keeps to its contract.
  The program's judge of a date's numbers keeps to its contract.
  The program's Parse keeps to its contract. Printed by a home tool.
-/
import Derived.Test.YtnefabbpjepppaaDoorJPa
import Derived.Test.YtnefabbpjepppaaDoorJTr
import Derived.Test.YtnefabbpjepppaaDoorJPb
import Derived.Test.YtnefabbpjepppaaDoorJDt
import Derived.Test.YtnefabbpjepppaaDoorJTx
import Derived.Test.YtnefabbpjepppaaDoorJTy
section
namespace Go.Proofs.YtnefabbpjepppaaDoor
open Go.Ai Go
set_option linter.unusedSimpArgs false
set_option linter.unusedVariables false

theorem pf54 : pureFn cfg 54 Tryd.f54 := ⟨by kernel_rfl, by kernel_rfl, by kernel_rfl, by kernel_rfl, by kernel_rfl, by kernel_rfl⟩
theorem pf51 : pureFn cfg 51 Tryd.f51 := ⟨by kernel_rfl, by kernel_rfl, by kernel_rfl, by kernel_rfl, by kernel_rfl, by kernel_rfl⟩
theorem pf45 : pureFn cfg 45 Tryd.f45 := ⟨by kernel_rfl, by kernel_rfl, by kernel_rfl, by kernel_rfl, by kernel_rfl, by kernel_rfl⟩
theorem pf44 : pureFn cfg 44 Tryd.f44 := ⟨by kernel_rfl, by kernel_rfl, by kernel_rfl, by kernel_rfl, by kernel_rfl, by kernel_rfl⟩
theorem pf43 : pureFn cfg 43 Tryd.f43 := ⟨by kernel_rfl, by kernel_rfl, by kernel_rfl, by kernel_rfl, by kernel_rfl, by kernel_rfl⟩
theorem pf21 : pureFn cfg 21 Tryd.f21 := ⟨by kernel_rfl, by kernel_rfl, by kernel_rfl, by kernel_rfl, by kernel_rfl, by kernel_rfl⟩

theorem pre_len {s x : List UInt8} (h : x.isPrefixOf s = true) : x.length ≤ s.length := (List.isPrefixOf_iff_prefix.1 h).length_le
theorem pre_take {s x : List UInt8} (h : x.length ≤ s.length) : (s.take x.length == x) = x.isPrefixOf s := by
  rw [Bool.eq_iff_iff, beq_iff_eq, List.isPrefixOf_iff_prefix, List.prefix_iff_eq_take]
  exact ⟨fun h => h.symm, fun h => h.symm⟩

theorem c54 : COk cfg 54 prefC := by
  refine cok_pure pf54 fun vs h K ht => ?_
  obtain ⟨s, x, rfl, hk⟩ := ht
  refine ⟨_, hk, t54 noT (ifP_intro (fun hc => gAnd_intro ?_ ?_) fun hc => ?_)⟩
  · simp at hc
    simp only [cutOb, Bool.and_eq_true, decide_eq_true_eq]; omega
  · simp at hc
    have := pre_take (s := s) (x := x) (by omega)
    simp only [cutL, Int.toNat_natCast, this]
  · simp at hc
    cases hp : x.isPrefixOf s with
    | false => rfl
    | true => have := pre_len hp; omega

theorem c51 : COk cfg 51 cutPC := by
  refine cok_pure pf51 fun vs h K ht => ?_
  obtain ⟨s, x, rfl, hk⟩ := ht
  refine ⟨_, hk, t51 (ctab_ok (ctab_cons c54 ctab_nil)) ⟨s, x, rfl, ifP_intro (fun hc => ?_) fun hc => gAnd_intro ?_ ?_⟩⟩
  · simp only [Bool.not_eq_true'] at hc
    simp only [cutP, hc, cond_false]
  · simp only [Bool.not_eq_false'] at hc
    have := pre_len hc
    simp only [cutOb, Bool.and_eq_true, decide_eq_true_eq]; omega
  · simp only [Bool.not_eq_false'] at hc
    simp only [cutP, hc, cond_true, cutL, Int.toNat_natCast]

theorem c45 : COk cfg 45 cutPC := by
  refine cok_pure pf45 fun vs h K ht => ?_
  obtain ⟨s, x, rfl, hk⟩ := ht
  exact ⟨_, hk, t45 (ctab_ok (ctab_cons c51 ctab_nil)) ⟨s, x, rfl, rfl⟩⟩

theorem dig_lo {c : UInt8} (h : decide (((c.toNat : Nat) : Int) < 48) = true) : isDig c = false := by
  simp at h
  unfold isDig
  rw [decide_eq_false (p := 48 ≤ c.toNat) (by omega)]; rfl
theorem dig_hi {c : UInt8} (h : decide (((c.toNat : Nat) : Int) > 57) = true) : isDig c = false := by
  simp at h
  unfold isDig
  rw [decide_eq_false (p := c.toNat ≤ 57) (by omega), Bool.and_false]
theorem digc_ok {c : UInt8} (h1 : decide (((c.toNat : Nat) : Int) < 48) = false) (h2 : decide (((c.toNat : Nat) : Int) > 57) = false) :
    isDig c = true ∧ 48 ≤ c.toNat ∧ c.toNat ≤ 57 := by
  simp at h1 h2
  unfold isDig
  rw [decide_eq_true (p := 48 ≤ c.toNat) (by omega), decide_eq_true (p := c.toNat ≤ 57) (by omega)]
  exact ⟨rfl, by omega, by omega⟩
theorem dig_val {c : UInt8} (h : 48 ≤ c.toNat ∧ c.toNat ≤ 57) : IntKind.wrap .i64 (IntKind.wrap .u8 (((c.toNat : Nat) : Int) - 48)) = ((c.toNat - 48 : Nat) : Int) := by
  have : IntKind.wrap .u8 (((c.toNat : Nat) : Int) - 48) = ((c.toNat - 48 : Nat) : Int) := by
    rw [show (((c.toNat : Nat) : Int) - 48) = ((c.toNat - 48 : Nat) : Int) by omega]
    rw [wrap_u8_in (by omega) (by omega)]
  rw [this, wrap_in (by omega) (by omega)]

theorem in_dec {i : Int} {n : Nat} (h1 : 0 ≤ i) (h2 : i < n) : inR i n = true := inR_of h1 h2

theorem w_first {d : Nat} (h : d ≤ 9) : IntKind.wrap .i64 (0 + (d : Int)) = (d : Int) := by rw [wrap_in] <;> omega
theorem w_next {k d : Nat} (hk : k ≤ 100000) (h : d ≤ 9) : IntKind.wrap .i64 (IntKind.wrap .i64 (10 * (k : Int)) + (d : Int)) = ((10 * k + d : Nat) : Int) := by
  rw [wrap_in (n := 10 * (k : Int)) (by omega) (by omega), wrap_in (by omega) (by omega)]; omega
theorem numA_short : ∀ (n k : Nat) (s : List UInt8), s.length < n → numA n k s = none
  | n + 1, k, [], _ => rfl
  | n + 1, k, c :: s, h => by
    rw [numA, numA_short n _ s (by simp at h; omega)]
    cases isDig c <;> rfl
theorem long_1 (s : List UInt8) (h : 1 ≤ s.length) : ∃ a r, s = a :: r := by
  rcases s with _ | ⟨a, r⟩
  · simp at h
  · exact ⟨a, r, rfl⟩
theorem long_2 (s : List UInt8) (h : 2 ≤ s.length) : ∃ a b r, s = a :: b :: r := by
  obtain ⟨a, r, rfl⟩ := long_1 s (by omega)
  obtain ⟨b, r, rfl⟩ := long_1 r (by simp at h; omega)
  exact ⟨a, b, r, rfl⟩
theorem long_4 (s : List UInt8) (h : 4 ≤ s.length) : ∃ a b c e r, s = a :: b :: c :: e :: r := by
  obtain ⟨a, b, r, rfl⟩ := long_2 s (by omega)
  obtain ⟨c, e, r, rfl⟩ := long_2 r (by simp at h; omega)
  exact ⟨a, b, c, e, r, rfl⟩
theorem c44_1 {s : List UInt8} {v : AV} (hv : AV.tup [.int .i64 (numR 1 s).1, .str (numR 1 s).2.1, .bool (numR 1 s).2.2] = v) : ToEnd cfg 44 (bodyOf Tryd.f44) (RetIs Tryd.prog Tryd.f44 v) [.code []] .normal [(0, true, .str s), (1, true, .int .i64 1)] [] := by
  subst hv
  refine t44_1 noT (ifP_intro (fun hc => ?_) fun hc => ?_)
  · have : numA 1 0 s = none := numA_short _ _ _ (by simp at hc; omega)
    simp only [numR, this]; rfl
  · obtain ⟨a, r, rfl⟩ := long_1 s (by simp at hc; omega)
    refine gAnd_intro (inR_of (by omega) (by simp only [List.length_cons]; omega)) (ifP_intro (fun h => ?_) fun la => gAnd_intro (inR_of (by omega) (by simp only [List.length_cons]; omega)) (ifP_intro (fun h => ?_) fun ua => gAnd_intro (inR_of (by omega) (by simp only [List.length_cons]; omega)) ?_))
    · have e : isDig a = false := dig_lo h
      simp only [numR, numA, e, cond_true, cond_false]; rfl
    · have e : isDig a = false := dig_hi h
      simp only [numR, numA, e, cond_true, cond_false]; rfl
    obtain ⟨da, ba⟩ := digc_ok (c := a) la ua
    refine gAnd_intro (by simp only [cutOb, List.length_cons, Bool.and_eq_true, decide_eq_true_eq]; omega) ?_
    have wa := dig_val ba
    simp only [numR, numA, da, cond_true, List.getD_cons_zero, List.getD_cons_succ, wa, cutL]
    congr 2
    · congr 1
      rw [w_first (by omega)]
      omega
theorem c44_2 {s : List UInt8} {v : AV} (hv : AV.tup [.int .i64 (numR 2 s).1, .str (numR 2 s).2.1, .bool (numR 2 s).2.2] = v) : ToEnd cfg 44 (bodyOf Tryd.f44) (RetIs Tryd.prog Tryd.f44 v) [.code []] .normal [(0, true, .str s), (1, true, .int .i64 2)] [] := by
  subst hv
  refine t44_2 noT (ifP_intro (fun hc => ?_) fun hc => ?_)
  · have : numA 2 0 s = none := numA_short _ _ _ (by simp at hc; omega)
    simp only [numR, this]; rfl
  · obtain ⟨a, b, r, rfl⟩ := long_2 s (by simp at hc; omega)
    refine gAnd_intro (inR_of (by omega) (by simp only [List.length_cons]; omega)) (ifP_intro (fun h => ?_) fun la => gAnd_intro (inR_of (by omega) (by simp only [List.length_cons]; omega)) (ifP_intro (fun h => ?_) fun ua => gAnd_intro (inR_of (by omega) (by simp only [List.length_cons]; omega)) ?_))
    · have e : isDig a = false := dig_lo h
      simp only [numR, numA, e, cond_true, cond_false]; rfl
    · have e : isDig a = false := dig_hi h
      simp only [numR, numA, e, cond_true, cond_false]; rfl
    refine gAnd_intro (inR_of (by omega) (by simp only [List.length_cons]; omega)) (ifP_intro (fun h => ?_) fun lb => gAnd_intro (inR_of (by omega) (by simp only [List.length_cons]; omega)) (ifP_intro (fun h => ?_) fun ub => gAnd_intro (inR_of (by omega) (by simp only [List.length_cons]; omega)) ?_))
    · have e : isDig b = false := dig_lo h
      have da : isDig a = true := (digc_ok la ua).1
      simp only [numR, numA, e, da, cond_true, cond_false]; rfl
    · have e : isDig b = false := dig_hi h
      have da : isDig a = true := (digc_ok la ua).1
      simp only [numR, numA, e, da, cond_true, cond_false]; rfl
    obtain ⟨da, ba⟩ := digc_ok (c := a) la ua
    obtain ⟨db, bb⟩ := digc_ok (c := b) lb ub
    refine gAnd_intro (by simp only [cutOb, List.length_cons, Bool.and_eq_true, decide_eq_true_eq]; omega) ?_
    have wa := dig_val ba
    have wb := dig_val bb
    simp only [numR, numA, da, db, cond_true, List.getD_cons_zero, List.getD_cons_succ, wa, wb, cutL]
    congr 2
    · congr 1
      rw [w_first (by omega)]
      rw [w_next (by omega) (by omega)]
      omega
theorem c44_4 {s : List UInt8} {v : AV} (hv : AV.tup [.int .i64 (numR 4 s).1, .str (numR 4 s).2.1, .bool (numR 4 s).2.2] = v) : ToEnd cfg 44 (bodyOf Tryd.f44) (RetIs Tryd.prog Tryd.f44 v) [.code []] .normal [(0, true, .str s), (1, true, .int .i64 4)] [] := by
  subst hv
  refine t44_4 noT (ifP_intro (fun hc => ?_) fun hc => ?_)
  · have : numA 4 0 s = none := numA_short _ _ _ (by simp at hc; omega)
    simp only [numR, this]; rfl
  · obtain ⟨a, b, c, e, r, rfl⟩ := long_4 s (by simp at hc; omega)
    refine gAnd_intro (inR_of (by omega) (by simp only [List.length_cons]; omega)) (ifP_intro (fun h => ?_) fun la => gAnd_intro (inR_of (by omega) (by simp only [List.length_cons]; omega)) (ifP_intro (fun h => ?_) fun ua => gAnd_intro (inR_of (by omega) (by simp only [List.length_cons]; omega)) ?_))
    · have e : isDig a = false := dig_lo h
      simp only [numR, numA, e, cond_true, cond_false]; rfl
    · have e : isDig a = false := dig_hi h
      simp only [numR, numA, e, cond_true, cond_false]; rfl
    refine gAnd_intro (inR_of (by omega) (by simp only [List.length_cons]; omega)) (ifP_intro (fun h => ?_) fun lb => gAnd_intro (inR_of (by omega) (by simp only [List.length_cons]; omega)) (ifP_intro (fun h => ?_) fun ub => gAnd_intro (inR_of (by omega) (by simp only [List.length_cons]; omega)) ?_))
    · have e : isDig b = false := dig_lo h
      have da : isDig a = true := (digc_ok la ua).1
      simp only [numR, numA, e, da, cond_true, cond_false]; rfl
    · have e : isDig b = false := dig_hi h
      have da : isDig a = true := (digc_ok la ua).1
      simp only [numR, numA, e, da, cond_true, cond_false]; rfl
    refine gAnd_intro (inR_of (by omega) (by simp only [List.length_cons]; omega)) (ifP_intro (fun h => ?_) fun lc => gAnd_intro (inR_of (by omega) (by simp only [List.length_cons]; omega)) (ifP_intro (fun h => ?_) fun uc => gAnd_intro (inR_of (by omega) (by simp only [List.length_cons]; omega)) ?_))
    · have e : isDig c = false := dig_lo h
      have da : isDig a = true := (digc_ok la ua).1
      have db : isDig b = true := (digc_ok lb ub).1
      simp only [numR, numA, e, da, db, cond_true, cond_false]; rfl
    · have e : isDig c = false := dig_hi h
      have da : isDig a = true := (digc_ok la ua).1
      have db : isDig b = true := (digc_ok lb ub).1
      simp only [numR, numA, e, da, db, cond_true, cond_false]; rfl
    refine gAnd_intro (inR_of (by omega) (by simp only [List.length_cons]; omega)) (ifP_intro (fun h => ?_) fun le => gAnd_intro (inR_of (by omega) (by simp only [List.length_cons]; omega)) (ifP_intro (fun h => ?_) fun ue => gAnd_intro (inR_of (by omega) (by simp only [List.length_cons]; omega)) ?_))
    · have e : isDig e = false := dig_lo h
      have da : isDig a = true := (digc_ok la ua).1
      have db : isDig b = true := (digc_ok lb ub).1
      have dc : isDig c = true := (digc_ok lc uc).1
      simp only [numR, numA, e, da, db, dc, cond_true, cond_false]; rfl
    · have e : isDig e = false := dig_hi h
      have da : isDig a = true := (digc_ok la ua).1
      have db : isDig b = true := (digc_ok lb ub).1
      have dc : isDig c = true := (digc_ok lc uc).1
      simp only [numR, numA, e, da, db, dc, cond_true, cond_false]; rfl
    obtain ⟨da, ba⟩ := digc_ok (c := a) la ua
    obtain ⟨db, bb⟩ := digc_ok (c := b) lb ub
    obtain ⟨dc, bc⟩ := digc_ok (c := c) lc uc
    obtain ⟨de, be⟩ := digc_ok (c := e) le ue
    refine gAnd_intro (by simp only [cutOb, List.length_cons, Bool.and_eq_true, decide_eq_true_eq]; omega) ?_
    have wa := dig_val ba
    have wb := dig_val bb
    have wc := dig_val bc
    have we := dig_val be
    simp only [numR, numA, da, db, dc, de, cond_true, List.getD_cons_zero, List.getD_cons_succ, wa, wb, wc, we, cutL]
    congr 2
    · congr 1
      rw [w_first (by omega)]
      rw [w_next (by omega) (by omega)]
      rw [w_next (by omega) (by omega)]
      rw [w_next (by omega) (by omega)]
      omega

theorem c44 : COk cfg 44 numC := by
  refine cok_pure pf44 fun vs h K ht => ?_
  obtain ⟨s, n, hn, rfl, hk⟩ := ht
  refine ⟨_, hk, ?_⟩
  rcases hn with rfl | rfl | rfl
  · exact c44_1 rfl
  · exact c44_2 rfl
  · exact c44_4 rfl
theorem c21 : COk cfg 21 formsC := by
  refine cok_pure pf21 fun vs h K ht => ?_
  obtain ⟨hv, hk⟩ := ht
  cases vs with
  | nil => exact ⟨_, hk, t21 noT rfl⟩
  | cons _ _ => cases hv
theorem c46 : COk cfg 46 idxC := by
  refine cok_prim (g := pIndex) (by kernel_rfl) (by kernel_rfl) (by kernel_rfl) (by kernel_rfl) fun vs h K ht => ?_
  obtain ⟨s, x, hl, rfl, hk⟩ := ht
  have h1 : Nat.blt s.length 4294967281 = true := Nat.ble_eq_true_of_le (by omega)
  exact ⟨.int .i64 (idxB s x 0), hk, by simp only [pIndex, h1]⟩

theorem encS_len (L : List (List UInt8)) : (encS L).length = L.length := by simp [encS]
def nameO (o : Option (Nat × List UInt8)) : AV := match o with
  | some (k, r) => .tup [.int .i64 k, .str r, .bool true]
  | none => .tup [.int .i64 0, .str [], .bool false]
theorem nameO_eq (m : Nat) (s : List UInt8) (L : List (List UInt8)) : AV.tup [.int .i64 (nameR m s L).1, .str (nameR m s L).2.1, .bool (nameR m s L).2.2] = nameO (nameA m s L 0) := by
  unfold nameR nameO
  cases nameA m s L 0 with
  | none => rfl
  | some p => rfl
theorem loop43 (hT : TabOk cfg (ctab [(45, cutPC)])) (s : List UInt8) (m : Nat) (hm : m ≤ 3) : ∀ (r pre : List (List UInt8)), (pre ++ r).length ≤ 100 → (∀ x ∈ r, m ≤ x.length) →
    ToEnd cfg 43 (bodyOf Tryd.f43) (RetIs Tryd.prog Tryd.f43 (nameO (nameA m s r pre.length))) [Fm.code [0, 1, 0, 1], Fm.block 0, Fm.code [1, 1]] XT.normal [(0, true, AV.str s), (2, true, AV.int IntKind.i64 m), (13, true, AV.sl 1 (encS (pre ++ r)) none), (14, true, AV.int IntKind.i64 (↑(List.length (pre ++ r)) : Int)), (15, true, AV.int IntKind.i64 pre.length)] [] := by
  intro r
  induction r with
  | nil =>
    intro pre hl hx
    refine t43b hT (ifP_intro (fun hc => ?_) fun hc => rfl)
    simp at hc
  | cons x r ih =>
    intro pre hl hx
    have hxm := hx x (List.mem_cons_self ..)
    have hl' : pre.length + (r.length + 1) ≤ 100 := by simpa using hl
    have e : (pre ++ [x]) ++ r = pre ++ x :: r := by simp
    have ih := ih (pre ++ [x]) (by rw [e]; exact hl) fun y hy => hx y (List.mem_cons_of_mem _ hy)
    have el : (pre ++ [x]).length = pre.length + 1 := by simp
    rw [e, el] at ih
    have ew : IntKind.wrap .i64 ((pre.length : Int) + 1) = ((pre.length + 1 : Nat) : Int) := by rw [wrap_in (by omega) (by omega)]; omega
    have eg : getE (encS (pre ++ x :: r)) (pre.length : Int) = [.str x] := by
      rw [getE_encS _ (by simp)]; simp
    refine t43b hT (ifP_intro (fun hc => gAnd_intro (by rw [inR_of (by omega) (by rw [encS_len]; simp only [List.length_append, List.length_cons]; omega)]; rfl) ⟨x, eg, ?_⟩) fun hc => ?_)
    · rw [ew]
      refine ifP_intro (fun h0 => gAnd_intro ?_ ⟨s, x.take m, rfl, ?_⟩) fun h0 => ⟨s, x, rfl, ?_⟩
      · simp only [cutOb, Bool.and_eq_true, decide_eq_true_eq]; omega
      · simp at h0
        have hm0 : 0 < m := h0
        unfold cutP
        cases hp : (x.take m).isPrefixOf s with
        | true => simp only [nameA, hm0, if_true, hp, cond_true]; rfl
        | false => simp only [nameA, hm0, if_true, hp, cond_false] at ih ⊢; exact ih
      · simp at h0
        have hm0 : ¬0 < m := by omega
        unfold cutP
        cases hp : x.isPrefixOf s with
        | true => simp only [nameA, hm0, if_false, hp, cond_true]; rfl
        | false => simp only [nameA, hm0, if_false, hp, cond_false] at ih ⊢; exact ih
    · simp at hc; omega
theorem c43 : COk cfg 43 nameC := by
  refine cok_pure pf43 fun vs h K ht => ?_
  obtain ⟨s, L, m, hm, hl, hx, rfl, hk⟩ := ht
  refine ⟨_, hk, ?_⟩
  rw [nameO_eq]
  refine t43a (ctab_ok (ctab_cons c45 ctab_nil)) ?_
  rw [encS_len]
  exact loop43 (ctab_ok (ctab_cons c45 ctab_nil)) s m hm L [] hl hx
end Go.Proofs.YtnefabbpjepppaaDoor
end

section
namespace Go.Proofs.YtnefabbpjepppaaDoor
open Go.Ai Go
set_option linter.unusedSimpArgs false
set_option linter.unusedVariables false

theorem hf22 : heapFn cfg 22 Tryd.f22 := ⟨by kernel_rfl, by kernel_rfl, by kernel_rfl, by kernel_rfl, by kernel_rfl, by kernel_rfl⟩
theorem hf23 : heapFn cfg 23 Tryd.f23 := ⟨by kernel_rfl, by kernel_rfl, by kernel_rfl, by kernel_rfl, by kernel_rfl, by kernel_rfl⟩
theorem enc_ascii : ∀ p, p < 128 → (Utf8.encode ((p : Nat) : Int)).data.toList = [UInt8.ofNat p] := by decide
theorem idxB_le : ∀ (s x : List UInt8) (i : Nat), idxB s x i ≤ s.length + i
  | [], x, i => by unfold idxB; split <;> simp <;> omega
  | c :: r, x, i => by
    unfold idxB
    have := idxB_le r x (i + 1)
    split
    · simp only [List.length_cons]; omega
    · simp only [List.length_cons]; omega

theorem thu_ge (x : List UInt8) (h : x ∈ thuL) : 3 ≤ x.length := by
  revert x; decide
theorem strip_thu : stripss 0 [] (encS (Lib.fields daysB)) = encS thuL := by rw [fields_days]; exact stripss_pure 0 [] _ (pureSs _)

set_option maxRecDepth 100000 in
theorem c22 : COk cfg 22 takeC := by
  have hT := ctab_ok (ctab_cons c32 (ctab_cons c43 (ctab_cons c44 (ctab_cons c45 (ctab_cons c46 ctab_nil)))))
  refine cok_heap hf22 fun vs h K ht => ?_
  unfold takeC at ht
  split at ht
  case h_2 => cases ht
  case h_1 h cs f q =>
    obtain ⟨m, m', s, r, ok, p, rfl, rfl, he, hp, hk⟩ := ht
    have hk : K (.tup [.str (takeR p s m).2.1, .bool (takeR p s m).2.2]) [.mem 46 (encM (takeR p s m).1), .iter f q] := by rw [he]; exact hk
    clear he
    refine t22 hT (ifP_intro (fun a => ?_) fun a1 => ifP_intro (fun a => ?_) fun a2 => ifP_intro (fun a => ?_) fun a3 => ifP_intro (fun a => ?_) fun a4 => ifP_intro (fun a => ?_) fun a5 => ifP_intro (fun a => ?_) fun a6 => ifP_intro (fun a => ?_) fun a7 => ifP_intro (fun a => ?_) fun a8 => ifP_intro (fun a => ?_) fun a9 => ifP_intro (fun a => ?_) fun a10 => ?_)
    · obtain rfl : p = 119 := by simp at a; omega
      refine ⟨daysB, by decide, by decide, rfl, s, thuL, 3, by decide, by decide, thu_ge, ?_, hk⟩
      rw [strip_thu]; rfl
    · obtain rfl : p = 87 := by simp at a; omega
      refine ⟨daysB, by decide, by decide, rfl, s, thuL, 0, by decide, by decide, fun _ _ => Nat.zero_le _, ?_, hk⟩
      rw [strip_thu]; rfl
    · obtain rfl : p = 68 := by simp at a; omega
      exact ⟨s, 2, .inr (.inl rfl), rfl, hk⟩
    · obtain rfl : p = 69 := by simp at a; omega
      refine ⟨s, [32], rfl, ifP_intro (fun b => ⟨(cutP s [32]).1, 1, .inl rfl, rfl, ?_⟩) fun b => ⟨s, 2, .inr (.inl rfl), rfl, ?_⟩⟩
      · simp only [takeR, b, cond_true] at hk; exact hk
      · simp only [takeR, b, cond_false] at hk; exact hk
    · obtain rfl : p = 109 := by simp at a; omega
      refine ifP_intro (fun b => gAnd_intro ?_ ⟨monthsB, s.take 3, by decide, rfl, ifP_intro (fun c => ?_) fun c => ifP_intro (fun d => ?_) fun d => gAnd_intro ?_ ?_⟩) fun b => ?_
      · simp at b
        simp only [cutOb, Bool.and_eq_true, decide_eq_true_eq]; omega
      · simp at b c
        have e : takeR 109 s m = (m, [], false) := by
          show (if s.length < 3 then _ else if _ then _ else _) = _
          rw [if_neg (by omega), if_pos (.inl c)]
        rw [e] at hk; exact hk
      · simp at b d
        have e : takeR 109 s m = (m, [], false) := by
          show (if s.length < 3 then _ else if _ then _ else _) = _
          rw [if_neg (by omega), if_pos (.inr d)]
        rw [e] at hk; exact hk
      · simp at b
        simp only [cutOb, Bool.and_eq_true, decide_eq_true_eq]; omega
      · simp at b c d
        have e : takeR 109 s m = ({ m with mo := (idxB monthsB (s.take 3) 0).toNat / 3 + 1 }, s.drop 3, true) := by
          show (if s.length < 3 then _ else if _ then _ else _) = _
          rw [if_neg (by omega), if_neg (by omega)]
        rw [e] at hk
        have hi := idxB_le monthsB (s.take 3) 0
        have hl : monthsB.length = 36 := rfl
        rw [hl] at hi
        generalize hz : idxB monthsB (s.take 3) 0 = z at *
        obtain ⟨k, rfl⟩ : ∃ k : Nat, z = k := ⟨z.toNat, by omega⟩
        rw [show Int.tdiv (k : Int) 3 = ((k / 3 : Nat) : Int) from tdivN k 3, wrap_in (n := ((k / 3 : Nat) : Int)) (by omega) (by omega), wrap_in (by omega) (by omega)]
        exact hk
      · simp at b
        have e : takeR 109 s m = (m, [], false) := by
          show (if s.length < 3 then _ else if _ then _ else _) = _
          rw [if_pos (by omega)]
        rw [e] at hk; exact hk
    · obtain rfl : p = 89 := by simp at a; omega
      exact ⟨s, 4, .inr (.inr rfl), rfl, hk⟩
    · obtain rfl : p = 121 := by simp at a; omega
      exact ⟨s, 2, .inr (.inl rfl), rfl, hk⟩
    · obtain rfl : p = 72 := by simp at a; omega
      exact ⟨s, 2, .inr (.inl rfl), rfl, hk⟩
    · obtain rfl : p = 73 := by simp at a; omega
      exact ⟨s, 2, .inr (.inl rfl), rfl, hk⟩
    · obtain rfl : p = 83 := by simp at a; omega
      exact ⟨s, 2, .inr (.inl rfl), rfl, hk⟩
    · simp at a1 a2 a3 a4 a5 a6 a7 a8 a9 a10
      have e : takeR p s m = (m, cutP s [UInt8.ofNat p]) := by
        unfold takeR
        rw [if_neg (by omega), if_neg (by omega), if_neg (by omega), if_neg (by omega), if_neg (by omega), if_neg (by omega), if_neg (by omega), if_neg (by omega), if_neg (by omega), if_neg (by omega)]
      rw [e] at hk
      refine ⟨s, [UInt8.ofNat p], ?_, hk⟩
      rw [enc_ascii p hp]
end Go.Proofs.YtnefabbpjepppaaDoor
end

section
namespace Go.Proofs.YtnefabbpjepppaaDoor
open Go.Ai Go
set_option linter.unusedSimpArgs false
set_option linter.unusedVariables false
set_option maxRecDepth 100000

theorem tick_no {n : Mom} (h : ¬okM n) : tickR n = (0, false) := by unfold tickR; rw [if_neg h]
theorem tick_yes {n : Mom} (h : okM n) : tickR n = (tickM n, true) := by unfold tickR; rw [if_pos h]

theorem loop23c (hT : TabOk cfg (ctab [(30, yearC), (31, longC), (47, aheadC)])) {K : AV → Hp → Prop} {n : Mom} {f : List UInt8} {z : Nat}
    (hk : K (.tup [.int .i64 (tickR n).1, .bool (tickR n).2]) [.mem 46 (encM n), .iter f z])
    (y1 : 1970 ≤ n.y) (y2 : n.y ≤ 9999) (d1 : 1 ≤ n.d) (d2 : n.d ≤ longN n.y n.mo) (h1 : n.h ≤ 23) (h2 : n.mi ≤ 59) (h3 : n.s ≤ 59) (m2 : n.mo ≤ 12) :
    ∀ (k i : Nat), 1 ≤ i → i + k = n.mo → ToEnd cfg 23 (bodyOf Tryd.f23) (RetIn Tryd.prog Tryd.f23 2 K) [Fm.code [0, 1, 0, 1, 1, 1, 1], Fm.block 0, Fm.code [1, 1, 1, 1, 1]] XT.normal [(0, true, AV.ptr 0 0), (9, true, AV.int IntKind.i64 (ahd n.y + (bef n.y i : Nat) + (n.d : Int) - 1)), (10, true, AV.int IntKind.i64 i)]
      [.mem 46 (encM n), .iter f z] := by
  have hl := longN_ge n.y n.mo
  have a0 := ahd_pos y1
  have a9 := ahd_9999 y1 y2
  intro k
  induction k with
  | zero =>
    intro i hi he
    obtain rfl : i = n.mo := by omega
    have b9 := bef_max n.y (m := n.mo) (by omega)
    have hc := cntN_eq (m := n.mo) y1 d1
    refine t23c hT (ifP_intro (fun a => ?_) fun _ => ?_)
    · simp at a
    · rw [← hc, show Int.tmod ((cntN n.y n.mo n.d : Nat) : Int) 7 = ((cntN n.y n.mo n.d % 7 : Nat) : Int) from tmodN _ 7]
      refine ifP_intro (fun a => ?_) fun a => ?_
      · simp at a
        rw [tick_no (by unfold okM; omega)] at hk
        exact hk
      · simp at a
        rw [tick_yes (by unfold okM; omega)] at hk
        have e : (IntKind.wrap .i64 (IntKind.wrap .i64 (IntKind.wrap .i64 (IntKind.wrap .i64 (((cntN n.y n.mo n.d : Nat) : Int) * 86400) + IntKind.wrap .i64 ((n.h : Int) * 3600)) + IntKind.wrap .i64 ((n.mi : Int) * 60)) + (n.s : Int))) = ((tickM n : Nat) : Int) := by
          unfold tickM
          rw [wrap_in (n := ((cntN n.y n.mo n.d : Nat) : Int) * 86400) (by omega) (by omega), wrap_in (n := (n.h : Int) * 3600) (by omega) (by omega), wrap_in (n := (n.mi : Int) * 60) (by omega) (by omega), wrap_in (n := ((cntN n.y n.mo n.d : Nat) : Int) * 86400 + (n.h : Int) * 3600) (by omega) (by omega), wrap_in (n := ((cntN n.y n.mo n.d : Nat) : Int) * 86400 + (n.h : Int) * 3600 + (n.mi : Int) * 60) (by omega) (by omega), wrap_in (by omega) (by omega)]
          omega
        rw [e]
        exact hk
  | succ k ih =>
    intro i hi he
    have b9 := bef_max n.y (m := i) (by omega)
    have b8 := longN_ge n.y i
    have ih := ih (i + 1) (by omega) (by omega)
    rw [bef_succ n.y hi] at ih
    refine t23c hT (ifP_intro (fun _ => ⟨n.y, i, by omega, hi, by omega, rfl, ?_⟩) fun a => ?_)
    · rw [wrap_in (n := (i : Int) + 1) (by omega) (by omega), wrap_in (by omega) (by omega)]
      rw [show ahd n.y + (bef n.y i : Nat) + (n.d : Int) - 1 + (longN n.y i : Nat) = ahd n.y + ((bef n.y i + longN n.y i : Nat) : Int) + (n.d : Int) - 1 by omega]
      exact ih
    · simp at a; omega

theorem tail23 {K : AV → Hp → Prop} {n : Mom} {f : List UInt8} {z : Nat}
    (hk : K (.tup [.int .i64 (tickR n).1, .bool (tickR n).2]) [.mem 46 (encM n), .iter f z]) (m1 : 1 ≤ n.mo) (m2 : n.mo ≤ 12) :
    ToEnd cfg 23 (bodyOf Tryd.f23) (RetIn Tryd.prog Tryd.f23 2 K) [Fm.code [0, 0, 1, 1], Fm.code [1, 0, 1, 1], Fm.code [1, 1, 1]] XT.normal [(0, true, AV.ptr 0 0)] [.mem 46 (encM n), .iter f z] := by
  have hT := ctab_ok (ctab_cons c30 (ctab_cons c31 (ctab_cons c47 ctab_nil)))
  have hno : ¬okM n → K (.tup [.int .i64 0, .bool false]) [.mem 46 (encM n), .iter f z] := fun h => by rw [tick_no h] at hk; exact hk
  refine t23b hT (ifP_intro (fun a => ?_) fun a1 => ifP_intro (fun a => ?_) fun a2 => ifP_intro (fun a => ?_) fun a3 => ?_)
  · simp at a; exact hno (by unfold okM; omega)
  · simp at a; exact hno (by unfold okM; omega)
  · simp at a; exact hno (by unfold okM; omega)
  · simp at a1 a2 a3
    refine ⟨n.y, n.mo, by omega, m1, m2, rfl, ifP_intro (fun a => ?_) fun a4 => ifP_intro (fun a => ?_) fun a5 => ifP_intro (fun a => ?_) fun a6 => ifP_intro (fun a => ?_) fun a7 => ⟨n.y, by omega, by omega, rfl, ?_⟩⟩
    · simp at a; exact hno (by unfold okM; omega)
    · simp at a; exact hno (by unfold okM; omega)
    · simp at a; exact hno (by unfold okM; omega)
    · simp at a; exact hno (by unfold okM; omega)
    · simp at a4 a5 a6 a7
      have hl := longN_ge n.y n.mo
      have a0 := ahd_pos (y := n.y) (by omega)
      have a9 := ahd_9999 (y := n.y) (by omega) (by omega)
      have := loop23c hT hk (by omega) (by omega) (by omega) (by omega) (by omega) (by omega) (by omega) m2 (n.mo - 1) 1 (by omega) (by omega)
      simp only [bef] at this
      rw [wrap_in (n := ahd n.y + (n.d : Int)) (by omega) (by omega), wrap_in (by omega) (by omega), show ahd n.y + (n.d : Int) - 1 = ahd n.y + ((0 : Nat) : Int) + (n.d : Int) - 1 by omega]
      exact this

theorem top_le (now : Int) : 2020 ≤ topY now ∧ topY now ≤ 10049 := by
  unfold topY
  have h1 := (yearOf_spec ((max 0 (min now 253402300799)).toNat / 86400)).1
  have h2 := year_le (d := (max 0 (min now 253402300799)).toNat / 86400) (by omega)
  omega

theorem c23 : COk cfg 23 tickC := by
  have hT := ctab_ok (ctab_cons c30 (ctab_cons c31 (ctab_cons c47 ctab_nil)))
  refine cok_heap hf23 fun vs h K ht => ?_
  unfold tickC at ht
  split at ht
  case h_2 => cases ht
  case h_1 h cs f q =>
    obtain ⟨m, now, rfl, rfl, m1, m2, y9, ht2, _, _, _, _, hk⟩ := ht
    have htop := top_le now
    refine t23a hT (ifP_intro (fun a => ?_) fun a => ?_)
    · have y99 := ht2 a
      have e : nearM m now = { m with y := topY now - (topY now - m.y) % 100 } := by unfold nearM; rw [a]; rfl
      rw [e] at hk
      have hy := yearOf_spec ((max 0 (min now 253402300799)).toNat / 86400)
      refine ⟨(max 0 (min now 253402300799)).toNat / 86400, yearOf ((max 0 (min now 253402300799)).toNat / 86400), by omega, hy, ?_, ?_⟩
      · have : Int.tdiv (max 0 (min now 253402300799)) 86400 = (((max 0 (min now 253402300799)).toNat / 86400 : Nat) : Int) := by
          have e1 : max 0 (min now 253402300799) = ((max 0 (min now 253402300799)).toNat : Int) := by omega
          have := tdivN (max 0 (min now 253402300799)).toNat 86400
          rw [← e1] at this; exact this
        rw [this, wrap_in (by omega) (by omega)]
      · have eT : ((yearOf ((max 0 (min now 253402300799)).toNat / 86400) : Nat) : Int) + 50 = ((topY now : Nat) : Int) := by unfold topY; omega
        rw [eT, wrap_in (n := ((topY now : Nat) : Int)) (by omega) (by omega), wrap_in (n := ((topY now : Nat) : Int) - (m.y : Int)) (by omega) (by omega), show ((topY now : Nat) : Int) - (m.y : Int) = ((topY now - m.y : Nat) : Int) by omega,
          show Int.tmod ((topY now - m.y : Nat) : Int) 100 = (((topY now - m.y) % 100 : Nat) : Int) from tmodN _ 100, show ((topY now : Nat) : Int) - (((topY now - m.y) % 100 : Nat) : Int) = ((topY now - (topY now - m.y) % 100 : Nat) : Int) by omega, wrap_in (by omega) (by omega)]
        exact tail23 (n := { m with y := topY now - (topY now - m.y) % 100 }) hk m1 m2
    · have e : nearM m now = m := by unfold nearM; rw [a]; rfl
      rw [e] at hk
      exact tail23 hk m1 m2
end Go.Proofs.YtnefabbpjepppaaDoor
end

section
namespace Go.Proofs.YtnefabbpjepppaaDoor
open Go.Ai Go
set_option linter.unusedSimpArgs false
set_option linter.unusedVariables false
set_option maxRecDepth 100000
theorem pf11 : pureFn cfg 11 Tryd.f11 := ⟨by kernel_rfl, by kernel_rfl, by kernel_rfl, by kernel_rfl, by kernel_rfl, by kernel_rfl⟩
theorem runNo {p : UInt8} {ps s : List UInt8} {m m1 : Mom} {r1 : List UInt8} (h : takeR p.toNat s m = (m1, r1, false)) : (runF (p :: ps) s m).2.2 = false := by
  rw [runF, h]; rfl
theorem runYes {p : UInt8} {ps s : List UInt8} {m m1 : Mom} {r1 : List UInt8} (h : takeR p.toNat s m = (m1, r1, true)) (k : (runF ps r1 m1).2.2 = false) : (runF (p :: ps) s m).2.2 = false := by
  rw [runF, h]; exact k
theorem none1 {f s : List UInt8} {now : Int} (h : (runF f s mom0).2.2 = false) : formP f s now = none := by
  unfold formP; rw [h]; rfl
theorem none2 {f s r : List UInt8} {m : Mom} {now : Int} (h : runF f s mom0 = (m, r, true)) (hr : (!r == []) = true) : formP f s now = none := by
  unfold formP; rw [h]
  cases r with
  | nil => cases hr
  | cons _ _ => rfl
theorem none3 {f s : List UInt8} {m : Mom} {now : Int} (h : runF f s mom0 = (m, [], true)) (hr : (tickR (nearM m now)).2 = false) : formP f s now = none := by
  unfold formP; rw [h]; simp only [hr]; rfl
theorem some1 {f s : List UInt8} {m : Mom} {now : Int} (h : runF f s mom0 = (m, [], true)) (hr : (tickR (nearM m now)).2 = true) : formP f s now = some (tickR (nearM m now)).1 := by
  unfold formP; rw [h]; simp only [hr]; rfl
abbrev st11 (s : List UInt8) (now : Int) (i : Int) (v : AV) : Prop := ToEnd cfg 11 (bodyOf Tryd.f11) (RetIs Tryd.prog Tryd.f11 v) [.code [0, 1, 0, 1, 0, 1], Fm.block 0, Fm.code [1, 1, 0, 1], Fm.scope [0, 1]] .normal [(0, true, AV.str s), (1, true, AV.int IntKind.i64 now), (16, true, AV.sl 1 [[AV.str form1], [AV.str form2], [AV.str form3]] none), (17, true, AV.int IntKind.i64 3), (18, true, AV.int IntKind.i64 i)] []

theorem round1 (hT : TabOk cfg (ctab [(21, formsC), (22, takeC), (23, tickC)])) {s : List UInt8} {now : Int} {v : AV} (hA : formP form1 s now = none → st11 s now 1 v) (hS : ∀ t : Nat, formP form1 s now = some t → AV.tup [.int .i64 t, .int .i64 0] = v) : st11 s now 0 v := by
  have hno : (runF form1 s mom0).2.2 = false → st11 s now 1 v := fun h => hA (none1 h)
  obtain ⟨x1, r1, k1, e1⟩ : ∃ a b c, takeR 119 s mom0 = (a, b, c) := ⟨_, _, _, rfl⟩
  obtain ⟨x2, r2, k2, e2⟩ : ∃ a b c, takeR 44 r1 x1 = (a, b, c) := ⟨_, _, _, rfl⟩
  obtain ⟨x3, r3, k3, e3⟩ : ∃ a b c, takeR 32 r2 x2 = (a, b, c) := ⟨_, _, _, rfl⟩
  obtain ⟨x4, r4, k4, e4⟩ : ∃ a b c, takeR 68 r3 x3 = (a, b, c) := ⟨_, _, _, rfl⟩
  obtain ⟨x5, r5, k5, e5⟩ : ∃ a b c, takeR 32 r4 x4 = (a, b, c) := ⟨_, _, _, rfl⟩
  obtain ⟨x6, r6, k6, e6⟩ : ∃ a b c, takeR 109 r5 x5 = (a, b, c) := ⟨_, _, _, rfl⟩
  obtain ⟨x7, r7, k7, e7⟩ : ∃ a b c, takeR 32 r6 x6 = (a, b, c) := ⟨_, _, _, rfl⟩
  obtain ⟨x8, r8, k8, e8⟩ : ∃ a b c, takeR 89 r7 x7 = (a, b, c) := ⟨_, _, _, rfl⟩
  obtain ⟨x9, r9, k9, e9⟩ : ∃ a b c, takeR 32 r8 x8 = (a, b, c) := ⟨_, _, _, rfl⟩
  obtain ⟨x10, r10, k10, e10⟩ : ∃ a b c, takeR 72 r9 x9 = (a, b, c) := ⟨_, _, _, rfl⟩
  obtain ⟨x11, r11, k11, e11⟩ : ∃ a b c, takeR 58 r10 x10 = (a, b, c) := ⟨_, _, _, rfl⟩
  obtain ⟨x12, r12, k12, e12⟩ : ∃ a b c, takeR 73 r11 x11 = (a, b, c) := ⟨_, _, _, rfl⟩
  obtain ⟨x13, r13, k13, e13⟩ : ∃ a b c, takeR 58 r12 x12 = (a, b, c) := ⟨_, _, _, rfl⟩
  obtain ⟨x14, r14, k14, e14⟩ : ∃ a b c, takeR 83 r13 x13 = (a, b, c) := ⟨_, _, _, rfl⟩
  obtain ⟨x15, r15, k15, e15⟩ : ∃ a b c, takeR 32 r14 x14 = (a, b, c) := ⟨_, _, _, rfl⟩
  obtain ⟨x16, r16, k16, e16⟩ : ∃ a b c, takeR 71 r15 x15 = (a, b, c) := ⟨_, _, _, rfl⟩
  obtain ⟨x17, r17, k17, e17⟩ : ∃ a b c, takeR 77 r16 x16 = (a, b, c) := ⟨_, _, _, rfl⟩
  obtain ⟨x18, r18, k18, e18⟩ : ∃ a b c, takeR 84 r17 x17 = (a, b, c) := ⟨_, _, _, rfl⟩
  refine t11_0 (s := s) hT ⟨mom0, x1, s, r1, k1, 119, rfl, rfl, e1, by decide, ifP_intro (fun hc => ?_) fun hc => ?_⟩
  · obtain rfl : k1 = false := by simpa using hc
    exact hno (runNo (p := 119) e1)
  obtain rfl : k1 = true := by simpa using hc
  refine ⟨x1, x2, r1, r2, k2, 44, rfl, rfl, e2, by decide, ifP_intro (fun hc => ?_) fun hc => ?_⟩
  · obtain rfl : k2 = false := by simpa using hc
    exact hno (runYes (p := 119) e1 (runNo (p := 44) e2))
  obtain rfl : k2 = true := by simpa using hc
  refine ⟨x2, x3, r2, r3, k3, 32, rfl, rfl, e3, by decide, ifP_intro (fun hc => ?_) fun hc => ?_⟩
  · obtain rfl : k3 = false := by simpa using hc
    exact hno (runYes (p := 119) e1 (runYes (p := 44) e2 (runNo (p := 32) e3)))
  obtain rfl : k3 = true := by simpa using hc
  refine ⟨x3, x4, r3, r4, k4, 68, rfl, rfl, e4, by decide, ifP_intro (fun hc => ?_) fun hc => ?_⟩
  · obtain rfl : k4 = false := by simpa using hc
    exact hno (runYes (p := 119) e1 (runYes (p := 44) e2 (runYes (p := 32) e3 (runNo (p := 68) e4))))
  obtain rfl : k4 = true := by simpa using hc
  refine ⟨x4, x5, r4, r5, k5, 32, rfl, rfl, e5, by decide, ifP_intro (fun hc => ?_) fun hc => ?_⟩
  · obtain rfl : k5 = false := by simpa using hc
    exact hno (runYes (p := 119) e1 (runYes (p := 44) e2 (runYes (p := 32) e3 (runYes (p := 68) e4 (runNo (p := 32) e5)))))
  obtain rfl : k5 = true := by simpa using hc
  refine ⟨x5, x6, r5, r6, k6, 109, rfl, rfl, e6, by decide, ifP_intro (fun hc => ?_) fun hc => ?_⟩
  · obtain rfl : k6 = false := by simpa using hc
    exact hno (runYes (p := 119) e1 (runYes (p := 44) e2 (runYes (p := 32) e3 (runYes (p := 68) e4 (runYes (p := 32) e5 (runNo (p := 109) e6))))))
  obtain rfl : k6 = true := by simpa using hc
  refine ⟨x6, x7, r6, r7, k7, 32, rfl, rfl, e7, by decide, ifP_intro (fun hc => ?_) fun hc => ?_⟩
  · obtain rfl : k7 = false := by simpa using hc
    exact hno (runYes (p := 119) e1 (runYes (p := 44) e2 (runYes (p := 32) e3 (runYes (p := 68) e4 (runYes (p := 32) e5 (runYes (p := 109) e6 (runNo (p := 32) e7)))))))
  obtain rfl : k7 = true := by simpa using hc
  refine ⟨x7, x8, r7, r8, k8, 89, rfl, rfl, e8, by decide, ifP_intro (fun hc => ?_) fun hc => ?_⟩
  · obtain rfl : k8 = false := by simpa using hc
    exact hno (runYes (p := 119) e1 (runYes (p := 44) e2 (runYes (p := 32) e3 (runYes (p := 68) e4 (runYes (p := 32) e5 (runYes (p := 109) e6 (runYes (p := 32) e7 (runNo (p := 89) e8))))))))
  obtain rfl : k8 = true := by simpa using hc
  refine ⟨x8, x9, r8, r9, k9, 32, rfl, rfl, e9, by decide, ifP_intro (fun hc => ?_) fun hc => ?_⟩
  · obtain rfl : k9 = false := by simpa using hc
    exact hno (runYes (p := 119) e1 (runYes (p := 44) e2 (runYes (p := 32) e3 (runYes (p := 68) e4 (runYes (p := 32) e5 (runYes (p := 109) e6 (runYes (p := 32) e7 (runYes (p := 89) e8 (runNo (p := 32) e9)))))))))
  obtain rfl : k9 = true := by simpa using hc
  refine ⟨x9, x10, r9, r10, k10, 72, rfl, rfl, e10, by decide, ifP_intro (fun hc => ?_) fun hc => ?_⟩
  · obtain rfl : k10 = false := by simpa using hc
    exact hno (runYes (p := 119) e1 (runYes (p := 44) e2 (runYes (p := 32) e3 (runYes (p := 68) e4 (runYes (p := 32) e5 (runYes (p := 109) e6 (runYes (p := 32) e7 (runYes (p := 89) e8 (runYes (p := 32) e9 (runNo (p := 72) e10))))))))))
  obtain rfl : k10 = true := by simpa using hc
  refine ⟨x10, x11, r10, r11, k11, 58, rfl, rfl, e11, by decide, ifP_intro (fun hc => ?_) fun hc => ?_⟩
  · obtain rfl : k11 = false := by simpa using hc
    exact hno (runYes (p := 119) e1 (runYes (p := 44) e2 (runYes (p := 32) e3 (runYes (p := 68) e4 (runYes (p := 32) e5 (runYes (p := 109) e6 (runYes (p := 32) e7 (runYes (p := 89) e8 (runYes (p := 32) e9 (runYes (p := 72) e10 (runNo (p := 58) e11)))))))))))
  obtain rfl : k11 = true := by simpa using hc
  refine ⟨x11, x12, r11, r12, k12, 73, rfl, rfl, e12, by decide, ifP_intro (fun hc => ?_) fun hc => ?_⟩
  · obtain rfl : k12 = false := by simpa using hc
    exact hno (runYes (p := 119) e1 (runYes (p := 44) e2 (runYes (p := 32) e3 (runYes (p := 68) e4 (runYes (p := 32) e5 (runYes (p := 109) e6 (runYes (p := 32) e7 (runYes (p := 89) e8 (runYes (p := 32) e9 (runYes (p := 72) e10 (runYes (p := 58) e11 (runNo (p := 73) e12))))))))))))
  obtain rfl : k12 = true := by simpa using hc
  refine ⟨x12, x13, r12, r13, k13, 58, rfl, rfl, e13, by decide, ifP_intro (fun hc => ?_) fun hc => ?_⟩
  · obtain rfl : k13 = false := by simpa using hc
    exact hno (runYes (p := 119) e1 (runYes (p := 44) e2 (runYes (p := 32) e3 (runYes (p := 68) e4 (runYes (p := 32) e5 (runYes (p := 109) e6 (runYes (p := 32) e7 (runYes (p := 89) e8 (runYes (p := 32) e9 (runYes (p := 72) e10 (runYes (p := 58) e11 (runYes (p := 73) e12 (runNo (p := 58) e13)))))))))))))
  obtain rfl : k13 = true := by simpa using hc
  refine ⟨x13, x14, r13, r14, k14, 83, rfl, rfl, e14, by decide, ifP_intro (fun hc => ?_) fun hc => ?_⟩
  · obtain rfl : k14 = false := by simpa using hc
    exact hno (runYes (p := 119) e1 (runYes (p := 44) e2 (runYes (p := 32) e3 (runYes (p := 68) e4 (runYes (p := 32) e5 (runYes (p := 109) e6 (runYes (p := 32) e7 (runYes (p := 89) e8 (runYes (p := 32) e9 (runYes (p := 72) e10 (runYes (p := 58) e11 (runYes (p := 73) e12 (runYes (p := 58) e13 (runNo (p := 83) e14))))))))))))))
  obtain rfl : k14 = true := by simpa using hc
  refine ⟨x14, x15, r14, r15, k15, 32, rfl, rfl, e15, by decide, ifP_intro (fun hc => ?_) fun hc => ?_⟩
  · obtain rfl : k15 = false := by simpa using hc
    exact hno (runYes (p := 119) e1 (runYes (p := 44) e2 (runYes (p := 32) e3 (runYes (p := 68) e4 (runYes (p := 32) e5 (runYes (p := 109) e6 (runYes (p := 32) e7 (runYes (p := 89) e8 (runYes (p := 32) e9 (runYes (p := 72) e10 (runYes (p := 58) e11 (runYes (p := 73) e12 (runYes (p := 58) e13 (runYes (p := 83) e14 (runNo (p := 32) e15)))))))))))))))
  obtain rfl : k15 = true := by simpa using hc
  refine ⟨x15, x16, r15, r16, k16, 71, rfl, rfl, e16, by decide, ifP_intro (fun hc => ?_) fun hc => ?_⟩
  · obtain rfl : k16 = false := by simpa using hc
    exact hno (runYes (p := 119) e1 (runYes (p := 44) e2 (runYes (p := 32) e3 (runYes (p := 68) e4 (runYes (p := 32) e5 (runYes (p := 109) e6 (runYes (p := 32) e7 (runYes (p := 89) e8 (runYes (p := 32) e9 (runYes (p := 72) e10 (runYes (p := 58) e11 (runYes (p := 73) e12 (runYes (p := 58) e13 (runYes (p := 83) e14 (runYes (p := 32) e15 (runNo (p := 71) e16))))))))))))))))
  obtain rfl : k16 = true := by simpa using hc
  refine ⟨x16, x17, r16, r17, k17, 77, rfl, rfl, e17, by decide, ifP_intro (fun hc => ?_) fun hc => ?_⟩
  · obtain rfl : k17 = false := by simpa using hc
    exact hno (runYes (p := 119) e1 (runYes (p := 44) e2 (runYes (p := 32) e3 (runYes (p := 68) e4 (runYes (p := 32) e5 (runYes (p := 109) e6 (runYes (p := 32) e7 (runYes (p := 89) e8 (runYes (p := 32) e9 (runYes (p := 72) e10 (runYes (p := 58) e11 (runYes (p := 73) e12 (runYes (p := 58) e13 (runYes (p := 83) e14 (runYes (p := 32) e15 (runYes (p := 71) e16 (runNo (p := 77) e17)))))))))))))))))
  obtain rfl : k17 = true := by simpa using hc
  refine ⟨x17, x18, r17, r18, k18, 84, rfl, rfl, e18, by decide, ifP_intro (fun hc => ?_) fun hc => ?_⟩
  · obtain rfl : k18 = false := by simpa using hc
    exact hno (runYes (p := 119) e1 (runYes (p := 44) e2 (runYes (p := 32) e3 (runYes (p := 68) e4 (runYes (p := 32) e5 (runYes (p := 109) e6 (runYes (p := 32) e7 (runYes (p := 89) e8 (runYes (p := 32) e9 (runYes (p := 72) e10 (runYes (p := 58) e11 (runYes (p := 73) e12 (runYes (p := 58) e13 (runYes (p := 83) e14 (runYes (p := 32) e15 (runYes (p := 71) e16 (runYes (p := 77) e17 (runNo (p := 84) e18))))))))))))))))))
  obtain rfl : k18 = true := by simpa using hc
  have hr : runF form1 s mom0 = (x18, r18, true) := runFw (p := 119) e1 (runFw (p := 44) e2 (runFw (p := 32) e3 (runFw (p := 68) e4 (runFw (p := 32) e5 (runFw (p := 109) e6 (runFw (p := 32) e7 (runFw (p := 89) e8 (runFw (p := 32) e9 (runFw (p := 72) e10 (runFw (p := 58) e11 (runFw (p := 73) e12 (runFw (p := 58) e13 (runFw (p := 83) e14 (runFw (p := 32) e15 (runFw (p := 71) e16 (runFw (p := 77) e17 (runFw (p := 84) e18 (rfl))))))))))))))))))
  clear e18 e17 e16 e15 e14 e13 e12 e11 e10 e9 e8 e7 e6 e5 e4 e3 e2 e1
  refine ifP_intro (fun hc => hA (none2 hr hc)) fun hc => ?_
  obtain rfl : r18 = [] := by simpa using hc
  obtain ⟨w, d, mo, y, ho, mi, se, lw, hy, rfl, _⟩ := form1B hr
  have y9 : y ≤ 9999 := by omega
  exact ⟨⟨w, d, mo, y, ho, mi, se, false⟩, now, rfl, rfl, lw.m1, lw.m2, y9, (fun h => by cases h), Nat.le_of_lt_succ lw.d, Nat.le_of_lt_succ lw.h, Nat.le_of_lt_succ lw.mi, Nat.le_of_lt_succ lw.se, ifP_intro (fun hc => hS _ (some1 hr hc)) fun hc => hA (none3 hr hc)⟩
theorem round2 (hT : TabOk cfg (ctab [(21, formsC), (22, takeC), (23, tickC)])) {s : List UInt8} {now : Int} {v : AV} (hA : formP form2 s now = none → st11 s now 2 v) (hS : ∀ t : Nat, formP form2 s now = some t → AV.tup [.int .i64 t, .int .i64 0] = v) : st11 s now 1 v := by
  have hno : (runF form2 s mom0).2.2 = false → st11 s now 2 v := fun h => hA (none1 h)
  obtain ⟨x1, r1, k1, e1⟩ : ∃ a b c, takeR 87 s mom0 = (a, b, c) := ⟨_, _, _, rfl⟩
  obtain ⟨x2, r2, k2, e2⟩ : ∃ a b c, takeR 44 r1 x1 = (a, b, c) := ⟨_, _, _, rfl⟩
  obtain ⟨x3, r3, k3, e3⟩ : ∃ a b c, takeR 32 r2 x2 = (a, b, c) := ⟨_, _, _, rfl⟩
  obtain ⟨x4, r4, k4, e4⟩ : ∃ a b c, takeR 68 r3 x3 = (a, b, c) := ⟨_, _, _, rfl⟩
  obtain ⟨x5, r5, k5, e5⟩ : ∃ a b c, takeR 45 r4 x4 = (a, b, c) := ⟨_, _, _, rfl⟩
  obtain ⟨x6, r6, k6, e6⟩ : ∃ a b c, takeR 109 r5 x5 = (a, b, c) := ⟨_, _, _, rfl⟩
  obtain ⟨x7, r7, k7, e7⟩ : ∃ a b c, takeR 45 r6 x6 = (a, b, c) := ⟨_, _, _, rfl⟩
  obtain ⟨x8, r8, k8, e8⟩ : ∃ a b c, takeR 121 r7 x7 = (a, b, c) := ⟨_, _, _, rfl⟩
  obtain ⟨x9, r9, k9, e9⟩ : ∃ a b c, takeR 32 r8 x8 = (a, b, c) := ⟨_, _, _, rfl⟩
  obtain ⟨x10, r10, k10, e10⟩ : ∃ a b c, takeR 72 r9 x9 = (a, b, c) := ⟨_, _, _, rfl⟩
  obtain ⟨x11, r11, k11, e11⟩ : ∃ a b c, takeR 58 r10 x10 = (a, b, c) := ⟨_, _, _, rfl⟩
  obtain ⟨x12, r12, k12, e12⟩ : ∃ a b c, takeR 73 r11 x11 = (a, b, c) := ⟨_, _, _, rfl⟩
  obtain ⟨x13, r13, k13, e13⟩ : ∃ a b c, takeR 58 r12 x12 = (a, b, c) := ⟨_, _, _, rfl⟩
  obtain ⟨x14, r14, k14, e14⟩ : ∃ a b c, takeR 83 r13 x13 = (a, b, c) := ⟨_, _, _, rfl⟩
  obtain ⟨x15, r15, k15, e15⟩ : ∃ a b c, takeR 32 r14 x14 = (a, b, c) := ⟨_, _, _, rfl⟩
  obtain ⟨x16, r16, k16, e16⟩ : ∃ a b c, takeR 71 r15 x15 = (a, b, c) := ⟨_, _, _, rfl⟩
  obtain ⟨x17, r17, k17, e17⟩ : ∃ a b c, takeR 77 r16 x16 = (a, b, c) := ⟨_, _, _, rfl⟩
  obtain ⟨x18, r18, k18, e18⟩ : ∃ a b c, takeR 84 r17 x17 = (a, b, c) := ⟨_, _, _, rfl⟩
  refine t11_1 (s := s) hT ⟨mom0, x1, s, r1, k1, 87, rfl, rfl, e1, by decide, ifP_intro (fun hc => ?_) fun hc => ?_⟩
  · obtain rfl : k1 = false := by simpa using hc
    exact hno (runNo (p := 87) e1)
  obtain rfl : k1 = true := by simpa using hc
  refine ⟨x1, x2, r1, r2, k2, 44, rfl, rfl, e2, by decide, ifP_intro (fun hc => ?_) fun hc => ?_⟩
  · obtain rfl : k2 = false := by simpa using hc
    exact hno (runYes (p := 87) e1 (runNo (p := 44) e2))
  obtain rfl : k2 = true := by simpa using hc
  refine ⟨x2, x3, r2, r3, k3, 32, rfl, rfl, e3, by decide, ifP_intro (fun hc => ?_) fun hc => ?_⟩
  · obtain rfl : k3 = false := by simpa using hc
    exact hno (runYes (p := 87) e1 (runYes (p := 44) e2 (runNo (p := 32) e3)))
  obtain rfl : k3 = true := by simpa using hc
  refine ⟨x3, x4, r3, r4, k4, 68, rfl, rfl, e4, by decide, ifP_intro (fun hc => ?_) fun hc => ?_⟩
  · obtain rfl : k4 = false := by simpa using hc
    exact hno (runYes (p := 87) e1 (runYes (p := 44) e2 (runYes (p := 32) e3 (runNo (p := 68) e4))))
  obtain rfl : k4 = true := by simpa using hc
  refine ⟨x4, x5, r4, r5, k5, 45, rfl, rfl, e5, by decide, ifP_intro (fun hc => ?_) fun hc => ?_⟩
  · obtain rfl : k5 = false := by simpa using hc
    exact hno (runYes (p := 87) e1 (runYes (p := 44) e2 (runYes (p := 32) e3 (runYes (p := 68) e4 (runNo (p := 45) e5)))))
  obtain rfl : k5 = true := by simpa using hc
  refine ⟨x5, x6, r5, r6, k6, 109, rfl, rfl, e6, by decide, ifP_intro (fun hc => ?_) fun hc => ?_⟩
  · obtain rfl : k6 = false := by simpa using hc
    exact hno (runYes (p := 87) e1 (runYes (p := 44) e2 (runYes (p := 32) e3 (runYes (p := 68) e4 (runYes (p := 45) e5 (runNo (p := 109) e6))))))
  obtain rfl : k6 = true := by simpa using hc
  refine ⟨x6, x7, r6, r7, k7, 45, rfl, rfl, e7, by decide, ifP_intro (fun hc => ?_) fun hc => ?_⟩
  · obtain rfl : k7 = false := by simpa using hc
    exact hno (runYes (p := 87) e1 (runYes (p := 44) e2 (runYes (p := 32) e3 (runYes (p := 68) e4 (runYes (p := 45) e5 (runYes (p := 109) e6 (runNo (p := 45) e7)))))))
  obtain rfl : k7 = true := by simpa using hc
  refine ⟨x7, x8, r7, r8, k8, 121, rfl, rfl, e8, by decide, ifP_intro (fun hc => ?_) fun hc => ?_⟩
  · obtain rfl : k8 = false := by simpa using hc
    exact hno (runYes (p := 87) e1 (runYes (p := 44) e2 (runYes (p := 32) e3 (runYes (p := 68) e4 (runYes (p := 45) e5 (runYes (p := 109) e6 (runYes (p := 45) e7 (runNo (p := 121) e8))))))))
  obtain rfl : k8 = true := by simpa using hc
  refine ⟨x8, x9, r8, r9, k9, 32, rfl, rfl, e9, by decide, ifP_intro (fun hc => ?_) fun hc => ?_⟩
  · obtain rfl : k9 = false := by simpa using hc
    exact hno (runYes (p := 87) e1 (runYes (p := 44) e2 (runYes (p := 32) e3 (runYes (p := 68) e4 (runYes (p := 45) e5 (runYes (p := 109) e6 (runYes (p := 45) e7 (runYes (p := 121) e8 (runNo (p := 32) e9)))))))))
  obtain rfl : k9 = true := by simpa using hc
  refine ⟨x9, x10, r9, r10, k10, 72, rfl, rfl, e10, by decide, ifP_intro (fun hc => ?_) fun hc => ?_⟩
  · obtain rfl : k10 = false := by simpa using hc
    exact hno (runYes (p := 87) e1 (runYes (p := 44) e2 (runYes (p := 32) e3 (runYes (p := 68) e4 (runYes (p := 45) e5 (runYes (p := 109) e6 (runYes (p := 45) e7 (runYes (p := 121) e8 (runYes (p := 32) e9 (runNo (p := 72) e10))))))))))
  obtain rfl : k10 = true := by simpa using hc
  refine ⟨x10, x11, r10, r11, k11, 58, rfl, rfl, e11, by decide, ifP_intro (fun hc => ?_) fun hc => ?_⟩
  · obtain rfl : k11 = false := by simpa using hc
    exact hno (runYes (p := 87) e1 (runYes (p := 44) e2 (runYes (p := 32) e3 (runYes (p := 68) e4 (runYes (p := 45) e5 (runYes (p := 109) e6 (runYes (p := 45) e7 (runYes (p := 121) e8 (runYes (p := 32) e9 (runYes (p := 72) e10 (runNo (p := 58) e11)))))))))))
  obtain rfl : k11 = true := by simpa using hc
  refine ⟨x11, x12, r11, r12, k12, 73, rfl, rfl, e12, by decide, ifP_intro (fun hc => ?_) fun hc => ?_⟩
  · obtain rfl : k12 = false := by simpa using hc
    exact hno (runYes (p := 87) e1 (runYes (p := 44) e2 (runYes (p := 32) e3 (runYes (p := 68) e4 (runYes (p := 45) e5 (runYes (p := 109) e6 (runYes (p := 45) e7 (runYes (p := 121) e8 (runYes (p := 32) e9 (runYes (p := 72) e10 (runYes (p := 58) e11 (runNo (p := 73) e12))))))))))))
  obtain rfl : k12 = true := by simpa using hc
  refine ⟨x12, x13, r12, r13, k13, 58, rfl, rfl, e13, by decide, ifP_intro (fun hc => ?_) fun hc => ?_⟩
  · obtain rfl : k13 = false := by simpa using hc
    exact hno (runYes (p := 87) e1 (runYes (p := 44) e2 (runYes (p := 32) e3 (runYes (p := 68) e4 (runYes (p := 45) e5 (runYes (p := 109) e6 (runYes (p := 45) e7 (runYes (p := 121) e8 (runYes (p := 32) e9 (runYes (p := 72) e10 (runYes (p := 58) e11 (runYes (p := 73) e12 (runNo (p := 58) e13)))))))))))))
  obtain rfl : k13 = true := by simpa using hc
  refine ⟨x13, x14, r13, r14, k14, 83, rfl, rfl, e14, by decide, ifP_intro (fun hc => ?_) fun hc => ?_⟩
  · obtain rfl : k14 = false := by simpa using hc
    exact hno (runYes (p := 87) e1 (runYes (p := 44) e2 (runYes (p := 32) e3 (runYes (p := 68) e4 (runYes (p := 45) e5 (runYes (p := 109) e6 (runYes (p := 45) e7 (runYes (p := 121) e8 (runYes (p := 32) e9 (runYes (p := 72) e10 (runYes (p := 58) e11 (runYes (p := 73) e12 (runYes (p := 58) e13 (runNo (p := 83) e14))))))))))))))
  obtain rfl : k14 = true := by simpa using hc
  refine ⟨x14, x15, r14, r15, k15, 32, rfl, rfl, e15, by decide, ifP_intro (fun hc => ?_) fun hc => ?_⟩
  · obtain rfl : k15 = false := by simpa using hc
    exact hno (runYes (p := 87) e1 (runYes (p := 44) e2 (runYes (p := 32) e3 (runYes (p := 68) e4 (runYes (p := 45) e5 (runYes (p := 109) e6 (runYes (p := 45) e7 (runYes (p := 121) e8 (runYes (p := 32) e9 (runYes (p := 72) e10 (runYes (p := 58) e11 (runYes (p := 73) e12 (runYes (p := 58) e13 (runYes (p := 83) e14 (runNo (p := 32) e15)))))))))))))))
  obtain rfl : k15 = true := by simpa using hc
  refine ⟨x15, x16, r15, r16, k16, 71, rfl, rfl, e16, by decide, ifP_intro (fun hc => ?_) fun hc => ?_⟩
  · obtain rfl : k16 = false := by simpa using hc
    exact hno (runYes (p := 87) e1 (runYes (p := 44) e2 (runYes (p := 32) e3 (runYes (p := 68) e4 (runYes (p := 45) e5 (runYes (p := 109) e6 (runYes (p := 45) e7 (runYes (p := 121) e8 (runYes (p := 32) e9 (runYes (p := 72) e10 (runYes (p := 58) e11 (runYes (p := 73) e12 (runYes (p := 58) e13 (runYes (p := 83) e14 (runYes (p := 32) e15 (runNo (p := 71) e16))))))))))))))))
  obtain rfl : k16 = true := by simpa using hc
  refine ⟨x16, x17, r16, r17, k17, 77, rfl, rfl, e17, by decide, ifP_intro (fun hc => ?_) fun hc => ?_⟩
  · obtain rfl : k17 = false := by simpa using hc
    exact hno (runYes (p := 87) e1 (runYes (p := 44) e2 (runYes (p := 32) e3 (runYes (p := 68) e4 (runYes (p := 45) e5 (runYes (p := 109) e6 (runYes (p := 45) e7 (runYes (p := 121) e8 (runYes (p := 32) e9 (runYes (p := 72) e10 (runYes (p := 58) e11 (runYes (p := 73) e12 (runYes (p := 58) e13 (runYes (p := 83) e14 (runYes (p := 32) e15 (runYes (p := 71) e16 (runNo (p := 77) e17)))))))))))))))))
  obtain rfl : k17 = true := by simpa using hc
  refine ⟨x17, x18, r17, r18, k18, 84, rfl, rfl, e18, by decide, ifP_intro (fun hc => ?_) fun hc => ?_⟩
  · obtain rfl : k18 = false := by simpa using hc
    exact hno (runYes (p := 87) e1 (runYes (p := 44) e2 (runYes (p := 32) e3 (runYes (p := 68) e4 (runYes (p := 45) e5 (runYes (p := 109) e6 (runYes (p := 45) e7 (runYes (p := 121) e8 (runYes (p := 32) e9 (runYes (p := 72) e10 (runYes (p := 58) e11 (runYes (p := 73) e12 (runYes (p := 58) e13 (runYes (p := 83) e14 (runYes (p := 32) e15 (runYes (p := 71) e16 (runYes (p := 77) e17 (runNo (p := 84) e18))))))))))))))))))
  obtain rfl : k18 = true := by simpa using hc
  have hr : runF form2 s mom0 = (x18, r18, true) := runFw (p := 87) e1 (runFw (p := 44) e2 (runFw (p := 32) e3 (runFw (p := 68) e4 (runFw (p := 45) e5 (runFw (p := 109) e6 (runFw (p := 45) e7 (runFw (p := 121) e8 (runFw (p := 32) e9 (runFw (p := 72) e10 (runFw (p := 58) e11 (runFw (p := 73) e12 (runFw (p := 58) e13 (runFw (p := 83) e14 (runFw (p := 32) e15 (runFw (p := 71) e16 (runFw (p := 77) e17 (runFw (p := 84) e18 (rfl))))))))))))))))))
  clear e18 e17 e16 e15 e14 e13 e12 e11 e10 e9 e8 e7 e6 e5 e4 e3 e2 e1
  refine ifP_intro (fun hc => hA (none2 hr hc)) fun hc => ?_
  obtain rfl : r18 = [] := by simpa using hc
  obtain ⟨w, d, mo, y, ho, mi, se, lw, hy, rfl, _⟩ := form2B hr
  have y9 : y ≤ 9999 := by omega
  exact ⟨⟨w, d, mo, y, ho, mi, se, true⟩, now, rfl, rfl, lw.m1, lw.m2, y9, (fun _ => Nat.le_of_lt_succ hy), Nat.le_of_lt_succ lw.d, Nat.le_of_lt_succ lw.h, Nat.le_of_lt_succ lw.mi, Nat.le_of_lt_succ lw.se, ifP_intro (fun hc => hS _ (some1 hr hc)) fun hc => hA (none3 hr hc)⟩
theorem round3 (hT : TabOk cfg (ctab [(21, formsC), (22, takeC), (23, tickC)])) {s : List UInt8} {now : Int} {v : AV} (hA : formP form3 s now = none → st11 s now 3 v) (hS : ∀ t : Nat, formP form3 s now = some t → AV.tup [.int .i64 t, .int .i64 0] = v) : st11 s now 2 v := by
  have hno : (runF form3 s mom0).2.2 = false → st11 s now 3 v := fun h => hA (none1 h)
  obtain ⟨x1, r1, k1, e1⟩ : ∃ a b c, takeR 119 s mom0 = (a, b, c) := ⟨_, _, _, rfl⟩
  obtain ⟨x2, r2, k2, e2⟩ : ∃ a b c, takeR 32 r1 x1 = (a, b, c) := ⟨_, _, _, rfl⟩
  obtain ⟨x3, r3, k3, e3⟩ : ∃ a b c, takeR 109 r2 x2 = (a, b, c) := ⟨_, _, _, rfl⟩
  obtain ⟨x4, r4, k4, e4⟩ : ∃ a b c, takeR 32 r3 x3 = (a, b, c) := ⟨_, _, _, rfl⟩
  obtain ⟨x5, r5, k5, e5⟩ : ∃ a b c, takeR 69 r4 x4 = (a, b, c) := ⟨_, _, _, rfl⟩
  obtain ⟨x6, r6, k6, e6⟩ : ∃ a b c, takeR 32 r5 x5 = (a, b, c) := ⟨_, _, _, rfl⟩
  obtain ⟨x7, r7, k7, e7⟩ : ∃ a b c, takeR 72 r6 x6 = (a, b, c) := ⟨_, _, _, rfl⟩
  obtain ⟨x8, r8, k8, e8⟩ : ∃ a b c, takeR 58 r7 x7 = (a, b, c) := ⟨_, _, _, rfl⟩
  obtain ⟨x9, r9, k9, e9⟩ : ∃ a b c, takeR 73 r8 x8 = (a, b, c) := ⟨_, _, _, rfl⟩
  obtain ⟨x10, r10, k10, e10⟩ : ∃ a b c, takeR 58 r9 x9 = (a, b, c) := ⟨_, _, _, rfl⟩
  obtain ⟨x11, r11, k11, e11⟩ : ∃ a b c, takeR 83 r10 x10 = (a, b, c) := ⟨_, _, _, rfl⟩
  obtain ⟨x12, r12, k12, e12⟩ : ∃ a b c, takeR 32 r11 x11 = (a, b, c) := ⟨_, _, _, rfl⟩
  obtain ⟨x13, r13, k13, e13⟩ : ∃ a b c, takeR 89 r12 x12 = (a, b, c) := ⟨_, _, _, rfl⟩
  refine t11_2 (s := s) hT ⟨mom0, x1, s, r1, k1, 119, rfl, rfl, e1, by decide, ifP_intro (fun hc => ?_) fun hc => ?_⟩
  · obtain rfl : k1 = false := by simpa using hc
    exact hno (runNo (p := 119) e1)
  obtain rfl : k1 = true := by simpa using hc
  refine ⟨x1, x2, r1, r2, k2, 32, rfl, rfl, e2, by decide, ifP_intro (fun hc => ?_) fun hc => ?_⟩
  · obtain rfl : k2 = false := by simpa using hc
    exact hno (runYes (p := 119) e1 (runNo (p := 32) e2))
  obtain rfl : k2 = true := by simpa using hc
  refine ⟨x2, x3, r2, r3, k3, 109, rfl, rfl, e3, by decide, ifP_intro (fun hc => ?_) fun hc => ?_⟩
  · obtain rfl : k3 = false := by simpa using hc
    exact hno (runYes (p := 119) e1 (runYes (p := 32) e2 (runNo (p := 109) e3)))
  obtain rfl : k3 = true := by simpa using hc
  refine ⟨x3, x4, r3, r4, k4, 32, rfl, rfl, e4, by decide, ifP_intro (fun hc => ?_) fun hc => ?_⟩
  · obtain rfl : k4 = false := by simpa using hc
    exact hno (runYes (p := 119) e1 (runYes (p := 32) e2 (runYes (p := 109) e3 (runNo (p := 32) e4))))
  obtain rfl : k4 = true := by simpa using hc
  refine ⟨x4, x5, r4, r5, k5, 69, rfl, rfl, e5, by decide, ifP_intro (fun hc => ?_) fun hc => ?_⟩
  · obtain rfl : k5 = false := by simpa using hc
    exact hno (runYes (p := 119) e1 (runYes (p := 32) e2 (runYes (p := 109) e3 (runYes (p := 32) e4 (runNo (p := 69) e5)))))
  obtain rfl : k5 = true := by simpa using hc
  refine ⟨x5, x6, r5, r6, k6, 32, rfl, rfl, e6, by decide, ifP_intro (fun hc => ?_) fun hc => ?_⟩
  · obtain rfl : k6 = false := by simpa using hc
    exact hno (runYes (p := 119) e1 (runYes (p := 32) e2 (runYes (p := 109) e3 (runYes (p := 32) e4 (runYes (p := 69) e5 (runNo (p := 32) e6))))))
  obtain rfl : k6 = true := by simpa using hc
  refine ⟨x6, x7, r6, r7, k7, 72, rfl, rfl, e7, by decide, ifP_intro (fun hc => ?_) fun hc => ?_⟩
  · obtain rfl : k7 = false := by simpa using hc
    exact hno (runYes (p := 119) e1 (runYes (p := 32) e2 (runYes (p := 109) e3 (runYes (p := 32) e4 (runYes (p := 69) e5 (runYes (p := 32) e6 (runNo (p := 72) e7)))))))
  obtain rfl : k7 = true := by simpa using hc
  refine ⟨x7, x8, r7, r8, k8, 58, rfl, rfl, e8, by decide, ifP_intro (fun hc => ?_) fun hc => ?_⟩
  · obtain rfl : k8 = false := by simpa using hc
    exact hno (runYes (p := 119) e1 (runYes (p := 32) e2 (runYes (p := 109) e3 (runYes (p := 32) e4 (runYes (p := 69) e5 (runYes (p := 32) e6 (runYes (p := 72) e7 (runNo (p := 58) e8))))))))
  obtain rfl : k8 = true := by simpa using hc
  refine ⟨x8, x9, r8, r9, k9, 73, rfl, rfl, e9, by decide, ifP_intro (fun hc => ?_) fun hc => ?_⟩
  · obtain rfl : k9 = false := by simpa using hc
    exact hno (runYes (p := 119) e1 (runYes (p := 32) e2 (runYes (p := 109) e3 (runYes (p := 32) e4 (runYes (p := 69) e5 (runYes (p := 32) e6 (runYes (p := 72) e7 (runYes (p := 58) e8 (runNo (p := 73) e9)))))))))
  obtain rfl : k9 = true := by simpa using hc
  refine ⟨x9, x10, r9, r10, k10, 58, rfl, rfl, e10, by decide, ifP_intro (fun hc => ?_) fun hc => ?_⟩
  · obtain rfl : k10 = false := by simpa using hc
    exact hno (runYes (p := 119) e1 (runYes (p := 32) e2 (runYes (p := 109) e3 (runYes (p := 32) e4 (runYes (p := 69) e5 (runYes (p := 32) e6 (runYes (p := 72) e7 (runYes (p := 58) e8 (runYes (p := 73) e9 (runNo (p := 58) e10))))))))))
  obtain rfl : k10 = true := by simpa using hc
  refine ⟨x10, x11, r10, r11, k11, 83, rfl, rfl, e11, by decide, ifP_intro (fun hc => ?_) fun hc => ?_⟩
  · obtain rfl : k11 = false := by simpa using hc
    exact hno (runYes (p := 119) e1 (runYes (p := 32) e2 (runYes (p := 109) e3 (runYes (p := 32) e4 (runYes (p := 69) e5 (runYes (p := 32) e6 (runYes (p := 72) e7 (runYes (p := 58) e8 (runYes (p := 73) e9 (runYes (p := 58) e10 (runNo (p := 83) e11)))))))))))
  obtain rfl : k11 = true := by simpa using hc
  refine ⟨x11, x12, r11, r12, k12, 32, rfl, rfl, e12, by decide, ifP_intro (fun hc => ?_) fun hc => ?_⟩
  · obtain rfl : k12 = false := by simpa using hc
    exact hno (runYes (p := 119) e1 (runYes (p := 32) e2 (runYes (p := 109) e3 (runYes (p := 32) e4 (runYes (p := 69) e5 (runYes (p := 32) e6 (runYes (p := 72) e7 (runYes (p := 58) e8 (runYes (p := 73) e9 (runYes (p := 58) e10 (runYes (p := 83) e11 (runNo (p := 32) e12))))))))))))
  obtain rfl : k12 = true := by simpa using hc
  refine ⟨x12, x13, r12, r13, k13, 89, rfl, rfl, e13, by decide, ifP_intro (fun hc => ?_) fun hc => ?_⟩
  · obtain rfl : k13 = false := by simpa using hc
    exact hno (runYes (p := 119) e1 (runYes (p := 32) e2 (runYes (p := 109) e3 (runYes (p := 32) e4 (runYes (p := 69) e5 (runYes (p := 32) e6 (runYes (p := 72) e7 (runYes (p := 58) e8 (runYes (p := 73) e9 (runYes (p := 58) e10 (runYes (p := 83) e11 (runYes (p := 32) e12 (runNo (p := 89) e13)))))))))))))
  obtain rfl : k13 = true := by simpa using hc
  have hr : runF form3 s mom0 = (x13, r13, true) := runFw (p := 119) e1 (runFw (p := 32) e2 (runFw (p := 109) e3 (runFw (p := 32) e4 (runFw (p := 69) e5 (runFw (p := 32) e6 (runFw (p := 72) e7 (runFw (p := 58) e8 (runFw (p := 73) e9 (runFw (p := 58) e10 (runFw (p := 83) e11 (runFw (p := 32) e12 (runFw (p := 89) e13 (rfl)))))))))))))
  clear e13 e12 e11 e10 e9 e8 e7 e6 e5 e4 e3 e2 e1
  refine ifP_intro (fun hc => hA (none2 hr hc)) fun hc => ?_
  obtain rfl : r13 = [] := by simpa using hc
  obtain ⟨bl, w, d, mo, y, ho, mi, se, lw, _, hy, rfl, _⟩ := form3B hr
  have y9 : y ≤ 9999 := by omega
  exact ⟨⟨w, d, mo, y, ho, mi, se, false⟩, now, rfl, rfl, lw.m1, lw.m2, y9, (fun h => by cases h), Nat.le_of_lt_succ lw.d, Nat.le_of_lt_succ lw.h, Nat.le_of_lt_succ lw.mi, Nat.le_of_lt_succ lw.se, ifP_intro (fun hc => hS _ (some1 hr hc)) fun hc => hA (none3 hr hc)⟩
theorem c11 : COk cfg 11 parseC := by
  have hT := ctab_ok (ctab_cons c21 (ctab_cons c22 (ctab_cons c23 ctab_nil)))
  refine cok_pure pf11 fun vs h K ht => ?_
  obtain ⟨s, now, rfl, hk⟩ := ht
  refine ⟨_, hk, t11a hT ⟨rfl, ?_⟩⟩
  refine round1 hT (fun h1 => round2 hT (fun h2 => round3 hT (fun h3 => t11_3 hT ?_) fun t h3 => ?_) fun t h2 => ?_) fun t h1 => ?_
  · simp only [parseP, h1, h2, h3]; rfl
  · simp only [parseP, h1, h2, h3]; rfl
  · simp only [parseP, h1, h2]; rfl
  · simp only [parseP, h1]; rfl
end Go.Proofs.YtnefabbpjepppaaDoor
end
