/-
  DateForms' contract: the forms of a tick's date, with a byte changed perhaps, are read as the document says.
-/
import Derived.Test.YtnefabbpjepppaaDoorJPf
import Derived.Test.YtnefabbpjepppaaDoorJPe
import Derived.Test.YtnefabbpjepppaaDoorJPa
import Derived.Test.YtnefabbpjepppaaDoorJTg
section
namespace Go.Proofs.YtnefabbpjepppaaDoor
open Go.Ai Go
set_option linter.unusedSimpArgs false
set_option linter.unusedVariables false
set_option maxRecDepth 100000

theorem cells_bytes (l : List UInt8) : cellsB (l.map fun b => AV.int .u8 (b.toNat : Int)) = true := by
  unfold cellsB
  rw [List.all_eq_true]
  intro x hx
  obtain ⟨b, _, rfl⟩ := List.mem_map.1 hx
  have := b.toNat_lt
  simp only [cellB, Bool.and_eq_true, decide_eq_true_eq]
  omega
theorem cells_sub {cs : List AV} (h : cellsB cs = true) (a n : Nat) : cellsB ((cs.drop a).take n) = true := by
  unfold cellsB at h ⊢
  rw [List.all_eq_true] at h ⊢
  exact fun x hx => h x (List.mem_of_mem_drop (List.mem_of_mem_take hx))
theorem cells_splice {cs : List AV} (h : cellsB cs = true) (o : Nat) {c : Int} (h0 : 0 ≤ c) (h1 : c < 256) : cellsB (splice cs o [AV.int .u8 c]) = true := by
  unfold cellsB at h ⊢
  rw [List.all_eq_true] at h ⊢
  intro x hx
  simp only [splice, List.mem_append, List.mem_singleton] at hx
  rcases hx with (hx | rfl) | hx
  · exact h x (List.mem_of_mem_take hx)
  · simp only [cellB, Bool.and_eq_true, decide_eq_true_eq]; omega
  · exact h x (List.mem_of_mem_drop hx)

theorem wdN_le (n : Nat) : (wdN n).length ≤ 9 := getD_le _ _ (by decide) _
theorem wdL_le (n : Nat) : (wdL n).length ≤ 9 := getD_le _ _ (by decide) _
theorem monN_le (m : Nat) : (monN m).length ≤ 9 := getD_le _ _ (by decide) _
/-- A text that has some bytes, and not too many. -/
def okS (s : List UInt8) : Prop := 0 < s.length ∧ s.length ≤ 1000
theorem clock_le (a b c : Nat) : (clockS a b c).length = 8 := by simp [clockS, Ai.d2]
theorem ok_fixed (n d m y a b c : Nat) : okS (fixedS n d m y a b c) := by
  have h1 := wdN_le n; have h2 := monN_le m; have h3 := clock_le a b c
  unfold okS fixedS
  simp only [List.length_append, List.length_cons, List.length_nil, h3, Ai.d2, d4]
  omega
theorem ok_old (n d m y a b c : Nat) : okS (oldS n d m y a b c) := by
  have h1 := wdL_le n; have h2 := monN_le m; have h3 := clock_le a b c
  unfold okS oldS
  simp only [List.length_append, List.length_cons, List.length_nil, h3, Ai.d2]
  omega
theorem ok_plain (bl : Bool) (n d m y a b c : Nat) : okS (Ai.plainS bl n d m y a b c) := by
  have h1 := wdN_le n; have h2 := monN_le m; have h3 := clock_le a b c
  unfold okS Ai.plainS
  cases bl <;> simp only [List.length_append, List.length_cons, List.length_nil, h3, Ai.d2, d4, digits, cond_true, cond_false] <;> omega

theorem pf5 : pureFn cfg 5 Tryd.f5 := ⟨by kernel_rfl, by kernel_rfl, by kernel_rfl, by kernel_rfl, by kernel_rfl, by kernel_rfl⟩
theorem tab5 : TabOk cfg (ctab [(3, Ai.readsC), (10, trueC), (15, ofC), (16, fixedC), (17, oldC), (18, plainC)]) :=
  ctab_ok (ctab_cons c3 (ctab_cons c10 (ctab_cons c15 (ctab_cons c16 (ctab_cons c17 (ctab_cons c18 ctab_nil))))))

theorem low_strs (n : Nat) : ∀ L : List (List UInt8), lowVss n (encS L) = true
  | [] => rfl
  | s :: L => by
    show (lowVs n [AV.str s] && lowVss n (encS L)) = true
    rw [low_strs n L]; rfl

theorem forms_loop {c0 c1 : Int} (h0 : 0 ≤ c0 ∧ c0 < 256) (h1 : 0 ≤ c1 ∧ c1 < 256) (i1 : Int) (L : List (List UInt8)) (hL : ∀ s ∈ L, okS s) (hLL : L.length ≤ 1000) (a0 a1 a2 a3 a4 a5 : Int) : ∀ (n : Nat) (i : Int), 0 ≤ i → i ≤ L.length → (L.length : Int) - i = n →
    ToEnd cfg 5 (bodyOf Tryd.f5) (RetIs Tryd.prog Tryd.f5 (.bool true)) ([.code [0, 1, 0, 1, 1, 1], Fm.block 0, Fm.code [1, 1, 1, 1]]) .normal ([(1, true, AV.int IntKind.u64 i1), (5, true, AV.ptr 0 0), (8, true, AV.sl 1 (encS L) none), (9, true, AV.int IntKind.i64 i)]) ([Blk.mem 32 [AV.int IntKind.u8 c0, AV.int IntKind.u8 c1], Blk.mem 34 [AV.int IntKind.i64 a0, AV.int IntKind.i64 a1, AV.int IntKind.i64 a2, AV.int IntKind.i64 a3, AV.int IntKind.i64 a4, AV.int IntKind.i64 a5]]) := by
  intro n
  have hlen : (encS L).length = L.length := by simp [encS]
  induction n with
  | zero =>
    intro i hi0 hi hn
    refine t5b tab5 (ifP_intro (fun a => ?_) fun a => ?_)
    · rw [hlen, decide_eq_true_eq] at a; omega
    · exact ⟨rfl, rfl⟩
  | succ n ih =>
    intro i hi0 hi hn
    obtain ⟨s, hs⟩ : ∃ s, L[i.toNat]? = some s := ⟨_, List.getElem?_eq_getElem (by omega)⟩
    have hok := hL s (List.mem_of_getElem? hs)
    have hget : getE (encS L) i = [AV.str s] := by
      unfold getE encS
      rw [List.getD_eq_getElem?_getD, List.getElem?_map, hs]; rfl
    have hw : IntKind.wrap .i64 c0 = c0 := by rw [wrap_in] <;> omega
    have hm : Int.tmod c0 (s.length : Int) = ((c0.toNat % s.length : Nat) : Int) := by
      have : c0 = (c0.toNat : Int) := by omega
      rw [this]; exact tmodN _ _
    have hlt : c0.toNat % s.length < s.length := Nat.mod_lt _ hok.1
    have hnext := ih (i + 1) (by omega) (by omega) (by omega)
    have hw1 : IntKind.wrap .i64 (i + 1) = i + 1 := by
      rw [wrap_in] <;> omega
    refine t5b tab5 (ifP_intro (fun a => ?_) fun a => ?_)
    · rw [hw, hw1]
      refine gAnd_intro (by rw [inR_of hi0 (by rw [hlen]; omega)]; rfl) ⟨s, hget, ?_⟩
      rw [hm]
      refine gAnd_intro (Nat.ble_eq_true_of_le (by have := hok.2; omega)) (ifP_intro (fun b => ?_) fun b => ?_)
      · refine gAnd_intro (by have := hok.1; rw [decide_eq_false (by omega)]; rfl) (gAnd_intro (by rw [inR_of (by omega) (by omega)]; rfl) (gAnd_intro (Nat.ble_eq_true_of_le (by rw [List.length_map]; omega)) (gAnd_intro (cells_sub (cells_splice (cells_bytes s) _ h1.1 h1.2) _ _) ?_)))
        exact ⟨_, _, rfl, gAnd_intro (by rw [low_strs]; rfl) hnext⟩
      · refine gAnd_intro (cells_sub (cells_bytes s) _ _) ?_
        exact ⟨_, _, rfl, gAnd_intro (by rw [low_strs]; rfl) hnext⟩
    · rw [hlen, decide_eq_false_iff_not] at a; omega
theorem c5 : COk cfg 5 (fun vs h K => ∃ (t now c0 c1 : Int), 0 ≤ t ∧ (0 ≤ c0 ∧ c0 < 256) ∧ (0 ≤ c1 ∧ c1 < 256) ∧ vs = [.int .u64 t, .int .u64 now, .agg [.int .u8 c0, .int .u8 c1]] ∧ K (.bool true) h) := by
  refine cok_pure pf5 fun vs h K ht => ?_
  obtain ⟨t, now, c0, c1, ht0, h0, h1, rfl, hk⟩ := ht
  refine ⟨_, hk, ?_⟩
  obtain ⟨t, rfl⟩ : ∃ n : Nat, t = n := ⟨t.toNat, by omega⟩
  have e : Int.tmod (t : Int) 253402300800 = ((t % 253402300800 : Nat) : Int) := tmodN t 253402300800
  have hn : t % 253402300800 ≤ lastT := by unfold lastT; omega
  have hw : IntKind.wrap .i64 ((t % 253402300800 : Nat) : Int) = ((t % 253402300800 : Nat) : Int) := by rw [wrap_in] <;> omega
  generalize hu : t % 253402300800 = u at e hn hw
  have hd : DateOk (yearOf (u / 86400)) (monthOf (u / 86400)) (dayOf (u / 86400)) (u % 86400 / 3600) (u % 86400 / 60 % 60) (u % 86400 % 60) := dateOk_of (by unfold lastT at hn; omega) _ (Nat.mod_lt _ (by decide))
  refine t5a tab5 ⟨u, hn, by rw [e, hw], _, _, _, _, _, _, hd, rfl, _, _, _, _, _, _, hd, rfl, _, _, _, _, _, _, _, hd, rfl, _, _, _, _, _, _, _, hd, rfl, ?_⟩
  exact forms_loop h0 h1 now [_, _, _, _] (fun s hs => by
    simp only [List.mem_cons, List.not_mem_nil, or_false] at hs
    rcases hs with rfl | rfl | rfl | rfl
    · exact ok_fixed _ _ _ _ _ _ _
    · exact ok_old _ _ _ _ _ _ _
    · exact ok_plain _ _ _ _ _ _ _ _
    · exact ok_plain _ _ _ _ _ _ _ _) (by simp) _ _ _ _ _ _ 4 0 (by omega) (by simp) (by simp)
theorem arg_two {n : Nat} {v : AV} (h : argOf Tryd.prog n 32 v) : ∃ c0 c1 : Int, (0 ≤ c0 ∧ c0 < 256) ∧ (0 ≤ c1 ∧ c1 < 256) ∧ v = .agg [.int .u8 c0, .int .u8 c1] := by
  cases n with
  | zero =>
    obtain ⟨xs, _, h⟩ := (show ∃ xs, v = .agg xs ∧ wt Tryd.prog 0 32 xs from h)
    exact False.elim h
  | succ n =>
    obtain ⟨xs, rfl, h'⟩ := (show ∃ xs, v = .agg xs ∧ wt Tryd.prog (n + 1) 32 xs from h)
    simp only [wt, Tryd.underlying32] at h'
    obtain ⟨yss, hl, hy, rfl⟩ := h'
    have one : ∀ ys ∈ yss, ∃ c : Int, (0 ≤ c ∧ c < 256) ∧ ys = [.int .u8 c] := by
      intro ys hm
      have h2 := hy ys hm
      cases n with
      | zero => exact False.elim h2
      | succ n =>
        simp only [wt, Tryd.underlying5] at h2
        obtain ⟨z, k1, k2⟩ := h2
        have hw : 0 ≤ z ∧ z ≤ 255 := by simpa [Lit.wf, IntKind.min, IntKind.max, IntKind.signed, IntKind.bits] using k1
        exact ⟨z, by omega, k2⟩
    match yss, hl with
    | [a, b], _ =>
      obtain ⟨c0, q0, rfl⟩ := one a (by simp)
      obtain ⟨c1, q1, rfl⟩ := one b (by simp)
      exact ⟨c0, c1, q0, q1, rfl⟩
end Go.Proofs.YtnefabbpjepppaaDoor
end
