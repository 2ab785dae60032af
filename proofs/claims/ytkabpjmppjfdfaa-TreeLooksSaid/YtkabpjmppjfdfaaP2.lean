/-
  Functions of trees keep to their contracts: how much is left, the first attribute, the same, how deep.
-/
import Derived.Test.YtkabpjmppjfdfaaS2
namespace Go.Proofs.Ytkabpjmppjfdfaa
open Go.Ai Go
set_option linter.unusedSimpArgs false
set_option linter.unusedVariables false

theorem pf7 : pureFn cfg 7 Try.f7 := ⟨by kernel_rfl, by kernel_rfl, by kernel_rfl, by kernel_rfl, by kernel_rfl, by kernel_rfl⟩
theorem pf22 : pureFn cfg 22 Try.f22 := ⟨by kernel_rfl, by kernel_rfl, by kernel_rfl, by kernel_rfl, by kernel_rfl, by kernel_rfl⟩
theorem pf25 : pureFn cfg 25 Try.f25 := ⟨by kernel_rfl, by kernel_rfl, by kernel_rfl, by kernel_rfl, by kernel_rfl, by kernel_rfl⟩
theorem pf21 : pureFn cfg 21 Try.f21 := ⟨by kernel_rfl, by kernel_rfl, by kernel_rfl, by kernel_rfl, by kernel_rfl, by kernel_rfl⟩
theorem pf24 : pureFn cfg 24 Try.f24 := ⟨by kernel_rfl, by kernel_rfl, by kernel_rfl, by kernel_rfl, by kernel_rfl, by kernel_rfl⟩
theorem pf30 : pureFn cfg 30 Try.f30 := ⟨by kernel_rfl, by kernel_rfl, by kernel_rfl, by kernel_rfl, by kernel_rfl, by kernel_rfl⟩
theorem pf31 : pureFn cfg 31 Try.f31 := ⟨by kernel_rfl, by kernel_rfl, by kernel_rfl, by kernel_rfl, by kernel_rfl, by kernel_rfl⟩
theorem pf32 : pureFn cfg 32 Try.f32 := ⟨by kernel_rfl, by kernel_rfl, by kernel_rfl, by kernel_rfl, by kernel_rfl, by kernel_rfl⟩

theorem wrap_succ {n : Nat} (h : n < lim) : IntKind.wrap .i64 ((n : Int) + 1) = ((n + 1 : Nat) : Int) := by
  unfold lim at h; rw [wrap_in] <;> omega
theorem tdiv20 (n : Nat) (h : n ≤ lim) : IntKind.wrap .i64 (Int.tdiv (n : Int) 20) = ((n / 20 : Nat) : Int) := by
  unfold lim at h
  rw [Int.tdiv_eq_ediv_of_nonneg (by omega), wrap_in] <;> omega
theorem wrap_sub {a b : Int} (h1 : -9223372036854775808 ≤ a - b) (h2 : a - b ≤ 9223372036854775807) : IntKind.wrap .i64 (a - b) = a - b := wrap_in h1 h2

/-! Size -/
theorem loop25c {N : Nat} (hT : TabOk cfg (ctab [(25, leftC N)])) (k p : Int) (t : List UInt8) (al : List Att) : ∀ (r pre : List Nd) (l : Int), low0 ≤ l → l ≤ 600 → sizes (pre ++ r) < N → fits (pre ++ r) → (pre ++ r).length ≤ lim →
    ToEnd cfg 25 (bodyOf Try.f25) (RetIs Try.prog Try.f25 (.int .i64 (lefts r l))) [.code [0, 1, 0, 1, 1, 1], .block 2, .code [1, 1, 1, 1]] .normal
      [(1, true, .int .i64 l), (2, true, .ptr 0 0), (6, true, .int .i64 pre.length)] [.mem 25 [.int .i64 k, .int .i64 p, .str t, .sl 3 (al.map encA) none, .sl 5 (encNs (pre ++ r)) none]] := by
  intro r
  induction r with
  | nil =>
    intro pre l h1 h2 hs hf hl
    refine t25c hT (ifP_intro (fun hc => ?_) fun _ => rfl)
    simp [encNs_length] at hc
  | cons x r ih =>
    intro pre l h1 h2 hs hf hl
    have hx := (fits_append.1 hf).2.1
    have hsz := sizes_mem (l := pre ++ x :: r) (n := x) (by simp)
    have hlen : pre.length < lim := by simp at hl; omega
    refine t25c hT (ifP_intro (fun _ => ifP_intro (fun hg => ?_) fun hg => ?_) fun hc => ?_)
    · simp only [gt_iff_lt, decide_eq_true_eq] at hg
      refine gAnd_intro (by rw [encNs_length, inR_of (by omega) (by simp; omega)]; rfl) ⟨x.kind, x.pl, x.text, x.attrs.map encA, encNs x.kids, by rw [getE_encNs, encN_eq], x, l, by omega, hx, hg, h2, by rw [stripss_encAs, stripss_encNs, encN_eq], ?_⟩
      refine gAnd_intro (by simp only [low_encAs, low_encNs, Bool.and_true]) ?_
      rw [wrap_succ hlen]
      have := ih (pre ++ [x]) (x.left l) (x.left_low hx hg) (by have := (x.left_size (l := l)).2; omega) (by simpa using hs) (by simpa using hf) (by simpa using hl)
      simpa [lefts, hg] using this
    · simp only [gt_iff_lt, decide_eq_false_iff_not] at hg
      rw [lefts, if_neg hg]
    · simp [encNs_length] at hc; omega

theorem loop25b {N : Nat} (hT : TabOk cfg (ctab [(25, leftC N)])) (k p : Int) (t : List UInt8) (ks : List Nd) (hN : sizes ks < N) (hf : fits ks) (hk : ks.length ≤ lim) : ∀ (r pre : List Att) (l : Int), low0 ≤ l → l ≤ 600 → (∀ a ∈ r, a.fit) → (pre ++ r).length ≤ lim →
    ToEnd cfg 25 (bodyOf Try.f25) (RetIs Try.prog Try.f25 (.int .i64 (lefts ks (attsG r l)))) [.code [0, 1, 0, 1, 1], .block 0, .code [1, 1, 1]] .normal
      [(1, true, .int .i64 l), (2, true, .ptr 0 0), (5, true, .int .i64 pre.length)] [.mem 25 [.int .i64 k, .int .i64 p, .str t, .sl 3 ((pre ++ r).map encA) none, .sl 5 (encNs ks) none]] := by
  intro r
  induction r with
  | nil =>
    intro pre l h1 h2 _ hl
    refine t25b hT (ifP_intro (fun hc => ?_) fun _ => ?_)
    · simp at hc
    · exact loop25c hT k p t _ ks [] l h1 h2 hN hf hk
  | cons x r ih =>
    intro pre l h1 h2 ha hl
    have hlen : pre.length < lim := by simp at hl; omega
    have hx := ha x (by simp)
    refine t25b hT (ifP_intro (fun _ => ifP_intro (fun hg => ?_) fun hg => ?_) fun hc => ?_)
    · simp only [gt_iff_lt, decide_eq_true_eq] at hg
      have hin : inR (pre.length : Int) ((pre ++ x :: r).map encA).length = true := inR_of (by omega) (by simp; omega)
      refine gAnd_intro (by rw [hin]; rfl) ⟨x.name, x.value, x.pl, getE_pre _ _ _ _, gAnd_intro (by rw [hin]; rfl) ⟨x.name, x.value, x.pl, getE_pre _ _ _ _, gAnd_intro (by simp only [low_encAs, low_encNs, Bool.and_true]) ?_⟩⟩
      rw [wrap_succ hlen, tdiv20 _ hx.1, tdiv20 _ hx.2]
      have e : IntKind.wrap .i64 (IntKind.wrap .i64 (IntKind.wrap .i64 (l - 1) - (x.name.length / 20 : Nat)) - (x.value.length / 20 : Nat)) = attG x l := by
        obtain ⟨q1, q2⟩ := hx
        unfold lim at q1 q2
        unfold low0 at h1
        rw [wrap_in (n := l - 1) (by omega) (by omega), wrap_sub (a := l - 1) (by omega) (by omega), wrap_sub (by omega) (by omega)]
        rfl
      rw [e]
      have := ih (pre ++ [x]) (attG x l) (attG_low hx hg) (by have := attG_le (a := x) (l := l); omega) (fun a h => ha a (by simp [h])) (by simpa using hl)
      simpa [attsG, hg] using this
    · simp only [gt_iff_lt, decide_eq_false_iff_not] at hg
      rw [attsG, if_neg hg]
      exact loop25c hT k p t _ ks [] l h1 h2 hN hf hk
    · simp at hc; omega

theorem c25 : ∀ N, COk cfg 25 (leftC N)
  | 0 => fun l h K ht => by obtain ⟨nd, l, h, _⟩ := ht; omega
  | N + 1 => by
    have hT := ctab_ok (ctab_cons (c25 N) ctab_nil)
    refine cok_pure pf25 fun vs h K ht => ?_
    obtain ⟨nd, l, hs, hf, h0, h6, rfl, hk⟩ := ht
    refine ⟨_, hk, ?_⟩
    rw [encN_eq]
    refine t25a hT ?_
    rw [Nd.fit_eq] at hf
    obtain ⟨q1, q2, q3, q4, q5⟩ := hf
    rw [Nd.size_eq] at hs
    rw [Nd.left_eq, tdiv20 _ q1]
    have e : IntKind.wrap .i64 (IntKind.wrap .i64 (l - 1) - (nd.text.length / 20 : Nat)) = l - 1 - (nd.text.length / 20 : Nat) := by
      unfold lim at q1
      rw [wrap_in (n := l - 1) (by omega) (by omega), wrap_sub (by omega) (by omega)]
    rw [e]
    exact loop25b hT _ _ _ nd.kids (by omega) q5 q4 nd.attrs [] _ (by unfold lim at q1; unfold low0; omega) (by omega) q3 q2

theorem c7 : COk cfg 7 fewC := by
  refine cok_pure pf7 fun vs h K ht => ?_
  obtain ⟨nd, hf, rfl, hk⟩ := ht
  refine ⟨_, hk, ?_⟩
  have hT := ctab_ok (ctab_cons (c25 (nd.size + 1)) ctab_nil)
  rw [encN_eq]
  exact t7a hT ⟨nd, 600, by omega, hf, by omega, by omega, by rw [stripss_encAs, stripss_encNs, encN_eq], rfl⟩

/-! Attr, the document's -/
theorem loop22 (hT : TabOk cfg (ctab [])) (k p : Int) (t nm : List UInt8) (ks : List Nd) : ∀ (r pre : List Att), (pre ++ r).length ≤ lim →
    ToEnd cfg 22 (bodyOf Try.f22) (RetIs Try.prog Try.f22 (.tup [.str (attrOf r nm).1, .bool (attrOf r nm).2])) [.code [0, 1, 0, 1], .block 0, .code [1, 1]] .normal
      [(1, true, .str nm), (2, true, .ptr 0 0), (6, true, .int .i64 pre.length)] [.mem 25 [.int .i64 k, .int .i64 p, .str t, .sl 3 ((pre ++ r).map encA) none, .sl 5 (encNs ks) none]] := by
  intro r
  induction r with
  | nil =>
    intro pre hl
    refine t22b hT (ifP_intro (fun hc => ?_) fun _ => rfl)
    simp at hc
  | cons x r ih =>
    intro pre hl
    have hlen : pre.length < lim := by simp at hl; omega
    have hin : inR (pre.length : Int) ((pre ++ x :: r).map encA).length = true := inR_of (by omega) (by simp; omega)
    refine t22b hT (ifP_intro (fun _ => ?_) fun hc => ?_)
    · refine gAnd_intro (by rw [hin]; rfl) ⟨x.name, x.value, x.pl, getE_pre _ _ _ _, ifP_intro (fun hq => ?_) fun hq => ?_⟩
      · refine gAnd_intro (by rw [hin]; rfl) ⟨x.name, x.value, x.pl, getE_pre _ _ _ _, ?_⟩
        simp only [attrOf, hq, cond_true]
      · refine gAnd_intro (by simp only [low_encAs, low_encNs, Bool.and_true]) ?_
        rw [wrap_succ hlen]
        have := ih (pre ++ [x]) (by simpa using hl)
        simpa [attrOf, hq] using this
    · simp at hc; omega

theorem c22 : COk cfg 22 attrC := by
  refine cok_pure pf22 fun vs h K ht => ?_
  obtain ⟨nd, nm, hf, rfl, hk⟩ := ht
  refine ⟨_, hk, ?_⟩
  have hT := ctab_ok (C := cfg) ctab_nil
  rw [encN_eq]
  rw [Nd.fit_eq] at hf
  exact t22a hT (loop22 hT _ _ _ nm nd.kids nd.attrs [] hf.2.1)

/-! The same attributes -/
theorem c30 : COk cfg 30 alikeC := by
  refine cok_pure pf30 fun vs h K ht => ?_
  obtain ⟨a, b, rfl, hk⟩ := ht
  refine ⟨_, hk, t30a (ctab_ok ctab_nil) ?_⟩
  refine ifP_intro (fun h1 => ?_) fun h1 => ?_ <;> simp [alike, h1]

theorem loop31 (hT : TabOk cfg (ctab [(30, alikeC)])) : ∀ (r s pre pre' : List Att), pre.length = pre'.length → r.length = s.length → (pre ++ r).length ≤ lim →
    ToEnd cfg 31 (bodyOf Try.f31) (RetIs Try.prog Try.f31 (.bool (alikes r s))) [.code [0, 1, 0, 1, 1], .block 0, .code [1, 1, 1]] .normal
      [(1, true, .sl 3 ((pre' ++ s).map encA) none), (2, true, .fn (.func 30) [] []), (15, true, .sl 3 ((pre ++ r).map encA) none), (16, true, .int .i64 ((pre ++ r).length : Nat)), (17, true, .int .i64 pre.length)] [] := by
  intro r
  induction r with
  | nil =>
    intro s pre pre' hp hr hl
    obtain rfl : s = [] := by simpa using hr.symm
    refine t31b hT (ifP_intro (fun hc => ?_) fun _ => rfl)
    simp at hc
  | cons x r ih =>
    intro s pre pre' hp hr hl
    obtain ⟨y, s, rfl⟩ : ∃ y s', s = y :: s' := by cases s with | nil => simp at hr | cons y s => exact ⟨y, s, rfl⟩
    have hlen : pre.length < lim := by simp at hl; omega
    have hin : inR (pre.length : Int) ((pre ++ x :: r).map encA).length = true := inR_of (by omega) (by simp; omega)
    have hin' : inR (pre.length : Int) ((pre' ++ y :: s).map encA).length = true := by rw [hp]; exact inR_of (by omega) (by simp; omega)
    refine t31b hT (ifP_intro (fun _ => ?_) fun hc => ?_)
    · refine gAnd_intro (by rw [hin]; rfl) ⟨x.name, x.value, x.pl, getE_pre _ _ _ _, gAnd_intro (by rw [hin']; rfl) ⟨y.name, y.value, y.pl, by rw [hp]; exact getE_pre _ _ _ _, x, y, rfl, ifP_intro (fun hq => ?_) fun hq => ?_⟩⟩
      · simp only [Bool.not_eq_true'] at hq
        simp [alikes, hq]
      · simp only [Bool.not_eq_false'] at hq
        refine gAnd_intro (by simp only [low_encAs, Bool.and_true]) ?_
        rw [wrap_succ hlen]
        have := ih s (pre ++ [x]) (pre' ++ [y]) (by simpa using hp) (by simpa using hr) (by simpa using hl)
        simpa [alikes, hq] using this
    · simp at hc; omega

theorem alikes_len : ∀ {r s : List Att}, r.length ≠ s.length → alikes r s = false
  | [], [], h => by simp at h
  | [], _ :: _, _ => rfl
  | _ :: _, [], _ => rfl
  | a :: r, b :: s, h => by simp only [alikes, alikes_len (r := r) (s := s) (by simpa using h), Bool.and_false]

theorem c31 : COk cfg 31 (alikesC 30) := by
  refine cok_pure pf31 fun vs h K ht => ?_
  obtain ⟨al, bl, h1, h2, rfl, hk⟩ := ht
  refine ⟨_, hk, ?_⟩
  have hT := ctab_ok (ctab_cons c30 ctab_nil)
  refine t31a hT (ifP_intro (fun hc => ?_) fun hc => ?_)
  · rw [alikes_len (by have h : ¬(al.length : Int) = bl.length := by simpa using hc
                       omega)]
  · have hc' : al.length = bl.length := by
      have h : (al.length : Int) = bl.length := by simpa using hc
      omega
    have := loop31 hT al bl [] [] rfl hc' h1
    simpa using this

theorem sames_len : ∀ {r s : List Nd}, r.length ≠ s.length → sames r s = false
  | [], [], h => by simp at h
  | [], _ :: _, _ => rfl
  | _ :: _, [], _ => rfl
  | a :: r, b :: s, h => by simp only [sames, sames_len (r := r) (s := s) (by simpa using h), Bool.and_false]

theorem loop32 {N : Nat} (hT : TabOk cfg (ctab [(21, sameC N)])) : ∀ (r s pre pre' : List Nd), pre.length = pre'.length → r.length = s.length → (pre ++ r).length ≤ lim → sizes r < N → fits r → fits s →
    ToEnd cfg 32 (bodyOf Try.f32) (RetIs Try.prog Try.f32 (.bool (sames r s))) [.code [0, 1, 0, 1, 1], .block 0, .code [1, 1, 1]] .normal
      [(1, true, .sl 5 (encNs (pre' ++ s)) none), (2, true, .fn (.func 21) [] []), (15, true, .sl 5 (encNs (pre ++ r)) none), (16, true, .int .i64 ((pre ++ r).length : Nat)), (17, true, .int .i64 pre.length)] [] := by
  intro r
  induction r with
  | nil =>
    intro s pre pre' hp hr hl hs hf hf'
    obtain rfl : s = [] := by simpa using hr.symm
    refine t32b hT (ifP_intro (fun hc => ?_) fun _ => rfl)
    simp at hc
  | cons x r ih =>
    intro s pre pre' hp hr hl hs hf hf'
    obtain ⟨y, s, rfl⟩ : ∃ y s', s = y :: s' := by cases s with | nil => simp at hr | cons y s => exact ⟨y, s, rfl⟩
    have hlen : pre.length < lim := by simp at hl; omega
    have hin : inR (pre.length : Int) (encNs (pre ++ x :: r)).length = true := by rw [encNs_length]; exact inR_of (by omega) (by simp; omega)
    have hin' : inR (pre.length : Int) (encNs (pre' ++ y :: s)).length = true := by rw [hp, encNs_length]; exact inR_of (by omega) (by simp; omega)
    rw [sizes] at hs
    refine t32b hT (ifP_intro (fun _ => ?_) fun hc => ?_)
    · refine gAnd_intro (by rw [hin]; rfl) ⟨x.kind, x.pl, x.text, x.attrs.map encA, encNs x.kids, by rw [getE_encNs, encN_eq],
        gAnd_intro (by rw [hin']; rfl) ⟨y.kind, y.pl, y.text, y.attrs.map encA, encNs y.kids, by rw [hp, getE_encNs, encN_eq], x, y, by omega, hf.1, hf'.1, by simp only [stripss_encAs, stripss_encNs, encN_eq], ifP_intro (fun hq => ?_) fun hq => ?_⟩⟩
      · simp only [Bool.not_eq_true'] at hq
        simp [sames, hq]
      · simp only [Bool.not_eq_false'] at hq
        refine gAnd_intro (by simp only [low_encNs, Bool.and_true]) ?_
        rw [wrap_succ hlen]
        have := ih s (pre ++ [x]) (pre' ++ [y]) (by simpa using hp) (by simpa using hr) (by simpa using hl) (by omega) hf.2 hf'.2
        simpa [sames, hq] using this
    · simp at hc; omega

theorem c32 {N : Nat} (h21 : COk cfg 21 (sameC N)) : COk cfg 32 (samesC 21 N) := by
  refine cok_pure pf32 fun vs h K ht => ?_
  obtain ⟨al, bl, h0, hf, hf', h1, h2, rfl, hk⟩ := ht
  refine ⟨_, hk, ?_⟩
  have hT := ctab_ok (ctab_cons h21 ctab_nil)
  refine t32a hT (ifP_intro (fun hc => ?_) fun hc => ?_)
  · rw [sames_len (by have h : ¬(al.length : Int) = bl.length := by simpa [encNs_length] using hc
                      omega)]
  · have hc' : al.length = bl.length := by
      have h : (al.length : Int) = bl.length := by simpa [encNs_length] using hc
      omega
    have := loop32 hT al bl [] [] rfl hc' h1 h0 hf hf'
    simpa [encNs_length] using this

theorem c21 : ∀ N, COk cfg 21 (sameC N)
  | 0 => fun l h K ht => by obtain ⟨nd, l, h, _⟩ := ht; omega
  | N + 1 => by
    have hT := ctab_ok (ctab_cons c31 (ctab_cons (c32 (c21 N)) ctab_nil))
    refine cok_pure pf21 fun vs h K ht => ?_
    obtain ⟨a, b, hs, hf, hf', rfl, hk⟩ := ht
    refine ⟨_, hk, ?_⟩
    rw [Nd.fit_eq] at hf hf'
    rw [Nd.size_eq] at hs
    simp only [encN_eq]
    refine t21a hT ?_
    rw [Nd.same_eq]
    refine ifP_intro (fun h1 => ifP_intro (fun h2 => ⟨a.attrs, b.attrs, hf.2.1, hf'.2.1, by simp only [stripss_encAs], ifP_intro (fun h3 => ⟨a.kids, b.kids, by omega, hf.2.2.2.2, hf'.2.2.2.2, hf.2.2.2.1, hf'.2.2.2.1, by simp only [stripss_encNs], ?_⟩) fun h3 => ?_⟩) fun h2 => ?_) fun h1 => ?_
    all_goals simp_all

/-! Same, the document's -/
theorem loop24c {N : Nat} (hT : TabOk cfg (ctab [(24, sameC N)])) (k p k' p' : Int) (t t' : List UInt8) (al al' : List Att) : ∀ (r s pre pre' : List Nd), pre.length = pre'.length → r.length = s.length → (pre ++ r).length ≤ lim → sizes r < N → fits r → fits s →
    ToEnd cfg 24 (bodyOf Try.f24) (RetIs Try.prog Try.f24 (.bool (sames r s))) [.code [0, 1, 0, 1, 1, 1], .block 2, .code [1, 1, 1, 1]] .normal
      [(2, true, .ptr 0 0), (3, true, .ptr 1 0), (6, true, .int .i64 pre.length)] [.mem 25 [.int .i64 k, .int .i64 p, .str t, .sl 3 (al.map encA) none, .sl 5 (encNs (pre ++ r)) none], .mem 25 [.int .i64 k', .int .i64 p', .str t', .sl 3 (al'.map encA) none, .sl 5 (encNs (pre' ++ s)) none]] := by
  intro r
  induction r with
  | nil =>
    intro s pre pre' hp hr hl hs hf hf'
    obtain rfl : s = [] := by simpa using hr.symm
    refine t24c hT (ifP_intro (fun hc => ?_) fun _ => rfl)
    simp [encNs_length] at hc
  | cons x r ih =>
    intro s pre pre' hp hr hl hs hf hf'
    obtain ⟨y, s, rfl⟩ : ∃ y s', s = y :: s' := by cases s with | nil => simp at hr | cons y s => exact ⟨y, s, rfl⟩
    have hlen : pre.length < lim := by simp at hl; omega
    have hin : inR (pre.length : Int) (encNs (pre ++ x :: r)).length = true := by rw [encNs_length]; exact inR_of (by omega) (by simp; omega)
    have hin' : inR (pre.length : Int) (encNs (pre' ++ y :: s)).length = true := by rw [hp, encNs_length]; exact inR_of (by omega) (by simp; omega)
    rw [sizes] at hs
    refine t24c hT (ifP_intro (fun _ => ?_) fun hc => ?_)
    · refine gAnd_intro (by rw [hin]; rfl) ⟨x.kind, x.pl, x.text, x.attrs.map encA, encNs x.kids, by rw [getE_encNs, encN_eq],
        gAnd_intro (by rw [hin']; rfl) ⟨y.kind, y.pl, y.text, y.attrs.map encA, encNs y.kids, by rw [hp, getE_encNs, encN_eq], x, y, by omega, hf.1, hf'.1, by simp only [stripss_encAs, stripss_encNs, encN_eq], ifP_intro (fun hq => ?_) fun hq => ?_⟩⟩
      · simp only [Bool.not_eq_true'] at hq
        simp [sames, hq]
      · simp only [Bool.not_eq_false'] at hq
        refine gAnd_intro (by simp only [low_encAs, low_encNs, Bool.and_true]) ?_
        rw [wrap_succ hlen]
        have := ih s (pre ++ [x]) (pre' ++ [y]) (by simpa using hp) (by simpa using hr) (by simpa using hl) (by omega) hf.2 hf'.2
        simpa [sames, hq] using this
    · simp [encNs_length] at hc; omega

theorem loop24b {N : Nat} (hT : TabOk cfg (ctab [(24, sameC N)])) (k p k' p' : Int) (t t' : List UInt8) (ks ks' : List Nd) (hk : ks.length = ks'.length) (hkl : ks.length ≤ lim) (hN : sizes ks < N) (hf : fits ks) (hf' : fits ks') : ∀ (r s pre pre' : List Att), pre.length = pre'.length → r.length = s.length → (pre ++ r).length ≤ lim →
    ToEnd cfg 24 (bodyOf Try.f24) (RetIs Try.prog Try.f24 (.bool (alikes r s && sames ks ks'))) [.code [0, 1, 0, 1, 1], .block 0, .code [1, 1, 1]] .normal
      [(2, true, .ptr 0 0), (3, true, .ptr 1 0), (5, true, .int .i64 pre.length)] [.mem 25 [.int .i64 k, .int .i64 p, .str t, .sl 3 ((pre ++ r).map encA) none, .sl 5 (encNs ks) none], .mem 25 [.int .i64 k', .int .i64 p', .str t', .sl 3 ((pre' ++ s).map encA) none, .sl 5 (encNs ks') none]] := by
  intro r
  induction r with
  | nil =>
    intro s pre pre' hp hr hl
    obtain rfl : s = [] := by simpa using hr.symm
    refine t24b hT (ifP_intro (fun hc => ?_) fun _ => ?_)
    · simp at hc
    · have := loop24c hT k p k' p' t t' (pre ++ []) (pre' ++ []) ks ks' [] [] rfl hk hkl hN hf hf'
      simpa [alikes] using this
  | cons x r ih =>
    intro s pre pre' hp hr hl
    obtain ⟨y, s, rfl⟩ : ∃ y s', s = y :: s' := by cases s with | nil => simp at hr | cons y s => exact ⟨y, s, rfl⟩
    have hlen : pre.length < lim := by simp at hl; omega
    have hin : inR (pre.length : Int) ((pre ++ x :: r).map encA).length = true := inR_of (by omega) (by simp; omega)
    have hin' : inR (pre.length : Int) ((pre' ++ y :: s).map encA).length = true := by rw [hp]; exact inR_of (by omega) (by simp; omega)
    refine t24b hT (ifP_intro (fun _ => ?_) fun hc => ?_)
    · refine gAnd_intro (by rw [hin]; rfl) ⟨x.name, x.value, x.pl, getE_pre _ _ _ _, gAnd_intro (by rw [hin']; rfl) ⟨y.name, y.value, y.pl, by rw [hp]; exact getE_pre _ _ _ _, ifP_intro (fun hq => ?_) fun hq => ?_⟩⟩
      · simp only [Bool.not_eq_true'] at hq
        simp [alikes, alike, hq]
      · simp only [Bool.not_eq_false'] at hq
        refine gAnd_intro (by rw [hin]; rfl) ⟨x.name, x.value, x.pl, getE_pre _ _ _ _, gAnd_intro (by rw [hin']; rfl) ⟨y.name, y.value, y.pl, by rw [hp]; exact getE_pre _ _ _ _, ifP_intro (fun hw => ?_) fun hw => ?_⟩⟩
        · simp only [Bool.not_eq_true'] at hw
          simp [alikes, alike, hw]
        · simp only [Bool.not_eq_false'] at hw
          refine gAnd_intro (by simp only [low_encAs, low_encNs, Bool.and_true]) ?_
          rw [wrap_succ hlen]
          have := ih s (pre ++ [x]) (pre' ++ [y]) (by simpa using hp) (by simpa using hr) (by simpa using hl)
          simpa [alikes, alike, hq, hw] using this
    · simp at hc; omega

theorem c24 : ∀ N, COk cfg 24 (sameC N)
  | 0 => fun l h K ht => by obtain ⟨nd, l, h, _⟩ := ht; omega
  | N + 1 => by
    have hT := ctab_ok (ctab_cons (c24 N) ctab_nil)
    refine cok_pure pf24 fun vs h K ht => ?_
    obtain ⟨a, b, hs, hf, hf', rfl, hk⟩ := ht
    refine ⟨_, hk, ?_⟩
    rw [Nd.fit_eq] at hf hf'
    rw [Nd.size_eq] at hs
    simp only [encN_eq]
    refine t24a hT ?_
    rw [Nd.same_eq]
    refine ifP_intro (fun h1 => ?_) (fun h1 => ifP_intro (fun h2 => ?_) fun h2 => ifP_intro (fun h3 => ?_) fun h3 => ifP_intro (fun h4 => ?_) fun h4 => ?_)
    · have : (a.kind == b.kind) = false := by simpa using h1
      simp [this]
    · have : (a.text == b.text) = false := by simpa using h2
      simp [this]
    · rw [alikes_len (by have h : ¬(a.attrs.length : Int) = b.attrs.length := by simpa using h3
                         omega)]
      simp
    · rw [sames_len (by have h : ¬(a.kids.length : Int) = b.kids.length := by simpa [encNs_length] using h4
                        omega)]
      simp
    · have e1 : (a.kind == b.kind) = true := by simpa using h1
      have e2 : (a.text == b.text) = true := by simpa using h2
      have e3 : (a.attrs.length : Int) = b.attrs.length := by simpa using h3
      have e4 : (a.kids.length : Int) = b.kids.length := by simpa [encNs_length] using h4
      have := loop24b hT a.kind a.pl b.kind b.pl a.text b.text a.kids b.kids (by omega) hf.2.2.2.1 (by omega) hf.2.2.2.2 hf'.2.2.2.2 a.attrs b.attrs [] [] rfl (by omega) hf.2.1
      simpa [e1, e2] using this

/-! Depth, the document's and the program's -/
theorem pf23 : pureFn cfg 23 Try.f23 := ⟨by kernel_rfl, by kernel_rfl, by kernel_rfl, by kernel_rfl, by kernel_rfl, by kernel_rfl⟩
theorem pf19 : pureFn cfg 19 Try.f19 := ⟨by kernel_rfl, by kernel_rfl, by kernel_rfl, by kernel_rfl, by kernel_rfl, by kernel_rfl⟩
def more (x : Nd) : Nat := if x.kind = 2 then x.depth else x.depth + 1
theorem depths_more (x : Nd) (r : List Nd) : depths (x :: r) = max (more x) (depths r) := by
  unfold more
  by_cases h : x.kind = 2
  · rw [depths_text h, if_pos h]
  · rw [depths_other h, if_neg h]
theorem more_le (x : Nd) : more x ≤ x.size := by
  have := x.depth_le
  unfold more
  split <;> omega

theorem loop23 {N : Nat} (hT : TabOk cfg (ctab [(23, depthC N)])) (hN : N ≤ 1000000) (k p : Int) (t : List UInt8) (al : List Att) : ∀ (r pre : List Nd) (acc : Nat), acc ≤ 1000000 → (sizes (pre ++ r) < N) →
    ToEnd cfg 23 (bodyOf Try.f23) (RetIs Try.prog Try.f23 (.int .i64 (max acc (depths r) : Nat))) [.code [0, 1, 0, 1, 1], .block 0, .code [1, 1, 1]] .normal
      [(1, true, .ptr 0 0), (3, true, .int .i64 acc), (4, true, .int .i64 pre.length)] [.mem 25 [.int .i64 k, .int .i64 p, .str t, .sl 3 (al.map encA) none, .sl 5 (encNs (pre ++ r)) none]] := by
  intro r
  induction r with
  | nil =>
    intro pre acc ha hs
    refine t23b hT (ifP_intro (fun hc => ?_) (fun _ => ?_))
    · simp [encNs_length] at hc
    · simp [depths]
  | cons x r ih =>
    intro pre acc ha hs
    have hx := x.depth_le
    have hs' : sizes pre + (x.size + sizes r) < N := by simpa [sizes_append, sizes] using hs
    have hpl := sizes_len pre
    have hm := more_le x
    have next := fun acc' ha' => ih (pre ++ [x]) acc' ha' (by simpa using hs)
    simp only [List.append_assoc, List.singleton_append, List.length_append, List.length_singleton] at next
    have hr : inR (pre.length : Int) (encNs (pre ++ x :: r)).length = true := by rw [encNs_length]; exact inR_of (by omega) (by simp; omega)
    have hd : IntKind.wrap .i64 ((x.depth : Int) + 1) = ((x.depth + 1 : Nat) : Int) := wrap_succ (by unfold lim; omega)
    rw [depths_more]
    refine t23b hT (ifP_intro (fun _ => ?_) (fun hc => ?_))
    · refine gAnd_intro (by rw [hr]; rfl) ⟨x.kind, x.pl, x.text, x.attrs.map encA, encNs x.kids, by rw [getE_encNs, encN_eq], x, by omega, by simp only [stripss_encAs, stripss_encNs, encN_eq], ?_⟩
      refine gAnd_intro (by rw [hr]; rfl) ⟨x.kind, x.pl, x.text, x.attrs.map encA, encNs x.kids, by rw [getE_encNs, encN_eq], ?_⟩
      rw [wrap_succ (n := pre.length) (by unfold lim; omega), hd]
      refine ifP_intro (fun hk => ?_) fun hk => ?_
      · have e : more x = x.depth + 1 := if_neg (by simpa using hk)
        rw [e]
        refine ifP_intro (fun hg => ?_) fun hg => ?_ <;> refine gAnd_intro (by simp only [low_encAs, low_encNs, Bool.and_true]) ?_ <;> simp only [decide_eq_true_eq, decide_eq_false_iff_not, gt_iff_lt] at hg
        · rw [show max acc (max (x.depth + 1) (depths r)) = max (x.depth + 1) (depths r) by omega]
          exact next _ (by omega)
        · rw [show max acc (max (x.depth + 1) (depths r)) = max acc (depths r) by omega]
          exact next _ ha
      · have e : more x = x.depth := if_pos (by simpa using hk)
        rw [e]
        refine ifP_intro (fun hg => ?_) fun hg => ?_ <;> refine gAnd_intro (by simp only [low_encAs, low_encNs, Bool.and_true]) ?_ <;> simp only [decide_eq_true_eq, decide_eq_false_iff_not, gt_iff_lt] at hg
        · rw [show max acc (max x.depth (depths r)) = max x.depth (depths r) by omega]
          exact next _ (by omega)
        · rw [show max acc (max x.depth (depths r)) = max acc (depths r) by omega]
          exact next _ ha
    · simp [encNs_length] at hc; omega

theorem c23 : ∀ N, N ≤ 1000000 → COk cfg 23 (depthC N)
  | 0, _ => fun l h K ht => by obtain ⟨nd, h, _⟩ := ht; omega
  | N + 1, hN => by
    have hT := ctab_ok (ctab_cons (c23 N (by omega)) ctab_nil)
    refine cok_pure pf23 fun vs h K ht => ?_
    obtain ⟨nd, hs, rfl, hk⟩ := ht
    refine ⟨_, hk, ?_⟩
    rw [Nd.size_eq] at hs
    rw [encN_eq, Nd.depth_eq]
    refine t23a hT ?_
    have := loop23 hT (by omega) nd.kind nd.pl nd.text nd.attrs nd.kids [] 0 (by omega) (by simpa using by omega)
    simpa using this

theorem loop19 {N : Nat} (hT : TabOk cfg (ctab [(19, depthC N)])) (hN : N ≤ 1000000) (k p : Int) (t : List UInt8) (al : List Att) : ∀ (r pre : List Nd) (acc : Nat), acc ≤ 1000000 → (sizes (pre ++ r) < N) →
    ToEnd cfg 19 (bodyOf Try.f19) (RetIs Try.prog Try.f19 (.int .i64 (max acc (depths r) : Nat))) [.code [0, 1, 0, 1, 1], .block 0, .code [1, 1, 1]] .normal
      [(3, true, .int .i64 acc), (8, true, .sl 5 (encNs (pre ++ r)) none), (9, true, .int .i64 ((pre ++ r).length : Nat)), (10, true, .int .i64 pre.length)] [.mem 25 [.int .i64 k, .int .i64 p, .str t, .sl 3 (al.map encA) none, .sl 5 (encNs (pre ++ r)) none]] := by
  intro r
  induction r with
  | nil =>
    intro pre acc ha hs
    refine t19b hT (ifP_intro (fun hc => ?_) (fun _ => ?_))
    · simp at hc
    · simp [depths]
  | cons x r ih =>
    intro pre acc ha hs
    have hx := x.depth_le
    have hs' : sizes pre + (x.size + sizes r) < N := by simpa [sizes_append, sizes] using hs
    have hpl := sizes_len pre
    have hm := more_le x
    have next := fun acc' ha' => ih (pre ++ [x]) acc' ha' (by simpa using hs)
    have hpx : (pre ++ [x]).length = pre.length + 1 := by simp
    simp only [hpx, List.append_assoc, List.singleton_append] at next
    have hr : inR (pre.length : Int) (encNs (pre ++ x :: r)).length = true := by rw [encNs_length]; exact inR_of (by omega) (by simp; omega)
    have hd : IntKind.wrap .i64 ((x.depth : Int) + 1) = ((x.depth + 1 : Nat) : Int) := wrap_succ (by unfold lim; omega)
    rw [depths_more]
    refine t19b hT (ifP_intro (fun _ => ?_) (fun hc => ?_))
    · refine gAnd_intro (by rw [hr]; rfl) ⟨x.kind, x.pl, x.text, x.attrs.map encA, encNs x.kids, by rw [getE_encNs, encN_eq], x, by omega, by simp only [stripss_encAs, stripss_encNs, encN_eq], ?_⟩
      rw [wrap_succ (n := pre.length) (by unfold lim; omega), hd]
      refine ifP_intro (fun hk => ?_) fun hk => ?_ <;> refine gAnd_intro (by simp only [low_encAs, low_encNs, Bool.and_true]) ?_
      · have e : more x = x.depth + 1 := if_neg (by simpa using hk)
        rw [e, show max acc (max (x.depth + 1) (depths r)) = max (max acc (x.depth + 1)) (depths r) by omega]
        have := next (max acc (x.depth + 1)) (by omega)
        rw [show max (acc : Int) ((x.depth + 1 : Nat) : Int) = ((max acc (x.depth + 1) : Nat) : Int) by omega]
        exact this
      · have e : more x = x.depth := if_pos (by simpa using hk)
        rw [e, show max acc (max x.depth (depths r)) = max (max acc x.depth) (depths r) by omega]
        have := next (max acc x.depth) (by omega)
        rw [show max (acc : Int) (x.depth : Int) = ((max acc x.depth : Nat) : Int) by omega]
        exact this
    · simp at hc; omega

theorem c19 : ∀ N, N ≤ 1000000 → COk cfg 19 (depthC N)
  | 0, _ => fun l h K ht => by obtain ⟨nd, h, _⟩ := ht; omega
  | N + 1, hN => by
    have hT := ctab_ok (ctab_cons (c19 N (by omega)) ctab_nil)
    refine cok_pure pf19 fun vs h K ht => ?_
    obtain ⟨nd, hs, rfl, hk⟩ := ht
    refine ⟨_, hk, ?_⟩
    rw [Nd.size_eq] at hs
    rw [encN_eq, Nd.depth_eq]
    refine t19a hT ?_
    have := loop19 hT (by omega) nd.kind nd.pl nd.text nd.attrs nd.kids [] 0 (by omega) (by simpa using by omega)
    rw [encNs_length]
    simpa using this
end Go.Proofs.Ytkabpjmppjfdfaa
