/-
  TreeLooks keeps to its contract: at any trees of a world's sizes and any name it answers true.
-/
import Derived.Test.YtkabpjmppjfdfaaS3
import Derived.Test.YtkabpjmppjfdfaaP2
namespace Go.Proofs.Ytkabpjmppjfdfaa
open Go.Ai Go
set_option linter.unusedSimpArgs false
set_option linter.unusedVariables false

theorem hf29 : heapFn cfg 29 Try.f29 := ⟨by kernel_rfl, by kernel_rfl, by kernel_rfl, by kernel_rfl, by kernel_rfl, by kernel_rfl⟩
theorem hf28 : heapFn cfg 28 Try.f28 := ⟨by kernel_rfl, by kernel_rfl, by kernel_rfl, by kernel_rfl, by kernel_rfl, by kernel_rfl⟩
theorem pf17 : pureFn cfg 17 Try.f17 := ⟨by kernel_rfl, by kernel_rfl, by kernel_rfl, by kernel_rfl, by kernel_rfl, by kernel_rfl⟩
theorem pf8 : pureFn cfg 8 Try.f8 := ⟨by kernel_rfl, by kernel_rfl, by kernel_rfl, by kernel_rfl, by kernel_rfl, by kernel_rfl⟩
theorem pf6 : pureFn cfg 6 Try.f6 := ⟨by kernel_rfl, by kernel_rfl, by kernel_rfl, by kernel_rfl, by kernel_rfl, by kernel_rfl⟩

theorem stripAs (n : Nat) (h : Hp) (l : List Att) : stripss n h (l.map encA) = l.map encA := stripss_pure _ _ _ (pure_encAs l)
theorem stripNs (n : Nat) (h : Hp) (l : List Nd) : stripss n h (encNs l) = encNs l := stripss_pure _ _ _ (pure_encNs l)

theorem c29 : COk cfg 29 isNameC := by
  refine cok_heap hf29 fun vs h K ht => ?_
  obtain ⟨n, a, nm, rfl, rfl, hk⟩ := ht
  refine t29a (ctab_ok ctab_nil) ?_
  simp only [stripAs, stripNs]
  exact hk

theorem loop28 (hT : TabOk cfg (ctab [(29, isNameC)])) (n : Nd) (nm : List UInt8) (K : AV → Hp → Prop) : ∀ (r pre : List Att), (pre ++ r).length ≤ lim → K (.int .i64 (attrAt r nm (pre.length : Nat))) [nodeBlk n, .mem 9 [.str nm]] →
    ToEnd cfg 28 (bodyOf Try.f28) (RetIn Try.prog Try.f28 2 K) [.code [0, 1, 0, 1], .block 0, .code [1, 1]] .normal
      [(0, true, .sl 3 ((pre ++ r).map encA) none), (1, true, .fn (.func 29) [] [.ptr 1 0]), (7, true, .int .i64 ((pre ++ r).length : Nat)), (8, true, .int .i64 pre.length)] [nodeBlk n, .mem 9 [.str nm]] := by
  intro r
  induction r with
  | nil =>
    intro pre hl hk
    refine t28b hT (ifP_intro (fun hc => ?_) fun _ => ?_)
    · simp at hc
    · simp only [stripAs, stripNs]
      exact hk
  | cons x r ih =>
    intro pre hl hk
    have hlen : pre.length < lim := by simp at hl; omega
    have hin : inR (pre.length : Int) ((pre ++ x :: r).map encA).length = true := inR_of (by omega) (by simp; omega)
    refine t28b hT (ifP_intro (fun _ => ?_) fun hc => ?_)
    · refine gAnd_intro (by rw [hin]; rfl) ⟨x.name, x.value, x.pl, getE_pre _ _ _ _, n, x, nm, rfl, rfl, ifP_intro (fun hq => ?_) fun hq => ?_⟩
      · simp only [stripAs, stripNs]
        simpa [attrAt, hq, nodeBlk] using hk
      · refine gAnd_intro (by simp only [low_encAs, low_encNs, Bool.and_true]) ?_
        rw [wrap_succ hlen]
        have := ih (pre ++ [x]) (by simpa using hl) (by simpa [attrAt, hq] using hk)
        simpa [nodeBlk] using this
    · simp at hc; omega

theorem c28 : COk cfg 28 (findC 29) := by
  refine cok_heap hf28 fun vs h K ht => ?_
  obtain ⟨n, al, nm, hl, rfl, rfl, hk⟩ := ht
  have hT := ctab_ok (ctab_cons c29 ctab_nil)
  refine t28a hT ?_
  have := loop28 hT n nm K al [] hl hk
  simpa [nodeBlk] using this

theorem c17 : COk cfg 17 attrC := by
  refine cok_pure pf17 fun vs h K ht => ?_
  obtain ⟨nd, nm, hf, rfl, hk⟩ := ht
  refine ⟨_, hk, ?_⟩
  rw [encN_eq]
  rw [Nd.fit_eq] at hf
  refine t17a (ctab_ok (ctab_cons c28 ctab_nil)) ⟨nd, nd.attrs, nm, hf.2.1, rfl, rfl, ?_⟩
  rcases attrAt_spec nm nd.attrs 0 (by omega) with ⟨h1, h2⟩ | ⟨pre, x, r, h1, h2, h3⟩
  · rw [h1, h2]
    exact ifP_intro (fun _ => rfl) fun hc => by simp at hc
  · rw [h2, h3, h1]
    refine ifP_intro (fun hc => ?_) fun _ => gAnd_intro ?_ ⟨x.name, x.value, x.pl, ?_, rfl⟩
    · simp only [decide_eq_true_eq] at hc; omega
    · rw [inR_of (by omega) (by simp; omega)]; rfl
    · rw [Int.zero_add]; exact getE_pre _ _ _ _

theorem works_eval : isTrue (call cfg false 100000 8 [] []) = true := by kernel_rfl
theorem c8 : COk cfg 8 trueC := cok_true pf8 works_eval

def looksC : Con := fun vs h K => ∃ (a b : Nd) (nm : List UInt8), a.fit ∧ b.fit ∧ vs = [.agg (encN a), .agg (encN b), .str nm] ∧ K (.bool true) h
theorem c6 : COk cfg 6 looksC := by
  refine cok_pure pf6 fun vs h K ht => ?_
  obtain ⟨a, b, nm, ha, hb, rfl, hk⟩ := ht
  refine ⟨_, hk, ?_⟩
  simp only [encN_eq]
  have hT := ctab_ok (ctab_cons c7 (ctab_cons c8 (ctab_cons c17 (ctab_cons c22 (ctab_cons (c19 1000 (by omega)) (ctab_cons (c23 1000 (by omega)) (ctab_cons (c21 1000) (ctab_cons (c24 1000) ctab_nil))))))))
  refine t6a hT ?_
  simp only [stripss_encAs, stripss_encNs, ← encN_eq]
  refine ⟨a, ha, rfl, ifP_intro (fun _ => ⟨trivial, trivial⟩) fun h1 => ⟨b, hb, rfl, ifP_intro (fun _ => ⟨trivial, trivial⟩) fun h2 => ifP_intro (fun _ => ⟨trivial, trivial⟩) fun h3 => ?_⟩⟩
  have hs : a.size < 1000 := by
    have : 0 < a.left 600 := by simpa using h1
    have := Nd.left_pos this
    omega
  refine ⟨a, nm, ha, rfl, a, nm, ha, rfl, ifP_intro (fun _ => ifP_intro (fun _ => ⟨a, hs, rfl, a, hs, rfl, ifP_intro (fun _ => ⟨a, b, hs, ha, hb, rfl, a, b, hs, ha, hb, rfl, ifP_intro (fun _ => ⟨a, a, hs, ha, ha, rfl, ifP_intro (fun _ => ⟨trivial, trivial⟩) fun hc => ?_⟩) fun hc => ?_⟩) fun hc => ?_⟩) fun hc => ?_) fun hc => ?_⟩
  · rw [Nd.same_refl] at hc; cases hc
  all_goals simp at hc
end Go.Proofs.Ytkabpjmppjfdfaa
