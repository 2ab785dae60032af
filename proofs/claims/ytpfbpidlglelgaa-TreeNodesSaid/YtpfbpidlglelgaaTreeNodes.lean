/-
  TreeNodes returns true, at every start and for every argument that the row speaks of; the arguments read behind the call as before.
-/
import Derived.Test.YtpfbpidlglelgaaRows
import Derived.WalkKit
import Derived.ProofKit
import Derived.OpenShut
import Derived.HandedShaped
import Derived.Test.YtpfbpidlglelgaaSound
import Derived.Test.YtpfbpidlglelgaaJNd
import Derived.Test.YtpfbpidlglelgaaJNf
namespace Go.Proofs.Ytpfbpidlglelgaa.treeNodes
open Go.ChangeShapes Go.WideShapes Go.ChangeAt Go.RowKit Go.Ai
set_option linter.unusedVariables false

theorem own : ownKnob Try.prog.godebug = none := by kernel_rfl
theorem laidOut : laidOutB Try.prog = true := by kernel_rfl
def plainS : List TypeId := [3, 9, 22, 23, 25, 26, 41]
theorem plainS_ok : closedT Try.prog plainS plainS = true := by kernel_rfl
theorem arg_u16 {n : Nat} {v : AV} (h : argOf Try.prog n 26 v) : ∃ z : Int, 0 ≤ z ∧ z ≤ 65535 ∧ v = .int .u16 z := by
  cases n with
  | zero => exact False.elim h
  | succ n =>
    have h' : wt Try.prog (n + 1) 26 [v] := h
    simp only [wt, Try.underlying26] at h'
    obtain ⟨z, h1, h2⟩ := h'
    injection h2 with h2 _
    have hw : 0 ≤ z ∧ z ≤ 65535 := by simpa [Lit.wf, IntKind.min, IntKind.max, IntKind.signed, IntKind.bits] using h1
    exact ⟨z, hw.1, hw.2, h2⟩

theorem lawful {W : World} {vs : List AV} {args : List Value} (hB : 0 < W.heap.size) (hI : Inv W) (hf : forms Try.prog [25, 26] vs) (hr : Rels (Go.Ai.start W) vs args) :
    Calls Try.prog 3 args.toArray W fun e w' => e = .returned (.bool true) ∧ Below W.heap.size W w' := by
  match vs, hf with
  | [x, y], ⟨⟨_, h0⟩, ⟨_, h1⟩, _⟩ =>
    obtain ⟨a, fa, rfl⟩ := arg_node h0
    obtain ⟨b, b0, b1, rfl⟩ := arg_u16 h1
    obtain ⟨n, r, rfl, hn, m, q, rfl, hm, hq⟩ := hr
    cases hq
    cases hm
    exact callsIn_wide.1 (nodes_calls (cfg_sound (B0 := W.heap.size) hB) hI (Nat.le_refl _) fa (fun h => by have := Nd.left_pos h; omega) b0 b1 hn)

set_option maxRecDepth 100000 in
theorem lifted (os : Os) (started : os.Started) (H : Type) (enc : TypeId × Value → H) :
    ReturnsInHanded {} Try.checked os 3 .any (Rows.treeNodesSpec.pre6 enc Try.prog Try.f3 Rows.treeNodesRow.domain false) (Rows.treeNodesSpec.post enc Try.prog Try.f3 false true false false) := by
  refine returnsInHanded_of_change_shaped (C := Try.checked) own started (by kernel_rfl) Try.func3
    (ChangeSpec.witness6 (enc := enc) (C := Try.checked) false ⟨#[], #[.agg #[.int .i64 0, .int .i64 0, .string ⟨#[]⟩, .slice none 0 0, .slice none 0 0], .int .u16 0], []⟩ 8 (by kernel_rfl) (by kernel_rfl) (by kernel_rfl) (by kernel_rfl)) ?_
  intro W base args ds gs before hval0 hW hcnd _ hsh _
  have hval : ∀ (j : Nat) t v, Try.f3.params[j]? = some t → args[j]? = some v → Value.okWide Try.prog W .any base t v := hval0
  have hW' := hW
  obtain ⟨p, q, hA0, hV, rfl, hfz, hnd⟩ := hW
  have hA : DataW.TrodAll enc Try.prog W 0 (fun _ => true) true Try.f3.params.toList args.toList ds p := hA0
  obtain ⟨rfl, rfl⟩ := trodVars_none hV
  simp only [List.append_nil] at hW'
  have hI : Inv W := Try.laysM144.s1_3 W hsh
  have hB : 0 < W.heap.size := by
    obtain ⟨m, hm⟩ := hI
    exact World.block_lt_of_cell? W _ hm
  have hpl : ∀ x ∈ p, x.block < W.heap.size := fun x hx => by simpa using hW'.lt x hx
  have hpar : Try.f3.params.toList = [25, 26] := rfl
  obtain ⟨vs, hf, hr⟩ := args_open (P := Try.prog) plainS_ok (ts := [25, 26]) (args := args.toList) (by decide) (fun j t v hj hv => hval j t v (by rw [← hpar] at hj; simpa using hj) (by simpa using hv)) (by rw [← hpar]; exact hA)
  have hw := lawful hB hI hf hr
  refine hw.mono fun e W' ⟨he, hg⟩ => ?_
  subst he
  have hst : ∀ sp : Nat → Bool, (∀ x ∈ p, sp x.block = true) → DataW.TrodAll enc Try.prog W' 0 sp true Try.f3.params.toList args.toList ds p := fun sp hsp => by
    rw [hpar]
    exact args_stay laidOut (ts := [25, 26]) (by intro t ht; simp only [List.mem_cons, List.not_mem_nil, or_false] at ht; rcases ht with rfl | rfl <;> exact ⟨by kernel_rfl, of_decide_eq_true (by kernel_rfl)⟩) (by rw [← hpar]; exact hA) (fun x hx => hg.same (hpl x hx)) hsp
  have hds : ∃ a b, ds = [a, b] := by
    rw [hpar] at hA
    obtain ⟨v, v', d, d', p0, p1, -, rfl, -⟩ := trodAll_two hA
    exact ⟨d, d', rfl⟩
  obtain ⟨a, b, rfl⟩ := hds
  exact ⟨_, rfl, post_of_below (pa := p) (pv := []) hW' (fun _ _ _ => (trodAll_cons_mk (shut_bool Try.underlying4 _) trodAll_mk0)) (fun sp hsp => hst sp (by simpa using hsp)) (fun _ _ => rfl) (by simp)
    hg (ok_one (by kernel_rfl) rfl (okWide_bool_mk Try.underlying4 _))⟩

theorem over : Rows.treeNodesRow.holds Try.pinned (OpenSpec.ofChange Rows.treeNodesSpec) :=
  OpenClaim.holds_of_wide 3 Try.f3 rfl rfl rfl rfl rfl rfl rfl ⟨rfl, rfl, rfl, rfl, rfl⟩ rfl rfl rfl rfl rfl (by kernel_rfl) Try.func3 (by kernel_rfl)
    (of_decide_eq_true (by kernel_rfl)) (by unfold Func.isWrapper; first | (rw [if_pos (by decide +kernel)]; kernel_rfl) | (rw [if_neg (by decide +kernel)]; exact ⟨rfl, rfl⟩))
    (fun os started H enc _ => lifted os started H enc)

/-- THE STATEMENT -/
theorem proved : Rows.TreeNodesSaid :=
  over
end Go.Proofs.Ytpfbpidlglelgaa.treeNodes
