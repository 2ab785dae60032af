/-
  TreePlaces returns true, at every start and for every argument that the row speaks of; the arguments read behind the call as before.
-/
import Derived.Test.YtpfbpidlglelgaaRows
import Derived.WalkKit
import Derived.ProofKit
import Derived.OpenShut
import Derived.HandedShaped
import Derived.Test.YtpfbpidlglelgaaSound
import Derived.Test.YtpfbpidlglelgaaJTe
namespace Go.Proofs.Ytpfbpidlglelgaa.treePlaces
open Go.ChangeShapes Go.WideShapes Go.ChangeAt Go.RowKit Go.Ai
set_option linter.unusedVariables false

theorem own : ownKnob Try.prog.godebug = none := by kernel_rfl
theorem laidOut : laidOutB Try.prog = true := by kernel_rfl

theorem lawful : COk cfg 5 (lawC Try.prog [25, 3]) := by
  intro l h K ht
  obtain ⟨hf, hk⟩ := ht
  match hl : argsOf cfg 5 l, hf with
  | [x, y], ⟨⟨_, h0⟩, ⟨_, h1⟩, _⟩ =>
    obtain ⟨a, fa, rfl⟩ := arg_node h0
    obtain ⟨b, _, rfl⟩ := arg_int h1
    exact c5 l h K ⟨a, b, fa, hl, hk⟩

set_option maxRecDepth 100000 in
theorem lifted (os : Os) (started : os.Started) (H : Type) (enc : TypeId × Value → H) :
    ReturnsInHanded {} Try.checked os 5 .any (Rows.treePlacesSpec.pre6 enc Try.prog Try.f5 Rows.treePlacesRow.domain false) (Rows.treePlacesSpec.post enc Try.prog Try.f5 false true false false) := by
  refine returnsInHanded_of_change_shaped (C := Try.checked) own started (by kernel_rfl) Try.func5
    (ChangeSpec.witness6 (enc := enc) (C := Try.checked) false ⟨#[], #[.agg #[.int .i64 0, .int .i64 0, .string ⟨#[]⟩, .slice none 0 0, .slice none 0 0], .int .i64 0], []⟩ 8 (by kernel_rfl) (by kernel_rfl) (by kernel_rfl) (by kernel_rfl)) ?_
  intro W base args ds gs before hval0 hW hcnd _ hsh _
  have hval : ∀ (j : Nat) t v, Try.f5.params[j]? = some t → args[j]? = some v → Value.okWide Try.prog W .any base t v := hval0
  have hW' := hW
  obtain ⟨p, q, hA0, hV, rfl, hfz, hnd⟩ := hW
  have hA : DataW.TrodAll enc Try.prog W 0 (fun _ => true) true Try.f5.params.toList args.toList ds p := hA0
  obtain ⟨rfl, rfl⟩ := trodVars_none hV
  simp only [List.append_nil] at hW'
  have hI : Inv W := Try.laysM144.s1_3 W hsh
  have hB : 0 < W.heap.size := by
    obtain ⟨m, hm⟩ := hI
    exact World.block_lt_of_cell? W _ hm
  have hpl : ∀ x ∈ p, x.block < W.heap.size := fun x hx => by simpa using hW'.lt x hx
  have hpar : Try.f5.params.toList = [25, 3] := rfl
  obtain ⟨vs, hf, hr⟩ := args_open (P := Try.prog) plainS_ok (ts := [25, 3]) (args := args.toList) (by decide) (fun j t v hj hv => hval j t v (by rw [← hpar] at hj; simpa using hj) (by simpa using hv)) (by rw [← hpar]; exact hA)
  have hw := law_walk (C := cfg) (cfg_sound (B0 := W.heap.size) hB) lawful (by kernel_rfl) (by kernel_rfl) hI (Nat.le_refl _) (fun g cs h => by cases h) hf hr
  refine hw.mono fun e W' ⟨he, hg⟩ => ?_
  subst he
  have hst : ∀ sp : Nat → Bool, (∀ x ∈ p, sp x.block = true) → DataW.TrodAll enc Try.prog W' 0 sp true Try.f5.params.toList args.toList ds p := fun sp hsp => by
    rw [hpar]
    exact args_stay laidOut (ts := [25, 3]) (by intro t ht; simp only [List.mem_cons, List.not_mem_nil, or_false] at ht; rcases ht with rfl | rfl <;> exact ⟨by kernel_rfl, of_decide_eq_true (by kernel_rfl)⟩) (by rw [← hpar]; exact hA) (fun x hx => hg.same (hpl x hx)) hsp
  have hds : ∃ a b, ds = [a, b] := by
    rw [hpar] at hA
    obtain ⟨v, v', d, d', p0, p1, -, rfl, -⟩ := trodAll_two hA
    exact ⟨d, d', rfl⟩
  obtain ⟨a, b, rfl⟩ := hds
  exact ⟨_, rfl, post_of_below (pa := p) (pv := []) hW' (fun _ _ _ => (trodAll_cons_mk (shut_bool Try.underlying4 _) trodAll_mk0)) (fun sp hsp => hst sp (by simpa using hsp)) (fun _ _ => rfl) (by simp)
    hg (ok_one (by kernel_rfl) rfl (okWide_bool_mk Try.underlying4 _))⟩

theorem over : Rows.treePlacesRow.holds Try.pinned (OpenSpec.ofChange Rows.treePlacesSpec) :=
  OpenClaim.holds_of_wide 5 Try.f5 rfl rfl rfl rfl rfl rfl rfl ⟨rfl, rfl, rfl, rfl, rfl⟩ rfl rfl rfl rfl rfl (by kernel_rfl) Try.func5 (by kernel_rfl)
    (of_decide_eq_true (by kernel_rfl)) (by unfold Func.isWrapper; first | (rw [if_pos (by decide +kernel)]; kernel_rfl) | (rw [if_neg (by decide +kernel)]; exact ⟨rfl, rfl⟩))
    (fun os started H enc _ => lifted os started H enc)

/-- THE STATEMENT -/
theorem proved : Rows.TreePlacesSaid :=
  over
end Go.Proofs.Ytpfbpidlglelgaa.treePlaces
