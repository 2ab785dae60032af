/-
  PrintLong returns true, at every start and for every argument that its row and its card speak of; the arguments read behind the call as before.
-/
import Derived.Test.YtafflebdjmnihaaDoorCards
import Derived.Test.YtafflebdjmnihaaDoorTie
import Derived.WalkKit
import Derived.ProofKit
import Derived.OpenShut
import Derived.Deep.DeepHandedRow
import Derived.Deep.DeepWitnessRowRef
import Derived.Test.YtafflebdjmnihaaDoorSound
import Derived.Test.YtafflebdjmnihaaDoorJPg
namespace Go.Proofs.YtafflebdjmnihaaDoor.printLong
open Go.ChangeShapes Go.WideShapes Go.ChangeAt Go.RowKit Go.Ai
set_option linter.unusedVariables false
set_option maxRecDepth 100000

theorem own : ownKnob Tryd.prog.godebug = none := by kernel_rfl
theorem gNames : Tryd.prog.globalNamed "inlay/esiprint.names" = some 0 := by kernel_rfl
theorem gNamesType : (Tryd.prog.globals[0]?).map (·.type) = some 42 := by kernel_rfl
theorem glob_at {W : World} (hL : laidMet Tryd.prog Rows.printLongRow.laid W) : ∀ g cs, cfg.G g = some cs → At (Go.Ai.start W) cs ⟨g, 0, none⟩ := by
  intro g cs h
  have hg := lookN_mem (l := globT) h
  simp only [globT, List.mem_cons, List.not_mem_nil, or_false, Prod.mk.injEq] at hg
  obtain ⟨rfl, rfl⟩ := hg
  obtain ⟨ps, hl, _⟩ := hL
  exact laid_rel hl 0 "inlay/esiprint.names" Rows.laid_inlay_esiprint_names 0 5 42 _ rfl gNames gNamesType (by kernel_rfl)
theorem laidOut : laidOutB Tryd.prog = true := by kernel_rfl

theorem lawful : COk cfg 3 (lawC Tryd.prog [22, 5]) := by
  intro l h K ht
  obtain ⟨hf, hk⟩ := ht
  match hl : argsOf cfg 3 l, hf with
  | [x, y], ⟨⟨_, h0⟩, ⟨_, h1⟩, _⟩ =>
    obtain ⟨a, ha, rfl⟩ := arg_u32 h0
    obtain ⟨b, hb, rfl⟩ := arg_u8 h1
    exact c3 l h K ⟨a, b, ha, hb, hl, hk⟩

theorem contract (H : Type) (enc : TypeId × Value → H) (W : World) (base : Nat) (args : Array Value) (ds gs : List (DataW H)) (before : List MemPlace)
    (hval : ∀ (j : Nat) t v, Tryd.f3.params[j]? = some t → args[j]? = some v → Value.okWide Tryd.prog W .any base t v)
    (hW : DataW.Whole enc Tryd.prog Tryd.f3.params.toList Rows.printLongSpec.vars false W args.toList ds gs before) (hL : laidMetH Tryd.prog Rows.printLongRow.laid W) (hsh : W.ShapedOpen Tryd.prog) :
    Calls Tryd.prog 3 args W fun e W' => ∃ v, e = .returned v ∧ Rows.printLongSpec.post enc Tryd.prog Tryd.f3 false true false false W args v W' := by
  have hW' := hW
  obtain ⟨p, q, hA0, hV, rfl, hfz, hnd⟩ := hW
  have hA : DataW.TrodAll enc Tryd.prog W 0 (fun _ => true) true Tryd.f3.params.toList args.toList ds p := hA0
  obtain ⟨rfl, rfl⟩ := trodVars_none hV
  simp only [List.append_nil] at hW'
  have hL' : laidMet Tryd.prog Rows.printLongRow.laid W := hL
  have hI : Inv W := Tryd.laysM144.s1_3 W hsh
  have hB : 1 < W.heap.size := by
    obtain ⟨m, hm⟩ := hI
    exact World.block_lt_of_cell? W _ hm
  have hpl : ∀ x ∈ p, x.block < W.heap.size := fun x hx => by simpa using hW'.lt x hx
  have hpar : Tryd.f3.params.toList = [22, 5] := rfl
  obtain ⟨vs, hf, hr⟩ := args_open (P := Tryd.prog) plainS_ok (ts := [22, 5]) (args := args.toList) (by decide) (fun j t v hj hv => hval j t v (by rw [← hpar] at hj; simpa using hj) (by simpa using hv)) (by rw [← hpar]; exact hA)
  have hw := law_walk (C := cfg) (cfg_sound (B0 := W.heap.size) hB) lawful (by kernel_rfl) (by kernel_rfl) hI (Nat.le_refl _) (fun g cs h => glob_at hL' g cs h) hf hr
  refine hw.mono fun e W' ⟨he, hg⟩ => ?_
  subst he
  have hst : ∀ sp : Nat → Bool, (∀ x ∈ p, sp x.block = true) → DataW.TrodAll enc Tryd.prog W' 0 sp true Tryd.f3.params.toList args.toList ds p := fun sp hsp => by
    rw [hpar]
    exact args_stay laidOut (ts := [22, 5]) (by intro t ht; simp only [List.mem_cons, List.not_mem_nil, or_false] at ht; rcases ht with rfl | rfl <;> exact ⟨by kernel_rfl, of_decide_eq_true (by kernel_rfl)⟩) (by rw [← hpar]; exact hA) (fun x hx => hg.same (hpl x hx)) hsp
  have hds : ∃ a b, ds = [a, b] := by
    rw [hpar] at hA
    obtain ⟨v, v', d, d', p0, p1, -, rfl, -⟩ := trodAll_two hA
    exact ⟨d, d', rfl⟩
  obtain ⟨a, b, rfl⟩ := hds
  exact ⟨_, rfl, post_of_below (pa := p) (pv := []) hW' (fun _ _ _ => (trodAll_cons_mk (shut_bool Tryd.underlying4 _) trodAll_mk0)) (fun sp hsp => hst sp (by simpa using hsp)) (fun _ _ => rfl) (by simp)
    hg (ok_one (by kernel_rfl) rfl (okWide_bool_mk Tryd.underlying4 _))⟩

def litV : DataW Unit → Value
  | .lit (.string l) => .string ⟨l.toArray⟩
  | _ => .bool false
def rowV1 : DataW Unit → List Value
  | .agg ds => ds.map litV
  | d => [litV d]
/-- A world for the witness: the settled one, the variable holding what its initialiser lays. -/
noncomputable def laidWorld (os : Os) : World :=
  { World.holding Tryd.prog os ⟨#[], #[], []⟩ with heap := (World.holding Tryd.prog os ⟨#[], #[], []⟩).heap.modify 0 fun
      | .cells _ t frozen => .cells (rowV1 Rows.laid_inlay_esiprint_names).toArray t frozen
      | o => o }
theorem laid_met (os : Os) (args : Array Value) : laidMet Tryd.prog Rows.printLongRow.laid ((laidWorld os).forCall (fun _ _ => 0) ⟨#[], args, []⟩).memory :=
  laidMet_of_run' 10 (by kernel_rfl) (by kernel_rfl)
theorem witness_row (os : Os) {H : Type} (enc : TypeId × Value → H) :
    (OpenSpec.ofChange Rows.printLongSpec).preRow enc Tryd.prog Tryd.f3 Rows.printLongRow.domain false Rows.printLongRow.laid ((laidWorld os).forCall (fun _ _ => 0) ⟨#[], #[.int .u32 0, .int .u8 0], []⟩).memory #[.int .u32 0, .int .u8 0] := by
  have hw : (DataW.whole enc Tryd.prog ((laidWorld os).forCall (fun _ _ => 0) ⟨#[], #[.int .u32 0, .int .u8 0], []⟩).memory Tryd.f3.params.toList Rows.printLongSpec.vars false (#[.int .u32 0, .int .u8 0] : Array Value).toList 8).map (fun x => (x.1, x.2.1)) =
      some ([.lit (.int .u32 0), .lit (.int .u8 0)], []) := by kernel_rfl
  obtain ⟨⟨x1, x2, x3⟩, hx, hx1⟩ := Option.map_eq_some_iff.1 hw
  simp only [Prod.mk.injEq] at hx1
  obtain ⟨rfl, rfl⟩ := hx1
  exact OpenSpec.preRow_of_cond 8 hx (by kernel_rfl) (fun k hk => by cases hk) (by kernel_rfl) (laid_met os _)

set_option maxRecDepth 100000 in
theorem lifted (os : Os) (started : os.Started) (H : Type) (enc : TypeId × Value → H) (F : Stop.Interp) :
    ReturnsInHanded {} Tryd.checked os 3 .any ((OpenSpec.ofChange Rows.printLongSpec).preRow enc Tryd.prog Tryd.f3 Rows.printLongRow.domain false Rows.printLongRow.laid) (((OpenSpec.ofChange Rows.printLongSpec).at F).post enc Tryd.prog Tryd.f3 false true false false) := by
  refine returnsInHanded_of_row (C := Tryd.checked) (s := OpenSpec.ofChange Rows.printLongSpec) own started (by kernel_rfl) Tryd.func3
    (witness_row_atRef (enc := enc) (C := Tryd.checked) false (laidWorld os) #[.int .u32 0, .int .u8 0] rfl (by kernel_rfl) (by kernel_rfl) (by kernel_rfl) (witness_row os enc)) ?_
  intro W base args ds gs before hval hW _ _ _ hL hsh _
  exact contract H enc W base args ds gs before hval hW hL hsh

theorem said : Rows.PrintLongSaid :=
  OpenClaim.holds_of_cond 3 Tryd.f3 rfl rfl rfl rfl rfl rfl rfl ⟨rfl, rfl, rfl, rfl, rfl⟩ rfl rfl rfl rfl rfl (by kernel_rfl) Tryd.func3 (by kernel_rfl)
    (of_decide_eq_true (by kernel_rfl)) (by unfold Func.isWrapper; first | (rw [if_pos (by decide +kernel)]; kernel_rfl) | (rw [if_neg (by decide +kernel)]; exact ⟨rfl, rfl⟩))
    (fun os started H enc _ F => by rw [OpenClaim.pre_eq_preRow]; exact lifted os started H enc F)

theorem wants5 : Tryd.prog.wantsStandIn 5 = false := by kernel_rfl
theorem wants22 : Tryd.prog.wantsStandIn 22 = false := by kernel_rfl

/-- No parameter wants a stand-in; the program's own looks are on. -/
theorem plain (f : FuncId) (fn : Func) (hf : Tryd.pinned.checked.prog.funcNamed Rows.printLongRow.func = some f) (hfn : Tryd.pinned.checked.prog.funcs[f]? = some fn) :
    false = Tryd.pinned.checked.prog.looks [] ∧ ∀ (j : Nat) t, fn.params[j]? = some t → Tryd.pinned.checked.prog.wantsStandIn t = false := by
  obtain rfl : f = 3 := Option.some.inj ((show Tryd.prog.funcNamed Rows.printLongRow.func = some 3 by kernel_rfl).symm.trans hf) |>.symm
  obtain rfl : fn = Tryd.f3 := (Option.some.inj (Tryd.func3.symm.trans hfn)).symm
  refine ⟨by kernel_rfl, fun j t ht => ?_⟩
  have hm : t ∈ Tryd.f3.params.toList := by
    have := List.mem_of_getElem? (by simpa using ht : Tryd.f3.params.toList[j]? = some t)
    exact this
  have hpar : Tryd.f3.params.toList = [22, 5] := rfl
  rw [hpar] at hm
  simp only [List.mem_cons, List.not_mem_nil, or_false] at hm
  rcases hm with rfl | rfl <;> first
    | exact wants5
    | exact wants22

/-- THE CARD -/
theorem card : Rows.PrintLongCardSaid :=
  Claim7.holds_tied_plain_at .later [] _ _ _ _ said (fun _ h => by cases h) (by kernel_rfl) (fun _ h => by cases h) printLong_row_tie rfl ⟨rfl, rfl⟩ (by kernel_rfl) rfl plain (by kernel_rfl)
end Go.Proofs.YtafflebdjmnihaaDoor.printLong
