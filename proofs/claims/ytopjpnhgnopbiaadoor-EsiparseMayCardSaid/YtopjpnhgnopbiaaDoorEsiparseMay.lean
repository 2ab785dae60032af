/-
  EsiparseMay returns true, at every start and for every argument that its row and its card speak of; the arguments read behind the call as before.
-/
import Derived.Test.YtopjpnhgnopbiaaDoorCards
import Derived.Test.YtopjpnhgnopbiaaDoorTie
import Derived.WalkKit
import Derived.ProofKit
import Derived.OpenShut
import Derived.Deep.DeepHandedRow
import Derived.Deep.DeepWitnessRowRef
import Derived.Test.YtopjpnhgnopbiaaDoorSound
import Derived.Test.YtopjpnhgnopbiaaDoorJM
set_option linter.unusedVariables false
set_option linter.unusedSimpArgs false
set_option linter.unnecessarySimpa false
namespace Go.Proofs.YtopjpnhgnopbiaaDoor.esiparseMay
open Go.ChangeShapes Go.WideShapes Go.ChangeAt Go.RowKit Go.Ai
set_option maxRecDepth 100000
theorem own : ownKnob Tryd.prog.godebug = none := by kernel_rfl
theorem laidOut : laidOutB Tryd.prog = true := by kernel_rfl
theorem space : (Rows.laid_strings_asciiSpace : DataW Unit) = Lib.tabData .u8 Lib.asciiSpaceTab := by kernel_rfl
theorem arg_string {n : Nat} {v : AV} (h : argOf Tryd.prog n 9 v) : ∃ s : List UInt8, s.length ≤ maxLen ∧ v = .str s := by
  cases n with
  | zero => exact False.elim h
  | succ n =>
    have h' : wt Tryd.prog (n + 1) 9 [v] := h; simp only [wt, Tryd.underlying9] at h'; obtain ⟨s, h1, h2⟩ := h'
    injection h2 with h2 _
    exact ⟨s, h1, h2⟩
theorem lawful {W : World} {vs : List AV} {args : List Value} (hB : 1 < W.heap.size) (hI : Inv W) (hf : forms Tryd.prog [9] vs) (hr : Rels (Go.Ai.start W) vs args) :
    Calls Tryd.prog 5 args.toArray W fun e w' => e = .returned (.bool true) ∧ Below W.heap.size W w' := by
  match vs, hf with
  | [x], ⟨⟨_, h0⟩, _⟩ =>
    obtain ⟨a, ha, rfl⟩ := arg_string h0; obtain ⟨n, r, rfl, hn, hq⟩ := hr; cases hq; cases hn; exact callsIn_wide.1 (may_calls (cfg3_sound (B0 := W.heap.size) hB) ha hI (Nat.le_refl _))
theorem contract (H : Type) (enc : TypeId × Value → H) (W : World) (base : Nat) (args : Array Value) (ds gs : List (DataW H)) (before : List MemPlace)
    (hval : ∀ (j : Nat) t v, Tryd.f5.params[j]? = some t → args[j]? = some v → Value.okWide Tryd.prog W .any base t v)
    (hW : DataW.Whole enc Tryd.prog Tryd.f5.params.toList Rows.esiparseMaySpec.vars false W args.toList ds gs before) (hL : laidMetH Tryd.prog Rows.esiparseMayRow.laid W) (hsh : W.ShapedOpen Tryd.prog) :
    Calls Tryd.prog 5 args W fun e W' => ∃ v, e = .returned v ∧ Rows.esiparseMaySpec.post enc Tryd.prog Tryd.f5 false true false false W args v W' := by
  have hW' := hW; obtain ⟨p, q, hA0, hV, rfl, hfz, hnd⟩ := hW
  have hA : DataW.TrodAll enc Tryd.prog W 0 (fun _ => true) true Tryd.f5.params.toList args.toList ds p := hA0
  obtain ⟨rfl, rfl⟩ := trodVars_none hV; simp only [List.append_nil] at hW'; have hL' : laidMet Tryd.prog Rows.esiparseMayRow.laid W := hL
  have hI : Inv W := inv_of hsh hL' (by rw [← space]; simp [Rows.esiparseMayRow])
  have hB := size_of hI
  have hpl : ∀ x ∈ p, x.block < W.heap.size := fun x hx => by simpa using hW'.lt x hx
  have hpar : Tryd.f5.params.toList = [9] := rfl
  obtain ⟨vs, hf, hr⟩ := args_open (P := Tryd.prog) plainS_ok (ts := [9]) (args := args.toList) (by decide) (fun j t v hj hv => hval j t v (by rw [← hpar] at hj; simpa using hj) (by simpa using hv)) (by rw [← hpar]; exact hA)
  have hw := lawful hB hI hf hr
  refine hw.mono fun e W' ⟨he, hg⟩ => ?_
  subst he
  have hst : ∀ sp : Nat → Bool, (∀ x ∈ p, sp x.block = true) → DataW.TrodAll enc Tryd.prog W' 0 sp true Tryd.f5.params.toList args.toList ds p := fun sp hsp => by
    rw [hpar]
    exact args_stay laidOut (ts := [9]) (by intro t ht; simp only [List.mem_cons, List.not_mem_nil, or_false] at ht; obtain rfl := ht; exact ⟨by kernel_rfl, of_decide_eq_true (by kernel_rfl)⟩) (by rw [← hpar]; exact hA) (fun x hx => hg.same (hpl x hx)) hsp
  have hds : ∃ a, ds = [a] := by
    rw [hpar] at hA; obtain ⟨v, d, -, rfl, -⟩ := trodAll_one hA; exact ⟨d, rfl⟩
  obtain ⟨a, rfl⟩ := hds
  exact ⟨_, rfl, post_of_below (pa := p) (pv := []) hW' (fun _ _ _ => (trodAll_cons_mk (shut_bool Tryd.underlying4 _) trodAll_mk0)) (fun sp hsp => hst sp (by simpa using hsp)) (fun _ _ => rfl) (by simp)
    hg (ok_one (by kernel_rfl) rfl (okWide_bool_mk Tryd.underlying4 _))⟩
def litV : DataW Unit → Value
  | .lit (.int k n) => .int k n
  | _ => .bool false
def rowV1 : DataW Unit → List Value
  | .agg ds => ds.map litV
  | d => [litV d]
def rowV2 : DataW Unit → List Value
  | .agg ds => (ds.map rowV1).flatten
  | d => [litV d]
/-- A world for the witness: the settled one and two blocks more (the ranges of White_Space, and their table); the variables hold what their initialisers lay. -/
noncomputable def laidWorld (os : Os) : World :=
  let N := (World.settled Tryd.prog os).heap.size
  let w0 := World.holding Tryd.prog os ⟨#[.cells (Lib.whiteT.map fun (z : Nat) => Value.int .u16 (z : Int)).toArray 150, .cells #[.slice (some ⟨N, 0, none⟩) 7 7, .slice none 0 0, .int .i64 2] 147], #[], []⟩
  let put (h : Array Obj) (g : Nat) (cs : Array Value) : Array Obj := h.modify g fun
    | .cells _ t frozen => .cells cs t frozen
    | o => o
  { w0 with heap := put (put (put (put w0.heap 0 (Lib.asciiSpaceTab.map fun z => Value.int .u8 z).toArray) 2 #[.pointer (some ⟨N + 1, 0, none⟩)]) 3 (rowV2 Rows.laid_unicode_utf8_first).toArray) 4 (rowV2 Rows.laid_unicode_utf8_acceptRanges).toArray }
theorem laid_met (os : Os) (args : Array Value) : laidMet Tryd.prog Rows.esiparseMayRow.laid ((laidWorld os).forCall (fun _ _ => 0) ⟨#[], args, []⟩).memory :=
  laidMet_of_run' 10 (by kernel_rfl) (by kernel_rfl)
theorem witness_row (os : Os) {H : Type} (enc : TypeId × Value → H) :
    (OpenSpec.ofChange Rows.esiparseMaySpec).preRow enc Tryd.prog Tryd.f5 Rows.esiparseMayRow.domain false Rows.esiparseMayRow.laid ((laidWorld os).forCall (fun _ _ => 0) ⟨#[], #[.string ⟨#[]⟩], []⟩).memory #[.string ⟨#[]⟩] := by
  have hw : (DataW.whole enc Tryd.prog ((laidWorld os).forCall (fun _ _ => 0) ⟨#[], #[.string ⟨#[]⟩], []⟩).memory Tryd.f5.params.toList Rows.esiparseMaySpec.vars false (#[.string ⟨#[]⟩] : Array Value).toList 8).map (fun x => (x.1, x.2.1)) =
      some ([.lit (.string [])], []) := by kernel_rfl
  obtain ⟨⟨x1, x2, x3⟩, hx, hx1⟩ := Option.map_eq_some_iff.1 hw; simp only [Prod.mk.injEq] at hx1; obtain ⟨rfl, rfl⟩ := hx1
  exact OpenSpec.preRow_of_cond 8 hx (by kernel_rfl) (fun k hk => by cases hk) (by kernel_rfl) (laid_met os _)
set_option maxRecDepth 100000 in
theorem lifted (os : Os) (started : os.Started) (H : Type) (enc : TypeId × Value → H) (F : Stop.Interp) :
    ReturnsInHanded {} Tryd.checked os 5 .any ((OpenSpec.ofChange Rows.esiparseMaySpec).preRow enc Tryd.prog Tryd.f5 Rows.esiparseMayRow.domain false Rows.esiparseMayRow.laid) (((OpenSpec.ofChange Rows.esiparseMaySpec).at F).post enc Tryd.prog Tryd.f5 false true false false) := by
  refine returnsInHanded_of_row (C := Tryd.checked) (s := OpenSpec.ofChange Rows.esiparseMaySpec) own started (by kernel_rfl) Tryd.func5
    (witness_row_atRef (enc := enc) (C := Tryd.checked) false (laidWorld os) #[.string ⟨#[]⟩] rfl (by kernel_rfl) (by kernel_rfl) (by kernel_rfl) (witness_row os enc)) ?_
  intro W base args ds gs before hval hW _ _ _ hL hsh _; exact contract H enc W base args ds gs before hval hW hL hsh
theorem said : Rows.EsiparseMaySaid :=
  OpenClaim.holds_of_cond 5 Tryd.f5 rfl rfl rfl rfl rfl rfl rfl ⟨rfl, rfl, rfl, rfl, rfl⟩ rfl rfl rfl rfl rfl (by kernel_rfl) Tryd.func5 (by kernel_rfl)
    (of_decide_eq_true (by kernel_rfl)) (by unfold Func.isWrapper; first | (rw [if_pos (by decide +kernel)]; kernel_rfl) | (rw [if_neg (by decide +kernel)]; exact ⟨rfl, rfl⟩))
    (fun os started H enc _ F => by rw [OpenClaim.pre_eq_preRow]; exact lifted os started H enc F)
theorem wants9 : Tryd.prog.wantsStandIn 9 = false := by kernel_rfl
/-- No parameter wants a stand-in; the program's own looks are off. -/
theorem plain (f : FuncId) (fn : Func) (hf : Tryd.pinned.checked.prog.funcNamed Rows.esiparseMayRow.func = some f) (hfn : Tryd.pinned.checked.prog.funcs[f]? = some fn) :
    true = Tryd.pinned.checked.prog.looks [] ∧ ∀ (j : Nat) t, fn.params[j]? = some t → Tryd.pinned.checked.prog.wantsStandIn t = false := by
  obtain rfl : f = 5 := Option.some.inj ((show Tryd.prog.funcNamed Rows.esiparseMayRow.func = some 5 by kernel_rfl).symm.trans hf) |>.symm
  obtain rfl : fn = Tryd.f5 := (Option.some.inj (Tryd.func5.symm.trans hfn)).symm
  refine ⟨by kernel_rfl, fun j t ht => ?_⟩
  have hm : t ∈ Tryd.f5.params.toList := by
    have := List.mem_of_getElem? (by simpa using ht : Tryd.f5.params.toList[j]? = some t)
    exact this
  have hpar : Tryd.f5.params.toList = [9] := rfl; rw [hpar] at hm; simp only [List.mem_cons, List.not_mem_nil, or_false] at hm
  obtain rfl := hm; first
    | exact wants9
/-- THE CARD -/
theorem card : Rows.EsiparseMayCardSaid :=
  Claim7.holds_tied_plain_at .later [] _ _ _ _ said (fun _ h => by cases h) (by kernel_rfl) (fun _ h => by cases h) esiparseMay_row_tie rfl ⟨rfl, rfl⟩ (by kernel_rfl) rfl plain (by kernel_rfl)
end Go.Proofs.YtopjpnhgnopbiaaDoor.esiparseMay
