/-
  PrintAgain returns true, at every start and for every argument that its row and its card speak of; the arguments read behind the call as before.
-/
import Derived.Test.YtopjpnhgnopbiaaGreatDoorCards
import Derived.Test.YtopjpnhgnopbiaaGreatDoorTie
import Derived.WalkKit
import Derived.ProofKit
import Derived.OpenShut
import Derived.Deep.DeepHandedRow
import Derived.Deep.DeepWitnessRowRef
import Derived.Test.YtopjpnhgnopbiaaGreatDoorASound
import Derived.Test.YtopjpnhgnopbiaaGreatDoorAJP
set_option linter.unusedVariables false
set_option linter.unusedSimpArgs false
set_option linter.unnecessarySimpa false
namespace Go.Proofs.YtopjpnhgnopbiaaGreatDoor.printAgain
open Go.ChangeShapes Go.WideShapes Go.ChangeAt Go.RowKit Go.Ai
set_option maxRecDepth 100000
theorem own : ownKnob Tryz.prog.godebug = none := by kernel_rfl
theorem laidOut : laidOutB Tryz.prog = true := by kernel_rfl
theorem space : (Rows.laid_strings_asciiSpace : DataW Unit) = Lib.tabData .u8 Lib.asciiSpaceTab := by kernel_rfl
theorem pG : Tryz.prog.globalNamed "inlay/esiprint.names" = some 0 := by kernel_rfl
theorem ZR : (Tryz.prog.globals[0]?).map (·.type) = some 71 := by kernel_rfl
theorem lB {W : World} (hL : laidMet Tryz.prog Rows.printAgainRow.laid W) : ∀ g cs, AI.G g = some cs -> At (Go.Ai.start W) cs ⟨g, 0, none⟩ := by
  intro g cs h; have hg := EP (l := XA) h; simp only [XA, List.mem_cons, List.not_mem_nil, or_false, Prod.mk.injEq] at hg; obtain ⟨rfl, rfl⟩ := hg; obtain ⟨ps, hl, _⟩ := hL
  exact ga hl 3 "inlay/esiprint.names" Rows.laid_inlay_esiprint_names 0 5 71 _ rfl pG ZR (by kernel_rfl)
theorem lawful : CR AI 6 (rk Tryz.prog [9]) := by
  intro l h K ht; obtain ⟨hf, hk⟩ := ht
  match hl : B8 AI 6 l, hf with
  | [x], ⟨⟨_, h0⟩, _⟩ =>
    obtain ⟨a, _, rfl⟩ := Zw h0; exact Pu.pT l h K ⟨a, hl, hk⟩
theorem jJ (H : Type) (enc : TypeId × Value -> H) (W : World) (base : Nat) (args : Array Value) (ds gs : List (DataW H)) (before : List MemPlace)
    (Ib : ∀ (j : Nat) t v, Tryz.f6.params[j]? = some t -> args[j]? = some v -> Value.okWide Tryz.prog W .any base t v)
    (hW : DataW.Whole enc Tryz.prog Tryz.f6.params.toList Rows.printAgainSpec.vars false W args.toList ds gs before) (hL : laidMetH Tryz.prog Rows.printAgainRow.laid W) (hZ : W.ShapedOpen Tryz.prog) :
    Calls Tryz.prog 6 args W fun e W' => ∃ v, e = .returned v /\ Rows.printAgainSpec.post enc Tryz.prog Tryz.f6 false true false false W args v W' := by
  have xm := hW; obtain ⟨p, q, hA0, hV, rfl, zE, bI⟩ := hW
  have hA : DataW.TrodAll enc Tryz.prog W 0 (fun _ => true) true Tryz.f6.params.toList args.toList ds p := hA0
  obtain ⟨rfl, rfl⟩ := trodVars_none hV; simp only [List.append_nil] at xm; have zK : laidMet Tryz.prog Rows.printAgainRow.laid W := hL
  have hI : Inv W := oA hZ zK (by rw [<- space]; simp [Rows.printAgainRow])
  have hB := j6 hI
  have sR : ∀ x ∈ p, x.block < W.heap.size := fun x hx => by simpa using xm.lt x hx
  have Y9 : Tryz.f6.params.toList = [9] := rfl
  obtain ⟨vs, hf, hr⟩ := Tp (P := Tryz.prog) cR (ts := [9]) (args := args.toList) (by decide) (fun j t v hj hv => Ib j t v (by rw [<- Y9] at hj; simpa using hj) (by simpa using hv)) (by rw [<- Y9]; exact hA)
  have hw := gX (C := AI) (Zm (B0 := W.heap.size) hB) lawful (by kernel_rfl) (by kernel_rfl) hI (Nat.le_refl _) (fun g cs h => lB zK g cs h) hf hr
  refine hw.mono fun e W' ⟨he, hg⟩ => ?_
  subst he
  have DH : ∀ sp : Nat -> Bool, (∀ x ∈ p, sp x.block = true) -> DataW.TrodAll enc Tryz.prog W' 0 sp true Tryz.f6.params.toList args.toList ds p := fun sp HT => by
    rw [Y9]
    exact To laidOut (ts := [9]) (by intro t ht; simp only [List.mem_cons, List.not_mem_nil, or_false] at ht; obtain rfl := ht; exact ⟨by kernel_rfl, of_decide_eq_true (by kernel_rfl)⟩) (by rw [<- Y9]; exact hA) (fun x hx => hg.same (sR x hx)) HT
  have Hw : ∃ a, ds = [a] := by
    rw [Y9] at hA; obtain ⟨v, d, -, rfl, -⟩ := trodAll_one hA; exact ⟨d, rfl⟩
  obtain ⟨a, rfl⟩ := Hw
  exact ⟨_, rfl, R9 (pa := p) (pv := []) xm (fun _ _ _ => (trodAll_cons_mk (shut_bool Tryz.underlying4 _) trodAll_mk0)) (fun sp HT => DH sp (by simpa using HT)) (fun _ _ => rfl) (by simp)
    hg (ok_one (by kernel_rfl) rfl (okWide_bool_mk Tryz.underlying4 _))⟩
def n7 : DataW Unit -> Value
  | .lit (.int k n) => .int k n
  | .lit (.string l) => .string ⟨l.toArray⟩
  | _ => .bool false
def lp : DataW Unit -> List Value
  | .agg ds => ds.map n7
  | d => [n7 d]
def ln : DataW Unit -> List Value
  | .agg ds => (ds.map lp).flatten
  | d => [n7 d]
/-- A world for tW witness: tW settled one and two blocks more (tW ranges of mW, and qY table); tW ph hold zn qY kd lay. -/
noncomputable def KV (os : Os) : World :=
  let N := (World.settled Tryz.prog os).heap.size
  let w0 := World.holding Tryz.prog os ⟨#[.cells (Lib.whiteT.map fun (z : Nat) => Value.int .u16 (z : Int)).toArray 195, .cells #[.slice (some ⟨N, 0, none⟩) 7 7, .slice none 0 0, .int .i64 2] 192], #[], []⟩
  let put (h : Array Obj) (g : Nat) (cs : Array Value) : Array Obj := h.modify g fun
    | .cells _ t frozen => .cells cs t frozen
    | o => o
  { w0 with heap := put (put (put (put (put w0.heap 2 (Lib.asciiSpaceTab.map fun z => Value.int .u8 z).toArray) 3 #[.pointer (some ⟨N + 1, 0, none⟩)]) 4 (ln Rows.laid_unicode_utf8_first).toArray) 5 (ln Rows.laid_unicode_utf8_acceptRanges).toArray) 0 (lp Rows.laid_inlay_esiprint_names).toArray }
theorem gb (os : Os) (args : Array Value) : laidMet Tryz.prog Rows.printAgainRow.laid ((KV os).forCall (fun _ _ => 0) ⟨#[], args, []⟩).memory :=
  laidMet_of_run' 10 (by kernel_rfl) (by kernel_rfl)
theorem VZ (os : Os) {H : Type} (enc : TypeId × Value -> H) :
    (OpenSpec.ofChange Rows.printAgainSpec).preRow enc Tryz.prog Tryz.f6 Rows.printAgainRow.domain false Rows.printAgainRow.laid ((KV os).forCall (fun _ _ => 0) ⟨#[], #[.string ⟨#[]⟩], []⟩).memory #[.string ⟨#[]⟩] := by
  have hw : (DataW.whole enc Tryz.prog ((KV os).forCall (fun _ _ => 0) ⟨#[], #[.string ⟨#[]⟩], []⟩).memory Tryz.f6.params.toList Rows.printAgainSpec.vars false (#[.string ⟨#[]⟩] : Array Value).toList 8).map (fun x => (x.1, x.2.1)) =
      some ([.lit (.string [])], []) := by kernel_rfl
  obtain ⟨⟨x1, x2, x3⟩, hx, IC⟩ := Option.map_eq_some_iff.1 hw; simp only [Prod.mk.injEq] at IC; obtain ⟨rfl, rfl⟩ := IC
  exact OpenSpec.preRow_of_cond 8 hx (by kernel_rfl) (fun k hk => by cases hk) (by kernel_rfl) (gb os _)
set_option maxRecDepth 100000 in
theorem lifted (os : Os) (started : os.Started) (H : Type) (enc : TypeId × Value -> H) (F : Stop.Interp) :
    ReturnsInHanded {} Tryz.checked os 6 .any ((OpenSpec.ofChange Rows.printAgainSpec).preRow enc Tryz.prog Tryz.f6 Rows.printAgainRow.domain false Rows.printAgainRow.laid) (((OpenSpec.ofChange Rows.printAgainSpec).at F).post enc Tryz.prog Tryz.f6 false true false false) := by
  refine returnsInHanded_of_row (C := Tryz.checked) (s := OpenSpec.ofChange Rows.printAgainSpec) own started (by kernel_rfl) Tryz.func6
    (witness_row_atRef (enc := enc) (C := Tryz.checked) false (KV os) #[.string ⟨#[]⟩] rfl (by kernel_rfl) (by kernel_rfl) (by kernel_rfl) (VZ os enc)) ?_
  intro W base args ds gs before Ib hW _ _ _ hL hZ _; exact jJ H enc W base args ds gs before Ib hW hL hZ
theorem said : Rows.PrintAgainSaid :=
  OpenClaim.holds_of_cond 6 Tryz.f6 rfl rfl rfl rfl rfl rfl rfl ⟨rfl, rfl, rfl, rfl, rfl⟩ rfl rfl rfl rfl rfl (by kernel_rfl) Tryz.func6 (by kernel_rfl)
    (of_decide_eq_true (by kernel_rfl)) (by unfold Func.isWrapper; first | (rw [if_pos (by decide +kernel)]; kernel_rfl) | (rw [if_neg (by decide +kernel)]; exact ⟨rfl, rfl⟩))
    (fun os started H enc _ F => by rw [OpenClaim.pre_eq_preRow]; exact lifted os started H enc F)
theorem me : Tryz.prog.wantsStandIn 9 = false := by kernel_rfl
/-- No parameter yV a yY-in; tW pj own looks are off. -/
theorem plain (f : FuncId) (fn : Func) (hf : Tryz.pinned.checked.prog.funcNamed Rows.printAgainRow.func = some f) (OX : Tryz.pinned.checked.prog.funcs[f]? = some fn) :
    true = Tryz.pinned.checked.prog.looks [] /\ ∀ (j : Nat) t, fn.params[j]? = some t -> Tryz.pinned.checked.prog.wantsStandIn t = false := by
  obtain rfl : f = 6 := Option.some.inj ((show Tryz.prog.funcNamed Rows.printAgainRow.func = some 6 by kernel_rfl).symm.trans hf) |>.symm
  obtain rfl : fn = Tryz.f6 := (Option.some.inj (Tryz.func6.symm.trans OX)).symm
  refine ⟨by kernel_rfl, fun j t ht => ?_⟩
  have hm : t ∈ Tryz.f6.params.toList := by
    have := List.mem_of_getElem? (by simpa using ht : Tryz.f6.params.toList[j]? = some t)
    exact this
  have Y9 : Tryz.f6.params.toList = [9] := rfl; rw [Y9] at hm; simp only [List.mem_cons, List.not_mem_nil, or_false] at hm
  obtain rfl := hm; first
    | exact me
/-- THE ACV -/
theorem card : Rows.PrintAgainCardSaid :=
  Claim7.holds_tied_plain_at .later [] _ _ _ _ said (fun _ h => by cases h) (by kernel_rfl) (fun _ h => by cases h) printAgain_row_tie rfl ⟨rfl, rfl⟩ (by kernel_rfl) rfl plain (by kernel_rfl)
end Go.Proofs.YtopjpnhgnopbiaaGreatDoor.printAgain
