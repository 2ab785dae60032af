/-
  EsiparseTrees returns true, at every start and for every argument that its row and its card speak of; the arguments read behind the call as before.
-/
import Derived.Test.YtopjpnhgnopbiaaGreatDoorCards
import Derived.Test.YtopjpnhgnopbiaaGreatDoorTie
import Derived.WalkKit
import Derived.ProofKit
import Derived.OpenShut
import Derived.Deep.DeepHandedRow
import Derived.Deep.DeepWitnessRowRef
import Derived.Test.YtopjpnhgnopbiaaGreatDoorTSound
import Derived.Test.YtopjpnhgnopbiaaGreatDoorTJV
set_option linter.unusedVariables false
set_option linter.unusedSimpArgs false
set_option linter.unnecessarySimpa false
namespace Go.Proofs.YtopjpnhgnopbiaaGreatDoor.esiparseTrees
open Go.ChangeShapes Go.WideShapes Go.ChangeAt Go.RowKit Go.Ai
set_option maxRecDepth 100000
theorem own : ownKnob Tryz.prog.godebug = none := by kernel_rfl
theorem laidOut : laidOutB Tryz.prog = true := by kernel_rfl
theorem space : (Rows.laid_strings_asciiSpace : DataW Unit) = Lib.tabData .u8 Lib.asciiSpaceTab := by kernel_rfl
theorem lawful : CP AI 3 (nS Tryz.prog [9]) := by
  intro l h K ht; obtain ⟨hf, hk⟩ := ht
  match hl : B7 AI 3 l, hf with
  | [x], ⟨⟨_, h0⟩, _⟩ =>
    obtain ⟨a, _, rfl⟩ := XG h0; exact Rx.c3 l h K ⟨a, hl, hk⟩
theorem eR (H : Type) (enc : TypeId × Value -> H) (W : World) (base : Nat) (args : Array Value) (ds gs : List (DataW H)) (before : List MemPlace)
    (HT : ∀ (j : Nat) t v, Tryz.f3.params[j]? = some t -> args[j]? = some v -> Value.okWide Tryz.prog W .any base t v)
    (hW : DataW.Whole enc Tryz.prog Tryz.f3.params.toList Rows.esiparseTreesSpec.vars false W args.toList ds gs before) (hL : laidMetH Tryz.prog Rows.esiparseTreesRow.laid W) (gU : W.ShapedOpen Tryz.prog) :
    Calls Tryz.prog 3 args W fun e W' => ∃ v, e = .returned v /\ Rows.esiparseTreesSpec.post enc Tryz.prog Tryz.f3 false true false false W args v W' := by
  have tm := hW; obtain ⟨p, q, xq, hV, rfl, vG, YA⟩ := hW
  have hA : DataW.TrodAll enc Tryz.prog W 0 (fun _ => true) true Tryz.f3.params.toList args.toList ds p := xq
  obtain ⟨rfl, rfl⟩ := trodVars_none hV; simp only [List.append_nil] at tm; have xo : laidMet Tryz.prog Rows.esiparseTreesRow.laid W := hL
  have hI : Inv W := kG gU xo (by rw [<- space]; simp [Rows.esiparseTreesRow])
  have hB := fk hI
  have fS : ∀ x ∈ p, x.block < W.heap.size := fun x hx => by simpa using tm.lt x hx
  have WW : Tryz.f3.params.toList = [9] := rfl
  obtain ⟨vs, hf, hr⟩ := RS (P := Tryz.prog) Yw (ts := [9]) (args := args.toList) (by decide) (fun j t v hj hv => HT j t v (by rw [<- WW] at hj; simpa using hj) (by simpa using hv)) (by rw [<- WW]; exact hA)
  have hw := cb (C := AI) (W9 (B0 := W.heap.size) hB) lawful (by kernel_rfl) (by kernel_rfl) hI (Nat.le_refl _) (fun g cs h => by cases h) hf hr
  refine hw.mono fun e W' ⟨he, hg⟩ => ?_
  subst he
  have DI : ∀ sp : Nat -> Bool, (∀ x ∈ p, sp x.block = true) -> DataW.TrodAll enc Tryz.prog W' 0 sp true Tryz.f3.params.toList args.toList ds p := fun sp D8 => by
    rw [WW]
    exact RR laidOut (ts := [9]) (by intro t ht; simp only [List.mem_cons, List.not_mem_nil, or_false] at ht; obtain rfl := ht; exact ⟨by kernel_rfl, of_decide_eq_true (by kernel_rfl)⟩) (by rw [<- WW]; exact hA) (fun x hx => hg.same (fS x hx)) D8
  have Gs : ∃ a, ds = [a] := by
    rw [WW] at hA; obtain ⟨v, d, -, rfl, -⟩ := trodAll_one hA; exact ⟨d, rfl⟩
  obtain ⟨a, rfl⟩ := Gs
  exact ⟨_, rfl, Pz (pa := p) (pv := []) tm (fun _ _ _ => (trodAll_cons_mk (shut_bool Tryz.underlying4 _) trodAll_mk0)) (fun sp D8 => DI sp (by simpa using D8)) (fun _ _ => rfl) (by simp)
    hg (ok_one (by kernel_rfl) rfl (okWide_bool_mk Tryz.underlying4 _))⟩
def kD : DataW Unit -> Value
  | .lit (.int k n) => .int k n
  | _ => .bool false
def mu : DataW Unit -> List Value
  | .agg ds => ds.map kD
  | d => [kD d]
def iX : DataW Unit -> List Value
  | .agg ds => (ds.map mu).flatten
  | d => [kD d]
/-- A world for pL witness: pL settled one and two blocks more (pL ranges of jR, and mF table); pL lX hold vh mF gR lay. -/
noncomputable def JK (os : Os) : World :=
  let N := (World.settled Tryz.prog os).heap.size
  let w0 := World.holding Tryz.prog os ⟨#[.cells (Lib.whiteT.map fun (z : Nat) => Value.int .u16 (z : Int)).toArray 195, .cells #[.slice (some ⟨N, 0, none⟩) 7 7, .slice none 0 0, .int .i64 2] 192], #[], []⟩
  let put (h : Array Obj) (g : Nat) (cs : Array Value) : Array Obj := h.modify g fun
    | .cells _ t frozen => .cells cs t frozen
    | o => o
  { w0 with heap := put (put (put (put w0.heap 2 (Lib.asciiSpaceTab.map fun z => Value.int .u8 z).toArray) 3 #[.pointer (some ⟨N + 1, 0, none⟩)]) 4 (iX Rows.laid_unicode_utf8_first).toArray) 5 (iX Rows.laid_unicode_utf8_acceptRanges).toArray }
theorem cf (os : Os) (args : Array Value) : laidMet Tryz.prog Rows.esiparseTreesRow.laid ((JK os).forCall (fun _ _ => 0) ⟨#[], args, []⟩).memory :=
  laidMet_of_run' 10 (by kernel_rfl) (by kernel_rfl)
theorem TC (os : Os) {H : Type} (enc : TypeId × Value -> H) :
    (OpenSpec.ofChange Rows.esiparseTreesSpec).preRow enc Tryz.prog Tryz.f3 Rows.esiparseTreesRow.domain false Rows.esiparseTreesRow.laid ((JK os).forCall (fun _ _ => 0) ⟨#[], #[.string ⟨#[]⟩], []⟩).memory #[.string ⟨#[]⟩] := by
  have hw : (DataW.whole enc Tryz.prog ((JK os).forCall (fun _ _ => 0) ⟨#[], #[.string ⟨#[]⟩], []⟩).memory Tryz.f3.params.toList Rows.esiparseTreesSpec.vars false (#[.string ⟨#[]⟩] : Array Value).toList 8).map (fun x => (x.1, x.2.1)) =
      some ([.lit (.string [])], []) := by kernel_rfl
  obtain ⟨⟨x1, x2, x3⟩, hx, HA⟩ := Option.map_eq_some_iff.1 hw; simp only [Prod.mk.injEq] at HA; obtain ⟨rfl, rfl⟩ := HA
  exact OpenSpec.preRow_of_cond 8 hx (by kernel_rfl) (fun k hk => by cases hk) (by kernel_rfl) (cf os _)
set_option maxRecDepth 100000 in
theorem lifted (os : Os) (started : os.Started) (H : Type) (enc : TypeId × Value -> H) (F : Stop.Interp) :
    ReturnsInHanded {} Tryz.checked os 3 .any ((OpenSpec.ofChange Rows.esiparseTreesSpec).preRow enc Tryz.prog Tryz.f3 Rows.esiparseTreesRow.domain false Rows.esiparseTreesRow.laid) (((OpenSpec.ofChange Rows.esiparseTreesSpec).at F).post enc Tryz.prog Tryz.f3 false true false false) := by
  refine returnsInHanded_of_row (C := Tryz.checked) (s := OpenSpec.ofChange Rows.esiparseTreesSpec) own started (by kernel_rfl) Tryz.func3
    (witness_row_atRef (enc := enc) (C := Tryz.checked) false (JK os) #[.string ⟨#[]⟩] rfl (by kernel_rfl) (by kernel_rfl) (by kernel_rfl) (TC os enc)) ?_
  intro W base args ds gs before HT hW _ _ _ hL gU _; exact eR H enc W base args ds gs before HT hW hL gU
theorem said : Rows.EsiparseTreesSaid :=
  OpenClaim.holds_of_cond 3 Tryz.f3 rfl rfl rfl rfl rfl rfl rfl ⟨rfl, rfl, rfl, rfl, rfl⟩ rfl rfl rfl rfl rfl (by kernel_rfl) Tryz.func3 (by kernel_rfl)
    (of_decide_eq_true (by kernel_rfl)) (by unfold Func.isWrapper; first | (rw [if_pos (by decide +kernel)]; kernel_rfl) | (rw [if_neg (by decide +kernel)]; exact ⟨rfl, rfl⟩))
    (fun os started H enc _ F => by rw [OpenClaim.pre_eq_preRow]; exact lifted os started H enc F)
theorem jU : Tryz.prog.wantsStandIn 9 = false := by kernel_rfl
/-- No parameter uX a ub-in; pL lY own looks zB off. -/
theorem plain (f : FuncId) (fn : Func) (hf : Tryz.pinned.checked.prog.funcNamed Rows.esiparseTreesRow.func = some f) (Mp : Tryz.pinned.checked.prog.funcs[f]? = some fn) :
    true = Tryz.pinned.checked.prog.looks [] /\ ∀ (j : Nat) t, fn.params[j]? = some t -> Tryz.pinned.checked.prog.wantsStandIn t = false := by
  obtain rfl : f = 3 := Option.some.inj ((show Tryz.prog.funcNamed Rows.esiparseTreesRow.func = some 3 by kernel_rfl).symm.trans hf) |>.symm
  obtain rfl : fn = Tryz.f3 := (Option.some.inj (Tryz.func3.symm.trans Mp)).symm
  refine ⟨by kernel_rfl, fun j t ht => ?_⟩
  have hm : t ∈ Tryz.f3.params.toList := by
    have := List.mem_of_getElem? (by simpa using ht : Tryz.f3.params.toList[j]? = some t)
    exact this
  have WW : Tryz.f3.params.toList = [9] := rfl; rw [WW] at hm; simp only [List.mem_cons, List.not_mem_nil, or_false] at hm
  obtain rfl := hm; first
    | exact jU
/-- zE yp -/
theorem card : Rows.EsiparseTreesCardSaid :=
  Claim7.holds_tied_plain_at .later [] _ _ _ _ said (fun _ h => by cases h) (by kernel_rfl) (fun _ h => by cases h) esiparseTrees_row_tie rfl ⟨rfl, rfl⟩ (by kernel_rfl) rfl plain (by kernel_rfl)
end Go.Proofs.YtopjpnhgnopbiaaGreatDoor.esiparseTrees
