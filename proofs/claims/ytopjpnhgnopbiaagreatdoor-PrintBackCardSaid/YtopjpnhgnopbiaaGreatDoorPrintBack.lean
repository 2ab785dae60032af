/-
  PrintBack returns true, at every start and for every argument that its row and its card speak of; the arguments read behind the call as before.
-/
import Derived.Test.YtopjpnhgnopbiaaGreatDoorCards
import Derived.Test.YtopjpnhgnopbiaaGreatDoorTie
import Derived.WalkKit
import Derived.ProofKit
import Derived.OpenShut
import Derived.Deep.DeepHandedRow
import Derived.Deep.DeepWitnessRowRef
import Derived.Test.YtopjpnhgnopbiaaGreatDoorSound
import Derived.Test.YtopjpnhgnopbiaaGreatDoorJP
set_option linter.unusedVariables false
set_option linter.unusedSimpArgs false
set_option linter.unnecessarySimpa false
namespace Go.Proofs.YtopjpnhgnopbiaaGreatDoor.printBack
open Go.ChangeShapes Go.WideShapes Go.ChangeAt Go.RowKit Go.Ai
set_option maxRecDepth 100000
theorem own : ownKnob Tryz.prog.godebug = none := by kernel_rfl
theorem laidOut : laidOutB Tryz.prog = true := by kernel_rfl
theorem space : (Rows.laid_strings_asciiSpace : DataW Unit) = Lib.tabData .u8 Lib.asciiSpaceTab := by kernel_rfl
theorem pV : Tryz.prog.globalNamed "inlay/esiprint.names" = some 0 := by kernel_rfl
theorem ZX : (Tryz.prog.globals[0]?).map (·.type) = some 71 := by kernel_rfl
theorem lS {W : World} (hL : laidMet Tryz.prog Rows.printBackRow.laid W) : ∀ g cs, AI.G g = some cs -> At (Go.Ai.start W) cs ⟨g, 0, none⟩ := by
  intro g cs h; have hg := EU (l := XC) h; simp only [XC, List.mem_cons, List.not_mem_nil, or_false, Prod.mk.injEq] at hg; obtain ⟨rfl, rfl⟩ := hg; obtain ⟨ps, hl, _⟩ := hL
  exact gu hl 3 "inlay/esiprint.names" Rows.laid_inlay_esiprint_names 0 5 71 _ rfl pV ZX (by kernel_rfl)
theorem lawful : CQ AI 5 (sB Tryz.prog [26]) := by
  intro l h K ht; obtain ⟨hf, hk⟩ := ht
  match hl : B8 AI 5 l, hf with
  | [x], ⟨⟨_, h0⟩, _⟩ =>
    obtain ⟨a, fa, rfl⟩ := jt h0; exact Pu.tW l h K ⟨a, fa, hl, hk⟩
theorem jX (H : Type) (enc : TypeId × Value -> H) (W : World) (base : Nat) (args : Array Value) (ds gs : List (DataW H)) (before : List MemPlace)
    (Ie : ∀ (j : Nat) t v, Tryz.f5.params[j]? = some t -> args[j]? = some v -> Value.okWide Tryz.prog W .any base t v)
    (hW : DataW.Whole enc Tryz.prog Tryz.f5.params.toList Rows.printBackSpec.vars false W args.toList ds gs before) (hL : laidMetH Tryz.prog Rows.printBackRow.laid W) (iP : W.ShapedOpen Tryz.prog) :
    Calls Tryz.prog 5 args W fun e W' => ∃ v, e = .returned v /\ Rows.printBackSpec.post enc Tryz.prog Tryz.f5 false true false false W args v W' := by
  have yE := hW; obtain ⟨p, q, hA0, hV, rfl, zT, bO⟩ := hW
  have hA : DataW.TrodAll enc Tryz.prog W 0 (fun _ => true) true Tryz.f5.params.toList args.toList ds p := hA0
  obtain ⟨rfl, rfl⟩ := trodVars_none hV; simp only [List.append_nil] at yE; have zZ : laidMet Tryz.prog Rows.printBackRow.laid W := hL
  have hI : Inv W := oP iP zZ (by rw [<- space]; simp [Rows.printBackRow])
  have hB := kO hI
  have se : ∀ x ∈ p, x.block < W.heap.size := fun x hx => by simpa using yE.lt x hx
  have ZF : Tryz.f5.params.toList = [26] := rfl
  obtain ⟨vs, hf, hr⟩ := Ts (P := Tryz.prog) cX (ts := [26]) (args := args.toList) (by decide) (fun j t v hj hv => Ie j t v (by rw [<- ZF] at hj; simpa using hj) (by simpa using hv)) (by rw [<- ZF]; exact hA)
  have hw := gp (C := AI) (Zs (B0 := W.heap.size) hB) lawful (by kernel_rfl) (by kernel_rfl) hI (Nat.le_refl _) (fun g cs h => lS zZ g cs h) hf hr
  refine hw.mono fun e W' ⟨he, hg⟩ => ?_
  subst he
  have DI : ∀ sp : Nat -> Bool, (∀ x ∈ p, sp x.block = true) -> DataW.TrodAll enc Tryz.prog W' 0 sp true Tryz.f5.params.toList args.toList ds p := fun sp HY => by
    rw [ZF]
    exact Tq laidOut (ts := [26]) (by intro t ht; simp only [List.mem_cons, List.not_mem_nil, or_false] at ht; obtain rfl := ht; exact ⟨by kernel_rfl, of_decide_eq_true (by kernel_rfl)⟩) (by rw [<- ZF]; exact hA) (fun x hx => hg.same (se x hx)) HY
  have Hy : ∃ a, ds = [a] := by
    rw [ZF] at hA; obtain ⟨v, d, -, rfl, -⟩ := trodAll_one hA; exact ⟨d, rfl⟩
  obtain ⟨a, rfl⟩ := Hy
  exact ⟨_, rfl, SB (pa := p) (pv := []) yE (fun _ _ _ => (trodAll_cons_mk (shut_bool Tryz.underlying4 _) trodAll_mk0)) (fun sp HY => DI sp (by simpa using HY)) (fun _ _ => rfl) (by simp)
    hg (ok_one (by kernel_rfl) rfl (okWide_bool_mk Tryz.underlying4 _))⟩
def oN : DataW Unit -> Value
  | .lit (.int k n) => .int k n
  | .lit (.string l) => .string ⟨l.toArray⟩
  | _ => .bool false
def mG : DataW Unit -> List Value
  | .agg ds => ds.map oN
  | d => [oN d]
def mF : DataW Unit -> List Value
  | .agg ds => (ds.map mG).flatten
  | d => [oN d]
/-- A world for tp witness: tp settled one and two blocks more (tp ranges of mq, and qm table); tp qD hold AAC qm k9 lay. -/
noncomputable def Ka (os : Os) : World :=
  let N := (World.settled Tryz.prog os).heap.size
  let w0 := World.holding Tryz.prog os ⟨#[.cells (Lib.whiteT.map fun (z : Nat) => Value.int .u16 (z : Int)).toArray 195, .cells #[.slice (some ⟨N, 0, none⟩) 7 7, .slice none 0 0, .int .i64 2] 192], #[], []⟩
  let put (h : Array Obj) (g : Nat) (cs : Array Value) : Array Obj := h.modify g fun
    | .cells _ t frozen => .cells cs t frozen
    | o => o
  { w0 with heap := put (put (put (put (put w0.heap 2 (Lib.asciiSpaceTab.map fun z => Value.int .u8 z).toArray) 3 #[.pointer (some ⟨N + 1, 0, none⟩)]) 4 (mF Rows.laid_unicode_utf8_first).toArray) 5 (mF Rows.laid_unicode_utf8_acceptRanges).toArray) 0 (mG Rows.laid_inlay_esiprint_names).toArray }
theorem gv (os : Os) (args : Array Value) : laidMet Tryz.prog Rows.printBackRow.laid ((Ka os).forCall (fun _ _ => 0) ⟨#[], args, []⟩).memory :=
  laidMet_of_run' 10 (by kernel_rfl) (by kernel_rfl)
theorem Va (os : Os) {H : Type} (enc : TypeId × Value -> H) :
    (OpenSpec.ofChange Rows.printBackSpec).preRow enc Tryz.prog Tryz.f5 Rows.printBackRow.domain false Rows.printBackRow.laid ((Ka os).forCall (fun _ _ => 0) ⟨#[], #[.agg #[.int .i64 0, .int .i64 0, .string ⟨#[]⟩, .slice none 0 0, .slice none 0 0]], []⟩).memory #[.agg #[.int .i64 0, .int .i64 0, .string ⟨#[]⟩, .slice none 0 0, .slice none 0 0]] := by
  have hw : (DataW.whole enc Tryz.prog ((Ka os).forCall (fun _ _ => 0) ⟨#[], #[.agg #[.int .i64 0, .int .i64 0, .string ⟨#[]⟩, .slice none 0 0, .slice none 0 0]], []⟩).memory Tryz.f5.params.toList Rows.printBackSpec.vars false (#[.agg #[.int .i64 0, .int .i64 0, .string ⟨#[]⟩, .slice none 0 0, .slice none 0 0]] : Array Value).toList 8).map (fun x => (x.1, x.2.1)) =
      some ([.agg [.lit (.int .i64 0), .lit (.int .i64 0), .lit (.string []), .nil, .nil]], []) := by kernel_rfl
  obtain ⟨⟨x1, x2, x3⟩, hx, IE⟩ := Option.map_eq_some_iff.1 hw; simp only [Prod.mk.injEq] at IE; obtain ⟨rfl, rfl⟩ := IE
  exact OpenSpec.preRow_of_cond 8 hx (by kernel_rfl) (fun k hk => by cases hk) (by kernel_rfl) (gv os _)
set_option maxRecDepth 100000 in
theorem lifted (os : Os) (started : os.Started) (H : Type) (enc : TypeId × Value -> H) (F : Stop.Interp) :
    ReturnsInHanded {} Tryz.checked os 5 .any ((OpenSpec.ofChange Rows.printBackSpec).preRow enc Tryz.prog Tryz.f5 Rows.printBackRow.domain false Rows.printBackRow.laid) (((OpenSpec.ofChange Rows.printBackSpec).at F).post enc Tryz.prog Tryz.f5 false true false false) := by
  refine returnsInHanded_of_row (C := Tryz.checked) (s := OpenSpec.ofChange Rows.printBackSpec) own started (by kernel_rfl) Tryz.func5
    (witness_row_atRef (enc := enc) (C := Tryz.checked) false (Ka os) #[.agg #[.int .i64 0, .int .i64 0, .string ⟨#[]⟩, .slice none 0 0, .slice none 0 0]] rfl (by kernel_rfl) (by kernel_rfl) (by kernel_rfl) (Va os enc)) ?_
  intro W base args ds gs before Ie hW _ _ _ hL iP _; exact jX H enc W base args ds gs before Ie hW hL iP
theorem said : Rows.PrintBackSaid :=
  OpenClaim.holds_of_cond 5 Tryz.f5 rfl rfl rfl rfl rfl rfl rfl ⟨rfl, rfl, rfl, rfl, rfl⟩ rfl rfl rfl rfl rfl (by kernel_rfl) Tryz.func5 (by kernel_rfl)
    (of_decide_eq_true (by kernel_rfl)) (by unfold Func.isWrapper; first | (rw [if_pos (by decide +kernel)]; kernel_rfl) | (rw [if_neg (by decide +kernel)]; exact ⟨rfl, rfl⟩))
    (fun os started H enc _ F => by rw [OpenClaim.pre_eq_preRow]; exact lifted os started H enc F)
theorem kA : Tryz.prog.wantsStandIn 26 = false := by kernel_rfl
/-- No parameter ym a yq-in; tp qF own looks are off. -/
theorem plain (f : FuncId) (fn : Func) (hf : Tryz.pinned.checked.prog.funcNamed Rows.printBackRow.func = some f) (Ob : Tryz.pinned.checked.prog.funcs[f]? = some fn) :
    true = Tryz.pinned.checked.prog.looks [] /\ ∀ (j : Nat) t, fn.params[j]? = some t -> Tryz.pinned.checked.prog.wantsStandIn t = false := by
  obtain rfl : f = 5 := Option.some.inj ((show Tryz.prog.funcNamed Rows.printBackRow.func = some 5 by kernel_rfl).symm.trans hf) |>.symm
  obtain rfl : fn = Tryz.f5 := (Option.some.inj (Tryz.func5.symm.trans Ob)).symm
  refine ⟨by kernel_rfl, fun j t ht => ?_⟩
  have hm : t ∈ Tryz.f5.params.toList := by
    have := List.mem_of_getElem? (by simpa using ht : Tryz.f5.params.toList[j]? = some t)
    exact this
  have ZF : Tryz.f5.params.toList = [26] := rfl; rw [ZF] at hm; simp only [List.mem_cons, List.not_mem_nil, or_false] at hm
  obtain rfl := hm; first
    | exact kA
/-- THE ACl -/
theorem card : Rows.PrintBackCardSaid :=
  Claim7.holds_tied_plain_at .later [] _ _ _ _ said (fun _ h => by cases h) (by kernel_rfl) (fun _ h => by cases h) printBack_row_tie rfl ⟨rfl, rfl⟩ (by kernel_rfl) rfl plain (by kernel_rfl)
end Go.Proofs.YtopjpnhgnopbiaaGreatDoor.printBack
