/-
  FramingOnly returns true, at every start and for every argument that its row and its card speak of; the arguments read behind the call as before.
-/
import Derived.Test.YtnncfdlpogjlkaaDoorCards
import Derived.Test.YtnncfdlpogjlkaaDoorTie
import Derived.WalkKit
import Derived.ProofKit
import Derived.OpenShut
import Derived.Deep.DeepHandedRow
import Derived.Deep.DeepWitnessRowRef
import Derived.Test.YtnncfdlpogjlkaaDoorQSound
import Derived.Test.YtnncfdlpogjlkaaDoorQJMe
namespace Go.Proofs.YtnncfdlpogjlkaaDoor.framingOnly
open Go.ChangeShapes Go.WideShapes Go.ChangeAt Go.RowKit Go.Ai
set_option linter.unusedVariables false
set_option maxRecDepth 100000

theorem own : ownKnob Tryd.prog.godebug = none := by kernel_rfl
theorem laidOut : laidOutB Tryd.prog = true := by kernel_rfl

/-- A law's call, at arguments of which more is known. -/
theorem walk5 {B0 : Nat} (S : Sound cfg Inv B0) {W : World} {l : List Fld} {f : Fld} {k : Nat} {args : List Value} (hI : Inv W) (hB : B0 ≤ W.heap.size)
    (glob : ∀ g cs, cfg.G g = some cs → At (Go.Ai.start W) cs ⟨g, 0, none⟩) (hfit : fitN l) (h1 : f.name.length ≤ limB) (h2 : f.value.length ≤ limB) (hk : k < 256)
    (hargs : Rels (Go.Ai.start W) [.sl 2 (encFs l) none, .agg [.str f.name, .str f.value], .int .u8 k] args) :
    Calls cfg.P 5 args.toArray W (fun e w' => e = .returned (.bool true) ∧ Below W.heap.size W w') := by
  have hp : pureV.pureVs [.sl 2 (encFs l) none, .agg [.str f.name, .str f.value], .int .u8 (k : Int)] = true := by simp [pureV.pureVs, pureV, pure_encFs]
  have ha : argsOf cfg 5 [.sl 2 (encFs l) none, .agg [.str f.name, .str f.value], .int .u8 (k : Int)] = [.sl 2 (encFs l) none, .agg [.str f.name, .str f.value], .int .u8 (k : Int)] := by
    have hk : cfg.hprim 5 = none := by kernel_rfl
    have hh : cfg.heap 5 = false := by kernel_rfl
    simp [argsOf, hk, hh, strips_pure 0 [] _ hp]
  obtain ⟨v, h', ⟨n0, hr⟩, hv⟩ := c5 _ [] (fun v h' => v = .bool true) (by rw [ha]; exact ⟨l, f, k, hfit, h1, h2, hk, rfl, rfl⟩)
  subst hv
  exact run_true S (n := n0) (by rw [hr n0 (Nat.le_refl _)]; rfl) hI hB glob hargs

theorem contract (H : Type) (enc : TypeId × Value → H) (W : World) (base : Nat) (args : Array Value) (ds gs : List (DataW H)) (before : List MemPlace)
    (hval : ∀ (j : Nat) t v, Tryd.f5.params[j]? = some t → args[j]? = some v → Value.okWide Tryd.prog W .any base t v)
    (hW : DataW.Whole enc Tryd.prog Tryd.f5.params.toList Rows.framingOnlySpec.vars false W args.toList ds gs before) (hL : laidMetH Tryd.prog Rows.framingOnlyRow.laid W) (hsh : W.ShapedOpen Tryd.prog) :
    Calls Tryd.prog 5 args W fun e W' => ∃ v, e = .returned v ∧ Rows.framingOnlySpec.post enc Tryd.prog Tryd.f5 false true false false W args v W' := by
  have hW' := hW
  obtain ⟨p, q, hA0, hV, rfl, hfz, hnd⟩ := hW
  have hA : DataW.TrodAll enc Tryd.prog W 0 (fun _ => true) true Tryd.f5.params.toList args.toList ds p := hA0
  obtain ⟨rfl, rfl⟩ := trodVars_none hV
  simp only [List.append_nil] at hW'
  have hL' : laidMet Tryd.prog Rows.framingOnlyRow.laid W := hL
  have hI : Inv W := inv_of hsh hL' (List.Mem.tail _ (List.Mem.tail _ (List.Mem.tail _ (List.Mem.tail _ (List.Mem.tail _ (List.Mem.head _)))))) (List.Mem.tail _ (List.Mem.tail _ (List.Mem.tail _ (List.Mem.tail _ (List.Mem.head _)))))
  have hB := size_of hI
  have hpl : ∀ x ∈ p, x.block < W.heap.size := fun x hx => by simpa using hW'.lt x hx
  have hpar : Tryd.f5.params.toList = [22, 38, 5] := rfl
  obtain ⟨vs, hf, hr⟩ := args_open (P := Tryd.prog) plainS_ok (ts := [22, 38, 5]) (args := args.toList) (by decide) (fun j t v hj hv => hval j t v (by rw [← hpar] at hj; simpa using hj) (by simpa using hv)) (by rw [← hpar]; exact hA)
  have hw : Calls cfg.P 5 args W (fun e w' => e = .returned (.bool true) ∧ Below W.heap.size W w') := by
    match vs, hf, hr with
    | [x, y, z], ⟨⟨_, h0⟩, ⟨_, h1⟩, ⟨_, h2⟩, _⟩, hr =>
      obtain ⟨a, _, ha, rfl⟩ := arg_fields h0
      obtain ⟨b, hb, hb', rfl⟩ := arg_field h1
      obtain ⟨c, hc, rfl⟩ := arg_u8 h2
      have := walk5 (f := b) (k := c) (args := args.toList) (cfg_sound (B0 := W.heap.size) hB) hI (Nat.le_refl _) (fun g cs h => glob_at hL' (i := 1) rfl (by kernel_rfl) g cs h) (l := a) (fun f hf => by have := (ha f hf).1; unfold maxLen at this; omega) (by unfold maxLen at hb; unfold limB; omega) (by unfold maxLen at hb'; unfold limB; omega) hc hr
      simpa using this
  refine hw.mono fun e W' ⟨he, hg⟩ => ?_
  subst he
  have hst : ∀ sp : Nat → Bool, (∀ x ∈ p, sp x.block = true) → DataW.TrodAll enc Tryd.prog W' 0 sp true Tryd.f5.params.toList args.toList ds p := fun sp hsp => by
    rw [hpar]
    exact args_stay laidOut (ts := [22, 38, 5]) (by intro t ht; simp only [List.mem_cons, List.not_mem_nil, or_false] at ht; rcases ht with rfl | rfl | rfl <;> exact ⟨by kernel_rfl, of_decide_eq_true (by kernel_rfl)⟩) (by rw [← hpar]; exact hA) (fun x hx => hg.same (hpl x hx)) hsp
  have hds : ∃ a b c, ds = [a, b, c] := by
    rw [hpar] at hA
    obtain ⟨v, v', v'', d, d', d'', p0, p1, p2, -, rfl, -⟩ := trodAll_three hA
    exact ⟨d, d', d'', rfl⟩
  obtain ⟨a, b, c, rfl⟩ := hds
  exact ⟨_, rfl, post_of_below (pa := p) (pv := []) hW' (fun _ _ _ => (trodAll_cons_mk (shut_bool Tryd.underlying4 _) trodAll_mk0)) (fun sp hsp => hst sp (by simpa using hsp)) (fun _ _ => rfl) (by simp)
    hg (ok_one (by kernel_rfl) rfl (okWide_bool_mk Tryd.underlying4 _))⟩

def litV : DataW Unit → Value
  | .lit (.int k n) => .int k n
  | _ => .bool false
def rowV1 : DataW Unit → List Value
  | .agg ds => ds.map litV
  | d => [litV d]
def rowV2 : DataW Unit → List Value
  | .agg ds => (ds.map rowV1).flatten
  | d => [litV d]
/-- A world for the witness: the settled one and two blocks more (the errors' texts); the variables hold what their initialisers lay. -/
noncomputable def laidWorld (os : Os) : World :=
  let N := (World.settled Tryd.prog os).heap.size
  let w0 := World.holding Tryd.prog os ⟨#[.cells #[.string ⟨#[105, 110, 118, 97, 108, 105, 100, 32, 115, 121, 110, 116, 97, 120]⟩] 172, .cells #[.string ⟨#[118, 97, 108, 117, 101, 32, 111, 117, 116, 32, 111, 102, 32, 114, 97, 110, 103, 101]⟩] 172], #[], []⟩
  let put (h : Array Obj) (g : Nat) (cs : Array Value) : Array Obj := h.modify g fun
    | .cells _ t frozen => .cells cs t frozen
    | o => o
  { w0 with heap := put (put (put (put (put (put (put w0.heap 2 #[.iface 170 (.pointer (some ⟨N, 0, none⟩))]) 3 #[.iface 170 (.pointer (some ⟨N + 1, 0, none⟩))]) 1 (rowV2 Rows.laid_internal_strconv_uint64pow10).toArray) 4 (rowV2 Rows.laid_unicode_utf8_first).toArray) 5 (rowV2 Rows.laid_unicode_utf8_acceptRanges).toArray) 6 (rowV2 Rows.laid_math_bits_deBruijn32tab).toArray) 7 (rowV2 Rows.laid_math_bits_deBruijn64tab).toArray }
theorem laid_met (os : Os) (args : Array Value) : laidMet Tryd.prog Rows.framingOnlyRow.laid ((laidWorld os).forCall (fun _ _ => 0) ⟨#[], args, []⟩).memory :=
  laidMet_of_run' 10 (by kernel_rfl) (by kernel_rfl)
theorem witness_row (os : Os) {H : Type} (enc : TypeId × Value → H) :
    (OpenSpec.ofChange Rows.framingOnlySpec).preRow enc Tryd.prog Tryd.f5 Rows.framingOnlyRow.domain false Rows.framingOnlyRow.laid ((laidWorld os).forCall (fun _ _ => 0) ⟨#[], #[.slice none 0 0, .agg #[.string ⟨#[]⟩, .string ⟨#[]⟩], .int .u8 0], []⟩).memory #[.slice none 0 0, .agg #[.string ⟨#[]⟩, .string ⟨#[]⟩], .int .u8 0] := by
  have hw : (DataW.whole enc Tryd.prog ((laidWorld os).forCall (fun _ _ => 0) ⟨#[], #[.slice none 0 0, .agg #[.string ⟨#[]⟩, .string ⟨#[]⟩], .int .u8 0], []⟩).memory Tryd.f5.params.toList Rows.framingOnlySpec.vars false (#[.slice none 0 0, .agg #[.string ⟨#[]⟩, .string ⟨#[]⟩], .int .u8 0] : Array Value).toList 8).map (fun x => (x.1, x.2.1)) =
      some ([.nil, .agg [.lit (.string []), .lit (.string [])], .lit (.int .u8 0)], []) := by kernel_rfl
  obtain ⟨⟨x1, x2, x3⟩, hx, hx1⟩ := Option.map_eq_some_iff.1 hw
  simp only [Prod.mk.injEq] at hx1
  obtain ⟨rfl, rfl⟩ := hx1
  exact OpenSpec.preRow_of_cond 8 hx (by kernel_rfl) (fun k hk => by cases hk) (by kernel_rfl) (laid_met os _)

set_option maxRecDepth 100000 in
theorem lifted (os : Os) (started : os.Started) (H : Type) (enc : TypeId × Value → H) (F : Stop.Interp) :
    ReturnsInHanded {} Tryd.checked os 5 .any ((OpenSpec.ofChange Rows.framingOnlySpec).preRow enc Tryd.prog Tryd.f5 Rows.framingOnlyRow.domain false Rows.framingOnlyRow.laid) (((OpenSpec.ofChange Rows.framingOnlySpec).at F).post enc Tryd.prog Tryd.f5 false true false false) := by
  refine returnsInHanded_of_row (C := Tryd.checked) (s := OpenSpec.ofChange Rows.framingOnlySpec) own started (by kernel_rfl) Tryd.func5
    (witness_row_atRef (enc := enc) (C := Tryd.checked) false (laidWorld os) #[.slice none 0 0, .agg #[.string ⟨#[]⟩, .string ⟨#[]⟩], .int .u8 0] rfl (by kernel_rfl) (by kernel_rfl) (by kernel_rfl) (witness_row os enc)) ?_
  intro W base args ds gs before hval hW _ _ _ hL hsh _
  have hgs : gs = [] := by
    obtain ⟨p, q, _, hV, _⟩ := hW
    exact (trodVars_none hV).1
  subst hgs
  exact contract H enc W base args ds [] before hval hW hL hsh

theorem said : Rows.FramingOnlySaid :=
  OpenClaim.holds_of_cond 5 Tryd.f5 rfl rfl rfl rfl rfl rfl rfl ⟨rfl, rfl, rfl, rfl, rfl⟩ rfl rfl rfl rfl rfl (by kernel_rfl) Tryd.func5 (by kernel_rfl)
    (of_decide_eq_true (by kernel_rfl)) (by unfold Func.isWrapper; first | (rw [if_pos (by decide +kernel)]; kernel_rfl) | (rw [if_neg (by decide +kernel)]; exact ⟨rfl, rfl⟩))
    (fun os started H enc _ F => by rw [OpenClaim.pre_eq_preRow]; exact lifted os started H enc F)

theorem wants5 : Tryd.prog.wantsStandIn 5 = false := by kernel_rfl
theorem wants22 : Tryd.prog.wantsStandIn 22 = false := by kernel_rfl
theorem wants38 : Tryd.prog.wantsStandIn 38 = false := by kernel_rfl

/-- No parameter wants a stand-in; the program's own looks are on. -/
theorem plain (f : FuncId) (fn : Func) (hf : Tryd.pinned.checked.prog.funcNamed Rows.framingOnlyRow.func = some f) (hfn : Tryd.pinned.checked.prog.funcs[f]? = some fn) :
    true = Tryd.pinned.checked.prog.looks [] ∧ ∀ (j : Nat) t, fn.params[j]? = some t → Tryd.pinned.checked.prog.wantsStandIn t = false := by
  obtain rfl : f = 5 := Option.some.inj ((show Tryd.prog.funcNamed Rows.framingOnlyRow.func = some 5 by kernel_rfl).symm.trans hf) |>.symm
  obtain rfl : fn = Tryd.f5 := (Option.some.inj (Tryd.func5.symm.trans hfn)).symm
  refine ⟨by kernel_rfl, fun j t ht => ?_⟩
  have hm : t ∈ Tryd.f5.params.toList := by
    have := List.mem_of_getElem? (by simpa using ht : Tryd.f5.params.toList[j]? = some t)
    exact this
  have hpar : Tryd.f5.params.toList = [22, 38, 5] := rfl
  rw [hpar] at hm
  simp only [List.mem_cons, List.not_mem_nil, or_false] at hm
  rcases hm with rfl | rfl | rfl <;> first
    | exact wants5
    | exact wants22
    | exact wants38

/-- THE CARD -/
theorem card : Rows.FramingOnlyCardSaid :=
  Claim7.holds_tied_plain_at .later [] _ _ _ _ said (fun _ h => by cases h) (by kernel_rfl) (fun _ h => by cases h) framingOnly_row_tie rfl ⟨rfl, rfl⟩ (by kernel_rfl) rfl plain (by kernel_rfl)
end Go.Proofs.YtnncfdlpogjlkaaDoor.framingOnly
