/-
  EsiparseLong returns true, at every start and for every argument that its row and its card speak of; the arguments read behind the call as before.
-/
import Derived.Test.YtopjpnhgnopbiaaGreatDoorCards
import Derived.Test.YtopjpnhgnopbiaaGreatDoorTie
import Derived.WalkKit
import Derived.ProofKit
import Derived.OpenShut
import Derived.Deep.DeepHandedRow
import Derived.Deep.DeepWitnessRowRef
import Derived.Test.YtopjpnhgnopbiaaGreatDoorLSound
import Derived.Test.YtopjpnhgnopbiaaGreatDoorLJV
set_option linter.unusedVariables false
set_option linter.unusedSimpArgs false
set_option linter.unnecessarySimpa false
namespace Go.Proofs.YtopjpnhgnopbiaaGreatDoor.esiparseLong
open Go.ChangeShapes Go.WideShapes Go.ChangeAt Go.RowKit Go.Ai
set_option maxRecDepth 100000
theorem own : ownKnob Tryz.prog.godebug = none := by kernel_rfl
theorem laidOut : laidOutB Tryz.prog = true := by kernel_rfl
theorem space : (Rows.laid_strings_asciiSpace : DataW Unit) = Lib.tabData .u8 Lib.asciiSpaceTab := by kernel_rfl
theorem lawful : CO AI 4 (ni Tryz.prog [5, 5]) := by
  intro l h K ht; obtain ⟨hf, hk⟩ := ht
  match hl : B7 AI 4 l, hf with
  | [x, y], ⟨⟨_, h0⟩, ⟨_, h1⟩, _⟩ =>
    obtain ⟨a, ha, rfl⟩ := fN h0; obtain ⟨b, hb, rfl⟩ := fN h1; exact Rx.c4 l h K ⟨a, b, ha, hb, hl, hk⟩
theorem eX (H : Type) (enc : TypeId × Value -> H) (W : World) (base : Nat) (args : Array Value) (ds gs : List (DataW H)) (before : List MemPlace)
    (HU : ∀ (j : Nat) t v, Tryz.f4.params[j]? = some t -> args[j]? = some v -> Value.okWide Tryz.prog W .any base t v)
    (hW : DataW.Whole enc Tryz.prog Tryz.f4.params.toList Rows.esiparseLongSpec.vars false W args.toList ds gs before) (hL : laidMetH Tryz.prog Rows.esiparseLongRow.laid W) (gi : W.ShapedOpen Tryz.prog) :
    Calls Tryz.prog 4 args W fun e W' => ∃ v, e = .returned v /\ Rows.esiparseLongSpec.post enc Tryz.prog Tryz.f4 false true false false W args v W' := by
  have uD := hW; obtain ⟨p, q, yI, hV, rfl, vU, YE⟩ := hW
  have hA : DataW.TrodAll enc Tryz.prog W 0 (fun _ => true) true Tryz.f4.params.toList args.toList ds p := yI
  obtain ⟨rfl, rfl⟩ := trodVars_none hV; simp only [List.append_nil] at uD; have yH : laidMet Tryz.prog Rows.esiparseLongRow.laid W := hL
  have hI : Inv W := kR gi yH (by rw [<- space]; simp [Rows.esiparseLongRow])
  have hB := fy hI
  have fc : ∀ x ∈ p, x.block < W.heap.size := fun x hx => by simpa using uD.lt x hx
  have Wc : Tryz.f4.params.toList = [5, 5] := rfl
  obtain ⟨vs, hf, hr⟩ := RX (P := Tryz.prog) Yz (ts := [5, 5]) (args := args.toList) (by decide) (fun j t v hj hv => HU j t v (by rw [<- Wc] at hj; simpa using hj) (by simpa using hv)) (by rw [<- Wc]; exact hA)
  have hw := cm (C := AI) (XF (B0 := W.heap.size) hB) lawful (by kernel_rfl) (by kernel_rfl) hI (Nat.le_refl _) (fun g cs h => by cases h) hf hr
  refine hw.mono fun e W' ⟨he, hg⟩ => ?_
  subst he
  have DJ : ∀ sp : Nat -> Bool, (∀ x ∈ p, sp x.block = true) -> DataW.TrodAll enc Tryz.prog W' 0 sp true Tryz.f4.params.toList args.toList ds p := fun sp D9 => by
    rw [Wc]
    exact RW laidOut (ts := [5, 5]) (by intro t ht; simp only [List.mem_cons, List.not_mem_nil, or_false] at ht; rcases ht with rfl | rfl <;> exact ⟨by kernel_rfl, of_decide_eq_true (by kernel_rfl)⟩) (by rw [<- Wc]; exact hA) (fun x hx => hg.same (fc x hx)) D9
  have Gv : ∃ a b, ds = [a, b] := by
    rw [Wc] at hA; obtain ⟨v, v', d, d', p0, p1, -, rfl, -⟩ := trodAll_two hA; exact ⟨d, d', rfl⟩
  obtain ⟨a, b, rfl⟩ := Gv
  exact ⟨_, rfl, QA (pa := p) (pv := []) uD (fun _ _ _ => (trodAll_cons_mk (shut_bool Tryz.underlying4 _) trodAll_mk0)) (fun sp D9 => DJ sp (by simpa using D9)) (fun _ _ => rfl) (by simp)
    hg (ok_one (by kernel_rfl) rfl (okWide_bool_mk Tryz.underlying4 _))⟩
def kO : DataW Unit -> Value
  | .lit (.int k n) => .int k n
  | _ => .bool false
def nJ : DataW Unit -> List Value
  | .agg ds => ds.map kO
  | d => [kO d]
def iq : DataW Unit -> List Value
  | .agg ds => (ds.map nJ).flatten
  | d => [kO d]
/-- A world for pX witness: pX settled one and two blocks more (pX ranges of jb, and mS table); pX lp hold vw mS gb lay. -/
noncomputable def JN (os : Os) : World :=
  let N := (World.settled Tryz.prog os).heap.size
  let w0 := World.holding Tryz.prog os ⟨#[.cells (Lib.whiteT.map fun (z : Nat) => Value.int .u16 (z : Int)).toArray 195, .cells #[.slice (some ⟨N, 0, none⟩) 7 7, .slice none 0 0, .int .i64 2] 192], #[], []⟩
  let put (h : Array Obj) (g : Nat) (cs : Array Value) : Array Obj := h.modify g fun
    | .cells _ t frozen => .cells cs t frozen
    | o => o
  { w0 with heap := put (put (put (put w0.heap 2 (Lib.asciiSpaceTab.map fun z => Value.int .u8 z).toArray) 3 #[.pointer (some ⟨N + 1, 0, none⟩)]) 4 (iq Rows.laid_unicode_utf8_first).toArray) 5 (iq Rows.laid_unicode_utf8_acceptRanges).toArray }
theorem cq (os : Os) (args : Array Value) : laidMet Tryz.prog Rows.esiparseLongRow.laid ((JN os).forCall (fun _ _ => 0) ⟨#[], args, []⟩).memory :=
  laidMet_of_run' 10 (by kernel_rfl) (by kernel_rfl)
theorem TI (os : Os) {H : Type} (enc : TypeId × Value -> H) :
    (OpenSpec.ofChange Rows.esiparseLongSpec).preRow enc Tryz.prog Tryz.f4 Rows.esiparseLongRow.domain false Rows.esiparseLongRow.laid ((JN os).forCall (fun _ _ => 0) ⟨#[], #[.int .u8 0, .int .u8 0], []⟩).memory #[.int .u8 0, .int .u8 0] := by
  have hw : (DataW.whole enc Tryz.prog ((JN os).forCall (fun _ _ => 0) ⟨#[], #[.int .u8 0, .int .u8 0], []⟩).memory Tryz.f4.params.toList Rows.esiparseLongSpec.vars false (#[.int .u8 0, .int .u8 0] : Array Value).toList 8).map (fun x => (x.1, x.2.1)) =
      some ([.lit (.int .u8 0), .lit (.int .u8 0)], []) := by kernel_rfl
  obtain ⟨⟨x1, x2, x3⟩, hx, HB⟩ := Option.map_eq_some_iff.1 hw; simp only [Prod.mk.injEq] at HB; obtain ⟨rfl, rfl⟩ := HB
  exact OpenSpec.preRow_of_cond 8 hx (by kernel_rfl) (fun k hk => by cases hk) (by kernel_rfl) (cq os _)
set_option maxRecDepth 100000 in
theorem lifted (os : Os) (started : os.Started) (H : Type) (enc : TypeId × Value -> H) (F : Stop.Interp) :
    ReturnsInHanded {} Tryz.checked os 4 .any ((OpenSpec.ofChange Rows.esiparseLongSpec).preRow enc Tryz.prog Tryz.f4 Rows.esiparseLongRow.domain false Rows.esiparseLongRow.laid) (((OpenSpec.ofChange Rows.esiparseLongSpec).at F).post enc Tryz.prog Tryz.f4 false true false false) := by
  refine returnsInHanded_of_row (C := Tryz.checked) (s := OpenSpec.ofChange Rows.esiparseLongSpec) own started (by kernel_rfl) Tryz.func4
    (witness_row_atRef (enc := enc) (C := Tryz.checked) false (JN os) #[.int .u8 0, .int .u8 0] rfl (by kernel_rfl) (by kernel_rfl) (by kernel_rfl) (TI os enc)) ?_
  intro W base args ds gs before HU hW _ _ _ hL gi _; exact eX H enc W base args ds gs before HU hW hL gi
theorem said : Rows.EsiparseLongSaid :=
  OpenClaim.holds_of_cond 4 Tryz.f4 rfl rfl rfl rfl rfl rfl rfl ⟨rfl, rfl, rfl, rfl, rfl⟩ rfl rfl rfl rfl rfl (by kernel_rfl) Tryz.func4 (by kernel_rfl)
    (of_decide_eq_true (by kernel_rfl)) (by unfold Func.isWrapper; first | (rw [if_pos (by decide +kernel)]; kernel_rfl) | (rw [if_neg (by decide +kernel)]; exact ⟨rfl, rfl⟩))
    (fun os started H enc _ F => by rw [OpenClaim.pre_eq_preRow]; exact lifted os started H enc F)
theorem je : Tryz.prog.wantsStandIn 5 = false := by kernel_rfl
/-- No parameter uk a uu-in; pX lq own looks zS off. -/
theorem plain (f : FuncId) (fn : Func) (hf : Tryz.pinned.checked.prog.funcNamed Rows.esiparseLongRow.func = some f) (Mu : Tryz.pinned.checked.prog.funcs[f]? = some fn) :
    true = Tryz.pinned.checked.prog.looks [] /\ ∀ (j : Nat) t, fn.params[j]? = some t -> Tryz.pinned.checked.prog.wantsStandIn t = false := by
  obtain rfl : f = 4 := Option.some.inj ((show Tryz.prog.funcNamed Rows.esiparseLongRow.func = some 4 by kernel_rfl).symm.trans hf) |>.symm
  obtain rfl : fn = Tryz.f4 := (Option.some.inj (Tryz.func4.symm.trans Mu)).symm
  refine ⟨by kernel_rfl, fun j t ht => ?_⟩
  have hm : t ∈ Tryz.f4.params.toList := by
    have := List.mem_of_getElem? (by simpa using ht : Tryz.f4.params.toList[j]? = some t)
    exact this
  have Wc : Tryz.f4.params.toList = [5, 5] := rfl; rw [Wc] at hm; simp only [List.mem_cons, List.not_mem_nil, or_false] at hm
  rcases hm with rfl | rfl <;> first
    | exact je
/-- zV zE -/
theorem card : Rows.EsiparseLongCardSaid :=
  Claim7.holds_tied_plain_at .later [] _ _ _ _ said (fun _ h => by cases h) (by kernel_rfl) (fun _ h => by cases h) esiparseLong_row_tie rfl ⟨rfl, rfl⟩ (by kernel_rfl) rfl plain (by kernel_rfl)
end Go.Proofs.YtopjpnhgnopbiaaGreatDoor.esiparseLong
