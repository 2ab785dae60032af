/-
  FramingOnly returns true, at every start and for every argument of bulk at most 1048576 that its row and its card speak of; the arguments read behind the call as before.
-/
import Derived.Test.YtnncfdlpogjlkaaDoorCards
import Derived.Test.YtnncfdlpogjlkaaDoorTie
import Derived.WalkKit
import Derived.ProofKit
import Derived.OpenShut
import Derived.Deep.DeepHandedRow
import Derived.Deep.DeepWitnessRowRef
import Derived.Test.YtnncfdlpogjlkaaDoorSound
import Derived.Test.YtnncfdlpogjlkaaDoorJMe
namespace Go.Proofs.YtnncfdlpogjlkaaDoor.framingOnlyUpto
open Go.ChangeShapes Go.WideShapes Go.ChangeAt Go.RowKit Go.Ai
set_option linter.unusedVariables false
set_option maxRecDepth 100000

theorem own : ownKnob Tryd.prog.godebug = none := by kernel_rfl
theorem laidOut : laidOutB Tryd.prog = true := by kernel_rfl

/-- A law's call, at arguments of which more is known. -/
theorem walk5 {B0 : Nat} (S : Sound cfg Inv B0) {W : World} {l : List Fld} {f : Fld} {k : Nat} {args : List Value} (hI : Inv W) (hB : B0 ≤ W.heap.size)
    (glob : ∀ g cs, cfg.G g = some cs → At (Go.Ai.start W) cs ⟨g, 0, none⟩) (hfit : fitN l) (h1 : f.name.length ≤ lim) (h2 : f.value.length ≤ lim) (hk : k < 256)
    (hargs : Rels (Go.Ai.start W) [.sl 2 (encFs l) none, .agg [.str f.name, .str f.value], .int .u8 k] args) :
    Calls cfg.P 5 args.toArray W (fun e w' => e = .returned (.bool true) ∧ Below W.heap.size W w') := by
  have hp : pureV.pureVs [.sl 2 (encFs l) none, .agg [.str f.name, .str f.value], .int .u8 (k : Int)] = true := by simp [pureV.pureVs, pureV, pure_encFs]
  have ha : argsOf cfg 5 [.sl 2 (encFs l) none, .agg [.str f.name, .str f.value], .int .u8 (k : Int)] = [.sl 2 (encFs l) none, .agg [.str f.name, .str f.value], .int .u8 (k : Int)] := by
    have hk : cfg.hprim 5 = none := by kernel_rfl
    have hh : cfg.heap 5 = false := by kernel_rfl
    simp [argsOf, hk, hh, strips_pure 0 [] _ hp]
  obtain ⟨v, h', ⟨n0, hr⟩, hv⟩ := c5 _ [] (fun v h' => v = .bool true) (by rw [ha]; exact ⟨l, f, k, hfit, h1, h2, hk, rfl, rfl⟩)
  subst hv
  exact run_true S (n := n0) (by rw [hr n0 (Nat.le_refl _)]; rfl) hI hB glob hargs

/-- How long the texts of a field are that is read. -/
theorem bulk_str {H : Type} {n : Nat} {d : DataW H} {xs : List AV} (h : absD Tryd.prog n 9 d = some xs) : ∃ s : List UInt8, xs = [.str s] ∧ s.length ≤ Rows.uptoBulk d := by
  cases n with
  | zero => simp [absD] at h
  | succ n =>
    unfold absD at h
    rw [Tryd.underlying9] at h
    cases d with
    | lit l =>
      cases l with
      | string b =>
        simp only [Option.some.injEq] at h
        exact ⟨b, h.symm, by simp [Rows.uptoBulk]⟩
      | _ => simp at h
    | _ => simp at h
theorem bulk_fld {H : Type} {n : Nat} {d : DataW H} {a b : List UInt8} (h : absD Tryd.prog n 38 d = some [.str a, .str b]) : a.length ≤ Rows.uptoBulk d ∧ b.length ≤ Rows.uptoBulk d := by
  cases n with
  | zero => simp [absD] at h
  | succ n =>
    unfold absD at h
    rw [Tryd.underlying38] at h
    cases d with
    | agg parts =>
      simp only at h
      cases hc : (chain Tryd.prog _ 0 (Tryd.prog.cellsOf 38) && Nat.beq parts.length _) with
      | false => rw [hc] at h; cases h
      | true =>
        rw [hc] at h
        rw [Bool.and_eq_true] at hc
        have hl := Nat.eq_of_beq_eq_true hc.2
        match parts, hl with
        | [d1, d2], _ =>
          simp only [cond_true, List.zip_cons_cons, List.zip_nil_right, List.mapM_cons, List.mapM_nil] at h
          cases h1 : absD Tryd.prog n 9 d1 with
          | none => simp [h1] at h
          | some x1 =>
            cases h2 : absD Tryd.prog n 9 d2 with
            | none => simp [h1, h2] at h
            | some x2 =>
              simp [h1, h2] at h
              obtain ⟨s1, rfl, q1⟩ := bulk_str h1
              obtain ⟨s2, rfl, q2⟩ := bulk_str h2
              simp at h
              obtain ⟨rfl, rfl⟩ := h
              simp only [Rows.uptoBulk, Rows.uptoBulkAll]
              omega
    | _ => simp at h
theorem fld_small {H : Type} {enc : TypeId × Value → H} {W : World} {v : Value} {d : DataW H} {ps : List MemPlace} {sp : Nat → Bool} {held : Bool} (h : DataW.Trod enc Tryd.prog W 0 sp held 38 v d ps) {f : Fld} (hr : Rel (Go.Ai.start W) (.agg [.str f.name, .str f.value]) v) :
    f.name.length ≤ Rows.uptoBulk d ∧ f.value.length ≤ Rows.uptoBulk d := by
  obtain ⟨fuel, h⟩ := h
  obtain ⟨xs, h1, h2⟩ := trod_wt plainS_ok fuel 38 _ d ps (by decide) h
  have h3 := trod_rel fuel fuel 38 _ d ps xs h h1
  obtain ⟨g, _, _, rfl⟩ := wt_field h2
  have hr' : ∃ cs, v = .agg cs ∧ Rels1 (Go.Ai.start W) [.str f.name, .str f.value] cs.toList := hr
  obtain ⟨cs, rfl, hr'⟩ := hr'
  have e : (Value.agg cs).cells = cs := rfl
  rw [e] at h3
  obtain ⟨u1, r1, e1, _, q1, u2, r2, e2, _, q2, e3⟩ := hr'
  obtain ⟨w1, t1, g1, _, p1, w2, t2, g2, _, p2, g3⟩ := h3
  rw [e1] at g1
  injection g1 with g1 g1'
  subst g1; subst g1'
  rw [e2] at g2
  injection g2 with g2 g2'
  subst g2
  have a1 : u1 = .string ⟨f.name.toArray⟩ := q1
  have b1 : u1 = .string ⟨g.name.toArray⟩ := p1
  have a2 : u2 = .string ⟨f.value.toArray⟩ := q2
  have b2 : u2 = .string ⟨g.value.toArray⟩ := p2
  have n1 : f.name = g.name := by
    rw [a1] at b1
    injection b1 with b1
    injection b1 with b1
    simpa using b1
  have n2 : f.value = g.value := by
    rw [a2] at b2
    injection b2 with b2
    injection b2 with b2
    simpa using b2
  have := bulk_fld (a := g.name) (b := g.value) h1
  rw [n1, n2]
  exact this

theorem contract (H : Type) (enc : TypeId × Value → H) (W : World) (base : Nat) (args : Array Value) (ds gs : List (DataW H)) (before : List MemPlace)
    (hsm : Rows.uptoBulkAll ds ≤ 1048576) (hval : ∀ (j : Nat) t v, Tryd.f5.params[j]? = some t → args[j]? = some v → Value.okWide Tryd.prog W .any base t v)
    (hW : DataW.Whole enc Tryd.prog Tryd.f5.params.toList Rows.framingOnlySpec.vars false W args.toList ds gs before) (hL : laidMetH Tryd.prog Rows.framingOnlyUptoRow.laid W) (hsh : W.ShapedOpen Tryd.prog) :
    Calls Tryd.prog 5 args W fun e W' => ∃ v, e = .returned v ∧ Rows.framingOnlySpec.post enc Tryd.prog Tryd.f5 false true false false W args v W' := by
  have hW' := hW
  obtain ⟨p, q, hA0, hV, rfl, hfz, hnd⟩ := hW
  have hA : DataW.TrodAll enc Tryd.prog W 0 (fun _ => true) true Tryd.f5.params.toList args.toList ds p := hA0
  obtain ⟨rfl, rfl⟩ := trodVars_none hV
  simp only [List.append_nil] at hW'
  have hL' : laidMet Tryd.prog Rows.framingOnlyUptoRow.laid W := hL
  have hI : Inv W := inv_of hsh hL' (List.Mem.tail _ (List.Mem.tail _ (List.Mem.tail _ (List.Mem.tail _ (List.Mem.tail _ (List.Mem.head _)))))) (List.Mem.tail _ (List.Mem.tail _ (List.Mem.tail _ (List.Mem.tail _ (List.Mem.head _)))))
  have hB := size_of hI
  have hpl : ∀ x ∈ p, x.block < W.heap.size := fun x hx => by simpa using hW'.lt x hx
  have hpar : Tryd.f5.params.toList = [22, 38, 5] := rfl
  obtain ⟨vs, hf, hr⟩ := args_open (P := Tryd.prog) plainS_ok (ts := [22, 38, 5]) (args := args.toList) (by decide) (fun j t v hj hv => hval j t v (by rw [← hpar] at hj; simpa using hj) (by simpa using hv)) (by rw [← hpar]; exact hA)
  have hw : Calls cfg.P 5 args W (fun e w' => e = .returned (.bool true) ∧ Below W.heap.size W w') := by
    match vs, hf, hr with
    | [x, y, z], ⟨⟨_, h0⟩, ⟨_, h1⟩, ⟨_, h2⟩, _⟩, hr =>
      obtain ⟨a, _, ha, rfl⟩ := arg_fields h0
      obtain ⟨b, hb, hb', rfl⟩ := arg_field h1
      obtain ⟨c, hc, rfl⟩ := arg_u8 h2
      have hA3 := hA
      rw [hpar] at hA3
      obtain ⟨v, v', v'', d, d', d'', p0, p1, p2, hargs, rfl, -, hd0, hd1, hd2⟩ := trodAll_three hA3
      have hy : Rel (Go.Ai.start W) (.agg [.str b.name, .str b.value]) v' := by
        obtain ⟨u0, r0, e0, _, u1, r1, e1, q1, _⟩ := hr
        have e2 : [v, v', v''] = u0 :: r0 := by rw [← e0, hargs]
        rw [e1] at e2
        simp only [List.cons.injEq] at e2
        rw [e2.2.1]
        exact q1
      obtain ⟨s1, s2⟩ := fld_small hd1 hy
      have hsm' : Rows.uptoBulk d' ≤ 1048576 := by
        simp only [Rows.uptoBulkAll] at hsm
        omega
      have := walk5 (f := b) (k := c) (args := args.toList) (cfg_sound (B0 := W.heap.size) hB) hI (Nat.le_refl _) (fun g cs h => glob_at hL' (i := 1) rfl (by kernel_rfl) g cs h) (l := a) (fun f hf => by have := (ha f hf).1; unfold maxLen at this; omega) (by unfold lim; omega) (by unfold lim; omega) hc hr
      simpa using this
  refine hw.mono fun e W' ⟨he, hg⟩ => ?_
  subst he
  have hst : ∀ sp : Nat → Bool, (∀ x ∈ p, sp x.block = true) → DataW.TrodAll enc Tryd.prog W' 0 sp true Tryd.f5.params.toList args.toList ds p := fun sp hsp => by
    rw [hpar]
    exact args_stay laidOut (ts := [22, 38, 5]) (by intro t ht; simp only [List.mem_cons, List.not_mem_nil, or_false] at ht; rcases ht with rfl | rfl | rfl <;> exact ⟨by kernel_rfl, of_decide_eq_true (by kernel_rfl)⟩) (by rw [← hpar]; exact hA) (fun x hx => hg.same (hpl x hx)) hsp
  have hds : ∃ a b c, ds = [a, b, c] := by
    rw [hpar] at hA
    obtain ⟨v, v', v'', d, d', d'', p0, p1, p2, -, rfl, -⟩ := trodAll_three hA
    exact ⟨d, d', d'', rfl⟩
  obtain ⟨a, b, c, rfl⟩ := hds
  exact ⟨_, rfl, post_of_below (pa := p) (pv := []) hW' (fun _ _ _ => (trodAll_cons_mk (shut_bool Tryd.underlying4 _) trodAll_mk0)) (fun sp hsp => hst sp (by simpa using hsp)) (fun _ _ => rfl) (by simp)
    hg (ok_one (by kernel_rfl) rfl (okWide_bool_mk Tryd.underlying4 _))⟩

def litV : DataW Unit → Value
  | .lit (.int k n) => .int k n
  | _ => .bool false
def rowV1 : DataW Unit → List Value
  | .agg ds => ds.map litV
  | d => [litV d]
def rowV2 : DataW Unit → List Value
  | .agg ds => (ds.map rowV1).flatten
  | d => [litV d]
/-- A world for the witness: the settled one and two blocks more (the errors' texts); the variables hold what their initialisers lay. -/
noncomputable def laidWorld (os : Os) : World :=
  let N := (World.settled Tryd.prog os).heap.size
  let w0 := World.holding Tryd.prog os ⟨#[.cells #[.string ⟨#[105, 110, 118, 97, 108, 105, 100, 32, 115, 121, 110, 116, 97, 120]⟩] 172, .cells #[.string ⟨#[118, 97, 108, 117, 101, 32, 111, 117, 116, 32, 111, 102, 32, 114, 97, 110, 103, 101]⟩] 172], #[], []⟩
  let put (h : Array Obj) (g : Nat) (cs : Array Value) : Array Obj := h.modify g fun
    | .cells _ t frozen => .cells cs t frozen
    | o => o
  { w0 with heap := put (put (put (put (put (put (put w0.heap 2 #[.iface 170 (.pointer (some ⟨N, 0, none⟩))]) 3 #[.iface 170 (.pointer (some ⟨N + 1, 0, none⟩))]) 1 (rowV2 Rows.laid_internal_strconv_uint64pow10).toArray) 4 (rowV2 Rows.laid_unicode_utf8_first).toArray) 5 (rowV2 Rows.laid_unicode_utf8_acceptRanges).toArray) 6 (rowV2 Rows.laid_math_bits_deBruijn32tab).toArray) 7 (rowV2 Rows.laid_math_bits_deBruijn64tab).toArray }
theorem laid_met (os : Os) (args : Array Value) : laidMet Tryd.prog Rows.framingOnlyUptoRow.laid ((laidWorld os).forCall (fun _ _ => 0) ⟨#[], args, []⟩).memory :=
  laidMet_of_run' 10 (by kernel_rfl) (by kernel_rfl)
theorem witness_row (os : Os) {H : Type} (enc : TypeId × Value → H) :
    (Rows.OpenSpec.upto Rows.framingOnlySpec).preRow enc Tryd.prog Tryd.f5 Rows.framingOnlyUptoRow.domain false Rows.framingOnlyUptoRow.laid ((laidWorld os).forCall (fun _ _ => 0) ⟨#[], #[.slice none 0 0, .agg #[.string ⟨#[]⟩, .string ⟨#[]⟩], .int .u8 0], []⟩).memory #[.slice none 0 0, .agg #[.string ⟨#[]⟩, .string ⟨#[]⟩], .int .u8 0] := by
  have hw : (DataW.whole enc Tryd.prog ((laidWorld os).forCall (fun _ _ => 0) ⟨#[], #[.slice none 0 0, .agg #[.string ⟨#[]⟩, .string ⟨#[]⟩], .int .u8 0], []⟩).memory Tryd.f5.params.toList Rows.framingOnlySpec.vars false (#[.slice none 0 0, .agg #[.string ⟨#[]⟩, .string ⟨#[]⟩], .int .u8 0] : Array Value).toList 8).map (fun x => (x.1, x.2.1)) =
      some ([.nil, .agg [.lit (.string []), .lit (.string [])], .lit (.int .u8 0)], []) := by kernel_rfl
  obtain ⟨⟨x1, x2, x3⟩, hx, hx1⟩ := Option.map_eq_some_iff.1 hw
  simp only [Prod.mk.injEq] at hx1
  obtain ⟨rfl, rfl⟩ := hx1
  exact OpenSpec.preRow_of_cond 8 hx (by kernel_rfl) (fun k hk => by obtain rfl : Rows.uptoSmall = k := Option.some.inj hk; rfl) (by kernel_rfl) (laid_met os _)

set_option maxRecDepth 100000 in
theorem lifted (os : Os) (started : os.Started) (H : Type) (enc : TypeId × Value → H) (F : Stop.Interp) :
    ReturnsInHanded {} Tryd.checked os 5 .any ((Rows.OpenSpec.upto Rows.framingOnlySpec).preRow enc Tryd.prog Tryd.f5 Rows.framingOnlyUptoRow.domain false Rows.framingOnlyUptoRow.laid) (((Rows.OpenSpec.upto Rows.framingOnlySpec).at F).post enc Tryd.prog Tryd.f5 false true false false) := by
  refine returnsInHanded_of_row (C := Tryd.checked) (s := Rows.OpenSpec.upto Rows.framingOnlySpec) own started (by kernel_rfl) Tryd.func5
    (witness_row_atRef (enc := enc) (C := Tryd.checked) false (laidWorld os) #[.slice none 0 0, .agg #[.string ⟨#[]⟩, .string ⟨#[]⟩], .int .u8 0] rfl (by kernel_rfl) (by kernel_rfl) (by kernel_rfl) (witness_row os enc)) ?_
  intro W base args ds gs before hval hW _ hcond _ hL hsh _
  have hgs : gs = [] := by
    obtain ⟨p, q, _, hV, _⟩ := hW
    exact (trodVars_none hV).1
  subst hgs
  have hsm : Rows.uptoBulkAll ds ≤ 1048576 := by
    have := hcond Rows.uptoSmall rfl
    rw [List.append_nil] at this
    exact of_decide_eq_true this
  exact contract H enc W base args ds [] before hsm hval hW hL hsh

theorem said : Rows.FramingOnlyUptoSaid :=
  OpenClaim.holds_of_cond 5 Tryd.f5 rfl rfl rfl rfl rfl rfl rfl ⟨rfl, rfl, rfl, rfl, rfl⟩ rfl rfl rfl rfl rfl (by kernel_rfl) Tryd.func5 (by kernel_rfl)
    (of_decide_eq_true (by kernel_rfl)) (by unfold Func.isWrapper; first | (rw [if_pos (by decide +kernel)]; kernel_rfl) | (rw [if_neg (by decide +kernel)]; exact ⟨rfl, rfl⟩))
    (fun os started H enc _ F => by rw [OpenClaim.pre_eq_preRow]; exact lifted os started H enc F)

theorem wants5 : Tryd.prog.wantsStandIn 5 = false := by kernel_rfl
theorem wants22 : Tryd.prog.wantsStandIn 22 = false := by kernel_rfl
theorem wants38 : Tryd.prog.wantsStandIn 38 = false := by kernel_rfl

/-- No parameter wants a stand-in; the program's own looks are on. -/
theorem plain (f : FuncId) (fn : Func) (hf : Tryd.pinned.checked.prog.funcNamed Rows.framingOnlyUptoRow.func = some f) (hfn : Tryd.pinned.checked.prog.funcs[f]? = some fn) :
    true = Tryd.pinned.checked.prog.looks [] ∧ ∀ (j : Nat) t, fn.params[j]? = some t → Tryd.pinned.checked.prog.wantsStandIn t = false := by
  obtain rfl : f = 5 := Option.some.inj ((show Tryd.prog.funcNamed Rows.framingOnlyUptoRow.func = some 5 by kernel_rfl).symm.trans hf) |>.symm
  obtain rfl : fn = Tryd.f5 := (Option.some.inj (Tryd.func5.symm.trans hfn)).symm
  refine ⟨by kernel_rfl, fun j t ht => ?_⟩
  have hm : t ∈ Tryd.f5.params.toList := by
    have := List.mem_of_getElem? (by simpa using ht : Tryd.f5.params.toList[j]? = some t)
    exact this
  have hpar : Tryd.f5.params.toList = [22, 38, 5] := rfl
  rw [hpar] at hm
  simp only [List.mem_cons, List.not_mem_nil, or_false] at hm
  rcases hm with rfl | rfl | rfl <;> first
    | exact wants5
    | exact wants22
    | exact wants38

/-- THE CARD -/
theorem card : Rows.FramingOnlyUptoCardSaid :=
  Claim7.holds_tied_plain_at .later [] _ _ _ _ said (fun _ h => by cases h) (by kernel_rfl) (fun _ h => by cases h) framingOnlyUpto_row_tie rfl ⟨rfl, rfl⟩ (by kernel_rfl) rfl plain (by kernel_rfl)
end Go.Proofs.YtnncfdlpogjlkaaDoor.framingOnlyUpto
