/-
  From the evaluator to a call in a world; the shutting of a row.
-/
import Derived.Test.YtnncfdlpogjlkaaDoorQAiExec
import Derived.Below
import Derived.ChangeSame
namespace Go.Ai
set_option linter.unusedVariables false
set_option linter.unusedSimpArgs false
set_option linter.unnecessarySimpa false
open Go.RowKit

/-- What is looked at in a program once and for all: the functions that may be run. -/
def okFn (C : Cfg) (k : Nat) : Bool :=
  match C.P.funcs[k]? with
  | some fn => !(fn.name == "runtime.NumGoroutine") && (match fn.body with
    | some c => (C.hprim k).isSome || (C.prim k).isSome || okCode C.P fn.ntmps c
    | none => false)
  | none => false

def okAll (C : Cfg) (n : Nat) : Bool := (List.range n).all fun k => !C.ok k || okFn C k

section
variable {C : Cfg} {I : World → Prop} {B0 : Nat}

theorem okAll_fn {n : Nat} (h : okAll C n = true) (hn : ∀ k, C.ok k = true → k < n) {k : Nat} (hk : C.ok k = true) : okFn C k = true := by
  have := List.all_eq_true.1 h k (by simpa using hn k hk)
  simpa [hk] using this

theorem Sound.mk' (hI : ∀ w w', I w → Below B0 w w' → I w') (mixed : C.P.follows .mixedOrders = true) (ident : IdentOk C) (pureG : ∀ g cs, C.G g = some cs → pureV.pureVs cs = true) {n : Nat} (h : okAll C n = true) (hn : ∀ k, C.ok k = true → k < n)
    (hprims : ∀ k g vs h v h', C.ok k = true → C.hprim k = some g → g vs h = some (v, h') → ∀ (E : Env) (args : List Value), E.h = h → Good C.G I B0 E → Rels E vs args → Calls C.P k args.toArray E.w (CallPost C.G I B0 E v h'))
    (prims : ∀ k g vs v, C.ok k = true → C.prim k = some g → g vs = some (true, v) → ∀ (E : Env) (args : List Value), E.h = [] → E.B = E.w.heap.size → Good C.G I B0 E → Rels E vs args →
      Calls C.P k args.toArray E.w (fun e w' => ∃ c, e = .returned c ∧ Below E.w.heap.size E.w w' ∧ Rel { E with w := w' } v c)) : Sound C I B0 := by
  refine ⟨hI, mixed, pureG, ident, fun k hk => ?_, hprims, fun k fn c hk hhp hp hf hb => ?_, prims⟩
  · have := okAll_fn h hn hk
    unfold okFn at this
    cases hf : C.P.funcs[k]? with
    | none => rw [hf] at this; cases this
    | some fn =>
      rw [hf] at this
      simp only [Bool.and_eq_true, Bool.not_eq_true'] at this
      refine ⟨fn, hf, ?_, this.1⟩
      cases hb : fn.body with
      | none => rw [hb] at this; cases this.2
      | some c => rfl
  · have := okAll_fn h hn hk
    unfold okFn at this
    rw [hf] at this
    simp only [Bool.and_eq_true, hb, hp, hhp, Option.isSome_none, Bool.false_or] at this
    exact this.2

/-- The environment in which a call begins. -/
def start (W : World) : Env := { B := W.heap.size, U := fun _ _ => False, w := W, σ := fun _ => none, h := [] }

theorem start_good {W : World} (hI : I W) (hB : B0 ≤ W.heap.size) (glob : ∀ g cs, C.G g = some cs → At (start W) cs ⟨g, 0, none⟩) : Good C.G I B0 (start W) :=
  ⟨fun id x hx => by simp [start] at hx, fun i j x y g hi => by simp [start] at hi, glob, fun _ _ h => h.elim, Nat.le_refl _, hB, hI⟩

theorem run_top (S : Sound C I B0) {n k : Nat} {vs : List AV} {v : AV} {h' : Hp} (hx : call C false n k vs [] = .ok (v, h')) {W : World} {args : List Value} (hI : I W) (hB : B0 ≤ W.heap.size)
    (glob : ∀ g cs, C.G g = some cs → At (start W) cs ⟨g, 0, none⟩) (hargs : Rels (start W) vs args) :
    Calls C.P k args.toArray W (fun e w' => ∃ c E', e = .returned c ∧ Below W.heap.size W w' ∧ E'.w = w' ∧ Rel E' v c) := by
  obtain ⟨_, h⟩ := (calls_ok S false n).2 k vs [] v h' hx
  refine (h (start W) args rfl (start_good hI hB glob) hargs).mono fun e w' hp => ?_
  obtain ⟨c, E', rfl, rfl, St, _, hr⟩ := hp
  exact ⟨c, E', rfl, St.below, rfl, hr⟩

def isTrue : Except (List Nat) (AV × Hp) → Bool
  | .ok (.bool true, _) => true
  | _ => false

theorem run_true (S : Sound C I B0) {n k : Nat} {vs : List AV} (hx : isTrue (call C false n k vs []) = true) {W : World} {args : List Value} (hI : I W) (hB : B0 ≤ W.heap.size)
    (glob : ∀ g cs, C.G g = some cs → At (start W) cs ⟨g, 0, none⟩) (hargs : Rels (start W) vs args) :
    Calls C.P k args.toArray W (fun e w' => e = .returned (.bool true) ∧ Below W.heap.size W w') := by
  unfold isTrue at hx
  split at hx
  · rename_i h' hc
    refine (run_top S hc hI hB glob hargs).mono fun e w' hp => ?_
    obtain ⟨c, E', rfl, hb, _, hr⟩ := hp
    simp only [Rel] at hr
    subst hr
    exact ⟨rfl, hb⟩
  · cases hx

end

/-- Is a string in another one? -/
def contB : List UInt8 → List UInt8 → Bool
  | [], x => x.isEmpty
  | c :: r, x => x.isPrefixOf (c :: r) || contB r x

section
open Go.WideShapes Go.ChangeShapes
variable {H : Type} {enc : TypeId × Value → H} {P : Program}
theorem post_of_below {f : Func} {s : ChangeSpec} {apart fresh handsOn again : Bool} {W W' : World} {args : Array Value} {v : Value} {ds gs : List (DataW H)} {before pa pv : List MemPlace}
    (hW : DataW.Whole enc P f.params.toList s.vars apart W args.toList ds gs before)
    (hres : ∀ (b : Nat) (sp : Nat → Bool) (hd : Bool), DataW.TrodAll enc P W' b sp hd f.resultTypes.toList (v.resultList f.resultTypes.size) (s.fn H (ds ++ gs)).results [])
    (hargs : ∀ sp : Nat → Bool, (∀ p ∈ before, sp p.block = true) → DataW.TrodAll enc P W' 0 sp true f.params.toList args.toList (s.fn H (ds ++ gs)).args pa)
    (hvars : ∀ sp : Nat → Bool, (∀ p ∈ before, sp p.block = true) → DataW.TrodVars enc P W' sp s.vars (s.fn H (ds ++ gs)).vars pv)
    (hps : before = pa ++ pv) (hb : Below W.heap.size W W')
    (hok : ∀ (j : Nat) (t : TypeId) (r : Value), f.resultTypes[j]? = some t → (v.resultList f.resultTypes.size)[j]? = some r → Value.okWide P W' .any 0 t r) :
    s.post enc P f apart fresh handsOn again W args v W' := by
  have hlt : ∀ p ∈ before, p.block < W.heap.size := fun p hp => hW.lt p hp
  have hold : ∀ p ∈ before, (fun b => decide (b < W.heap.size)) p.block = true := fun p hp => by simpa using hlt p hp
  refine ⟨ds, gs, before, [], pa, pv, hW, hres _ _ _, hargs _ hold, hvars _ hold, World.keptBut_mono (fun p hp => ⟨hp, ?_⟩) (hb.frame (· ∈ before)), fun _ => ?_⟩
  · rw [hps, List.mem_append] at hp
    exact Or.inr hp
  · obtain ⟨_, _, _, _, _, hz, hn⟩ := hW
    refine ⟨hok, _, _, ([] ++ pa) ++ pv, ⟨[] ++ pa, pv, trodAll_append (hargs _ (fun _ _ => rfl)) (hres _ _ _), hvars _ (fun _ _ => rfl), rfl, ?_, ?_⟩, ?_⟩
    · intro b off hp
      have hin : MemPlace.cell b off ∈ before := by rw [hps]; simpa using hp
      rw [hb.frozen (hlt _ hin)]
      exact hz b off hin
    · intro ha
      have := hn ha
      rw [hps] at this
      simpa using this
    · intro p hp _
      rw [hps]
      simpa using hp
end
end Go.Ai
