/-
  Library functions as primitives: tables, and what each owes.
-/
import Derived.Test.YtnncfdlpogjlkaaGreatDoorLAiData
import Derived.Lib.IndexMore
import Derived.Laws.Externs
set_option linter.unusedVariables false
set_option linter.unusedSimpArgs false
set_option linter.unnecessarySimpa false
namespace Go.Ai
open Go.RowKit
def lookN {α : Type} (f : Nat) : List (Nat × α) → Option α
  | [] => none
  | (k, g) :: r => bif Nat.beq f k then some g else lookN f r
theorem lookN_mem {α : Type} {f : Nat} {g : α} : ∀ {l : List (Nat × α)}, lookN f l = some g → (f, g) ∈ l
  | [], h => by simp [lookN] at h
  | (k, g') :: r, h => by
    simp only [lookN] at h
    cases hb : Nat.beq f k with
    | true =>
      rw [hb] at h; simp only [cond_true, Option.some.injEq] at h; have := Nat.eq_of_beq_eq_true hb; subst this; subst h; simp
    | false =>
      rw [hb] at h; exact List.mem_cons_of_mem _ (lookN_mem h)
def PrimSpec (P : Program) (G : Nat → Option (List AV)) (I : World → Prop) (B0 : Nat) (k : Nat) (g : List AV → Option (Bool × AV)) : Prop :=
  ∀ vs v, g vs = some (true, v) → ∀ (E : Env) (args : List Value), E.h = [] → E.B = E.w.heap.size → Good G I B0 E → Rels E vs args →
    Calls P k args.toArray E.w (fun e w' => ∃ c, e = .returned c ∧ Below E.w.heap.size E.w w' ∧ Rel { E with w := w' } v c)
def HPrimSpec (P : Program) (G : Nat → Option (List AV)) (I : World → Prop) (B0 : Nat) (k : Nat) (g : List AV → Hp → Option (AV × Hp)) : Prop :=
  ∀ vs h v h', g vs h = some (v, h') → ∀ (E : Env) (args : List Value), E.h = h → Good G I B0 E → Rels E vs args → Calls P k args.toArray E.w (CallPost G I B0 E v h')
theorem ident_noEscape {P : Program} {f : FuncId} {fn : Func} (hf : P.funcs[f]? = some fn) (hname : (fn.name == "runtime.NumGoroutine") = false) (hb : fn.body.isNone = true) (hn : Extern.findNext fn = none) (he : Extern.find fn = some Extern.AbiNoEscape.same) (x : Value) (w : World) :
    (callFunc f #[x]).run P w = .ok (.value x) w := by
  rw [run_callFunc_extern hf hname hb hn (e := Extern.AbiNoEscape.same) he]; rfl
section
variable {P : Program} {G : Nat → Option (List AV)} {I : World → Prop} {B0 : Nat}
end
end Go.Ai
