/-
  Library functions as primitives: tables, and what each owes.
-/
import Derived.Test.YtnncfdlpogjlkaaDoorQAiData
import Derived.Lib.IndexMore
import Derived.Laws.Externs
namespace Go.Ai
set_option linter.unusedVariables false
set_option linter.unusedSimpArgs false
set_option linter.unnecessarySimpa false
open Go.RowKit

def lookN {α : Type} (f : Nat) : List (Nat × α) → Option α
  | [] => none
  | (k, g) :: r => bif Nat.beq f k then some g else lookN f r

theorem lookN_mem {α : Type} {f : Nat} {g : α} : ∀ {l : List (Nat × α)}, lookN f l = some g → (f, g) ∈ l
  | [], h => by simp [lookN] at h
  | (k, g') :: r, h => by
    simp only [lookN] at h
    cases hb : Nat.beq f k with
    | true =>
      rw [hb] at h
      simp only [cond_true, Option.some.injEq] at h
      have := Nat.eq_of_beq_eq_true hb
      subst this; subst h
      simp
    | false =>
      rw [hb] at h
      exact List.mem_cons_of_mem _ (lookN_mem h)

def PrimSpec (P : Program) (G : Nat → Option (List AV)) (I : World → Prop) (B0 : Nat) (k : Nat) (g : List AV → Option (Bool × AV)) : Prop :=
  ∀ vs v, g vs = some (true, v) → ∀ (E : Env) (args : List Value), E.h = [] → E.B = E.w.heap.size → Good G I B0 E → Rels E vs args →
    Calls P k args.toArray E.w (fun e w' => ∃ c, e = .returned c ∧ Below E.w.heap.size E.w w' ∧ Rel { E with w := w' } v c)

def HPrimSpec (P : Program) (G : Nat → Option (List AV)) (I : World → Prop) (B0 : Nat) (k : Nat) (g : List AV → Hp → Option (AV × Hp)) : Prop :=
  ∀ vs h v h', g vs h = some (v, h') → ∀ (E : Env) (args : List Value), E.h = h → Good G I B0 E → Rels E vs args → Calls P k args.toArray E.w (CallPost G I B0 E v h')

theorem ident_noEscape {P : Program} {f : FuncId} {fn : Func} (hf : P.funcs[f]? = some fn) (hname : (fn.name == "runtime.NumGoroutine") = false) (hb : fn.body.isNone = true) (hn : Extern.findNext fn = none) (he : Extern.find fn = some Extern.AbiNoEscape.same) (x : Value) (w : World) :
    (callFunc f #[x]).run P w = .ok (.value x) w := by
  rw [run_callFunc_extern hf hname hb hn (e := Extern.AbiNoEscape.same) he]
  rfl

def pContains : List AV → Option (Bool × AV)
  | [.str s, .str x] => some (Nat.blt s.length 4294967281, .bool (contB s x))
  | _ => none

theorem contB_eq : ∀ s x : List UInt8, contB s x = Lib.contains s x
  | [], x => by cases x <;> rfl
  | c :: r, x => by
    rw [contB, contB_eq r x, Lib.contains, Lib.contains, Lib.index]
    cases h : x.isPrefixOf (c :: r) with
    | true => simp
    | false =>
      have := Lib.index_spec r x
      simp only [Bool.false_or, Bool.false_eq_true, if_false]
      by_cases h1 : Lib.index r x = -1
      · simp [h1]
      · have h2 : (Lib.index r x == -1) = false := by simpa using h1
        simp only [h2, Bool.false_eq_true, if_false]
        rcases this with ⟨h3, _⟩ | ⟨i, h3, _⟩
        · exact absurd h3 h1
        · rw [h3]
          apply Bool.eq_iff_iff.2
          simp only [decide_eq_true_eq]
          omega

section
variable {P : Program} {G : Nat → Option (List AV)} {I : World → Prop} {B0 : Nat}

theorem pContains_ok {k : Nat} (hc : ∀ (s sub : ByteArray) (w : World), I w → s.size < 4294967281 → Calls P k #[.string s, .string sub] w (fun e w' => e = .returned (.bool (Lib.contains s.data.toList sub.data.toList)) ∧ w' = w)) : PrimSpec P G I B0 k pContains := by
  intro vs v hg E args hE hEB H hr
  unfold pContains at hg
  split at hg
  · rename_i s x
    simp only [Option.some.injEq, Prod.mk.injEq] at hg
    obtain ⟨h1, rfl⟩ := hg
    obtain ⟨a, r, rfl, rfl, b, r2, rfl, rfl, rfl⟩ := hr
    refine (hc ⟨s.toArray⟩ ⟨x.toArray⟩ E.w H.I (Nat.le_of_ble_eq_true h1)).mono fun e w' hp => ?_
    obtain ⟨rfl, rfl⟩ := hp
    exact ⟨_, rfl, Below.refl _ _, by simp [Rel, contB_eq]⟩
  · cases hg

end
end Go.Ai
