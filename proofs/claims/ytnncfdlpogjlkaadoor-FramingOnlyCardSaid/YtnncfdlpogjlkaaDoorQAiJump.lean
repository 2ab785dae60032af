/-
  Scopes in which the run jumps.
-/
import Derived.Test.YtnncfdlpogjlkaaDoorQAiStrip
import Derived.ScopeJumps
namespace Go.Ai
set_option linter.unusedVariables false
set_option linter.unusedSimpArgs false
set_option linter.unnecessarySimpa false
open Go.RowKit

/-- As many passes through a scope's rest as a number says. -/
def Exit.jumping (c : Code) (K : Code → Act → World → Prop) (Q : Exit → Act → World → Prop) : Exit → Act → World → Prop
  | .goto l, a, w => match findLabel c l with
    | some rest => K rest a w
    | none => Q (.goto l) a w
  | e, a, w => Q e a w

def passes (P : Program) (c : Code) (Q : Exit → Act → World → Prop) : Nat → Code → Act → World → Prop
  | 0, _, _, _ => False
  | n + 1, cur, a, w => cur.wp P (Exit.jumping c (passes P c Q n) Q) a w

theorem wp_scope_passes {P : Program} {c : Code} {Q : Exit → Act → World → Prop} {a : Act} {w : World} (n : Nat) (h : passes P c Q n c a w) : (Code.scope c).wp P Q a w := by
  intro b k cs
  have key : ∀ n cur a w, passes P c Q n cur a w → ∃ e a' w', Q e a' w' ∧ Arrives P (lone (b.at a (.code cur :: .inScope c :: k)) cs w) b k cs e a' w' := by
    intro n
    induction n with
    | zero => intro cur a w h; exact h.elim
    | succ n ih =>
      intro cur a w h
      obtain ⟨e, a₁, w₁, hq, harr⟩ := h b (.inScope c :: k) cs
      cases e with
      | normal => exact ⟨.normal, a₁, w₁, hq, Steps.trans harr (.one step_inScope)⟩
      | exit id => exact ⟨.exit id, a₁, w₁, hq, fun k' hk => harr k' (by simp [exitTo, hk])⟩
      | goto l =>
        simp only [Exit.jumping] at hq
        cases hf : findLabel c l with
        | none =>
          rw [hf] at hq
          exact ⟨.goto l, a₁, w₁, hq, fun k' hk => harr k' (by simp [gotoIn, hf, hk])⟩
        | some rest =>
          rw [hf] at hq
          obtain ⟨e₂, a₂, w₂, hq₂, harr₂⟩ := ih rest a₁ w₁ hq
          exact ⟨e₂, a₂, w₂, hq₂, .of_steps (harr _ (by simp [gotoIn, hf])) harr₂⟩
      | ret => exact ⟨_, a₁, w₁, hq, harr⟩
      | panic ch => exact ⟨_, a₁, w₁, hq, harr⟩
      | outgrown => exact ⟨_, a₁, w₁, hq, harr⟩
  obtain ⟨e, a', w', hq, harr⟩ := key n c a w h
  exact ⟨e, a', w', hq, .of_steps (.one step_scope) harr⟩

theorem okCode_findLabel {P : Program} {n : Nat} : ∀ {c : Code} {l : Nat} {rest : Code}, okCode P n c = true → findLabel c l = some rest → okCode P n rest = true
  | .seq a b, l, rest, h, hf => by
    simp only [okCode, Bool.and_eq_true] at h
    simp only [findLabel] at hf
    cases ha : findLabel a l with
    | some r =>
      rw [ha] at hf
      injection hf with hf
      subst hf
      simp only [okCode, Bool.and_eq_true]
      exact ⟨okCode_findLabel h.1 ha, h.2⟩
    | none =>
      rw [ha] at hf
      exact okCode_findLabel h.2 hf
  | .label l', l, rest, h, hf => by
    simp only [findLabel] at hf
    split at hf
    · injection hf with hf
      subst hf
      rfl
    · cases hf
  | .skip, _, _, _, hf => by simp [findLabel] at hf
  | .ret, _, _, _, hf => by simp [findLabel] at hf
  | .exit _, _, _, _, hf => by simp [findLabel] at hf
  | .goto _, _, _, _, hf => by simp [findLabel] at hf
  | .cond _ _ _, _, _, _, hf => by simp [findLabel] at hf
  | .block _ _, _, _, _, hf => by simp [findLabel] at hf
  | .loop _, _, _, _, hf => by simp [findLabel] at hf
  | .scope _, _, _, _, hf => by simp [findLabel] at hf
  | .region _ _ _, _, _, _, hf => by simp [findLabel] at hf
  | .rangeFunc .., _, _, _, hf => by simp [findLabel] at hf
  | .refuse .., _, _, _, hf => by simp [findLabel] at hf

end Go.Ai
