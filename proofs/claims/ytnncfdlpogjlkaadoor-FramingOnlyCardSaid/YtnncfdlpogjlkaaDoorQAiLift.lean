/-
  A function that keeps to its contract may be taken as a primitive, in another configuration. No statement about the program is made here.
-/
import Derived.Test.YtnncfdlpogjlkaaDoorQAiLaw
namespace Go.Ai
set_option linter.unusedVariables false
set_option linter.unusedSimpArgs false
set_option linter.unnecessarySimpa false
open Go.RowKit

theorem prim_of_cok {C : Cfg} {I : World → Prop} {B0 : Nat} (S : Sound C I B0) {k : Nat} {t : Con} (hc : COk C k t) (hh : C.hprim k = none) (hp : C.heap k = false) {g : List AV → Option (Bool × AV)}
    (hg : ∀ vs v, g vs = some (true, v) → pureV.pureVs vs = true ∧ t vs [] (fun v' h' => v' = v ∧ h' = [])) : PrimSpec C.P C.G I B0 k g := by
  intro vs v hv E args hE hB H hr
  obtain ⟨hpu, ht⟩ := hg vs v hv
  have ha : argsOf C k vs = vs := by
    simp only [argsOf, hh, hp, Option.isSome_none, Bool.or_self, strips_pure 0 [] vs hpu]
  obtain ⟨v', h', ⟨n, hcall⟩, hv', hh'⟩ := hc vs [] _ (by rw [ha]; exact ht)
  subst hv'; subst hh'
  obtain ⟨_, hx⟩ := (calls_ok S false n).2 k vs [] v' [] (hcall n (Nat.le_refl _))
  refine (hx E args hE H hr).mono fun e w' hq => ?_
  obtain ⟨c, E', rfl, rfl, St, hE', hrel⟩ := hq
  refine ⟨c, rfl, by have := St.below; rw [hB] at this; exact this, Rel.mono ?_ _ _ hrel⟩
  have hEh : ∀ (id : Nat) x, E.h[id]? = some x → False := fun id x hx => by rw [hE] at hx; simp at hx
  have hEh' : ∀ (id : Nat) x, E'.h[id]? = some x → False := fun id x hx => by rw [hE'] at hx; simp at hx
  refine ⟨St.le.B.symm, fun a v h s => ⟨h, ⟨?_, fun id x hx => (hEh id x hx).elim⟩⟩, by rw [hE']; exact Nat.zero_le _, fun id t cs hx => (hEh' id _ hx).elim, fun id n sz e hi hx => (hEh id _ hx).elim, fun id s p hx => (hEh' id _ hx).elim⟩
  have := s.1
  rw [St.U] at this
  exact this
end Go.Ai
