/-
  More library functions as primitives: strings.Index, strings.Fields.
-/
import Derived.Test.YtnncfdlpogjlkaaGreatDoorLAiPrims
import Derived.Lib.Fields
set_option linter.unusedVariables false
set_option linter.unusedSimpArgs false
set_option linter.unnecessarySimpa false
namespace Go.Ai
open Go.RowKit
def idxB : List UInt8 → List UInt8 → Nat → Int
  | [], x, i => match x.isEmpty with | true => i | false => -1
  | c :: r, x, i => match x.isPrefixOf (c :: r) with | true => i | false => idxB r x (i + 1)
theorem idxB_eq : ∀ (s x : List UInt8) (i : Nat), idxB s x i = if Lib.index s x = -1 then -1 else Lib.index s x + i
  | [], x, i => by cases x <;> simp [idxB, Lib.index]
  | c :: r, x, i => by
    rw [idxB, Lib.index]
    cases h : x.isPrefixOf (c :: r) with
    | true => simp
    | false =>
      rw [idxB_eq r x (i + 1)]; have := Lib.index_ge r x
      by_cases h1 : Lib.index r x = -1
      · simp [h1]
      · have h2 : (Lib.index r x == -1) = false := by simpa using h1
        have h3 : ¬(Lib.index r x + 1 = -1) := by omega
        simp only [h1, h2, h3, if_false, Bool.false_eq_true]; omega
theorem idxB_zero (s x : List UInt8) : idxB s x 0 = Lib.index s x := by
  rw [idxB_eq]; split
  · rename_i h; exact h.symm
  · simp
def pIndex : List AV → Option (Bool × AV)
  | [.str s, .str x] => some (Nat.blt s.length 4294967281, .int .i64 (idxB s x 0))
  | _ => none
section
variable {P : Program} {G : Nat → Option (List AV)} {I : World → Prop} {B0 : Nat} {k : Nat}
theorem pIndex_ok (h : ∀ (s sub : ByteArray) (w : World), I w → s.size < 4294967281 → Calls P k #[.string s, .string sub] w fun e w' => e = .returned (.int .i64 (Lib.index s.data.toList sub.data.toList)) ∧ w' = w) : PrimSpec P G I B0 k pIndex := by
  intro vs v hv E args hE hB H hr; unfold pIndex at hv; split at hv
  · rename_i s x; simp only [Option.some.injEq, Prod.mk.injEq] at hv; obtain ⟨h1, rfl⟩ := hv; obtain ⟨a, r, rfl, rfl, b, r2, rfl, rfl, rfl⟩ := hr
    refine (h ⟨s.toArray⟩ ⟨x.toArray⟩ E.w H.I (Nat.le_of_ble_eq_true h1)).mono fun e w' hp => ?_
    obtain ⟨rfl, rfl⟩ := hp
    exact ⟨_, rfl, Below.refl _ _, by simp [Rel, idxB_zero]⟩
  · cases hv
end
end Go.Ai
