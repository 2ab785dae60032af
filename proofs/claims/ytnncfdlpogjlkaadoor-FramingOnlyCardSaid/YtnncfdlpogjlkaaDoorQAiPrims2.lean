/-
  More library functions as primitives: strings.Index, strings.Fields.
-/
import Derived.Test.YtnncfdlpogjlkaaDoorQAiPrims
import Derived.Lib.Fields
namespace Go.Ai
set_option linter.unusedVariables false
set_option linter.unusedSimpArgs false
set_option linter.unnecessarySimpa false
open Go.RowKit

/-- Where a string stands first in another one; -1: nowhere. -/
def idxB : List UInt8 → List UInt8 → Nat → Int
  | [], x, i => match x.isEmpty with | true => i | false => -1
  | c :: r, x, i => match x.isPrefixOf (c :: r) with | true => i | false => idxB r x (i + 1)

theorem idxB_eq : ∀ (s x : List UInt8) (i : Nat), idxB s x i = if Lib.index s x = -1 then -1 else Lib.index s x + i
  | [], x, i => by cases x <;> simp [idxB, Lib.index]
  | c :: r, x, i => by
    rw [idxB, Lib.index]
    cases h : x.isPrefixOf (c :: r) with
    | true => simp
    | false =>
      rw [idxB_eq r x (i + 1)]
      have := Lib.index_ge r x
      by_cases h1 : Lib.index r x = -1
      · simp [h1]
      · have h2 : (Lib.index r x == -1) = false := by simpa using h1
        have h3 : ¬(Lib.index r x + 1 = -1) := by omega
        simp only [h1, h2, h3, if_false, Bool.false_eq_true]
        omega

theorem idxB_zero (s x : List UInt8) : idxB s x 0 = Lib.index s x := by
  rw [idxB_eq]
  split
  · rename_i h; exact h.symm
  · simp

def pIndex : List AV → Option (Bool × AV)
  | [.str s, .str x] => some (Nat.blt s.length 4294967281, .int .i64 (idxB s x 0))
  | _ => none
def pFields : List AV → Option (Bool × AV)
  | [.str s] => some (Nat.blt s.length 4294967281 && s.all (fun b => Nat.blt b.toNat 128), .sl 1 ((Lib.fields s).map fun l => [.str l]) none)
  | _ => none

section
variable {P : Program} {G : Nat → Option (List AV)} {I : World → Prop} {B0 : Nat} {k : Nat}

theorem pIndex_ok (h : ∀ (s sub : ByteArray) (w : World), I w → s.size < 4294967281 → Calls P k #[.string s, .string sub] w fun e w' => e = .returned (.int .i64 (Lib.index s.data.toList sub.data.toList)) ∧ w' = w) : PrimSpec P G I B0 k pIndex := by
  intro vs v hv E args hE hB H hr
  unfold pIndex at hv
  split at hv
  · rename_i s x
    simp only [Option.some.injEq, Prod.mk.injEq] at hv
    obtain ⟨h1, rfl⟩ := hv
    obtain ⟨a, r, rfl, rfl, b, r2, rfl, rfl, rfl⟩ := hr
    refine (h ⟨s.toArray⟩ ⟨x.toArray⟩ E.w H.I (Nat.le_of_ble_eq_true h1)).mono fun e w' hp => ?_
    obtain ⟨rfl, rfl⟩ := hp
    exact ⟨_, rfl, Below.refl _ _, by simp [Rel, idxB_zero]⟩
  · cases hv

theorem pFields_ok {t : TypeId} (h : ∀ (s : ByteArray) (w : World), I w → s.size < 4294967281 → (∀ (j : Nat) b, s.data.toList[j]? = some b → b.toNat < 128) → Calls P k #[.string s] w fun e w' =>
      e = .returned (.slice (some ⟨w.heap.size, 0, none⟩) (Lib.fields s.data.toList).length (Lib.fields s.data.toList).length) ∧ w' = w.alloc (.cells ((Lib.fields s.data.toList).map fun l => Value.string ⟨l.toArray⟩).toArray t)) (hlen : ∀ s : List UInt8, (Lib.fields s).length ≤ s.length + 1) : PrimSpec P G I B0 k pFields := by
  intro vs v hv E args hE hB H hr
  unfold pFields at hv
  split at hv
  · rename_i s
    simp only [Option.some.injEq, Prod.mk.injEq, Bool.and_eq_true, List.all_eq_true] at hv
    obtain ⟨⟨h1, h2⟩, rfl⟩ := hv
    obtain ⟨a, r, rfl, rfl, rfl⟩ := hr
    have hs : s.length < 4294967281 := Nat.le_of_ble_eq_true h1
    refine (h ⟨s.toArray⟩ E.w H.I (by simpa [ByteArray.size] using hs) fun j b hj => Nat.le_of_ble_eq_true (h2 b (List.mem_of_getElem? (by simpa using hj)))).mono fun e w' hp => ?_
    obtain ⟨rfl, rfl⟩ := hp
    have hl := hlen s
    refine ⟨_, rfl, (Below.refl _ _).alloc (Nat.le_refl _) _, ⟨⟨some ⟨E.w.heap.size, 0, none⟩, (Lib.fields s).length, by simp, by simp, by unfold maxLen; omega, ?_, fun _ => ⟨_, rfl, ?_⟩⟩, trivial⟩⟩
    · intro e he
      obtain ⟨l, _, rfl⟩ := List.mem_map.1 he
      rfl
    · rw [Rows.iff, At.iff]
      intro j c hj
      have hfl : ∀ l : List (List UInt8), (l.map fun x => [AV.str x]).flatten = l.map AV.str := by
        intro l
        induction l with
        | nil => rfl
        | cons x r ih => simp [ih]
      rw [hfl, List.getElem?_map, Option.map_eq_some_iff] at hj
      obtain ⟨l, hl1, rfl⟩ := hj
      refine ⟨.string ⟨l.toArray⟩, ?_, rfl, ⟨fun hU => ?_, fun id x hx => ?_⟩, rfl⟩
      · rw [Addr.add_lit, Nat.zero_add]
        show (E.w.alloc _).cell? ⟨E.w.heap.size, j, none⟩ = _
        rw [World.cell?_alloc_new]
        simp [hl1]
      · have := H.U _ _ hU
        simp only at this
        omega
      · simp [hE] at hx
  · cases hv
end

theorem fieldsGo_len : ∀ (s cur : List UInt8), (Lib.fieldsGo cur s).length ≤ s.length + 1
  | [], cur => by unfold Lib.fieldsGo; split <;> simp
  | b :: l, cur => by
    have h1 := fieldsGo_len l (cur ++ [b])
    have h2 := fieldsGo_len l []
    unfold Lib.fieldsGo
    simp only [List.length_cons]
    repeat' split
    all_goals first | omega | (simp; omega)
theorem fields_len (s : List UInt8) : (Lib.fields s).length ≤ s.length + 1 := fieldsGo_len s []
end Go.Ai
