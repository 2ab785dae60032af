/-
  More library functions as primitives: strings.Trim, strings.Repeat, strings.TrimLeft.
-/
import Derived.Test.YtnncfdlpogjlkaaDoorQAiPrims3
import Derived.Lib.SlTrimSet
import Derived.Lib.Repeat
namespace Go.Ai
set_option linter.unusedVariables false
set_option linter.unusedSimpArgs false
set_option linter.unnecessarySimpa false
open Go.RowKit Go.Sort

def asciiB (l : List UInt8) : Bool := l.all fun b => Nat.blt b.toNat 128
def pTrim : List AV → Option (Bool × AV)
  | [.str s, .str cs] => some (Nat.ble s.length 9223372036854775807 && Nat.blt cs.length 4294967281 && asciiB cs, .str (Lib.trimS s cs))
  | _ => none
def pTrimLeft : List AV → Option (Bool × AV)
  | [.str s, .str cs] => some (Nat.blt cs.length 4294967281 && asciiB cs, .str (Lib.trimLeftS s cs))
  | _ => none
def pRepeat : List AV → Option (Bool × AV)
  | [.str s, .int .i64 n] => some (decide (0 ≤ n) && decide (n ≤ 9223372036854775807) && Nat.ble (s.length * n.toNat) 140737488355328, .str (Lib.repeatL s n.toNat))
  | _ => none

section
variable {P : Program} {G : Nat → Option (List AV)} {I : World → Prop} {B0 : Nat} {k : Nat}

theorem asciiB_at {l : List UInt8} (h : asciiB l = true) : ∀ (j : Nat) b, l[j]? = some b → b.toNat < 128 := fun j b hj => Nat.le_of_ble_eq_true (List.all_eq_true.1 h b (List.mem_of_getElem? hj))

theorem pTrim_ok (h : ∀ (s cs : ByteArray) (w : World), I w → s.size ≤ 9223372036854775807 → cs.size < 4294967281 → (∀ (j : Nat) b, cs.data.toList[j]? = some b → b.toNat < 128) → Calls P k #[.string s, .string cs] w fun e w' =>
      e = .returned (.string ⟨(Lib.trimS s.data.toList cs.data.toList).toArray⟩) ∧ Below w.heap.size w w') : PrimSpec P G I B0 k pTrim := by
  intro vs v hv E args hE hB H hr
  unfold pTrim at hv
  split at hv
  · rename_i s x
    simp only [Option.some.injEq, Prod.mk.injEq, Bool.and_eq_true] at hv
    obtain ⟨⟨⟨h1, h2⟩, h3⟩, rfl⟩ := hv
    obtain ⟨a, r, rfl, rfl, b, r2, rfl, rfl, rfl⟩ := hr
    refine (h ⟨s.toArray⟩ ⟨x.toArray⟩ E.w H.I (Nat.le_of_ble_eq_true h1) (Nat.le_of_ble_eq_true h2) (asciiB_at h3)).mono fun e w' hp => ?_
    obtain ⟨rfl, hb⟩ := hp
    exact ⟨_, rfl, hb, rfl⟩
  · cases hv
theorem pTrimLeft_ok (h : ∀ (s cs : ByteArray) (w : World), I w → cs.size < 4294967281 → (∀ (j : Nat) b, cs.data.toList[j]? = some b → b.toNat < 128) → Calls P k #[.string s, .string cs] w fun e w' =>
      e = .returned (.string ⟨(Lib.trimLeftS s.data.toList cs.data.toList).toArray⟩) ∧ Below w.heap.size w w') : PrimSpec P G I B0 k pTrimLeft := by
  intro vs v hv E args hE hB H hr
  unfold pTrimLeft at hv
  split at hv
  · rename_i s x
    simp only [Option.some.injEq, Prod.mk.injEq, Bool.and_eq_true] at hv
    obtain ⟨⟨h2, h3⟩, rfl⟩ := hv
    obtain ⟨a, r, rfl, rfl, b, r2, rfl, rfl, rfl⟩ := hr
    refine (h ⟨s.toArray⟩ ⟨x.toArray⟩ E.w H.I (Nat.le_of_ble_eq_true h2) (asciiB_at h3)).mono fun e w' hp => ?_
    obtain ⟨rfl, hb⟩ := hp
    exact ⟨_, rfl, hb, rfl⟩
  · cases hv
theorem pRepeat_ok (h : ∀ (s : ByteArray) (c : Nat) (w : World), I w → c ≤ 9223372036854775807 → s.size * c ≤ 140737488355328 → Calls P k #[.string s, .int .i64 c] w fun e w' =>
      e = .returned (.string ⟨(Lib.repeatL s.data.toList c).toArray⟩) ∧ Below w.heap.size w w') : PrimSpec P G I B0 k pRepeat := by
  intro vs v hv E args hE hB H hr
  unfold pRepeat at hv
  split at hv
  · rename_i s n
    simp only [Option.some.injEq, Prod.mk.injEq, Bool.and_eq_true, decide_eq_true_eq] at hv
    obtain ⟨⟨⟨h1, h2⟩, h3⟩, rfl⟩ := hv
    obtain ⟨a, r, rfl, rfl, b, r2, rfl, rfl, rfl⟩ := hr
    obtain ⟨c, rfl⟩ := Int.eq_ofNat_of_zero_le h1
    refine (h ⟨s.toArray⟩ c E.w H.I (by omega) (by have := Nat.le_of_ble_eq_true h3; simpa [ByteArray.size] using this)).mono fun e w' hp => ?_
    obtain ⟨rfl, hb⟩ := hp
    exact ⟨_, rfl, hb, rfl⟩
  · cases hv
end
end Go.Ai
