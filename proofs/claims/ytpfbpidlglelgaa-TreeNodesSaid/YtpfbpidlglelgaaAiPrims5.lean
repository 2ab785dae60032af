/-
  strings.ReplaceAll as a primitive.
-/
import Derived.Test.YtpfbpidlglelgaaAiPrims4
import Derived.Lib.Replace
import Derived.Lib.CountLaws
namespace Go.Ai
set_option linter.unusedVariables false
set_option linter.unusedSimpArgs false
set_option linter.unnecessarySimpa false
open Go.RowKit Go.Sort

/-- How often a text stands in another one. -/
def cntB (x : List UInt8) : Nat → List UInt8 → Nat
  | 0, _ => 0
  | k + 1, s => if idxB s x 0 == -1 then 0 else 1 + cntB x k (s.drop ((idxB s x 0).toNat + x.length))
theorem cntB_eq (x : List UInt8) : ∀ (k : Nat) (s : List UInt8), cntB x k s = Lib.countFrom x k s
  | 0, _ => rfl
  | k + 1, s => by simp only [cntB, Lib.countFrom, idxB_zero, cntB_eq x k]
def repB (x n : List UInt8) : Nat → List UInt8 → List UInt8
  | 0, s => s
  | k + 1, s => if idxB s x 0 == -1 then s else s.take (idxB s x 0).toNat ++ n ++ repB x n k (s.drop ((idxB s x 0).toNat + x.length))
theorem repB_eq (x n : List UInt8) : ∀ (k : Nat) (s : List UInt8), repB x n k s = Lib.replaceK x n k s
  | 0, _ => rfl
  | k + 1, s => by simp only [repB, Lib.replaceK, idxB_zero, repB_eq x n k]
def cntS (s x : List UInt8) : Nat := cntB x (s.length + 1) s
/-- Each place where a text stands is another text. -/
def replS (s x n : List UInt8) : List UInt8 := if x == n then s else repB x n (cntS s x) s
theorem replS_eq (s x n : List UInt8) : replS s x n = Lib.replaceAll s x n := by
  have hn : Lib.replaceNum s x (-1) = cntS s x := by unfold Lib.replaceNum cntS Lib.count; rw [if_pos (Or.inl (by decide)), cntB_eq]
  unfold replS Lib.replaceAll Lib.replace
  rw [hn, repB_eq]
def pReplaceAll : List AV → Option (Bool × AV)
  | [.str s, .str o, .str n] => some (Nat.blt s.length 4294967281 && Nat.ble 1 o.length && Nat.ble (s.length + cntS s o * n.length) 140737488355328, .str (replS s o n))
  | _ => none

section
variable {P : Program} {G : Nat → Option (List AV)} {I : World → Prop} {B0 : Nat} {k : Nat}

theorem pReplaceAll_ok (h : ∀ (s o n : ByteArray) (w : World), I w → s.size < 4294967281 → 1 ≤ o.size → s.size + Lib.countB s o * n.size ≤ 140737488355328 → Calls P k #[.string s, .string o, .string n] w fun e w' =>
      e = .returned (.string ⟨(Lib.replaceAll s.data.toList o.data.toList n.data.toList).toArray⟩) ∧ Below w.heap.size w w') : PrimSpec P G I B0 k pReplaceAll := by
  intro vs v hv E args hE hB H hr
  unfold pReplaceAll at hv
  split at hv
  · rename_i s o n
    simp only [Option.some.injEq, Prod.mk.injEq, Bool.and_eq_true] at hv
    obtain ⟨⟨⟨h1, h2⟩, h3⟩, rfl⟩ := hv
    obtain ⟨a, r, rfl, rfl, b, r2, rfl, rfl, c, r3, rfl, rfl, rfl⟩ := hr
    refine (h ⟨s.toArray⟩ ⟨o.toArray⟩ ⟨n.toArray⟩ E.w H.I (Nat.le_of_ble_eq_true h1) (Nat.le_of_ble_eq_true h2) (by have := Nat.le_of_ble_eq_true h3; rw [cntS, cntB_eq] at this; exact this)).mono fun e w' hp => ?_
    obtain ⟨rfl, hb⟩ := hp
    exact ⟨_, rfl, hb, by simp [Rel, replS_eq]⟩
  · cases hv
end
end Go.Ai
