/-
  More library functions as primitives: strings.Cut, strings.IndexByte, strconv.Itoa, strconv.Atoi.
-/
import Derived.Test.YtnncfdlpogjlkaaDoorQAiPrims2
import Derived.Lib.ItoaNum
import Derived.Lib.AtoiAll
import Derived.Lib.AppendIntMem
import Derived.WalkSmall
import Derived.Lib.Bytealg
namespace Go.Ai
set_option linter.unusedVariables false
set_option linter.unusedSimpArgs false
set_option linter.unnecessarySimpa false
open Go.RowKit Go.Sort

/-- A text cut at the first place where another one stands. -/
def cutS (s x : List UInt8) : List UInt8 × List UInt8 × Bool :=
  match decide (0 ≤ idxB s x 0) with
  | true => (s.take (idxB s x 0).toNat, s.drop ((idxB s x 0).toNat + x.length), true)
  | false => (s, [], false)
theorem cutS_eq (s x : List UInt8) : cutS s x = Lib.cut s x := by
  unfold cutS Lib.cut
  rw [idxB_zero]
  by_cases h : 0 ≤ Lib.index s x
  · rw [decide_eq_true h, if_pos h]
  · rw [decide_eq_false h, if_neg h]
def pCut : List AV → Option (Bool × AV)
  | [.str s, .str x] => some (Nat.blt s.length 4294967281, .tup [.str (cutS s x).1, .str (cutS s x).2.1, .bool (cutS s x).2.2])
  | _ => none

/-- Decimal digits. -/
def decF : Nat → Nat → List UInt8
  | 0, _ => []
  | f + 1, u => if u < 10 then [UInt8.ofNat (48 + u)] else decF f (u / 10) ++ [UInt8.ofNat (48 + u % 10)]
def itoaS (n : Int) : List UInt8 := if n < 0 then 45 :: decF 20 n.natAbs else decF 20 n.toNat
theorem decF_eq : ∀ (f u : Nat), u < 10 ^ f → 0 < f → decF f u = Lib.decDigits u
  | 0, u, _, h => by omega
  | f + 1, u, hu, _ => by
    rw [decF, Lib.decDigits]
    by_cases h : u < 10
    · rw [if_pos h, dif_pos h]
    · rw [if_neg h, dif_neg h]
      have hf : 0 < f := by
        rcases Nat.eq_zero_or_pos f with rfl | h1
        · simp at hu; omega
        · exact h1
      rw [decF_eq f (u / 10) (by rw [Nat.pow_succ] at hu; omega) hf]
theorem itoaS_eq {n : Int} (h0 : -9223372036854775808 ≤ n) (h1 : n ≤ 9223372036854775807) : itoaS n = Lib.itoa n := by
  unfold itoaS Lib.itoa
  split
  · rw [decF_eq 20 _ (by omega) (by decide)]
  · rw [decF_eq 20 _ (by omega) (by decide)]
theorem decF_len : ∀ f u, (decF f u).length ≤ f
  | 0, u => by simp [decF]
  | f + 1, u => by
    rw [decF]
    split
    · simp
    · have := decF_len f (u / 10)
      simp; omega
theorem itoaS_len (n : Int) : (itoaS n).length ≤ 21 := by
  unfold itoaS
  have h1 := decF_len 20 n.natAbs
  have h2 := decF_len 20 n.toNat
  split
  · simp; omega
  · omega
def pItoa : List AV → Option (Bool × AV)
  | [.int .i64 n] => some (decide (-9223372036854775808 ≤ n) && decide (n ≤ 9223372036854775807), .str (itoaS n))
  | _ => none

/-- The number that a text spells; 0, or the last one, if it spells none. -/
def atoiV (s : List UInt8) : Int :=
  match Lib.atoiAll s with
  | .ok v => v
  | .range => Lib.atoiSat s
  | _ => 0
def pAtoi : List AV → Option (Bool × AV)
  | [.str s] => some (Nat.blt s.length 4294967281, .tup [.int .i64 (atoiV s), .top])
  | _ => none

/-- Where a byte stands first in a text; -1: nowhere. -/
def pByteIx : List AV → Option (Bool × AV)
  | [.str s, .int .u8 c] => some (decide (0 ≤ c) && decide (c < 256), .int .i64 (Lib.indexByte s c.toNat.toUInt8))
  | _ => none

section
variable {P : Program} {G : Nat → Option (List AV)} {I : World → Prop} {B0 : Nat} {k : Nat}

theorem pCut_ok (h : ∀ (s sep : ByteArray) (w : World), I w → s.size < 4294967281 → Calls P k #[.string s, .string sep] w fun e w' =>
      e = .returned (.tuple #[.string ⟨(Lib.cut s.data.toList sep.data.toList).1.toArray⟩, .string ⟨(Lib.cut s.data.toList sep.data.toList).2.1.toArray⟩, .bool (Lib.cut s.data.toList sep.data.toList).2.2]) ∧ ∃ n, w' = w.drewN n) : PrimSpec P G I B0 k pCut := by
  intro vs v hv E args hE hB H hr
  unfold pCut at hv
  split at hv
  · rename_i s x
    simp only [Option.some.injEq, Prod.mk.injEq] at hv
    obtain ⟨h1, rfl⟩ := hv
    obtain ⟨a, r, rfl, rfl, b, r2, rfl, rfl, rfl⟩ := hr
    refine (h ⟨s.toArray⟩ ⟨x.toArray⟩ E.w H.I (Nat.le_of_ble_eq_true h1)).mono fun e w' hp => ?_
    obtain ⟨rfl, n, rfl⟩ := hp
    refine ⟨_, rfl, below_drewN (Below.refl _ _) n, _, rfl, ?_⟩
    rw [cutS_eq]
    exact ⟨_, _, rfl, rfl, _, _, rfl, rfl, _, _, rfl, rfl, rfl⟩
  · cases hv

theorem pItoa_ok (h : ∀ (n : Int) (w : World), I w → -9223372036854775808 ≤ n → n ≤ 9223372036854775807 → Calls P k #[.int .i64 n] w fun e w' =>
      e = .returned (.string ⟨(Lib.itoa n).toArray⟩) ∧ ∃ j os, w' = grow (w.drewN j) os) : PrimSpec P G I B0 k pItoa := by
  intro vs v hv E args hE hB H hr
  unfold pItoa at hv
  split at hv
  · rename_i n
    simp only [Option.some.injEq, Prod.mk.injEq, Bool.and_eq_true, decide_eq_true_eq] at hv
    obtain ⟨⟨h1, h2⟩, rfl⟩ := hv
    obtain ⟨a, r, rfl, rfl, rfl⟩ := hr
    refine (h n E.w H.I h1 h2).mono fun e w' hp => ?_
    obtain ⟨rfl, j, os, rfl⟩ := hp
    exact ⟨_, rfl, Lib.below_grow _ _ (Nat.le_refl _) j os, by rw [itoaS_eq h1 h2]; rfl⟩
  · cases hv
theorem pByteIx_ok (h : ∀ (s : ByteArray) (c : Int) (w : World), I w → Calls P k #[.string s, .int .u8 c] w fun e w' => e = .returned (.int .i64 (Lib.indexByte s.data.toList c.toNat.toUInt8)) ∧ w' = w) : PrimSpec P G I B0 k pByteIx := by
  intro vs v hv E args hE hB H hr
  unfold pByteIx at hv
  split at hv
  · rename_i s c
    simp only [Option.some.injEq, Prod.mk.injEq] at hv
    obtain ⟨h1, rfl⟩ := hv
    obtain ⟨a, r, rfl, rfl, b, r2, rfl, rfl, rfl⟩ := hr
    refine (h ⟨s.toArray⟩ c E.w H.I).mono fun e w' hp => ?_
    obtain ⟨rfl, rfl⟩ := hp
    exact ⟨_, rfl, Below.refl _ _, rfl⟩
  · cases hv
theorem pAtoi_ok (h : ∀ (s : ByteArray) (w : World), I w → s.size < 4294967281 → Calls P k #[.string s] w fun e w' => ∃ c, e = .returned (.tuple #[.int .i64 (atoiV s.data.toList), c]) ∧ Below w.heap.size w w') : PrimSpec P G I B0 k pAtoi := by
  intro vs v hv E args hE hB H hr
  unfold pAtoi at hv
  split at hv
  · rename_i s
    simp only [Option.some.injEq, Prod.mk.injEq] at hv
    obtain ⟨h1, rfl⟩ := hv
    obtain ⟨a, r, rfl, rfl, rfl⟩ := hr
    refine (h ⟨s.toArray⟩ E.w H.I (Nat.le_of_ble_eq_true h1)).mono fun e w' hp => ?_
    obtain ⟨c, rfl, hb⟩ := hp
    exact ⟨_, rfl, hb, _, rfl, _, _, rfl, rfl, _, _, rfl, trivial, rfl⟩
  · cases hv
end
end Go.Ai
