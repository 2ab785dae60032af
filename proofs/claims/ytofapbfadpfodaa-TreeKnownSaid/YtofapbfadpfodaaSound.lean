/-
  The abstract interpreter is sound at this seat's program: what it answers, the program answers. Conditions: that the library's variable MaxLen holds some integer.
-/
import Derived.Test.YtofapbfadpfodaaCfg
import Derived.Lib.IndexMore
import Derived.KernelRfl
namespace Go.Proofs.Ytofapbfadpfodaa
open Go.Ai Go.RowKit

theorem cfg_fns : okAll cfg 75 = true := by kernel_rfl

theorem cfg_lt (k : Nat) (h : cfg.ok k = true) : k < 75 := by
  have : (Nat.blt k 75 && _) = true := h
  rw [Bool.and_eq_true] at this
  exact Nat.le_of_ble_eq_true this.1

theorem contB_eq : ∀ s x : List UInt8, contB s x = Lib.contains s x
  | [], x => by cases x <;> rfl
  | c :: r, x => by
    rw [contB, contB_eq r x, Lib.contains, Lib.contains, Lib.index]
    cases h : x.isPrefixOf (c :: r) with
    | true => simp
    | false =>
      have := Lib.index_spec r x
      simp only [Bool.false_or, Bool.false_eq_true, if_false]
      by_cases h1 : Lib.index r x = -1
      · simp [h1]
      · have h2 : (Lib.index r x == -1) = false := by simpa using h1
        simp only [h2, Bool.false_eq_true, if_false]
        rcases this with ⟨h3, _⟩ | ⟨i, h3, _⟩
        · exact absurd h3 h1
        · rw [h3]
          apply Bool.eq_iff_iff.2
          simp only [decide_eq_true_eq]
          omega

/-- The library's variable holds an integer. -/
def Inv (w : World) : Prop := ∃ m, w.cell? ⟨0, 0, none⟩ = some (.int .i64 m)

theorem cfg_sound {B0 : Nat} (hB : 0 < B0) : Sound cfg Inv B0 := by
  refine Sound.mk' (n := 75) (fun w w' hw hb => ?_) (by kernel_rfl) (fun g cs h => by cases h) cfg_fns cfg_lt ?_
  · obtain ⟨m, hm⟩ := hw
    exact ⟨m, (hb.cell hB).trans hm⟩
  · intro k g vs v hok hp hg E args hE hEB H hargs
    have hp' : primT k = some g := hp
    unfold primT at hp'
    cases hk : Nat.beq k 38 with
    | false => rw [hk] at hp'; cases hp'
    | true =>
      rw [hk] at hp'
      have := Nat.eq_of_beq_eq_true hk
      subst this
      simp only [cond_true, Option.some.injEq] at hp'
      subst hp'
      dsimp only at hg
      split at hg
      · rename_i s x
        simp only [Option.some.injEq, Prod.mk.injEq] at hg
        obtain ⟨h1, rfl⟩ := hg
        obtain ⟨a, r, rfl, rfl, b, r2, rfl, rfl, rfl⟩ := hargs
        obtain ⟨m, hm⟩ := H.I
        refine (Try.strings_Contains ⟨s.toArray⟩ ⟨x.toArray⟩ m E.w (Nat.le_of_ble_eq_true h1) hm).mono fun e w' hp => ?_
        obtain ⟨rfl, rfl⟩ := hp
        exact ⟨_, rfl, Below.refl _ _, by simp [Rel, contB_eq]⟩
      · cases hg

end Go.Proofs.Ytofapbfadpfodaa
