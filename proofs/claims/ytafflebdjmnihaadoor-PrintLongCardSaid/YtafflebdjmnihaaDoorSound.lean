/-
  The abstract interpreter is sound at this seat's program: what it answers, the program answers. Conditions: that the library's variable MaxLen holds some integer.
-/
import Derived.Test.YtafflebdjmnihaaDoorCfg
import Derived.Test.YtafflebdjmnihaaDoorShelf
import Derived.KernelRfl
namespace Go.Proofs.YtafflebdjmnihaaDoor
open Go.Ai Go.RowKit

theorem cfg_fns : okAll cfg 81 = true := by kernel_rfl

theorem cfg_lt (k : Nat) (h : cfg.ok k = true) : k < 81 := by
  have : (Nat.blt k 81 && _) = true := h
  rw [Bool.and_eq_true] at this
  exact Nat.le_of_ble_eq_true this.1

theorem cfg_ident : IdentOk cfg := by
  intro k hk x w
  have hk' : Nat.testBit 2147483648 k = true := hk
  have : k = 31 := by
    by_cases h : k < 32
    · have : ∀ j, j < 32 → Nat.testBit 2147483648 j = true → j = 31 := by decide
      exact this k h hk'
    · rw [Nat.testBit_lt_two_pow (Nat.lt_of_lt_of_le (by decide : 2147483648 < 2 ^ 32) (Nat.pow_le_pow_right (by decide) (Nat.le_of_not_lt h)))] at hk'
      cases hk'
  subst this
  exact ident_noEscape (P := Tryd.prog) Tryd.func31 (by kernel_rfl) (by kernel_rfl) (by kernel_rfl) (by kernel_rfl) x w

/-- The library's variable holds an integer. -/
def Inv (w : World) : Prop := ∃ m, w.cell? ⟨1, 0, none⟩ = some (.int .i64 m)

theorem inv_below {B0 : Nat} (hB : 1 < B0) (w w' : World) (hw : Inv w) (hb : Below B0 w w') : Inv w' := by
  obtain ⟨m, hm⟩ := hw
  exact ⟨m, (hb.cell hB).trans hm⟩

theorem prims_ok {B0 : Nat} : ∀ p ∈ primT, PrimSpec Tryd.prog cfg.G Inv B0 p.1 p.2 := by
  intro p hp
  simp only [primT, List.mem_cons, List.not_mem_nil, or_false] at hp
  subst hp
  exact pContains_ok fun s sub w hI hs => by
    obtain ⟨m, hm⟩ := hI
    exact Tryd.strings_Contains s sub m w hs hm

theorem hprims_ok {B0 : Nat} (hB : 1 < B0) : ∀ p ∈ hprimT, HPrimSpec Tryd.prog cfg.G Inv B0 p.1 p.2 := by
  intro p hp
  simp only [hprimT, List.mem_cons, List.not_mem_nil, or_false] at hp
  subst hp
  intro vs h v h' hg E args hE H hr
  exact pString_ok (inv_below hB) Tryd.lays169 Tryd.Builder_Extra_169 hg hE H hr

theorem glob_pure : ∀ g cs, cfg.G g = some cs → pureV.pureVs cs = true := by
  intro g cs h
  have := lookN_mem (l := globT) h
  simp only [globT, List.mem_cons, List.not_mem_nil, or_false, Prod.mk.injEq] at this
  obtain ⟨-, rfl⟩ := this
  rfl

theorem cfg_sound {B0 : Nat} (hB : 1 < B0) : Sound cfg Inv B0 :=
  Sound.mk' (n := 81) (inv_below hB) (by kernel_rfl) cfg_ident glob_pure cfg_fns cfg_lt
    (fun k g vs h v h' _ hg hv => hprims_ok hB (k, g) (lookN_mem hg) vs h v h' hv)
    (fun k g vs v _ hg hv => prims_ok (k, g) (lookN_mem hg) vs v hv)

end Go.Proofs.YtafflebdjmnihaaDoor
