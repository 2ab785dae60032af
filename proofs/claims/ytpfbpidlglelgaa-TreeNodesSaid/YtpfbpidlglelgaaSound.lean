/-
  The abstract interpreter is sound at this seat's program: what it answers, the program answers. Conditions: that the library's variable MaxLen holds some integer.
-/
import Derived.Test.YtpfbpidlglelgaaCfg
import Derived.Test.YtpfbpidlglelgaaShelf
import Derived.KernelRfl
namespace Go.Proofs.Ytpfbpidlglelgaa
open Go.Ai Go.RowKit

theorem cfg_fns : okAll cfg 75 = true := by kernel_rfl

theorem cfg_lt (k : Nat) (h : cfg.ok k = true) : k < 75 := by
  have : (Nat.blt k 75 && _) = true := h
  rw [Bool.and_eq_true] at this
  exact Nat.le_of_ble_eq_true this.1

theorem cfg_ident : IdentOk cfg := by
  intro k hk x w
  have hk' : Nat.testBit 0 k = true := hk
  simp at hk'

/-- The library's variable holds an integer. -/
def Inv (w : World) : Prop := ∃ m, w.cell? ⟨0, 0, none⟩ = some (.int .i64 m)

theorem inv_below {B0 : Nat} (hB : 0 < B0) (w w' : World) (hw : Inv w) (hb : Below B0 w w') : Inv w' := by
  obtain ⟨m, hm⟩ := hw
  exact ⟨m, (hb.cell hB).trans hm⟩

theorem prims_ok {B0 : Nat} : ∀ p ∈ primT, PrimSpec Try.prog cfg.G Inv B0 p.1 p.2 := by
  intro p hp
  simp only [primT, List.mem_cons, List.not_mem_nil, or_false] at hp
  subst hp
  exact pContains_ok fun s sub w hI hs => by
    obtain ⟨m, hm⟩ := hI
    exact Try.strings_Contains s sub m w hs hm

theorem cfg_sound {B0 : Nat} (hB : 0 < B0) : Sound cfg Inv B0 :=
  Sound.mk' (n := 75) (inv_below hB) (by kernel_rfl) cfg_ident (fun g cs h => by cases h) cfg_fns cfg_lt
    (fun k g vs h v h' _ hg hv => by cases hg)
    (fun k g vs v _ hg hv => prims_ok (k, g) (lookN_mem hg) vs v hv)

end Go.Proofs.Ytpfbpidlglelgaa
