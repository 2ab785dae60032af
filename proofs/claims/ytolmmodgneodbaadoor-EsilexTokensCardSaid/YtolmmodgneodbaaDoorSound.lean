/-
  The abstract interpreter is sound at this seat's program: what it answers, the program answers. Conditions: that the library's variable MaxLen holds some integer, and the library's table of blanks lies as its initialiser lays it.
-/
import Derived.Test.YtolmmodgneodbaaDoorCfg
import Derived.Test.YtolmmodgneodbaaDoorShelf
import Derived.Lib.LaidU8
import Derived.KernelRfl
namespace Go.Proofs.YtolmmodgneodbaaDoor
open Go.Ai Go.RowKit

theorem cfg_fns : okAll cfg 93 = true := by kernel_rfl

theorem cfg_lt (k : Nat) (h : cfg.ok k = true) : k < 93 := by
  have : (Nat.blt k 93 && _) = true := h
  rw [Bool.and_eq_true] at this
  exact Nat.le_of_ble_eq_true this.1

theorem cfg_ident : IdentOk cfg := by
  intro k hk x w
  have hk' : Nat.testBit 0 k = true := hk
  simp at hk'

theorem gSpace : Tryd.prog.globalNamed "strings.asciiSpace" = some 1 := by kernel_rfl
theorem gSpaceType : (Tryd.prog.globals[1]?).map (·.type) = some 81 := by kernel_rfl

/-- MaxLen holds an integer; the table of blanks is laid. -/
def Inv (w : World) : Prop := (∃ m, w.cell? ⟨0, 0, none⟩ = some (.int .i64 m)) ∧ Lib.TabIs Tryd.prog w "strings.asciiSpace" .u8 Lib.asciiSpaceTab

theorem inv_below {B0 : Nat} (hB : 1 < B0) (w w' : World) (hw : Inv w) (hb : Below B0 w w') : Inv w' := by
  obtain ⟨⟨m, hm⟩, ht⟩ := hw
  refine ⟨⟨m, (hb.cell (Nat.lt_of_le_of_lt (by decide) hB)).trans hm⟩, ?_⟩
  unfold Lib.TabIs World.var? at ht ⊢
  rw [gSpace] at ht ⊢
  simp only [Option.bind_some] at ht ⊢
  rw [hb.block 1 (Nat.lt_of_le_of_lt (by decide) hB)]
  exact ht

theorem prims_ok {B0 : Nat} : ∀ p ∈ primT, PrimSpec Tryd.prog cfg.G Inv B0 p.1 p.2 := by
  intro p hp
  simp only [primT, List.mem_cons, List.not_mem_nil, or_false] at hp
  rcases hp with rfl | rfl | rfl | rfl
  · exact pContains_ok fun s sub w hI hs => by
      obtain ⟨⟨m, hm⟩, _⟩ := hI
      exact Tryd.strings_Contains s sub m w hs hm
  · exact pIndex_ok fun s sub w hI hs => by
      obtain ⟨⟨m, hm⟩, _⟩ := hI
      exact Tryd.strings_Index s sub m w hs hm
  · exact pByteIx_ok fun s c w hI => Tryd.strings_IndexByte s c w
  · exact pFields_ok (t := 9) (fun s w hI hs ha => Tryd.strings_Fields s w hs ha hI.2) fields_len

theorem cfg_sound {B0 : Nat} (hB : 1 < B0) : Sound cfg Inv B0 :=
  Sound.mk' (n := 93) (inv_below hB) (by kernel_rfl) cfg_ident (fun g cs h => by cases h) cfg_fns cfg_lt
    (fun k g vs h v h' _ hg hv => by cases hg)
    (fun k g vs v _ hg hv => prims_ok (k, g) (lookN_mem hg) vs v hv)

/-- The same in a configuration in which more functions are primitives. -/
theorem cfg_more {B0 : Nat} (hB : 1 < B0) {l : List (Nat × (List AV → Option (Bool × AV)))} (hl : ∀ p ∈ l, PrimSpec Tryd.prog cfg.G Inv B0 p.1 p.2) (hf : okAll { cfg with prim := fun f => lookN f (primT ++ l) } 93 = true) :
    Sound { cfg with prim := fun f => lookN f (primT ++ l) } Inv B0 :=
  Sound.mk' (n := 93) (inv_below hB) (by kernel_rfl) cfg_ident (fun g cs h => by cases h) hf cfg_lt
    (fun k g vs h v h' _ hg hv => by cases hg)
    (fun k g vs v _ hg hv => by
      rcases List.mem_append.1 (lookN_mem (l := primT ++ l) hg) with h | h
      · exact prims_ok (k, g) h vs v hv
      · exact hl (k, g) h vs v hv)
/-- Out of what a row asks of the world. -/
theorem inv_of {W : World} (hsh : W.ShapedOpen Tryd.prog) {l : List (String × DataW Unit)} (hL : laidMet Tryd.prog l W) (hm : ("strings.asciiSpace", Lib.tabData .u8 Lib.asciiSpaceTab) ∈ l) : Inv W := by
  obtain ⟨m, hm'⟩ := Tryd.laysM143.s1_3 W hsh
  refine ⟨⟨m, hm'⟩, ?_⟩
  obtain ⟨g, t, cs, fuel, p, hg, hty, hvar, hd⟩ := Lib.laidMet.reads hL hm
  obtain rfl := Option.some.inj (gSpace.symm.trans hg)
  obtain rfl := Option.some.inj (gSpaceType.symm.trans hty)
  unfold Lib.TabIs
  rw [hvar, ← Lib.cells_of_tab (n := 256) (e := 5) Tryd.underlying81 Tryd.underlying5 (by kernel_rfl) (by kernel_rfl) hd]

theorem size_of {W : World} (h : Inv W) : 1 < W.heap.size := by
  obtain ⟨_, ht⟩ := h
  unfold Lib.TabIs World.var? at ht
  rw [gSpace] at ht
  simp only [Option.bind_some] at ht
  rcases Nat.lt_or_ge 1 W.heap.size with h | h
  · exact h
  · rw [Array.getElem?_eq_none h] at ht
    cases ht
end Go.Proofs.YtolmmodgneodbaaDoor
