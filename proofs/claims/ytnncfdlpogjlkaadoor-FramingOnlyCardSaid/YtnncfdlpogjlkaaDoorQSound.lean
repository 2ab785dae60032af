/-
  The abstract interpreter is sound at this seat's program: what it answers, the program answers. Conditions: that the library's variable MaxLen holds some integer, its table for the place of a bit lies as its initialiser lays it, and both of its errors for numbers are errors.
-/
import Derived.Test.YtnncfdlpogjlkaaDoorQCfg
import Derived.Test.YtnncfdlpogjlkaaDoorQShelf
import Derived.Lib.LaidU8
import Derived.Shelf.Strings.SlTrimAscii
import Derived.KernelRfl
namespace Go.Proofs.YtnncfdlpogjlkaaDoor
open Go.Ai Go.RowKit

theorem cfg_fns : okAll cfg 169 = true := by kernel_rfl

theorem cfg_lt (k : Nat) (h : cfg.ok k = true) : k < 169 := by
  have : (Nat.blt k 169 && _) = true := h
  rw [Bool.and_eq_true] at this
  exact Nat.le_of_ble_eq_true this.1

theorem cfg_ident : IdentOk cfg := by
  intro k hk x w
  have hk' : Nat.testBit 151115727451828646838272 k = true := hk
  have : k = 77 := by
    by_cases h : k < 78
    · have : ∀ j, j < 78 → Nat.testBit 151115727451828646838272 j = true → j = 77 := by decide
      exact this k h hk'
    · rw [Nat.testBit_lt_two_pow (Nat.lt_of_lt_of_le (by decide : 151115727451828646838272 < 2 ^ 78) (Nat.pow_le_pow_right (by decide) (Nat.le_of_not_lt h)))] at hk'
      cases hk'
  subst this
  exact ident_noEscape (P := Tryd.prog) Tryd.func77 (by kernel_rfl) (by kernel_rfl) (by kernel_rfl) (by kernel_rfl) x w

theorem gSyn : Tryd.prog.globalNamed "strconv.ErrSyntax" = some 2 := by kernel_rfl
theorem gSynType : (Tryd.prog.globals[2]?).map (·.type) = some 74 := by kernel_rfl
theorem gRng : Tryd.prog.globalNamed "strconv.ErrRange" = some 3 := by kernel_rfl
theorem gRngType : (Tryd.prog.globals[3]?).map (·.type) = some 74 := by kernel_rfl
theorem gBit : Tryd.prog.globalNamed "math/bits.deBruijn64tab" = some 7 := by kernel_rfl
theorem gBitType : (Tryd.prog.globals[7]?).map (·.type) = some 174 := by kernel_rfl

/-- MaxLen holds an integer; both errors are some; no more is asked than eight variables. -/
def Inv (w : World) : Prop := (∃ m, w.cell? ⟨0, 0, none⟩ = some (.int .i64 m)) ∧ (∃ t v, w.cell? ⟨2, 0, none⟩ = some (.iface t v)) ∧ (∃ t v, w.cell? ⟨3, 0, none⟩ = some (.iface t v))

theorem inv_below {B0 : Nat} (hB : 3 < B0) (w w' : World) (hw : Inv w) (hb : Below B0 w w') : Inv w' := by
  obtain ⟨⟨m, hm⟩, ⟨t0, v0, h0⟩, ⟨t1, v1, h1⟩⟩ := hw
  exact ⟨⟨m, (hb.cell (Nat.lt_of_le_of_lt (by decide) hB)).trans hm⟩, ⟨t0, v0, (hb.cell (Nat.lt_of_le_of_lt (by decide) hB)).trans h0⟩, ⟨t1, v1, (hb.cell (Nat.lt_of_le_of_lt (by decide) hB)).trans h1⟩⟩

theorem prims_ok {B0 : Nat} : ∀ p ∈ primT, PrimSpec Tryd.prog cfg.G Inv B0 p.1 p.2 := by
  intro p hp
  simp only [primT, List.mem_cons, List.not_mem_nil, or_false] at hp
  rcases hp with rfl | rfl | rfl | rfl | rfl | rfl
  · exact pTrim_ok fun s cs w hI hs hc ha => Any.strings_Trim_laid Tryd.lays160 (by kernel_rfl) s cs w hs hc ha
  · exact pIndex_ok fun s sub w hI hs => by
      obtain ⟨⟨m, hm⟩, _⟩ := hI
      exact Tryd.strings_Index s sub m w hs hm
  · exact pCut_ok fun s sep w hI hs => by
      obtain ⟨⟨m, hm⟩, _⟩ := hI
      exact Tryd.strings_Cut s sep m w hs hm
  · exact pAtoi_ok fun s w hI hs => by
      obtain ⟨_, ⟨t0, v0, h0⟩, ⟨t1, v1, h1⟩⟩ := hI
      cases ha : Lib.atoiAll s.data.toList with
      | ok v =>
        have e1 : atoiV s.data.toList = v := by simp only [atoiV, ha]
        rw [e1]
        refine (Tryd.strconv_Atoi_ok s (by omega) v ha w).mono fun e w' hp => ?_
        obtain ⟨rfl, hw⟩ := hp
        refine ⟨_, rfl, ?_⟩
        rcases hw with rfl | ⟨r, rfl⟩
        · exact Below.refl _ _
        · exact Lib.bytesWorld_below w 5 r
      | range =>
        have e1 : atoiV s.data.toList = Lib.atoiSat s.data.toList := by simp only [atoiV, ha]
        rw [e1]
        refine (Tryd.strconv_Atoi_range s (by omega) ha _ w h1 (.inr ⟨t1, v1, rfl⟩)).mono fun e w' hp => ?_
        obtain ⟨N, rfl, _, _, hb⟩ := hp
        exact ⟨_, rfl, hb⟩
      | _ =>
        have e1 : atoiV s.data.toList = 0 := by simp only [atoiV, ha]
        rw [e1]
        refine (Any.strconv_Atoi_syntax Tryd.laysC172 s (by omega) ha _ w h0 (.inr ⟨t0, v0, rfl⟩)).mono fun e w' hp => ?_
        obtain ⟨N, rfl, _, _, hb⟩ := hp
        exact ⟨_, rfl, hb⟩
  · exact pByteIx_ok fun s c w hI => Tryd.strings_IndexByte s c w
  · exact pRepeat_ok fun s c w hI hc hl => Tryd.strings_Repeat s c w hc hl

theorem hprims_ok {B0 : Nat} (hB : 3 < B0) : ∀ p ∈ hprimT, HPrimSpec Tryd.prog cfg.G Inv B0 p.1 p.2 := by
  intro p hp
  simp only [hprimT, List.mem_cons, List.not_mem_nil, or_false] at hp
  subst hp
  intro vs h v h' hg E args hE H hr
  exact pString_ok (inv_below hB) Tryd.lays169 Tryd.Builder_Extra_169 hg hE H hr

theorem glob_pure : ∀ g cs, cfg.G g = some cs → pureV.pureVs cs = true := by
  intro g cs h
  have := lookN_mem (l := globT) h
  simp only [globT, List.mem_cons, List.not_mem_nil, or_false, Prod.mk.injEq] at this
  obtain ⟨-, rfl⟩ := this
  rfl

theorem cfg_sound {B0 : Nat} (hB : 3 < B0) : Sound cfg Inv B0 :=
  Sound.mk' (n := 169) (inv_below hB) (by kernel_rfl) cfg_ident glob_pure cfg_fns cfg_lt
    (fun k g vs h v h' _ hg hv => hprims_ok hB (k, g) (lookN_mem hg) vs h v h' hv)
    (fun k g vs v _ hg hv => prims_ok (k, g) (lookN_mem hg) vs v hv)

/-- The same in a configuration in which more functions are primitives. -/
theorem cfg_more {B0 : Nat} (hB : 3 < B0) {l : List (Nat × (List AV → Option (Bool × AV)))} (hl : ∀ p ∈ l, PrimSpec Tryd.prog cfg.G Inv B0 p.1 p.2) (hf : okAll { cfg with prim := fun f => lookN f (primT ++ l) } 169 = true) :
    Sound { cfg with prim := fun f => lookN f (primT ++ l) } Inv B0 :=
  Sound.mk' (n := 169) (inv_below hB) (by kernel_rfl) cfg_ident glob_pure hf cfg_lt
    (fun k g vs h v h' _ hg hv => hprims_ok hB (k, g) (lookN_mem hg) vs h v h' hv)
    (fun k g vs v _ hg hv => by
      rcases List.mem_append.1 (lookN_mem (l := primT ++ l) hg) with h | h
      · exact prims_ok (k, g) h vs v hv
      · exact hl (k, g) h vs v hv)

/-- An error that a row lays is one. -/
theorem err_of {W : World} {l : List (String × DataW Unit)} (hL : laidMet Tryd.prog l W) {n nm : String} {d : DataW Unit} {k : Nat} (hm : (n, DataW.iface nm d) ∈ l) (hg : Tryd.prog.globalNamed n = some k) (hty : (Tryd.prog.globals[k]?).map (·.type) = some 74) :
    ∃ t v, W.cell? ⟨k, 0, none⟩ = some (.iface t v) := by
  obtain ⟨g, t, cs, fuel, p, hg', hty', hvar, hd⟩ := Lib.laidMet.reads hL hm
  obtain rfl := Option.some.inj (hg.symm.trans hg')
  obtain rfl := Option.some.inj (hty.symm.trans hty')
  obtain ⟨f, u, v, hcs, _, _⟩ := iface_of_trod Tryd.underlying74 hd
  have hcs' : cs = #[.iface u v] := by rw [← Array.toArray_toList (xs := cs), hcs]
  rw [hcs'] at hvar
  exact ⟨u, v, by have h0 := World.var?_cell hg hvar 0; simpa using h0⟩

/-- Out of what a row asks of the world. -/
theorem inv_of {W : World} (hsh : W.ShapedOpen Tryd.prog) {l : List (String × DataW Unit)} (hL : laidMet Tryd.prog l W) {n0 n1 : String} {d0 d1 : DataW Unit}
    (hs : ("strconv.ErrSyntax", DataW.iface n0 d0) ∈ l) (hr : ("strconv.ErrRange", DataW.iface n1 d1) ∈ l) : Inv W := by
  obtain ⟨m, hm'⟩ := Tryd.laysM145.s1_3 W hsh
  exact ⟨⟨m, hm'⟩, err_of hL hs gSyn gSynType, err_of hL hr gRng gRngType⟩

/-- The laid table for the place of a bit. -/
theorem glob_at {W : World} {l : List (String × DataW Unit)} (hL : laidMet Tryd.prog l W) {i : Nat} {d : DataW Unit} (hi : l[i]? = some ("math/bits.deBruijn64tab", d)) (hd : absD Tryd.prog 5 174 d = cfg.G 7) : ∀ g cs, cfg.G g = some cs → At (Go.Ai.start W) cs ⟨g, 0, none⟩ := by
  intro g cs h
  have hg := lookN_mem (l := globT) h
  simp only [globT, List.mem_cons, List.not_mem_nil, or_false, Prod.mk.injEq] at hg
  obtain ⟨rfl, rfl⟩ := hg
  obtain ⟨ps, hl, _⟩ := hL
  exact laid_rel hl i "math/bits.deBruijn64tab" d 7 5 174 _ hi gBit gBitType (hd.trans h)

theorem size_of {W : World} (h : Inv W) : 3 < W.heap.size := by
  obtain ⟨_, _, ⟨t, v, hc⟩⟩ := h
  exact World.block_lt_of_cell? W _ hc
end Go.Proofs.YtnncfdlpogjlkaaDoor
