/-
  The abstract interpreter is sound at this seat's program: what it answers, the program answers. Conditions: that the library's variable MaxLen holds some integer, its tables of powers and for the place of a bit lie as their initialisers lay them, and both of its errors for numbers are errors.
-/
import Derived.Test.YtnncfdlpogjlkaaGreatDoorLCfg
import Derived.Test.YtnncfdlpogjlkaaGreatDoorLShelf
import Derived.Lib.LaidU8
import Derived.Shelf.Strings.SlTrimAscii
import Derived.KernelRfl
set_option linter.unusedVariables false
set_option linter.unusedSimpArgs false
set_option linter.unnecessarySimpa false
namespace Go.Proofs.YtnncfdlpogjlkaaGreatDoor
open Go.Ai Go.RowKit
theorem cfg_fns : okAll cfg 233 = true := by kernel_rfl
theorem cfg_lt (k : Nat) (h : cfg.ok k = true) : k < 233 := by
  have : (Nat.blt k 233 && _) = true := h; rw [Bool.and_eq_true] at this; exact Nat.le_of_ble_eq_true this.1
theorem cfg_ident : IdentOk cfg := by
  intro k hk x w; have hk' : Nat.testBit 44601490397061246283071436545296723011960832 k = true := hk
  have : k = 145 := by
    by_cases h : k < 146
    · have : ∀ j, j < 146 → Nat.testBit 44601490397061246283071436545296723011960832 j = true → j = 145 := by decide
      exact this k h hk'
    · rw [Nat.testBit_lt_two_pow (Nat.lt_of_lt_of_le (by decide : 44601490397061246283071436545296723011960832 < 2 ^ 146) (Nat.pow_le_pow_right (by decide) (Nat.le_of_not_lt h)))] at hk'
      cases hk'
  subst this
  exact ident_noEscape (P := Tryz.prog) Tryz.func145 (by kernel_rfl) (by kernel_rfl) (by kernel_rfl) (by kernel_rfl) x w
theorem gSyn : Tryz.prog.globalNamed "strconv.ErrSyntax" = some 1 := by kernel_rfl
theorem gSynType : (Tryz.prog.globals[1]?).map (·.type) = some 116 := by kernel_rfl
theorem gRng : Tryz.prog.globalNamed "strconv.ErrRange" = some 2 := by kernel_rfl
theorem gRngType : (Tryz.prog.globals[2]?).map (·.type) = some 116 := by kernel_rfl
theorem gPow : Tryz.prog.globalNamed "internal/strconv.uint64pow10" = some 5 := by kernel_rfl
theorem gPowType : (Tryz.prog.globals[5]?).map (·.type) = some 234 := by kernel_rfl
theorem gBit : Tryz.prog.globalNamed "math/bits.deBruijn64tab" = some 7 := by kernel_rfl
theorem gBitType : (Tryz.prog.globals[7]?).map (·.type) = some 241 := by kernel_rfl
def Inv (w : World) : Prop := (∃ m, w.cell? ⟨0, 0, none⟩ = some (.int .i64 m)) ∧ Lib.TabIs Tryz.prog w "internal/strconv.uint64pow10" .u64 Lib.pow10Tab ∧ (∃ t v, w.cell? ⟨1, 0, none⟩ = some (.iface t v)) ∧ (∃ t v, w.cell? ⟨2, 0, none⟩ = some (.iface t v))
theorem inv_below {B0 : Nat} (hB : 5 < B0) (w w' : World) (hw : Inv w) (hb : Below B0 w w') : Inv w' := by
  obtain ⟨⟨m, hm⟩, ht, ⟨t0, v0, h0⟩, ⟨t1, v1, h1⟩⟩ := hw
  refine ⟨⟨m, (hb.cell (Nat.lt_of_le_of_lt (by decide) hB)).trans hm⟩, ?_, ⟨t0, v0, (hb.cell (Nat.lt_of_le_of_lt (by decide) hB)).trans h0⟩, ⟨t1, v1, (hb.cell (Nat.lt_of_le_of_lt (by decide) hB)).trans h1⟩⟩
  unfold Lib.TabIs World.var? at ht ⊢; rw [gPow] at ht ⊢; simp only [Option.bind_some] at ht ⊢; rw [hb.block 5 hB]; exact ht
theorem prims_ok {B0 : Nat} : ∀ p ∈ primT, PrimSpec Tryz.prog cfg.G Inv B0 p.1 p.2 := by
  intro p hp; simp only [primT, List.mem_cons, List.not_mem_nil, or_false] at hp
  rcases hp with rfl | rfl | rfl | rfl | rfl | rfl | rfl | rfl
  · exact pTrim_ok fun s cs w hI hs hc ha => Any.strings_Trim_laid Tryz.lays160 (by kernel_rfl) s cs w hs hc ha
  · exact pIndex_ok fun s sub w hI hs => by
      obtain ⟨⟨m, hm⟩, _⟩ := hI; exact Tryz.strings_Index s sub m w hs hm
  · exact pCut_ok fun s sep w hI hs => by
      obtain ⟨⟨m, hm⟩, _⟩ := hI; exact Tryz.strings_Cut s sep m w hs hm
  · exact pAtoi_ok fun s w hI hs => by
      obtain ⟨_, _, ⟨t0, v0, h0⟩, ⟨t1, v1, h1⟩⟩ := hI
      cases ha : Lib.atoiAll s.data.toList with
      | ok v =>
        have e1 : atoiV s.data.toList = v := by simp only [atoiV, ha]
        rw [e1]
        refine (Tryz.strconv_Atoi_ok s (by omega) v ha w).mono fun e w' hp => ?_
        obtain ⟨rfl, hw⟩ := hp; refine ⟨_, rfl, ?_⟩
        rcases hw with rfl | ⟨r, rfl⟩
        · exact Below.refl _ _
        · exact Lib.bytesWorld_below w 5 r
      | range =>
        have e1 : atoiV s.data.toList = Lib.atoiSat s.data.toList := by simp only [atoiV, ha]
        rw [e1]
        refine (Tryz.strconv_Atoi_range s (by omega) ha _ w h1 (.inr ⟨t1, v1, rfl⟩)).mono fun e w' hp => ?_
        obtain ⟨N, rfl, _, _, hb⟩ := hp; exact ⟨_, rfl, hb⟩
      | _ =>
        have e1 : atoiV s.data.toList = 0 := by simp only [atoiV, ha]
        rw [e1]
        refine (Any.strconv_Atoi_syntax Tryz.laysC172 s (by omega) ha _ w h0 (.inr ⟨t0, v0, rfl⟩)).mono fun e w' hp => ?_
        obtain ⟨N, rfl, _, _, hb⟩ := hp; exact ⟨_, rfl, hb⟩
  · exact pByteIx_ok fun s c w hI => Tryz.strings_IndexByte s c w
  · exact pRepeat_ok fun s c w hI hc hl => Tryz.strings_Repeat s c w hc hl
  · exact pItoa_ok fun n w hI h0 h1 => Tryz.strconv_Itoa n h0 h1 w hI.2.1
  · exact pReplaceAll_ok fun s o n w hI hs h1 hl => by
      obtain ⟨⟨m, hm⟩, _⟩ := hI; exact Tryz.strings_ReplaceAll s o n m w hs hm h1 hl
theorem hprims_ok {B0 : Nat} (hB : 5 < B0) : ∀ p ∈ hprimT, HPrimSpec Tryz.prog cfg.G Inv B0 p.1 p.2 := by
  intro p hp; simp only [hprimT, List.mem_cons, List.not_mem_nil, or_false] at hp; subst hp; intro vs h v h' hg E args hE H hr; exact pString_ok (inv_below hB) Tryz.lays169 Tryz.Builder_Extra_169 hg hE H hr
theorem glob_pure : ∀ g cs, cfg.G g = some cs → pureV.pureVs cs = true := by
  intro g cs h; have := lookN_mem (l := globT) h; simp only [globT, List.mem_cons, List.not_mem_nil, or_false, Prod.mk.injEq] at this; obtain ⟨-, rfl⟩ := this; rfl
theorem cfg_sound {B0 : Nat} (hB : 5 < B0) : Sound cfg Inv B0 :=
  Sound.mk' (n := 233) (inv_below hB) (by kernel_rfl) cfg_ident glob_pure cfg_fns cfg_lt
    (fun k g vs h v h' _ hg hv => hprims_ok hB (k, g) (lookN_mem hg) vs h v h' hv)
    (fun k g vs v _ hg hv => prims_ok (k, g) (lookN_mem hg) vs v hv)
theorem err_of {W : World} {l : List (String × DataW Unit)} (hL : laidMet Tryz.prog l W) {n nm : String} {d : DataW Unit} {k : Nat} (hm : (n, DataW.iface nm d) ∈ l) (hg : Tryz.prog.globalNamed n = some k) (hty : (Tryz.prog.globals[k]?).map (·.type) = some 116) :
    ∃ t v, W.cell? ⟨k, 0, none⟩ = some (.iface t v) := by
  obtain ⟨g, t, cs, fuel, p, hg', hty', hvar, hd⟩ := Lib.laidMet.reads hL hm; obtain rfl := Option.some.inj (hg.symm.trans hg'); obtain rfl := Option.some.inj (hty.symm.trans hty'); obtain ⟨f, u, v, hcs, _, _⟩ := iface_of_trod Tryz.underlying116 hd
  have hcs' : cs = #[.iface u v] := by rw [← Array.toArray_toList (xs := cs), hcs]
  rw [hcs'] at hvar
  exact ⟨u, v, by have h0 := World.var?_cell hg hvar 0; simpa using h0⟩
theorem inv_of {W : World} (hsh : W.ShapedOpen Tryz.prog) {l : List (String × DataW Unit)} (hL : laidMet Tryz.prog l W) (hm : ("internal/strconv.uint64pow10", Lib.tabData .u64 Lib.pow10Tab) ∈ l) {n0 n1 : String} {d0 d1 : DataW Unit}
    (hs : ("strconv.ErrSyntax", DataW.iface n0 d0) ∈ l) (hr : ("strconv.ErrRange", DataW.iface n1 d1) ∈ l) : Inv W := by
  obtain ⟨m, hm'⟩ := Tryz.laysM145.s1_3 W hsh; refine ⟨⟨m, hm'⟩, ?_, err_of hL hs gSyn gSynType, err_of hL hr gRng gRngType⟩; obtain ⟨g, t, cs, fuel, p, hg, hty, hvar, hd⟩ := Lib.laidMet.reads hL hm; obtain rfl := Option.some.inj (gPow.symm.trans hg); obtain rfl := Option.some.inj (gPowType.symm.trans hty); unfold Lib.TabIs
  rw [hvar, ← Lib.cells_of_tab (n := 20) (e := 160) Tryz.underlying234 Tryz.underlying160 (by kernel_rfl) (by kernel_rfl) hd]
theorem glob_at {W : World} {l : List (String × DataW Unit)} (hL : laidMet Tryz.prog l W) {i : Nat} {d : DataW Unit} (hi : l[i]? = some ("math/bits.deBruijn64tab", d)) (hd : absD Tryz.prog 5 241 d = cfg.G 7) : ∀ g cs, cfg.G g = some cs → At (Go.Ai.start W) cs ⟨g, 0, none⟩ := by
  intro g cs h; have hg := lookN_mem (l := globT) h; simp only [globT, List.mem_cons, List.not_mem_nil, or_false, Prod.mk.injEq] at hg; obtain ⟨rfl, rfl⟩ := hg; obtain ⟨ps, hl, _⟩ := hL; exact laid_rel hl i "math/bits.deBruijn64tab" d 7 5 241 _ hi gBit gBitType (hd.trans h)
theorem size_of {W : World} (h : Inv W) : 5 < W.heap.size := by
  obtain ⟨_, ht, _⟩ := h; unfold Lib.TabIs World.var? at ht; rw [gPow] at ht; simp only [Option.bind_some] at ht
  by_cases hlt : 5 < W.heap.size
  · exact hlt
  · rw [Array.getElem?_eq_none (Nat.le_of_not_lt hlt)] at ht; cases ht
end Go.Proofs.YtnncfdlpogjlkaaGreatDoor
