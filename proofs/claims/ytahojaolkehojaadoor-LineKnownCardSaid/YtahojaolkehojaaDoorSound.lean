/-
  The abstract interpreter is sound at this seat's program: what it answers, the program answers. Conditions: that the library's variable MaxLen holds some integer, its table of powers of ten lies as its initialiser lays it, and both of its errors for numbers are errors.
-/
import Derived.Test.YtahojaolkehojaaDoorCfg
import Derived.Test.YtahojaolkehojaaDoorShelf
import Derived.Lib.LaidU8
import Derived.KernelRfl
namespace Go.Proofs.YtahojaolkehojaaDoor
open Go.Ai Go.RowKit

theorem cfg_fns : okAll cfg 107 = true := by kernel_rfl

theorem cfg_lt (k : Nat) (h : cfg.ok k = true) : k < 107 := by
  have : (Nat.blt k 107 && _) = true := h
  rw [Bool.and_eq_true] at this
  exact Nat.le_of_ble_eq_true this.1

theorem cfg_ident : IdentOk cfg := by
  intro k hk x w
  have hk' : Nat.testBit 0 k = true := hk
  simp at hk'

theorem gPow : Tryd.prog.globalNamed "internal/strconv.uint64pow10" = some 3 := by kernel_rfl
theorem gPowType : (Tryd.prog.globals[3]?).map (·.type) = some 100 := by kernel_rfl
theorem gSyn : Tryd.prog.globalNamed "strconv.ErrSyntax" = some 0 := by kernel_rfl
theorem gSynType : (Tryd.prog.globals[0]?).map (·.type) = some 58 := by kernel_rfl
theorem gRng : Tryd.prog.globalNamed "strconv.ErrRange" = some 1 := by kernel_rfl
theorem gRngType : (Tryd.prog.globals[1]?).map (·.type) = some 58 := by kernel_rfl

/-- MaxLen holds an integer; the table of powers is laid; both errors are some. -/
def Inv (w : World) : Prop := (∃ m, w.cell? ⟨2, 0, none⟩ = some (.int .i64 m)) ∧ Lib.TabIs Tryd.prog w "internal/strconv.uint64pow10" .u64 Lib.pow10Tab ∧ (∃ t v, w.cell? ⟨0, 0, none⟩ = some (.iface t v)) ∧ (∃ t v, w.cell? ⟨1, 0, none⟩ = some (.iface t v))

theorem inv_below {B0 : Nat} (hB : 3 < B0) (w w' : World) (hw : Inv w) (hb : Below B0 w w') : Inv w' := by
  obtain ⟨⟨m, hm⟩, ht, ⟨t0, v0, h0⟩, ⟨t1, v1, h1⟩⟩ := hw
  refine ⟨⟨m, (hb.cell (Nat.lt_of_le_of_lt (by decide) hB)).trans hm⟩, ?_, ⟨t0, v0, (hb.cell (Nat.lt_of_le_of_lt (by decide) hB)).trans h0⟩, ⟨t1, v1, (hb.cell (Nat.lt_of_le_of_lt (by decide) hB)).trans h1⟩⟩
  unfold Lib.TabIs World.var? at ht ⊢
  rw [gPow] at ht ⊢
  simp only [Option.bind_some] at ht ⊢
  rw [hb.block 3 hB]
  exact ht

theorem prims_ok {B0 : Nat} : ∀ p ∈ primT, PrimSpec Tryd.prog cfg.G Inv B0 p.1 p.2 := by
  intro p hp
  simp only [primT, List.mem_cons, List.not_mem_nil, or_false] at hp
  rcases hp with rfl | rfl | rfl | rfl
  · exact pCut_ok fun s sep w hI hs => by
      obtain ⟨⟨m, hm⟩, _⟩ := hI
      exact Tryd.strings_Cut s sep m w hs hm
  · exact pByteIx_ok fun s c w hI => Tryd.strings_IndexByte s c w
  · exact pAtoi_ok fun s w hI hs => by
      obtain ⟨_, _, ⟨t0, v0, h0⟩, ⟨t1, v1, h1⟩⟩ := hI
      cases ha : Lib.atoiAll s.data.toList with
      | ok v =>
        have e1 : atoiV s.data.toList = v := by simp only [atoiV, ha]
        rw [e1]
        refine (Tryd.strconv_Atoi_ok s (by omega) v ha w).mono fun e w' hp => ?_
        obtain ⟨rfl, hw⟩ := hp
        refine ⟨_, rfl, ?_⟩
        rcases hw with rfl | ⟨r, rfl⟩
        · exact Below.refl _ _
        · exact Lib.bytesWorld_below w 5 r
      | range =>
        have e1 : atoiV s.data.toList = Lib.atoiSat s.data.toList := by simp only [atoiV, ha]
        rw [e1]
        refine (Tryd.strconv_Atoi_range s (by omega) ha _ w h1 (.inr ⟨t1, v1, rfl⟩)).mono fun e w' hp => ?_
        obtain ⟨N, rfl, _, _, hb⟩ := hp
        exact ⟨_, rfl, hb⟩
      | _ =>
        have e1 : atoiV s.data.toList = 0 := by simp only [atoiV, ha]
        rw [e1]
        refine (Any.strconv_Atoi_syntax Tryd.laysC172 s (by omega) ha _ w h0 (.inr ⟨t0, v0, rfl⟩)).mono fun e w' hp => ?_
        obtain ⟨N, rfl, _, _, hb⟩ := hp
        exact ⟨_, rfl, hb⟩
  · exact pItoa_ok fun n w hI h0 h1 => Tryd.strconv_Itoa n h0 h1 w hI.2.1

theorem cfg_sound {B0 : Nat} (hB : 3 < B0) : Sound cfg Inv B0 :=
  Sound.mk' (n := 107) (inv_below hB) (by kernel_rfl) cfg_ident (fun g cs h => by cases h) cfg_fns cfg_lt
    (fun k g vs h v h' _ hg hv => by cases hg)
    (fun k g vs v _ hg hv => prims_ok (k, g) (lookN_mem hg) vs v hv)

/-- An error that a row lays is one. -/
theorem err_of {W : World} {l : List (String × DataW Unit)} (hL : laidMet Tryd.prog l W) {n nm : String} {d : DataW Unit} {k : Nat} (hm : (n, DataW.iface nm d) ∈ l) (hg : Tryd.prog.globalNamed n = some k) (hty : (Tryd.prog.globals[k]?).map (·.type) = some 58) :
    ∃ t v, W.cell? ⟨k, 0, none⟩ = some (.iface t v) := by
  obtain ⟨g, t, cs, fuel, p, hg', hty', hvar, hd⟩ := Lib.laidMet.reads hL hm
  obtain rfl := Option.some.inj (hg.symm.trans hg')
  obtain rfl := Option.some.inj (hty.symm.trans hty')
  obtain ⟨f, u, v, hcs, _, _⟩ := iface_of_trod Tryd.underlying58 hd
  have hcs' : cs = #[.iface u v] := by rw [← Array.toArray_toList (xs := cs), hcs]
  rw [hcs'] at hvar
  exact ⟨u, v, by have h0 := World.var?_cell hg hvar 0; simpa using h0⟩

/-- Out of what a row asks of the world. -/
theorem inv_of {W : World} (hsh : W.ShapedOpen Tryd.prog) {l : List (String × DataW Unit)} (hL : laidMet Tryd.prog l W) (hm : ("internal/strconv.uint64pow10", Lib.tabData .u64 Lib.pow10Tab) ∈ l) {n0 n1 : String} {d0 d1 : DataW Unit}
    (hs : ("strconv.ErrSyntax", DataW.iface n0 d0) ∈ l) (hr : ("strconv.ErrRange", DataW.iface n1 d1) ∈ l) : Inv W := by
  obtain ⟨m, hm'⟩ := Tryd.laysM145.s1_3 W hsh
  refine ⟨⟨m, hm'⟩, ?_, err_of hL hs gSyn gSynType, err_of hL hr gRng gRngType⟩
  obtain ⟨g, t, cs, fuel, p, hg, hty, hvar, hd⟩ := Lib.laidMet.reads hL hm
  obtain rfl := Option.some.inj (gPow.symm.trans hg)
  obtain rfl := Option.some.inj (gPowType.symm.trans hty)
  unfold Lib.TabIs
  rw [hvar, ← Lib.cells_of_tab (n := 20) (e := 80) Tryd.underlying100 Tryd.underlying80 (by kernel_rfl) (by kernel_rfl) hd]

theorem size_of {W : World} (h : Inv W) : 3 < W.heap.size := by
  obtain ⟨_, ht, _⟩ := h
  unfold Lib.TabIs World.var? at ht
  rw [gPow] at ht
  simp only [Option.bind_some] at ht
  by_cases hlt : 3 < W.heap.size
  · exact hlt
  · rw [Array.getElem?_eq_none (Nat.le_of_not_lt hlt)] at ht
    cases ht
end Go.Proofs.YtahojaolkehojaaDoor
