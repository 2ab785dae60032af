/-
  The abstract interpreter is sound at this seat's program: what it answers, the program answers. Conditions: that the library's variable MaxLen holds some integer, and the library's table of blanks lies as its initialiser lays it.
-/
import Derived.Test.YtopjpnhgnopbiaaDoorJG
import Derived.Shelf.Strings.SlTrimAscii
import Derived.Test.YtopjpnhgnopbiaaDoorShelf
import Derived.Lib.LaidU8
import Derived.KernelRfl
set_option linter.unusedVariables false
set_option linter.unusedSimpArgs false
set_option linter.unnecessarySimpa false
namespace Go.Proofs.YtopjpnhgnopbiaaDoor
open Go.Ai Go.RowKit
theorem cfg_fns :okAll cfg 131=true:=by kernel_rfl
theorem cfg_lt (k:Nat)(h:cfg.ok k=true):k<131:=by
 have:(Nat.blt k 131&&_)=true:=h;rw[Bool.and_eq_true] at this;exact Nat.le_of_ble_eq_true this.1
theorem cfg_ident :IdentOk cfg:=by
 intro k hk x w;have hk':Nat.testBit 0 k=true:=hk;simp at hk'
theorem gSpace :Tryd.prog.globalNamed "strings.asciiSpace" =some 0:=by kernel_rfl
theorem gSpaceType :(Tryd.prog.globals[0]?).map (·.type)=some 127:=by kernel_rfl
def Inv (w:World):Prop:=(∃m,w.cell? ⟨1,0,none⟩=some (.int .i64 m))∧Lib.TabIs Tryd.prog w "strings.asciiSpace" .u8 Lib.asciiSpaceTab
theorem inv_below {B0:Nat}(hB:1<B0)(w w':World)(hw:Inv w)(hb:Below B0 w w'):Inv w':=by
 obtain⟨⟨m,hm⟩,ht⟩:=hw
 refine⟨⟨m,(hb.cell (Nat.lt_of_le_of_lt (by decide) hB)).trans hm⟩,?_⟩
 unfold Lib.TabIs World.var? at ht⊢;rw[gSpace] at ht⊢;simp only[Option.bind_some] at ht⊢
 rw[hb.block 0 (Nat.lt_of_le_of_lt (by decide) hB)]
 exact ht
theorem prims_ok {B0:Nat}:∀p∈primT,PrimSpec Tryd.prog cfg.G Inv B0 p.1 p.2:=by
 intro p hp;simp only[primT,List.mem_cons,List.not_mem_nil,or_false] at hp
 rcases hp with rfl|rfl|rfl|rfl|rfl|rfl
 ·exact pContains_ok fun s sub w hI hs=>by
   obtain⟨⟨m,hm⟩,_⟩:=hI;exact Tryd.strings_Contains s sub m w hs hm
 ·exact pIndex_ok fun s sub w hI hs=>by
   obtain⟨⟨m,hm⟩,_⟩:=hI;exact Tryd.strings_Index s sub m w hs hm
 ·exact pByteIx_ok fun s c w hI=>Tryd.strings_IndexByte s c w
 ·exact pFields_ok (t:=9) (fun s w hI hs ha=>Tryd.strings_Fields s w hs ha hI.2) fields_len
 ·exact pTrimLeft_ok fun s cs w hI h1 h2=>Any.strings_TrimLeft_laid Tryd.lays161 (by kernel_rfl) s cs w h1 h2
 ·exact stepsP_ok
theorem cfg_sound {B0:Nat}(hB:1<B0):Sound cfg Inv B0:=
 Sound.mk' (n:=131) (inv_below hB) (by kernel_rfl) cfg_ident (fun g cs h=>by cases h) cfg_fns cfg_lt
  (fun k g vs h v h' _ hg hv=>by cases hg)
  (fun k g vs v _ hg hv=>prims_ok (k,g) (lookN_mem hg) vs v hv)
theorem cfg_more {B0:Nat}(hB:1<B0){l:List (Nat×(List AV→Option (Bool×AV)))}(hl:∀p∈l,PrimSpec Tryd.prog cfg.G Inv B0 p.1 p.2)(hf:okAll {cfg with prim:=fun f=>lookN f (primT++l)} 131=true):
  Sound {cfg with prim:=fun f=>lookN f (primT++l)} Inv B0:=
 Sound.mk' (n:=131) (inv_below hB) (by kernel_rfl) cfg_ident (fun g cs h=>by cases h) hf cfg_lt
  (fun k g vs h v h' _ hg hv=>by cases hg)
  (fun k g vs v _ hg hv=>by
   rcases List.mem_append.1 (lookN_mem (l:=primT++l) hg) with h|h
   ·exact prims_ok (k,g) h vs v hv
   ·exact hl (k,g) h vs v hv)
theorem cfg2_sound {B0:Nat}(hB:1<B0):Sound cfg2 Inv B0:=
 cfg_more hB (fun p hp=>by
  have hp:p=(15,Lx.lexP):=by simpa using hp
  subst hp
  exact Lx.lexP_ok (cfg_sound hB)) (by kernel_rfl)
theorem cfg3_sound {B0:Nat}(hB:1<B0):Sound cfg3 Inv B0:=
 cfg_more hB (fun p hp=>by
  have hp:p=(15,Lx.lexP)∨p=(8,parseP):=by simpa using hp
  rcases hp with rfl|rfl
  ·exact Lx.lexP_ok (cfg_sound hB)
  ·exact parseP_ok (cfg2_sound hB)) (by kernel_rfl)
def plainS :List TypeId:=[9]
theorem plainS_ok :closedT Tryd.prog plainS plainS=true:=by kernel_rfl
theorem inv_of {W:World}(hsh:W.ShapedOpen Tryd.prog){l:List (String×DataW Unit)}(hL:laidMet Tryd.prog l W)(hm:("strings.asciiSpace",Lib.tabData .u8 Lib.asciiSpaceTab)∈l):Inv W:=by
 obtain⟨m,hm'⟩:=Tryd.laysM143.s1_3 W hsh;refine⟨⟨m,hm'⟩,?_⟩;obtain⟨g,t,cs,fuel,p,hg,hty,hvar,hd⟩:=Lib.laidMet.reads hL hm;obtain rfl:=Option.some.inj (gSpace.symm.trans hg);obtain rfl:=Option.some.inj (gSpaceType.symm.trans hty);unfold Lib.TabIs
 rw[hvar,←Lib.cells_of_tab (n:=256) (e:=5) Tryd.underlying127 Tryd.underlying5 (by kernel_rfl) (by kernel_rfl) hd]
theorem size_of {W:World}(h:Inv W):1<W.heap.size:=by
 obtain⟨⟨m,hm⟩,_⟩:=h;have:=World.block_lt_of_cell? W _ hm;simp only at this;omega
end Go.Proofs.YtopjpnhgnopbiaaDoor
