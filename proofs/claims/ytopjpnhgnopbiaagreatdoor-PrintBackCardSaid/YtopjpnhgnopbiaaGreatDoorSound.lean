/-
  The abstract interpreter is sound at this seat's program: what it answers, the program answers. Conditions: that the library's variable MaxLen holds some integer, and the library's table of blanks lies as its initialiser lays it.
-/
import Derived.Test.YtopjpnhgnopbiaaGreatDoorJG
import Derived.Shelf.Strings.SlTrimAscii
import Derived.Test.YtopjpnhgnopbiaaGreatDoorShelf
import Derived.Lib.LaidU8
import Derived.KernelRfl
set_option linter.unusedVariables false
set_option linter.unusedSimpArgs false
set_option linter.unnecessarySimpa false
namespace Go.Proofs.YtopjpnhgnopbiaaGreatDoor
open Go.Ai Go.RowKit
theorem lb :ag cfg 174=true:=by kernel_rfl
theorem jd (k:Nat)(h:cfg.ok k=true):k<174:=by
 have:(Nat.blt k 174&&_)=true:=h;rw[Bool.and_eq_true] at this;exact Nat.le_of_ble_eq_true this.1
theorem Tf :Pv cfg:=by
 intro k hk x w;have My:Nat.testBit 38685626227668133590597632 k=true:=hk
 have:k=85:=by
  by_cases h:k<86
  ·have:∀j,j<86->Nat.testBit 38685626227668133590597632 j=true->j=85:=by decide
   exact this k h My
  ·rw[Nat.testBit_lt_two_pow (Nat.lt_of_lt_of_le (by decide:38685626227668133590597632<2^86) (Nat.pow_le_pow_right (by decide) (Nat.le_of_not_lt h)))] at My
   cases My
 subst this
 exact Q9 (P:=Tryz.prog) Tryz.func85 (by kernel_rfl) (by kernel_rfl) (by kernel_rfl) (by kernel_rfl) x w
theorem ZW :Tryz.prog.globalNamed "strings.asciiSpace" =some 2:=by kernel_rfl
theorem ZV :(Tryz.prog.globals[2]?).map (·.type)=some 172:=by kernel_rfl
def Inv (w:World):Prop:=(∃m,w.cell? ⟨1,0,none⟩=some (.int .i64 m))/\Lib.TabIs Tryz.prog w "strings.asciiSpace" .u8 Lib.asciiSpaceTab
theorem Nn {B0:Nat}(hB:2<B0)(w w':World)(hw:Inv w)(hb:Below B0 w w'):Inv w':=by
 obtain⟨⟨m,hm⟩,ht⟩:=hw
 refine⟨⟨m,(hb.cell (Nat.lt_of_le_of_lt (by decide) hB)).trans hm⟩,?_⟩
 unfold Lib.TabIs World.var? at ht⊢;rw[ZW] at ht⊢;simp only[Option.bind_some] at ht⊢
 rw[hb.block 2 (Nat.lt_of_le_of_lt (by decide) hB)]
 exact ht
theorem V6 {B0:Nat}:∀p∈OS,Ev Tryz.prog cfg.G Inv B0 p.1 p.2:=by
 intro p hp;simp only[OS,List.mem_cons,List.not_mem_nil,or_false] at hp
 rcases hp with rfl|rfl|rfl|rfl|rfl|rfl
 ·exact UQ fun s sub w hI hs=>by
   obtain⟨⟨m,hm⟩,_⟩:=hI;exact Tryz.strings_Contains s sub m w hs hm
 ·exact cf fun s sub w hI hs=>by
   obtain⟨⟨m,hm⟩,_⟩:=hI;exact Tryz.strings_Index s sub m w hs hm
 ·exact Yg fun s c w hI=>Tryz.strings_IndexByte s c w
 ·exact Yf (t:=9) (fun s w hI hs ha=>Tryz.strings_Fields s w hs ha hI.2) Za
 ·exact UP fun s cs w hI h1 h2=>Any.strings_TrimLeft_laid Tryz.lays161 (by kernel_rfl) s cs w h1 h2
 ·exact cG
theorem TG {B0:Nat}(hB:2<B0):∀p∈ZE,eE Tryz.prog cfg.G Inv B0 p.1 p.2:=by
 intro p hp;simp only[ZE,List.mem_cons,List.not_mem_nil,or_false] at hp;subst hp;intro vs h v h' hg E args hE H hr;exact Ye (Nn hB) Tryz.lays169 Tryz.Builder_Extra_169 hg hE H hr
theorem TO :∀g cs,cfg.G g=some cs->AP.Ad cs=true:=by
 intro g cs h;have:=EU (l:=XC) h;simp only[XC,List.mem_cons,List.not_mem_nil,or_false,Prod.mk.injEq] at this;obtain⟨-,rfl⟩:=this;rfl
theorem Te {B0:Nat}(hB:2<B0):Sound cfg Inv B0:=
 Sound.mk' (n:=174) (Nn hB) (by kernel_rfl) Tf TO lb jd
  (fun k g vs h v h' _ hg hv=>TG hB (k,g) (EU hg) vs h v h' hv)
  (fun k g vs v _ hg hv=>V6 (k,g) (EU hg) vs v hv)
theorem XW {B0:Nat}(hB:2<B0){l:List (Nat×(List AV->Option (Bool×AV)))}(hl:∀p∈l,Ev Tryz.prog cfg.G Inv B0 p.1 p.2)(hf:ag {cfg with FP:=fun f=>HW f (OS++l)} 174=true):
  Sound {cfg with FP:=fun f=>HW f (OS++l)} Inv B0:=
 Sound.mk' (n:=174) (Nn hB) (by kernel_rfl) Tf TO hf jd
  (fun k g vs h v h' _ hg hv=>TG hB (k,g) (EU hg) vs h v h' hv)
  (fun k g vs v _ hg hv=>by
   rcases List.mem_append.1 (EU (l:=OS++l) hg) with h|h
   ·exact V6 (k,g) h vs v hv
   ·exact hl (k,g) h vs v hv)
theorem Zt {B0:Nat}(hB:2<B0):Sound AU Inv B0:=
 XW hB (fun p hp=>by
  have hp:p=(17,Lx.Yy):=by simpa using hp
  subst hp
  exact Lx.ay (Te hB)) (by kernel_rfl)
theorem Zs {B0:Nat}(hB:2<B0):Sound AI Inv B0:=
 XW hB (fun p hp=>by
  have hp:p=(17,Lx.Yy)\/p=(8,Qa):=by simpa using hp
  rcases hp with rfl|rfl
  ·exact Lx.ay (Te hB)
  ·exact cZ (Zt hB)) (by kernel_rfl)
def ft :List TypeId:=[3,9,23,24,26,80]
theorem cX :H7 Tryz.prog ft ft=true:=by kernel_rfl
theorem oP {W:World}(iP:W.ShapedOpen Tryz.prog){l:List (String×DataW Unit)}(hL:laidMet Tryz.prog l W)(hm:("strings.asciiSpace",Lib.tabData .u8 Lib.asciiSpaceTab)∈l):Inv W:=by
 obtain⟨m,sh⟩:=Tryz.laysM143.s1_3 W iP;refine⟨⟨m,sh⟩,?_⟩;obtain⟨g,t,cs,fuel,p,hg,hty,wY,hd⟩:=Lib.laidMet.reads hL hm;obtain rfl:=Option.some.inj (ZW.symm.trans hg);obtain rfl:=Option.some.inj (ZV.symm.trans hty);unfold Lib.TabIs
 rw[wY,<-Lib.cells_of_tab (n:=256) (e:=5) Tryz.underlying172 Tryz.underlying5 (by kernel_rfl) (by kernel_rfl) hd]
theorem kO {W:World}(h:Inv W):2<W.heap.size:=by
 obtain⟨_,ht⟩:=h
 by_cases BC:2<W.heap.size
 ·exact BC
 ·unfold Lib.TabIs World.var? at ht;rw[ZW] at ht;simp only[Option.bind_some] at ht
  rw[Array.getElem?_eq_none (by omega)] at ht
  cases ht
end Go.Proofs.YtopjpnhgnopbiaaGreatDoor
