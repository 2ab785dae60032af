/-
  The abstract interpreter is sound at this seat's program: what it answers, the program answers. Conditions: that the library's variable MaxLen holds some integer, and the library's table of blanks lies as its initialiser lays it.
-/
import Derived.Test.YtopjpnhgnopbiaaGreatDoorAJG
import Derived.Shelf.Strings.SlTrimAscii
import Derived.Test.YtopjpnhgnopbiaaGreatDoorAShelf
import Derived.Lib.LaidU8
import Derived.KernelRfl
set_option linter.unusedVariables false
set_option linter.unusedSimpArgs false
set_option linter.unnecessarySimpa false
namespace Go.Proofs.YtopjpnhgnopbiaaGreatDoor
open Go.Ai Go.RowKit
theorem lL :aW cfg 174=true:=by kernel_rfl
theorem jP (k:Nat)(h:cfg.ok k=true):k<174:=by
 have:(Nat.blt k 174&&_)=true:=h;rw[Bool.and_eq_true] at this;exact Nat.le_of_ble_eq_true this.1
theorem Te :Pp cfg:=by
 intro k hk x w;have Mt:Nat.testBit 38685626227668133590597632 k=true:=hk
 have:k=85:=by
  by_cases h:k<86
  ·have:∀j,j<86->Nat.testBit 38685626227668133590597632 j=true->j=85:=by decide
   exact this k h Mt
  ·rw[Nat.testBit_lt_two_pow (Nat.lt_of_lt_of_le (by decide:38685626227668133590597632<2^86) (Nat.pow_le_pow_right (by decide) (Nat.le_of_not_lt h)))] at Mt
   cases Mt
 subst this
 exact Q7 (P:=Tryz.prog) Tryz.func85 (by kernel_rfl) (by kernel_rfl) (by kernel_rfl) (by kernel_rfl) x w
theorem ZQ :Tryz.prog.globalNamed "strings.asciiSpace" =some 2:=by kernel_rfl
theorem ZP :(Tryz.prog.globals[2]?).map (·.type)=some 172:=by kernel_rfl
def Inv (w:World):Prop:=(∃m,w.cell? ⟨1,0,none⟩=some (.int .i64 m))/\Lib.TabIs Tryz.prog w "strings.asciiSpace" .u8 Lib.asciiSpaceTab
theorem Ni {B0:Nat}(hB:2<B0)(w w':World)(hw:Inv w)(hb:Below B0 w w'):Inv w':=by
 obtain⟨⟨m,hm⟩,ht⟩:=hw
 refine⟨⟨m,(hb.cell (Nat.lt_of_le_of_lt (by decide) hB)).trans hm⟩,?_⟩
 unfold Lib.TabIs World.var? at ht⊢;rw[ZQ] at ht⊢;simp only[Option.bind_some] at ht⊢
 rw[hb.block 2 (Nat.lt_of_le_of_lt (by decide) hB)]
 exact ht
theorem Vz {B0:Nat}:∀p∈OP,Er Tryz.prog cfg.G Inv B0 p.1 p.2:=by
 intro p hp;simp only[OP,List.mem_cons,List.not_mem_nil,or_false] at hp
 rcases hp with rfl|rfl|rfl|rfl|rfl|rfl
 ·exact UP fun s sub w hI hs=>by
   obtain⟨⟨m,hm⟩,_⟩:=hI;exact Tryz.strings_Contains s sub m w hs hm
 ·exact cX fun s sub w hI hs=>by
   obtain⟨⟨m,hm⟩,_⟩:=hI;exact Tryz.strings_Index s sub m w hs hm
 ·exact Ya fun s c w hI=>Tryz.strings_IndexByte s c w
 ·exact YZ (t:=9) (fun s w hI hs ha=>Tryz.strings_Fields s w hs ha hI.2) ZU
 ·exact UO fun s cs w hI h1 h2=>Any.strings_TrimLeft_laid Tryz.lays161 (by kernel_rfl) s cs w h1 h2
 ·exact cA
theorem TF {B0:Nat}(hB:2<B0):∀p∈Y8,dx Tryz.prog cfg.G Inv B0 p.1 p.2:=by
 intro p hp;simp only[Y8,List.mem_cons,List.not_mem_nil,or_false] at hp;subst hp;intro vs h v h' hg E args hE H hr;exact YY (Ni hB) Tryz.lays169 Tryz.Builder_Extra_169 hg hE H hr
theorem TN :∀g cs,cfg.G g=some cs->AO.Ad cs=true:=by
 intro g cs h;have:=EP (l:=XA) h;simp only[XA,List.mem_cons,List.not_mem_nil,or_false,Prod.mk.injEq] at this;obtain⟨-,rfl⟩:=this;rfl
theorem Td {B0:Nat}(hB:2<B0):Sound cfg Inv B0:=
 Sound.mk' (n:=174) (Ni hB) (by kernel_rfl) Te TN lL jP
  (fun k g vs h v h' _ hg hv=>TF hB (k,g) (EP hg) vs h v h' hv)
  (fun k g vs v _ hg hv=>Vz (k,g) (EP hg) vs v hv)
theorem XU {B0:Nat}(hB:2<B0){l:List (Nat×(List AV->Option (Bool×AV)))}(hl:∀p∈l,Er Tryz.prog cfg.G Inv B0 p.1 p.2)(hf:aW {cfg with FM:=fun f=>HR f (OP++l)} 174=true):
  Sound {cfg with FM:=fun f=>HR f (OP++l)} Inv B0:=
 Sound.mk' (n:=174) (Ni hB) (by kernel_rfl) Te TN hf jP
  (fun k g vs h v h' _ hg hv=>TF hB (k,g) (EP hg) vs h v h' hv)
  (fun k g vs v _ hg hv=>by
   rcases List.mem_append.1 (EP (l:=OP++l) hg) with h|h
   ·exact Vz (k,g) h vs v hv
   ·exact hl (k,g) h vs v hv)
theorem Zn {B0:Nat}(hB:2<B0):Sound AU Inv B0:=
 XU hB (fun p hp=>by
  have hp:p=(17,Lx.Ys):=by simpa using hp
  subst hp
  exact Lx.aj (Td hB)) (by kernel_rfl)
theorem Zm {B0:Nat}(hB:2<B0):Sound AI Inv B0:=
 XU hB (fun p hp=>by
  have hp:p=(17,Lx.Ys)\/p=(8,QX):=by simpa using hp
  rcases hp with rfl|rfl
  ·exact Lx.aj (Td hB)
  ·exact cT (Zn hB)) (by kernel_rfl)
def fg :List TypeId:=[3,9,23,24,26,80]
theorem cR :Hz Tryz.prog fg fg=true:=by kernel_rfl
theorem oA {W:World}(hZ:W.ShapedOpen Tryz.prog){l:List (String×DataW Unit)}(hL:laidMet Tryz.prog l W)(hm:("strings.asciiSpace",Lib.tabData .u8 Lib.asciiSpaceTab)∈l):Inv W:=by
 obtain⟨m,sU⟩:=Tryz.laysM143.s1_3 W hZ;refine⟨⟨m,sU⟩,?_⟩;obtain⟨g,t,cs,fuel,p,hg,hty,wH,hd⟩:=Lib.laidMet.reads hL hm;obtain rfl:=Option.some.inj (ZQ.symm.trans hg);obtain rfl:=Option.some.inj (ZP.symm.trans hty);unfold Lib.TabIs
 rw[wH,<-Lib.cells_of_tab (n:=256) (e:=5) Tryz.underlying172 Tryz.underlying5 (by kernel_rfl) (by kernel_rfl) hd]
theorem j6 {W:World}(h:Inv W):2<W.heap.size:=by
 obtain⟨_,ht⟩:=h
 by_cases BC:2<W.heap.size
 ·exact BC
 ·unfold Lib.TabIs World.var? at ht;rw[ZQ] at ht;simp only[Option.bind_some] at ht
  rw[Array.getElem?_eq_none (by omega)] at ht
  cases ht
end Go.Proofs.YtopjpnhgnopbiaaGreatDoor
