/-
  The abstract interpreter is sound at this seat's program: what it answers, the program answers. Conditions: that the library's variable MaxLen holds some integer, and the library's table of blanks lies as its initialiser lays it.
-/
import Derived.Test.YtopjpnhgnopbiaaGreatDoorTJG
import Derived.Shelf.Strings.SlTrimAscii
import Derived.Test.YtopjpnhgnopbiaaGreatDoorTShelf
import Derived.Lib.LaidU8
import Derived.KernelRfl
set_option linter.unusedVariables false
set_option linter.unusedSimpArgs false
set_option linter.unnecessarySimpa false
namespace Go.Proofs.YtopjpnhgnopbiaaGreatDoor
open Go.Ai Go.RowKit
theorem hY :Xj cfg 174=true:=by kernel_rfl
theorem eX (k:Nat)(h:cfg.ok k=true):k<174:=by
 have:(Nat.blt k 174&&_)=true:=h;rw[Bool.and_eq_true] at this;exact Nat.le_of_ble_eq_true this.1
theorem RL :Nv cfg:=by
 intro k hk x w;have Jg:Nat.testBit 38685626227668133590597632 k=true:=hk
 have:k=85:=by
  by_cases h:k<86
  ·have:∀j,j<86->Nat.testBit 38685626227668133590597632 j=true->j=85:=by decide
   exact this k h Jg
  ·rw[Nat.testBit_lt_two_pow (Nat.lt_of_lt_of_le (by decide:38685626227668133590597632<2^86) (Nat.pow_le_pow_right (by decide) (Nat.le_of_not_lt h)))] at Jg
   cases Jg
 subst this
 exact Ow (P:=Tryz.prog) Tryz.func85 (by kernel_rfl) (by kernel_rfl) (by kernel_rfl) (by kernel_rfl) x w
theorem Wl :Tryz.prog.globalNamed "strings.asciiSpace" =some 2:=by kernel_rfl
theorem Wk :(Tryz.prog.globals[2]?).map (·.type)=some 172:=by kernel_rfl
def Inv (w:World):Prop:=(∃m,w.cell? ⟨1,0,none⟩=some (.int .i64 m))/\Lib.TabIs Tryz.prog w "strings.asciiSpace" .u8 Lib.asciiSpaceTab
theorem ME {B0:Nat}(hB:2<B0)(w w':World)(hw:Inv w)(hb:Below B0 w w'):Inv w':=by
 obtain⟨⟨m,hm⟩,ht⟩:=hw
 refine⟨⟨m,(hb.cell (Nat.lt_of_le_of_lt (by decide) hB)).trans hm⟩,?_⟩
 unfold Lib.TabIs World.var? at ht⊢;rw[Wl] at ht⊢;simp only[Option.bind_some] at ht⊢
 rw[hb.block 2 (Nat.lt_of_le_of_lt (by decide) hB)]
 exact ht
theorem Ta {B0:Nat}:∀p∈Mh,EK Tryz.prog cfg.G Inv B0 p.1 p.2:=by
 intro p hp;simp only[Mh,List.mem_cons,List.not_mem_nil,or_false] at hp
 rcases hp with rfl|rfl|rfl|rfl|rfl|rfl
 ·exact Ry fun s sub w hI hs=>by
   obtain⟨⟨m,hm⟩,_⟩:=hI;exact Tryz.strings_Contains s sub m w hs hm
 ·exact Y7 fun s sub w hI hs=>by
   obtain⟨⟨m,hm⟩,_⟩:=hI;exact Tryz.strings_Index s sub m w hs hm
 ·exact Vx fun s c w hI=>Tryz.strings_IndexByte s c w
 ·exact Vw (t:=9) (fun s w hI hs ha=>Tryz.strings_Fields s w hs ha hI.2) Wq
 ·exact Rv fun s cs w hI h1 h2=>Any.strings_TrimLeft_laid Tryz.lays161 (by kernel_rfl) s cs w h1 h2
 ·exact Yh
theorem Qr {B0:Nat}(hB:2<B0):∀p∈WV,Zy Tryz.prog cfg.G Inv B0 p.1 p.2:=by
 intro p hp;simp only[WV,List.mem_cons,List.not_mem_nil,or_false] at hp;subst hp;intro vs h v h' hg E args hE H hr;exact Vv (ME hB) Tryz.lays169 Tryz.Builder_Extra_169 hg hE H hr
theorem Qw :∀g cs,cfg.G g=some cs->AZ.Aw cs=true:=fun g cs h=>by cases h
theorem RJ {B0:Nat}(hB:2<B0):Sound cfg Inv B0:=
 Sound.mk' (n:=174) (ME hB) (by kernel_rfl) RL Qw hY eX
  (fun k g vs h v h' _ hg hv=>Qr hB (k,g) (FL hg) vs h v h' hv)
  (fun k g vs v _ hg hv=>Ta (k,g) (FL hg) vs v hv)
theorem Ux {B0:Nat}(hB:2<B0){l:List (Nat×(List AV->Option (Bool×AV)))}(hl:∀p∈l,EK Tryz.prog cfg.G Inv B0 p.1 p.2)(hf:Xj {cfg with E7:=fun f=>GY f (Mh++l)} 174=true):
  Sound {cfg with E7:=fun f=>GY f (Mh++l)} Inv B0:=
 Sound.mk' (n:=174) (ME hB) (by kernel_rfl) RL Qw hf eX
  (fun k g vs h v h' _ hg hv=>Qr hB (k,g) (FL hg) vs h v h' hv)
  (fun k g vs v _ hg hv=>by
   rcases List.mem_append.1 (FL (l:=Mh++l) hg) with h|h
   ·exact Ta (k,g) h vs v hv
   ·exact hl (k,g) h vs v hv)
theorem XA {B0:Nat}(hB:2<B0):Sound AS Inv B0:=
 Ux hB (fun p hp=>by
  have hp:p=(17,Lx.WK):=by simpa using hp
  subst hp
  exact Lx.Xt (RJ hB)) (by kernel_rfl)
theorem W9 {B0:Nat}(hB:2<B0):Sound AI Inv B0:=
 Ux hB (fun p hp=>by
  have hp:p=(17,Lx.WK)\/p=(8,OR):=by simpa using hp
  rcases hp with rfl|rfl
  ·exact Lx.Xt (RJ hB)
  ·exact Yz (XA hB)) (by kernel_rfl)
def bg :List TypeId:=[5,9]
theorem Yw :Gu Tryz.prog bg bg=true:=by kernel_rfl
theorem kG {W:World}(gU:W.ShapedOpen Tryz.prog){l:List (String×DataW Unit)}(hL:laidMet Tryz.prog l W)(hm:("strings.asciiSpace",Lib.tabData .u8 Lib.asciiSpaceTab)∈l):Inv W:=by
 obtain⟨m,n2⟩:=Tryz.laysM143.s1_3 W gU;refine⟨⟨m,n2⟩,?_⟩;obtain⟨g,t,cs,fuel,p,hg,wK,sM,hd⟩:=Lib.laidMet.reads hL hm;obtain rfl:=Option.some.inj (Wl.symm.trans hg);obtain rfl:=Option.some.inj (Wk.symm.trans wK);unfold Lib.TabIs
 rw[sM,<-Lib.cells_of_tab (n:=256) (e:=5) Tryz.underlying172 Tryz.underlying5 (by kernel_rfl) (by kernel_rfl) hd]
theorem fk {W:World}(h:Inv W):2<W.heap.size:=by
 obtain⟨_,ht⟩:=h
 by_cases As:2<W.heap.size
 ·exact As
 ·unfold Lib.TabIs World.var? at ht;rw[Wl] at ht;simp only[Option.bind_some] at ht
  rw[Array.getElem?_eq_none (by omega)] at ht
  cases ht
end Go.Proofs.YtopjpnhgnopbiaaGreatDoor
