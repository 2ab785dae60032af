/-
  The abstract interpreter is sound at this seat's program: what it answers, the program answers. Conditions: that the library's variable MaxLen holds some integer, and the library's table of blanks lies as its initialiser lays it.
-/
import Derived.Test.YtopjpnhgnopbiaaGreatDoorLJG
import Derived.Shelf.Strings.SlTrimAscii
import Derived.Test.YtopjpnhgnopbiaaGreatDoorLShelf
import Derived.Lib.LaidU8
import Derived.KernelRfl
set_option linter.unusedVariables false
set_option linter.unusedSimpArgs false
set_option linter.unnecessarySimpa false
namespace Go.Proofs.YtopjpnhgnopbiaaGreatDoor
open Go.Ai Go.RowKit
theorem iJ :Xm cfg 174=true:=by kernel_rfl
theorem ee (k:Nat)(h:cfg.ok k=true):k<174:=by
 have:(Nat.blt k 174&&_)=true:=h;rw[Bool.and_eq_true] at this;exact Nat.le_of_ble_eq_true this.1
theorem RQ :N7 cfg:=by
 intro k hk x w;have Ji:Nat.testBit 38685626227668133590597632 k=true:=hk
 have:k=85:=by
  by_cases h:k<86
  ·have:∀j,j<86->Nat.testBit 38685626227668133590597632 j=true->j=85:=by decide
   exact this k h Ji
  ·rw[Nat.testBit_lt_two_pow (Nat.lt_of_lt_of_le (by decide:38685626227668133590597632<2^86) (Nat.pow_le_pow_right (by decide) (Nat.le_of_not_lt h)))] at Ji
   cases Ji
 subst this
 exact O7 (P:=Tryz.prog) Tryz.func85 (by kernel_rfl) (by kernel_rfl) (by kernel_rfl) (by kernel_rfl) x w
theorem Wr :Tryz.prog.globalNamed "strings.asciiSpace" =some 2:=by kernel_rfl
theorem Wq :(Tryz.prog.globals[2]?).map (·.type)=some 172:=by kernel_rfl
def Inv (w:World):Prop:=(∃m,w.cell? ⟨1,0,none⟩=some (.int .i64 m))/\Lib.TabIs Tryz.prog w "strings.asciiSpace" .u8 Lib.asciiSpaceTab
theorem MJ {B0:Nat}(hB:2<B0)(w w':World)(hw:Inv w)(hb:Below B0 w w'):Inv w':=by
 obtain⟨⟨m,hm⟩,ht⟩:=hw
 refine⟨⟨m,(hb.cell (Nat.lt_of_le_of_lt (by decide) hB)).trans hm⟩,?_⟩
 unfold Lib.TabIs World.var? at ht⊢;rw[Wr] at ht⊢;simp only[Option.bind_some] at ht⊢
 rw[hb.block 2 (Nat.lt_of_le_of_lt (by decide) hB)]
 exact ht
theorem Tg {B0:Nat}:∀p∈Mm,EL Tryz.prog cfg.G Inv B0 p.1 p.2:=by
 intro p hp;simp only[Mm,List.mem_cons,List.not_mem_nil,or_false] at hp
 rcases hp with rfl|rfl|rfl|rfl|rfl|rfl
 ·exact R9 fun s sub w hI hs=>by
   obtain⟨⟨m,hm⟩,_⟩:=hI;exact Tryz.strings_Contains s sub m w hs hm
 ·exact ZA fun s sub w hI hs=>by
   obtain⟨⟨m,hm⟩,_⟩:=hI;exact Tryz.strings_Index s sub m w hs hm
 ·exact V8 fun s c w hI=>Tryz.strings_IndexByte s c w
 ·exact V7 (t:=9) (fun s w hI hs ha=>Tryz.strings_Fields s w hs ha hI.2) Ww
 ·exact R7 fun s cs w hI h1 h2=>Any.strings_TrimLeft_laid Tryz.lays161 (by kernel_rfl) s cs w h1 h2
 ·exact Yk
theorem Qw {B0:Nat}(hB:2<B0):∀p∈Wb,Z6 Tryz.prog cfg.G Inv B0 p.1 p.2:=by
 intro p hp;simp only[Wb,List.mem_cons,List.not_mem_nil,or_false] at hp;subst hp;intro vs h v h' hg E args hE H hr;exact V6 (MJ hB) Tryz.lays169 Tryz.Builder_Extra_169 hg hE H hr
theorem Q7 :∀g cs,cfg.G g=some cs->Aa.Ax cs=true:=fun g cs h=>by cases h
theorem RP {B0:Nat}(hB:2<B0):Sound cfg Inv B0:=
 Sound.mk' (n:=174) (MJ hB) (by kernel_rfl) RQ Q7 iJ ee
  (fun k g vs h v h' _ hg hv=>Qw hB (k,g) (FN hg) vs h v h' hv)
  (fun k g vs v _ hg hv=>Tg (k,g) (FN hg) vs v hv)
theorem U7 {B0:Nat}(hB:2<B0){l:List (Nat×(List AV->Option (Bool×AV)))}(hl:∀p∈l,EL Tryz.prog cfg.G Inv B0 p.1 p.2)(hf:Xm {cfg with E9:=fun f=>Ga f (Mm++l)} 174=true):
  Sound {cfg with E9:=fun f=>Ga f (Mm++l)} Inv B0:=
 Sound.mk' (n:=174) (MJ hB) (by kernel_rfl) RQ Q7 hf ee
  (fun k g vs h v h' _ hg hv=>Qw hB (k,g) (FN hg) vs h v h' hv)
  (fun k g vs v _ hg hv=>by
   rcases List.mem_append.1 (FN (l:=Mm++l) hg) with h|h
   ·exact Tg (k,g) h vs v hv
   ·exact hl (k,g) h vs v hv)
theorem XG {B0:Nat}(hB:2<B0):Sound AU Inv B0:=
 U7 hB (fun p hp=>by
  have hp:p=(17,Lx.WR):=by simpa using hp
  subst hp
  exact Lx.Xx (RP hB)) (by kernel_rfl)
theorem XF {B0:Nat}(hB:2<B0):Sound AI Inv B0:=
 U7 hB (fun p hp=>by
  have hp:p=(17,Lx.WR)\/p=(8,OX):=by simpa using hp
  rcases hp with rfl|rfl
  ·exact Lx.Xx (RP hB)
  ·exact Y7 (XG hB)) (by kernel_rfl)
def bq :List TypeId:=[5,9]
theorem Yz :Gx Tryz.prog bq bq=true:=by kernel_rfl
theorem kR {W:World}(gi:W.ShapedOpen Tryz.prog){l:List (String×DataW Unit)}(hL:laidMet Tryz.prog l W)(hm:("strings.asciiSpace",Lib.tabData .u8 Lib.asciiSpaceTab)∈l):Inv W:=by
 obtain⟨m,oJ⟩:=Tryz.laysM143.s1_3 W gi;refine⟨⟨m,oJ⟩,?_⟩;obtain⟨g,t,cs,fuel,p,hg,wa,sZ,hd⟩:=Lib.laidMet.reads hL hm;obtain rfl:=Option.some.inj (Wr.symm.trans hg);obtain rfl:=Option.some.inj (Wq.symm.trans wa);unfold Lib.TabIs
 rw[sZ,<-Lib.cells_of_tab (n:=256) (e:=5) Tryz.underlying172 Tryz.underlying5 (by kernel_rfl) (by kernel_rfl) hd]
theorem fy {W:World}(h:Inv W):2<W.heap.size:=by
 obtain⟨_,ht⟩:=h
 by_cases Au:2<W.heap.size
 ·exact Au
 ·unfold Lib.TabIs World.var? at ht;rw[Wr] at ht;simp only[Option.bind_some] at ht
  rw[Array.getElem?_eq_none (by omega)] at ht
  cases ht
end Go.Proofs.YtopjpnhgnopbiaaGreatDoor
