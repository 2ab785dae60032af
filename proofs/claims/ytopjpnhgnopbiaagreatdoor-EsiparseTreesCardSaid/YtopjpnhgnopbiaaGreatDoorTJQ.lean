/-
  Pieces of a page's text: bytes, words, places as the document says them, under contract.
  Pieces of a page's text: tags that close, attributes as the document says them, under contract.
  Pieces of a page's text: a tag that opens as the document says it, under contract.
  Pieces of a page's text: what stands at a place as the document says it, under contract.
  Pieces of a page's text: the pieces as the document says them; that both are the same. The row's function under contract.
-/
import Derived.Test.YtopjpnhgnopbiaaGreatDoorTJY
import Derived.Test.YtopjpnhgnopbiaaGreatDoorTJG
import Derived.Test.YtopjpnhgnopbiaaGreatDoorTJA
set_option linter.unusedVariables false
set_option linter.unusedSimpArgs false
set_option linter.unnecessarySimpa false
section
namespace Go.Proofs.YtopjpnhgnopbiaaGreatDoor.Rx
open Go.Ai Go Go.Ai.Ex Go.Proofs.YtopjpnhgnopbiaaGreatDoor.Lx
set_option maxRecDepth 100000
theorem rK :BE AI 127 Tryz.f127:=(by refine⟨?_,?_,?_,?_,?_,?_⟩<;>kernel_rfl)
theorem rS :BE AI 76 Tryz.f76:=(by refine⟨?_,?_,?_,?_,?_,?_⟩<;>kernel_rfl)
theorem ra :BE AI 70 Tryz.f70:=(by refine⟨?_,?_,?_,?_,?_,?_⟩<;>kernel_rfl)
theorem rZ :BE AI 71 Tryz.f71:=(by refine⟨?_,?_,?_,?_,?_,?_⟩<;>kernel_rfl)
theorem re :BE AI 45 Tryz.f45:=(by refine⟨?_,?_,?_,?_,?_,?_⟩<;>kernel_rfl)
theorem rR :BE AI 103 Tryz.f103:=(by refine⟨?_,?_,?_,?_,?_,?_⟩<;>kernel_rfl)
theorem rP :BE AI 105 Tryz.f105:=(by refine⟨?_,?_,?_,?_,?_,?_⟩<;>kernel_rfl)
theorem rQ :BE AI 104 Tryz.f104:=(by refine⟨?_,?_,?_,?_,?_,?_⟩<;>kernel_rfl)
theorem rJ :BE AI 107 Tryz.f107:=(by refine⟨?_,?_,?_,?_,?_,?_⟩<;>kernel_rfl)
theorem rX :BE AI 73 Tryz.f73:=(by refine⟨?_,?_,?_,?_,?_,?_⟩<;>kernel_rfl)
theorem gK :AK AI (Af []):=AX AN
theorem yW :CP AI 127 Ft:=by
 refine Ar rK fun vs h K ht=> ?_
 obtain⟨c,rfl,hk⟩:=ht
 refine⟨_,hk,t55 gK (AA (fun a=> ?_) fun a=> ?_)⟩
 ·rw[Rd,a,Bool.true_and]
 ·rw[Rd,a,Bool.false_and]
theorem Gv (c:UInt8)(n:Nat)(hn:n<256):((c.toNat:Int)==(n:Int))=(c==UInt8.ofNat n):=by
 rw[Bool.eq_iff_iff];simp only[beq_iff_eq];constructor
 ·intro h;apply UInt8.toNat_inj.1;simp;omega
 ·rintro rfl
  simp;omega
theorem o7 :CP AI 76 Ey:=by
 refine Ar rS fun vs h K ht=> ?_
 obtain⟨c,rfl,hk⟩:=ht
 have e1:((c.toNat:Int)==32)=(c==32):=Gv c 32 (by omega)
 have e2:((c.toNat:Int)==9)=(c==9):=Gv c 9 (by omega)
 have e3:((c.toNat:Int)==10)=(c==10):=Gv c 10 (by omega)
 have e4:((c.toNat:Int)==13)=(c==13):=Gv c 13 (by omega)
 refine⟨_,hk,t42 gK ?_⟩;rw[e1,e2,e3,e4];unfold blB
 cases c==32<;>cases c==9<;>cases c==10<;>cases c==13<;>rfl
theorem lN :CP AI 70 QJ:=by
 refine Ar ra fun vs h K ht=> ?_
 obtain⟨s,x,a,GH,hs,hx,ha,rfl,hk⟩:=ht;unfold limE at hs hx ha
 have hw:IntKind.wrap .i64 ((a:Int)+(x.length:Int))=((a+x.length:Nat):Int):=by rw[Bx (by omega) (by omega)];omega
 refine⟨_,hk,t28 gK (AA (fun _=> ?_) fun y=> ?_)⟩
 ·rw[hw];have hp:=JE x (s.drop a);rw[List.length_drop] at hp
  refine AA (fun y=> ?_) fun y=> ?_
  ·have y:a+x.length<=s.length:=by simp at y;omega
   obtain⟨q1,q2⟩:=CB s (show a<=a+x.length by omega) y
   refine AF q2 ?_;rw[q1];unfold has cut
   rw[hp,decide_eq_true (by omega),Bool.true_and,show a+x.length-a=x.length by omega]
  ·have y:¬a+x.length<=s.length:=by simp at y;omega
   unfold has;rw[hp];have:0<x.length:=List.length_pos_iff.2 GH
   rw[decide_eq_false (by omega),Bool.false_and]
 ·simp at y
theorem mO :AK AI (Af [(70,QJ),(76,Ey)]):=AX (AG lN (AG o7 AN))
theorem pn :CP AI 71 O9:=by
 refine Ar rZ fun vs h K ht=> ?_
 obtain⟨s,a,hs,ha,rfl,hk⟩:=ht
 refine⟨_,hk,t29 mO ⟨s,_,a,by simp,hs,by decide,ha,rfl,?_⟩⟩
 unfold limE at hs ha
 have hw:IntKind.wrap .i64 ((a:Int)+7)=((a+7:Nat):Int):=by rw[Bx (by omega) (by omega)];omega
 rw[hw];show Ad (has s ET a) _ _
 refine AA (fun y=>AA (fun z=> ?_) fun z=> ?_) fun y=> ?_
 ·have z:a+7<s.length:=by simp at z;omega
  refine AF (Au z) ⟨s.getD (a+7) 0,rfl,?_⟩;unfold Cz;rw[y,decide_eq_true z];rfl
 ·have z:¬a+7<s.length:=by simp at z;omega
  unfold Cz;rw[decide_eq_false z,Bool.false_and,Bool.and_false]
 ·unfold Cz;rw[y];rfl
theorem mS :AK AI (Af [(70,QJ),(71,O9)]):=AX (AG lN (AG pn AN))
theorem yj :CP AI 45 TO:=by
 refine Ar re fun vs h K ht=> ?_
 obtain⟨s,a,hid,hs,ha,rfl,hk⟩:=ht
 refine⟨_,hk,t18 mS ⟨s,Al,a,by simp[Al],hs,by decide,ha,rfl,AA (fun x=> ?_) fun x=>⟨s,Ae,a,by simp[Ae],hs,by decide,ha,rfl,AA (fun y=> ?_) fun y=>⟨s,a,hs,ha,rfl,AA (fun z=> ?_) fun z=>AA (fun w=>⟨s,Bq,a,by simp[Bq],hs,by decide,ha,rfl,?_⟩) fun w=> ?_⟩⟩⟩⟩
 all_goals (unfold spec;simp_all)
theorem KY :AK AI (Af [(127,Ft)]):=AX (AG yW AN)
theorem ag :AK AI (Af [(76,Ey)]):=AX (AG o7 AN)
theorem cV {s:List UInt8}{a:Nat}(hs:s.length<=limE)(ha:a<=s.length):∀(n j:Nat),lets s a=j+n->
  AE AI 103 (AD Tryz.f103) (AR Tryz.prog Tryz.f103 (.int .i64 (lets s a))) [.code [0,0,1,1],.block 0,.code [1,1,1]] .normal [(0,true,.str s),(1,true,.int .i64 a),(5,true,.int .i64 j)] []
 |0,j,hj=>by
  have hl:=C8 s a;unfold limE at hs
  have hw:IntKind.wrap .i64 ((a:Int)+(j:Int))=((a+j:Nat):Int):=by rw[Bx (by omega) (by omega)];omega
  refine mg KY ?_;rw[hw]
  refine AA (fun x=> ?_) fun _=>by rw[hj];rfl
  have x:a+j<s.length:=by simp at x;omega
  refine AF (Au x) ⟨s.getD (a+j) 0,rfl,AA (fun y=> ?_) fun _=>by rw[hj];rfl⟩
  have:=SN (s:=s) (a:=a) (by omega)
  rw[hj,Nat.add_zero,y] at this;cases this
 |n+1,j,hj=>by
  have hl:=C8 s a;have FC:=hs;unfold limE at FC
  have hw:IntKind.wrap .i64 ((a:Int)+(j:Int))=((a+j:Nat):Int):=by rw[Bx (by omega) (by omega)];omega
  have ZS:IntKind.wrap .i64 ((j:Int)+1)=((j+1:Nat):Int):=by rw[Bx (by omega) (by omega)];omega
  obtain⟨q1,q2⟩:=Ot (s:=s) (a:=a) (b:=a+j) (by omega) (by omega)
  refine mg KY ?_;rw[hw,ZS]
  refine AA (fun x=>AF (Au q1) ⟨s.getD (a+j) 0,rfl,AA (fun _=>cV hs ha n (j+1) (by omega)) fun y=> ?_⟩) fun x=> ?_
  ·rw[q2] at y;cases y
  ·simp at x;omega
theorem iA :CP AI 103 Ii:=by
 refine Ar rR fun vs h K ht=> ?_
 obtain⟨s,a,hs,ha,rfl,hk⟩:=ht
 exact⟨_,hk,t43 KY (cV hs ha (lets s a) 0 (by omega))⟩
theorem cT {s:List UInt8}{a:Nat}(hs:s.length<=limE)(ha:a<=s.length):∀(n j:Nat),a<=j->past s a=j+n->
  AE AI 105 (AD Tryz.f105) (AR Tryz.prog Tryz.f105 (.int .i64 (past s a))) [.code [0,0,1],.block 0,.code [1,1]] .normal [(0,true,.str s),(1,true,.int .i64 j)] []
 |0,j,xm,hj=>by
  rw[Nat.add_zero] at hj
  refine mb ag (AA (fun x=> ?_) fun _=>by rw[hj])
  have x:j<s.length:=by simpa using x
  refine AF (Au x) ⟨s.getD j 0,rfl,AA (fun y=> ?_) fun _=>by rw[hj]⟩
  have:=Xb (s:=s) (a:=a) (by omega)
  rw[hj,y] at this;cases this
 |n+1,j,xm,hj=>by
  obtain⟨p1,p2⟩:=EL ha;have FC:=hs;unfold limE at FC
  have ZS:IntKind.wrap .i64 ((j:Int)+1)=((j+1:Nat):Int):=by rw[Bx (by omega) (by omega)];omega
  obtain⟨q1,q2⟩:=Tc (s:=s) (a:=a) (b:=j) (by omega) (by omega)
  refine mb ag ?_;rw[ZS]
  refine AA (fun x=>AF (Au q1) ⟨s.getD j 0,rfl,AA (fun _=>cT hs ha n (j+1) (by omega) (by omega)) fun y=> ?_⟩) fun x=> ?_
  ·rw[q2] at y;cases y
  ·simp at x;omega
theorem pj :CP AI 105 OP:=by
 refine Ar rP fun vs h K ht=> ?_
 obtain⟨s,a,hs,ha,rfl,hk⟩:=ht;obtain⟨p1,p2⟩:=EL ha
 exact⟨_,hk,t45 ag (cT hs ha (past s a-a) a (Nat.le_refl _) (by omega))⟩
theorem vY :CP AI 107 Og:=by
 refine Ar rJ fun vs h K ht=> ?_
 obtain⟨hv,hk⟩:=ht;obtain rfl:=List.isEmpty_iff.1 hv;exact⟨_,hk,t56 gK rfl⟩
theorem ah :AK AI (Af [(107,Og)]):=AX (AG vY AN)
theorem cU (x:List UInt8)(l:List (List UInt8))(hl:l.length<=1000):∀(n i:Nat),l.length-i=n->i<=l.length->
  AE AI 104 (AD Tryz.f104) (AR Tryz.prog Tryz.f104 (.bool ((l.drop i).any (·==x)))) [.code [0,1,0,1,1],.block 0,.code [1,1,1]] .normal [(0,true,.str x),(3,true,.sl 1 (l.map fun n=>[.str n]) none),(4,true,.int .i64 i)] []
 |0,i,hn,hi=>by
  refine mc ah (AA (fun a=> ?_) fun _=>by rw[List.drop_of_length_le (by omega)];rfl)
  simp at a;omega
 |n+1,i,hn,hi=>by
  have As:i<l.length:=by omega
  refine mc ah (AA (fun _=>AF (by rw[List.length_map,Au As];rfl) ⟨l[i],CF _ l As,?_⟩) fun a=> ?_)
  ·rw[Fp (·==x) l As]
   refine AA (fun y=>by rw[y];rfl) fun y=> ?_
   rw[y,Bool.false_or,show IntKind.wrap .i64 ((i:Int)+1)=((i+1:Nat):Int) by rw[Bx (by omega) (by omega)];omega]
   exact cU x l hl n (i+1) (by omega) (by omega)
  ·simp at a;omega
theorem vZ :CP AI 104 KD:=by
 refine Ar rQ fun vs h K ht=> ?_
 obtain⟨s,rfl,hk⟩:=ht
 exact⟨_,hk,t44 ah ⟨rfl,cU s J8 (by decide) 11 0 rfl (by decide)⟩⟩
theorem PN {s x:List UInt8}{i:Nat}(hx:x≠[])(hi:i+x.length<=s.length):BU s x i=if has s x i=true then(i:Int) else BU s x (i+1):=by
 have GH:0<x.length:=List.length_pos_iff.2 hx
 have h:i<s.length:=by omega
 have e:CY x (s.drop i)=if has s x i=true then some 0 else(CY x (s.drop (i+1))).map (·+ 1):=by
  unfold has;rw[List.drop_eq_getElem_cons h,CY]
 unfold BU;rw[e]
 by_cases hp:has s x i=true
 ·rw[if_pos hp,if_pos hp];simp
 ·rw[if_neg hp,if_neg hp]
  cases CY x (s.drop (i+1)) with
  |none=>rfl
  |some m=>simp only[Option.map_some];omega
theorem Q7 {s x:List UInt8}{i:Nat}(hi:¬i+x.length<=s.length)(h:i<=s.length):BU s x i= -1:=by
 unfold BU
 cases hf:CY x (s.drop i) with
 |none=>rfl
 |some n=>
  have:=HE hf;rw[List.length_drop] at this;omega
theorem aq :AK AI (Af [(70,QJ)]):=AX (AG lN AN)
theorem kB {s x:List UInt8}(GH:x≠[])(hs:s.length<=limE)(hx:x.length<=limE):∀(n i:Nat),s.length-i=n->i<=s.length->
  AE AI 73 (AD Tryz.f73) (AR Tryz.prog Tryz.f73 (.int .i64 (BU s x i))) [.code [0,1,0,1],.block 0,.code [1,1]] .normal [(0,true,.str s),(2,true,.str x),(7,true,.int .i64 i)] []:=by
 intro n
 induction n with
 |zero=>
  intro i hn hi;have h1:0<x.length:=List.length_pos_iff.2 GH;unfold limE at hs hx
  have hw:IntKind.wrap .i64 ((i:Int)+(x.length:Int))=((i+x.length:Nat):Int):=by rw[Bx (by omega) (by omega)];omega
  refine mh aq ?_;rw[hw]
  refine AA (fun y=> ?_) fun y=> ?_
  ·simp at y;omega
  ·rw[Q7 (by omega) hi]
 |succ n ih=>
  intro i hn hi;have FC:=hs;have IM:=hx;unfold limE at FC IM
  have hw:IntKind.wrap .i64 ((i:Int)+(x.length:Int))=((i+x.length:Nat):Int):=by rw[Bx (by omega) (by omega)];omega
  have ZS:IntKind.wrap .i64 ((i:Int)+1)=((i+1:Nat):Int):=by rw[Bx (by omega) (by omega)];omega
  refine mh aq ?_;rw[hw,ZS]
  refine AA (fun y=>⟨s,x,i,GH,hs,hx,by omega,rfl,AA (fun z=> ?_) fun z=> ?_⟩) fun y=> ?_
  ·have y:i+x.length<=s.length:=by simp at y;omega
   rw[PN GH y,if_pos z]
  ·have y:i+x.length<=s.length:=by simp at y;omega
   rw[PN GH y,if_neg (by rw[z];simp)]
   exact ih (i+1) (by omega) (by omega)
  ·have y:¬i+x.length<=s.length:=by simp at y;omega
   rw[Q7 y hi]
theorem yd :CP AI 73 lE:=by
 refine Ar rX fun vs h K ht=> ?_
 obtain⟨s,x,a,GH,hs,hx,ha,rfl,hk⟩:=ht;exact⟨_,hk,t31 aq (kB GH hs hx (s.length-a) a rfl ha)⟩
theorem rW :BE AI 74 Tryz.f74:=(by refine⟨?_,?_,?_,?_,?_,?_⟩<;>kernel_rfl)
theorem rO :BE AI 106 Tryz.f106:=(by refine⟨?_,?_,?_,?_,?_,?_⟩<;>kernel_rfl)
theorem Pj (c:UInt8)(n:Nat)(hn:n<256):((c.toNat:Int) !=(n:Int))=(c !=UInt8.ofNat n):=by
 simp only[bne];rw[Gv c n hn]
def H6 (s:List UInt8)(tag:Nat):AV:=match BV s tag with
 |.error (p,e)=>.tup [.agg (Ex.encT ⟨4,(s.drop (tag+6)).take (lets s (tag+6)),[],[],tag,0⟩),.int .i64 p,.int .i64 e]
 |.ok t=>.tup [.agg (Ex.encT t),.int .i64 0,.int .i64 0]
theorem mN :AK AI (Af [(103,Ii),(104,KD),(105,OP)]):=AX (AG iA (AG vZ (AG pj AN)))
theorem wr {n:Int}{m:Nat}(h:n=m)(hm:m<=4000000):IntKind.wrap .i64 n=m:=by rw[Bx (by omega) (by omega)];exact h
theorem mo {s:List UInt8}{tag:Nat}(hs:s.length<=limE)(ht:tag+6<=s.length):AE AI 74 (AD Tryz.f74) (AR Tryz.prog Tryz.f74 (H6 s tag)) [.code []] .normal [(0,true,.str s),(1,true,.int .i64 tag)] []:=by
 have FC:s.length<=1000000:=hs;have hn:=C8 s (tag+6)
 have w1:IntKind.wrap .i64 ((tag:Int)+6)=((tag+6:Nat):Int):=wr (by omega) (by omega)
 have w2:IntKind.wrap .i64 (((tag+6:Nat):Int)+((lets s (tag+6):Nat):Int))=((tag+6+lets s (tag+6):Nat):Int):=wr (by omega) (by omega)
 obtain⟨q1,q2⟩:=CB s (show tag+6<=tag+6+lets s (tag+6) by omega) (by omega)
 have MJ:cut s (tag+6) (tag+6+lets s (tag+6))=(s.drop (tag+6)).take (lets s (tag+6)):=by unfold cut;rw[Nat.add_sub_cancel_left]
 obtain⟨p1,p2⟩:=EL (s:=s) (a:=tag+6+lets s (tag+6)) (by omega)
 have w3:IntKind.wrap .i64 (((past s (tag+6+lets s (tag+6)):Nat):Int)+1)=((past s (tag+6+lets s (tag+6))+1:Nat):Int):=wr (by omega) (by omega)
 refine t32 mN ⟨s,tag+6,hs,ht,by rw[w1],?_⟩
 rw[w1,w2,q1,MJ]
 refine AF q2 ⟨_,rfl,AA (fun x=> ?_) fun x=>⟨s,tag+6+lets s (tag+6),hs,by omega,rfl,AA (fun y=> ?_) fun y=>AF ?_ (AA (fun z=> ?_) fun z=>AF ?_ ?_)⟩⟩
 ·have x:Bk ((s.drop (tag+6)).take (lets s (tag+6)))=false:=by simpa using x
  unfold H6 BV;simp only[x,if_pos];rfl
 ·have x:¬Bk ((s.drop (tag+6)).take (lets s (tag+6)))=false:=by simpa using x
  have y:s.length<=past s (tag+6+lets s (tag+6)):=by simp at y;omega
  unfold H6 BV;simp only[if_neg x,if_pos y];rfl
 ·exact Au (by simp at y;omega)
 ·have x:¬Bk ((s.drop (tag+6)).take (lets s (tag+6)))=false:=by simpa using x
  have y:¬s.length<=past s (tag+6+lets s (tag+6)):=by simp at y;omega
  have z:s.getD (past s (tag+6+lets s (tag+6))) 0≠62:=by
   have:=z.symm.trans (Pj _ 62 (by omega))
   simpa using this
  unfold H6 BV;simp only[if_neg x,if_neg y,if_pos z];rfl
 all_goals
  have x:¬Bk ((s.drop (tag+6)).take (lets s (tag+6)))=false:=by simpa using x
  have y:¬s.length<=past s (tag+6+lets s (tag+6)):=by simp at y;omega
  obtain⟨r1,r2⟩:=CB s (show tag<=past s (tag+6+lets s (tag+6))+1 by omega) (by omega)
  rw[w3]
 ·exact r2
 ·have z:¬s.getD (past s (tag+6+lets s (tag+6))) 0≠62:=by
   have:=z.symm.trans (Pj _ 62 (by omega))
   simpa using this
  rw[r1];unfold H6 BV;simp only[if_neg x,if_neg y,if_neg z];rfl
theorem yc :CP AI 74 Sm:=by
 refine Ar rW fun vs h K ht=> ?_
 obtain⟨s,tag,hs,kO,rfl,h1,h2⟩:=ht;refine⟨H6 s tag,?_,mo hs kO⟩;unfold H6
 cases hc:BV s tag with
 |error x=>obtain⟨p,e⟩:=x;exact h1 p e hc
 |ok t=>exact h2 t hc
theorem TG :AK AI (Af [(103,Ii)]):=AX (AG iA AN)
theorem Zc {s:List UInt8}{m:UInt8}{j:Nat}(h:j<s.length):CY [m] (s.drop j)=if s.getD j 0=m then some 0 else(CY [m] (s.drop (j+1))).map (·+ 1):=by
 have e:s.getD j 0=s[j]:=by simp[List.getD_eq_getElem?_getD,h]
 rw[e,List.drop_eq_getElem_cons h,CY]
 by_cases hm:s[j]=m
 ·rw[if_pos hm,if_pos (by rw[hm];simp[List.isPrefixOf])]
 ·rw[if_neg hm,if_neg (by simp[List.isPrefixOf];exact fun h=>hm h.symm)]
def aG (s nm:List UInt8)(a tag b:Nat)(m:UInt8):AV:=match CY [m] (s.drop b) with
 |none=>.tup [.agg (Ex.Ao ⟨nm,[],a⟩),.int .i64 0,.int .i64 tag,.int .i64 14]
 |some k=>.tup [.agg (Ex.Ao ⟨nm,(s.drop b).take k,a⟩),.int .i64 ((b+k+1:Nat):Int),.int .i64 0,.int .i64 0]
theorem gN {s nm:List UInt8}{a tag i:Nat}{m:UInt8}(hs:s.length<=limE)(hi:i<s.length):∀(k j:Nat),s.length-j=k->i+1<=j->j<=s.length->CY [m] (s.drop (i+1))=(CY [m] (s.drop j)).map (·+ (j-(i+1)))->
  AE AI 106 (AD Tryz.f106) (AR Tryz.prog Tryz.f106 (aG s nm a tag (i+1) m)) [.code [0,1,0,1,1,1,1,1,1,1,1,1,1,1,1],.block 2,.code [1,1,1,1,1,1,1,1,1,1,1,1,1]] .normal
   [(0,true,.str s),(2,true,.int .i64 tag),(8,true,.ptr 0 0),(13,true,.ptr 1 0),(15,true,.int .i64 i),(16,true,.int .u8 m.toNat),(17,true,.int .i64 j)] [.mem 80 [.str [],.str [],.int .i64 0],.mem 80 [.str nm,.str [],.int .i64 a]]:=by
 have FC:s.length<=1000000:=hs;intro k
 induction k with
 |zero=>
  intro j hk hj oB hf
  have:j=s.length:=by omega
  subst this
  refine mY TG (AA (fun x=> ?_) fun _=> ?_)
  ·simp at x
  ·have hn:CY [m] (s.drop (i+1))=none:=by rw[hf,List.drop_of_length_le (Nat.le_refl _)];rfl
   unfold aG;rw[hn];rfl
 |succ k ih=>
  intro j hk hj oB hf
  have As:j<s.length:=by omega
  have DI:=Zc (s:=s) (m:=m) As
  have hb:(((s.getD j 0).toNat:Int)==(m.toNat:Int))=(s.getD j 0==m):=by
   rw[Bool.eq_iff_iff];simp only[beq_iff_eq];constructor
   ·intro h;apply UInt8.toNat_inj.1;omega
   ·intro h;rw[h]
  refine mY TG (AA (fun x=>AF (Au As) ?_) fun x=> ?_)
  ·show Ad (((s.getD j 0).toNat:Int)==(m.toNat:Int)) _ _;rw[hb]
   refine AA (fun y=> ?_) fun y=> ?_
   ·have y:s.getD j 0=m:=by simpa using y
    rw[if_pos y] at DI;rw[DI] at hf
    have w1:IntKind.wrap .i64 ((i:Int)+1)=((i+1:Nat):Int):=wr (by omega) (by omega)
    have w2:IntKind.wrap .i64 ((j:Int)+1)=((j+1:Nat):Int):=wr (by omega) (by omega)
    obtain⟨q1,q2⟩:=CB s hj oB;rw[w1,w2,q1];refine AF q2 ?_;unfold aG;rw[hf];simp only[Option.map_some,Nat.zero_add]
    rw[show i+1+(j-(i+1))+1=j+1 by omega]
    rfl
   ·have y:¬s.getD j 0=m:=by simpa using y
    rw[if_neg y] at DI;rw[DI] at hf
    rw[show IntKind.wrap .i64 ((j:Int)+1)=((j+1:Nat):Int) from wr (by omega) (by omega)]
    refine ih (j+1) (by omega) (by omega) (by omega) ?_
    rw[hf,Option.map_map]
    congr 1
    funext z
    simp only[Function.comp];omega
  ·simp at x;omega
def Hc (s:List UInt8)(a tag:Nat)(l:List Ex.A8)(n:Nat):AV:=match DF s a tag l with
 |.error (p,e)=>.tup [.agg (Ex.Ao ⟨(s.drop a).take n,[],a⟩),.int .i64 0,.int .i64 p,.int .i64 e]
 |.ok (x,b)=>.tup [.agg (Ex.Ao x),.int .i64 b,.int .i64 0,.int .i64 0]
theorem aF {s:List UInt8}{a tag:Nat}{l:List Ex.A8}{n:Nat}(hn:n=min (lets s a) 16)(h1:¬l.any (fun c=>(s.drop a).take n==c.name)=true)(h2:¬s.length<=a+n)(h3:¬(n=0\/s.getD (a+n) 0≠61))(h4:¬s.length<=a+n+1)(h5:¬(s.getD (a+n+1) 0≠34/\s.getD (a+n+1) 0≠39)):
  Hc s a tag l n=aG s ((s.drop a).take n) a tag (a+n+1+1) (s.getD (a+n+1) 0):=by
 unfold Hc aG;rw[Fo s a tag l hn,if_neg h1,if_neg h2,if_neg h3,if_neg h4,if_neg h5]
 show _=match CY [s.getD (a+n+1) 0] (s.drop (a+n+2)) with|none=>_|some k=>_
 cases CY [s.getD (a+n+1) 0] (s.drop (a+n+2))<;>rfl
theorem Xr {s:List UInt8}{a tag n:Nat}{l:List Ex.A8}(hs:s.length<=limE)(ha:a<=s.length)(kO:tag<=s.length)(hl:l.length<=limE)(hn:n=min (lets s a) 16):∀(r p:List Ex.A8),l=p++r->p.any (fun c=>(s.drop a).take n==c.name)=false->
  AE AI 106 (AD Tryz.f106) (AR Tryz.prog Tryz.f106 (Hc s a tag l n)) [.code [0,1,0,1,1,1,1],.block 0,.code [1,1,1,1,1]] .normal
   [(0,true,.str s),(1,true,.int .i64 a),(2,true,.int .i64 tag),(3,true,.sl 3 (encAs l) none),(8,true,.ptr 0 0),(12,true,.int .i64 n),(13,true,.ptr 1 0),(14,true,.int .i64 p.length)]
   [.mem 80 [.str [],.str [],.int .i64 0],.mem 80 [.str ((s.drop a).take n),.str [],.int .i64 a]]
 |[],p,hp,kx=>by
  rw[List.append_nil] at hp;subst hp;have FC:s.length<=1000000:=hs;have dL:=C8 s a
  have h1:¬l.any (fun c=>(s.drop a).take n==c.name)=true:=by rw[kx];simp
  have w1:IntKind.wrap .i64 ((a:Int)+(n:Int))=((a+n:Nat):Int):=wr (by omega) (by omega)
  have w2:IntKind.wrap .i64 (((a+n:Nat):Int)+1)=((a+n+1:Nat):Int):=wr (by omega) (by omega)
  have w3:IntKind.wrap .i64 (((a+n+1:Nat):Int)+1)=((a+n+1+1:Nat):Int):=wr (by omega) (by omega)
  refine mZ TG (AA (fun x=> ?_) fun _=> ?_)
  ·simp[encAs] at x
  rw[w1,w2,w3]
  have vc:=Pj (s.getD (a+n) 0) 61 (by omega)
  have ve:=Pj (s.getD (a+n+1) 0) 34 (by omega)
  have vd:=Pj (s.getD (a+n+1) 0) 39 (by omega)
  refine AA (fun x=> ?_) fun x=>AA (fun y=> ?_) fun y=>AF ?_ (AA (fun z=> ?_) fun z=>AA (fun u=> ?_) fun u=>AF ?_ ?_)
  ·have h2:s.length<=a+n:=by simp at x;omega
   unfold Hc;rw[Fo s a tag l hn,if_neg h1,if_pos h2];rfl
  ·have h2:¬s.length<=a+n:=by simp at x;omega
   have h3:n=0:=by simpa using y
   unfold Hc;rw[Fo s a tag l hn,if_neg h1,if_neg h2,if_pos (.inl h3)];rfl
  ·exact Au (by simp at x;omega)
  ·have h2:¬s.length<=a+n:=by simp at x;omega
   have h3:s.getD (a+n) 0≠61:=by simpa using vc.symm.trans z
   unfold Hc;rw[Fo s a tag l hn,if_neg h1,if_neg h2,if_pos (.inr h3)];rfl
  all_goals
   have h2:¬s.length<=a+n:=by simp at x;omega
   have h3:¬(n=0\/s.getD (a+n) 0≠61):=by
    have z':(s.getD (a+n) 0 !=61)=false:=vc.symm.trans z
    have y':¬n=0:=by simpa using y
    simp at z'
    rintro(h|h)
    ·exact y' h
    ·exact h (by simpa using z')
  ·have h4:s.length<=a+n+1:=by simp at u;omega
   unfold Hc;rw[Fo s a tag l hn,if_neg h1,if_neg h2,if_neg h3,if_pos h4];rfl
  ·exact Au (by simp at u;omega)
  ·have h4:¬s.length<=a+n+1:=by simp at u;omega
   have go:¬(s.getD (a+n+1) 0≠34/\s.getD (a+n+1) 0≠39)->AE AI 106 (AD Tryz.f106) (AR Tryz.prog Tryz.f106 (Hc s a tag l n)) [.code [0,1,0,1,1,1,1,1,1,1,1,1,1,1,1],.block 2,.code [1,1,1,1,1,1,1,1,1,1,1,1,1]] .normal
     [(0,true,.str s),(2,true,.int .i64 tag),(8,true,.ptr 0 0),(13,true,.ptr 1 0),(15,true,.int .i64 ((a+n+1:Nat):Int)),(16,true,.int .u8 (s.getD (a+n+1) 0).toNat),(17,true,.int .i64 ((a+n+1+1:Nat):Int))] [.mem 80 [.str [],.str [],.int .i64 0],.mem 80 [.str ((s.drop a).take n),.str [],.int .i64 a]]:=by
    intro h5;rw[aF hn h1 h2 h3 h4 h5]
    exact gN hs (by omega) (s.length-(a+n+1+1)) (a+n+1+1) rfl (Nat.le_refl _) (by omega) (by simp)
   refine AA (fun q=>AA (fun t=> ?_) fun t=> ?_) fun q=> ?_
   ·have h5:s.getD (a+n+1) 0≠34/\s.getD (a+n+1) 0≠39:=⟨by simpa using ve.symm.trans q,by simpa using vd.symm.trans t⟩
    unfold Hc;rw[Fo s a tag l hn,if_neg h1,if_neg h2,if_neg h3,if_neg h4,if_pos h5];rfl
   ·exact go fun h=>h.2 (by simpa using vd.symm.trans t)
   ·exact go fun h=>h.1 (by simpa using ve.symm.trans q)
 |b::r,p,hp,kx=>by
  have hlen:l.length=p.length+(r.length+1):=by rw[hp];simp
  have WX:l.length<=1000000:=hl
  have g:C7 ((p.length:Nat):Int) (encAs l).length=true/\Bm (encAs l) ((p.length:Nat):Int)=Ex.Ao b:=by
   have As:p.length<l.length:=by omega
   refine⟨by rw[encAs,List.length_map];exact Au As,?_⟩
   rw[encAs,CF Ex.Ao _ As]
   congr 1
   simp[hp]
  refine mZ TG (AA (fun _=>AF (by rw[g.1];rfl) ⟨_,_,_,g.2,AA (fun x=> ?_) fun x=> ?_⟩) fun x=> ?_)
  ·have x:b.name=(s.drop a).take n:=by simpa using x
   have h1:l.any (fun c=>(s.drop a).take n==c.name)=true:=by rw[hp];simp[x]
   unfold Hc;rw[Fo s a tag l hn,if_pos h1];rfl
  ·rw[show IntKind.wrap .i64 ((p.length:Int)+1)=((p++[b]).length:Int) by rw[Bx (by omega) (by omega)];simp]
   refine Xr hs ha kO hl hn r (p++[b]) (by rw[hp];simp) ?_
   rw[List.any_append,kx]
   have x:¬b.name=(s.drop a).take n:=by simpa using x
   simp
   exact fun h=>x h.symm
  ·simp[encAs] at x;omega
theorem hZ :CP AI 106 Pm:=by
 refine Ar rO fun vs h K ht=> ?_
 obtain⟨s,a,tag,l,hs,ha,kO,hl,rfl,h1,h2⟩:=ht;have FC:s.length<=1000000:=hs;have dL:=C8 s a
 refine⟨Hc s a tag l (min (lets s a) 16),?_,t46 TG ⟨s,a,hs,ha,rfl,AA (fun x=> ?_) fun x=> ?_⟩⟩
 ·unfold Hc
  cases hc:DF s a tag l with
  |error x=>obtain⟨p,e⟩:=x;exact h1 p e hc _
  |ok x=>obtain⟨x,b⟩:=x;exact h2 x b hc
 all_goals
  have go:∀n,n=min (lets s a) 16->BB s.length (some (a:Int)) (some ((a+n:Nat):Int))=true/\AE AI 106 (AD Tryz.f106) (AR Tryz.prog Tryz.f106 (Hc s a tag l (min (lets s a) 16))) [.code [0,1,0,1,1,1,1],.block 0,.code [1,1,1,1,1]] .normal
    [(0,true,.str s),(1,true,.int .i64 a),(2,true,.int .i64 tag),(3,true,.sl 3 (encAs l) none),(8,true,.ptr 0 0),(12,true,.int .i64 n),(13,true,.ptr 1 0),(14,true,.int .i64 0)]
    [.mem 80 [.str [],.str [],.int .i64 0],.mem 80 [.str (B6 s (some (a:Int)) (some ((a+n:Nat):Int))),.str [],.int .i64 a]]:=by
   intro n hn
   obtain⟨q1,q2⟩:=CB s (show a<=a+n by omega) (show a+n<=s.length by omega)
   refine⟨q2,?_⟩
   rw[q1,<-hn,show cut s a (a+n)=(s.drop a).take n by unfold cut;rw[Nat.add_sub_cancel_left]]
   exact Xr hs ha kO hl hn l [] rfl rfl
 ·have x:16<lets s a:=by simp at x;omega
  obtain⟨q1,q2⟩:=go 16 (by omega)
  rw[show IntKind.wrap .i64 ((a:Int)+16)=((a+16:Nat):Int) from wr (by omega) (by omega)]
  exact AF q1 q2
 ·have x:¬16<lets s a:=by simp at x;omega
  obtain⟨q1,q2⟩:=go (lets s a) (by omega)
  rw[show IntKind.wrap .i64 ((a:Int)+((lets s a:Nat):Int))=((a+lets s a:Nat):Int) from wr (by omega) (by omega)]
  exact AF q1 q2
theorem rY :BE AI 72 Tryz.f72:=(by refine⟨?_,?_,?_,?_,?_,?_⟩<;>kernel_rfl)
theorem au :AK AI (Af [(103,Ii),(104,KD),(105,OP),(106,Pm)]):=AX (AG iA (AG vZ (AG pj (AG hZ AN))))
def eG (s nm:List UInt8)(tag:Nat)(l:List Ex.A8)(b:Nat):AV:=match CW s tag nm l b with
 |.error (p,e)=>.tup [.agg (Ex.encT ⟨if s.getD b 0=47 then 3 else 2,nm,l,[],tag,0⟩),.int .i64 p,.int .i64 e]
 |.ok t=>.tup [.agg (Ex.encT t),.int .i64 0,.int .i64 0]
def RH (s nm:List UInt8)(tag f a:Nat)(l:List Ex.A8):AV:=match A7 s tag f a l with
 |.error (p,e)=>.tup [.agg (Ex.encT ⟨2,nm,Ss s tag f a l,[],tag,0⟩),.int .i64 p,.int .i64 e]
 |.ok (l',b)=>eG s nm tag l' b
def Tj (s:List UInt8)(tag:Nat):AV:=
 if Bk ((s.drop (tag+5)).take (lets s (tag+5)))=false then .tup [.agg (Ex.encT ⟨2,(s.drop (tag+5)).take (lets s (tag+5)),[],[],tag,0⟩),.int .i64 tag,.int .i64 11]
 else RH s ((s.drop (tag+5)).take (lets s (tag+5))) tag (s.length+1) (tag+5+lets s (tag+5)) []
theorem IV (n:Nat)(g:Hp)(l:List Ex.A8):AB n g (encAs l)=encAs l:=Ba n g _ (L9 n l)
def hO (nm:List UInt8)(tag:Nat)(l:List Ex.A8):Hp:=[.grow 0 3 80,.mem 95 [.int .i64 0,.str [],.sl 3 [] (some 0),.str [],.int .i64 0,.int .i64 0],.grow (encAs l).length 3 80,.grow 0 3 80,.mem 95 [.int .i64 2,.str nm,.sl 3 (encAs l) (some 2),.str [],.int .i64 tag,.int .i64 0]]
theorem Ju {s nm:List UInt8}{tag b:Nat}{l:List Ex.A8}(h:s.getD b 0=47):CW s tag nm l b=if s.length<=b+1 then .error (tag,14) else if s.getD (b+1) 0≠62 then .error (b+1,12) else .ok ⟨3,nm,l,cut s tag (b+1+1),tag,b+1+1⟩:=by
 unfold CW;simp only[h,if_true]
theorem QU {s nm:List UInt8}{tag b:Nat}{l:List Ex.A8}(h:¬s.getD b 0=47):CW s tag nm l b=if s.length<=b then .error (tag,14) else if s.getD b 0≠62 then .error (b,12) else .ok ⟨2,nm,l,cut s tag (b+1),tag,b+1⟩:=by
 unfold CW;simp only[if_neg h,Nat.add_zero];rfl
theorem jN {s nm:List UInt8}{tag b:Nat}{l:List Ex.A8}(hs:s.length<=limE)(sS:tag<=b)(hb:b<s.length):
  AE AI 72 (AD Tryz.f72) (AR Tryz.prog Tryz.f72 (eG s nm tag l b)) [.code [1,1,1,1,1,1]] .normal [(0,true,.str s),(1,true,.int .i64 tag),(4,true,.ptr 1 0),(8,true,.ptr 4 0),(9,true,.int .i64 b)] (hO nm tag l):=by
 have FC:s.length<=1000000:=hs
 have w1:IntKind.wrap .i64 ((b:Int)+1)=((b+1:Nat):Int):=wr (by omega) (by omega)
 have w2:IntKind.wrap .i64 (((b+1:Nat):Int)+1)=((b+1+1:Nat):Int):=wr (by omega) (by omega)
 have uT:(((s.getD b 0).toNat:Int)==47)=(s.getD b 0==47):=Gv _ 47 (by omega)
 refine jf au (AF (Au hb) ?_);rw[w1,w2];simp only[IV];show Ad (((s.getD b 0).toNat:Int)==47) _ _;rw[uT]
 have po:=Pj (s.getD b 0) 62 (by omega)
 have pD:=Pj (s.getD (b+1) 0) 62 (by omega)
 refine AA (fun x=>AA (fun y=> ?_) fun y=>AF ?_ (AA (fun z=> ?_) fun z=> ?_)) fun x=>AA (fun y=> ?_) fun y=>AF (Au hb) (AA (fun z=> ?_) fun z=> ?_)
 all_goals (try unfold eG)
 ·have x:s.getD b 0=47:=by simpa using x
  have y:s.length<=b+1:=by simp at y;omega
  rw[Ju x,if_pos y];simp only[if_pos x];rfl
 ·exact Au (by simp at y;omega)
 ·have x:s.getD b 0=47:=by simpa using x
  have y:¬s.length<=b+1:=by simp at y;omega
  have z:s.getD (b+1) 0≠62:=by simpa using pD.symm.trans z
  rw[Ju x,if_neg y,if_pos z];simp only[if_pos x];rfl
 ·have x:s.getD b 0=47:=by simpa using x
  have y:¬s.length<=b+1:=by simp at y;omega
  have z:¬s.getD (b+1) 0≠62:=by
   have z':(s.getD (b+1) 0 !=62)=false:=pD.symm.trans z;simpa using z'
  obtain⟨q1,q2⟩:=CB s (show tag<=b+1+1 by omega) (by omega)
  rw[q1,Ju x,if_neg y,if_neg z];exact AF q2 rfl
 ·exfalso
  have:(b:Int)=s.length:=by simpa using y
  omega
 ·have x:¬s.getD b 0=47:=by simpa using x
  have z:s.getD b 0≠62:=by simpa using po.symm.trans z
  rw[QU x,if_neg (by omega),if_pos z]
  simp only[if_neg x];rfl
 ·have x:¬s.getD b 0=47:=by simpa using x
  have z:¬s.getD b 0≠62:=by
   have z':(s.getD b 0 !=62)=false:=po.symm.trans z;simpa using z'
  obtain⟨q1,q2⟩:=CB s (show tag<=b+1 by omega) (by omega)
  rw[q1,QU x,if_neg (by omega),if_neg z]
  exact AF q2 rfl
theorem eS (s nm:List UInt8)(tag f a:Nat)(l:List Ex.A8):RH s nm tag (f+1) a l=
  if s.length<=past s a then .tup [.agg (Ex.encT ⟨2,nm,l,[],tag,0⟩),.int .i64 tag,.int .i64 14] else
  if s.getD (past s a) 0=62\/s.getD (past s a) 0=47 then eG s nm tag l (past s a) else
  if past s a=a then .tup [.agg (Ex.encT ⟨2,nm,l,[],tag,0⟩),.int .i64 a,.int .i64 12] else
  match DF s (past s a) tag l with
  |.error (p,e)=>.tup [.agg (Ex.encT ⟨2,nm,l,[],tag,0⟩),.int .i64 p,.int .i64 e]
  |.ok (x,b)=>RH s nm tag f b (l++[x]):=by
 unfold RH;rw[A7,Ss]
 by_cases h1:s.length<=past s a
 ·simp only[if_pos h1]
 ·simp only[if_neg h1]
  by_cases h2:s.getD (past s a) 0=62\/s.getD (past s a) 0=47
  ·simp only[if_pos h2]
  ·simp only[if_neg h2]
   by_cases h3:past s a=a
   ·simp only[if_pos h3]
   ·simp only[if_neg h3]
    cases DF s (past s a) tag l with
    |error x=>rfl
    |ok x=>rfl
theorem cX {s nm:List UInt8}{tag:Nat}(hs:s.length<=limE):∀(f a:Nat) (l:List Ex.A8),s.length-a<f->tag<=a->a<=s.length->l.length<=a->
  AE AI 72 (AD Tryz.f72) (AR Tryz.prog Tryz.f72 (RH s nm tag f a l)) [.code [0,0,1,1,1,1,1],.block 0,.code [1,1,1,1,1,1]] .normal [(0,true,.str s),(1,true,.int .i64 tag),(4,true,.ptr 1 0),(8,true,.ptr 4 0),(9,true,.int .i64 a)] (hO nm tag l)
 |0,a,l,hf,_,_,_=>by omega
 |f+1,a,l,hf,yx,ha,hl=>by
  have FC:s.length<=1000000:=hs;obtain⟨p1,p2⟩:=EL ha;rw[eS]
  have po:(((s.getD (past s a) 0).toNat:Int)==62)=(s.getD (past s a) 0==62):=Gv _ 62 (by omega)
  have uT:(((s.getD (past s a) 0).toNat:Int)==47)=(s.getD (past s a) 0==47):=Gv _ 47 (by omega)
  refine qj au ⟨s,a,hs,ha,rfl,?_⟩;simp only[IV]
  refine AA (fun x=> ?_) fun x=>AF (Au (by simp at x;omega)) ?_
  ·rw[if_pos (by simp at x;omega)]
   rfl
  have h1:¬s.length<=past s a:=by simp at x;omega
  rw[if_neg h1];show Ad (((s.getD (past s a) 0).toNat:Int)==62) _ _;rw[po]
  refine AA (fun y=> ?_) fun y=>AF (Au (by omega)) ?_
  ·have y:s.getD (past s a) 0=62:=by simpa using y
   rw[if_pos (.inl y)]
   exact jN hs (by omega) (by omega)
  show Ad (((s.getD (past s a) 0).toNat:Int)==47) _ _;rw[uT]
  refine AA (fun z=> ?_) fun z=> ?_
  ·have z:s.getD (past s a) 0=47:=by simpa using z
   rw[if_pos (.inr z)]
   exact jN hs (by omega) (by omega)
  have h2:¬(s.getD (past s a) 0=62\/s.getD (past s a) 0=47):=by
   have y:¬s.getD (past s a) 0=62:=by simpa using y
   have z:¬s.getD (past s a) 0=47:=by simpa using z
   rintro(h|h)
   ·exact y h
   ·exact z h
  rw[if_neg h2]
  refine AA (fun u=> ?_) fun u=> ?_
  ·rw[if_pos (by simp at u;omega)]
   rfl
  have h3:¬past s a=a:=by simp at u;omega
  rw[if_neg h3]
  refine⟨s,past s a,tag,l,hs,by omega,by omega,by omega,rfl,fun p e he x=> ?_,fun x b hx=> ?_⟩
  ·rw[he]
   refine AA (fun _=> ?_) fun w=>absurd (by simpa using w) (YV he)
   rfl
  ·obtain⟨q1,q2⟩:=LP hx
   have hle:(encAs l).length=l.length:=by simp[encAs]
   rw[hx];refine AF ?_ (AF ?_ ?_)
   ·simp only[Bf,List.getElem?_cons_succ,List.getElem?_cons_zero,Nat.beq_refl,Bool.and_self,Bool.true_and,Bool.and_true]
    exact decide_eq_true (by omega)
   ·have:=L9 5 (l++[x])
    rw[show encAs (l++[x])=encAs l++[[AV.str x.name,AV.str x.value,AV.int .i64 x.at']] by simp[encAs,Ex.Ao]] at this
    rw[this];rfl
   ·have ih:=cX (nm:=nm) (tag:=tag) hs f b (l++[x]) (by omega) (by omega) q2 (by simp;omega)
    unfold hO at ih
    rw[show encAs (l++[x])=encAs l++[[AV.str x.name,AV.str x.value,AV.int .i64 x.at']] by simp[encAs,Ex.Ao]] at ih
    rw[List.length_append] at ih;exact ih
theorem mq {s:List UInt8}{tag:Nat}(hs:s.length<=limE)(ht:tag+5<=s.length):AE AI 72 (AD Tryz.f72) (AR Tryz.prog Tryz.f72 (Tj s tag)) [.code []] .normal [(0,true,.str s),(1,true,.int .i64 tag)] []:=by
 have FC:s.length<=1000000:=hs;have hn:=C8 s (tag+5)
 have w1:IntKind.wrap .i64 ((tag:Int)+5)=((tag+5:Nat):Int):=wr (by omega) (by omega)
 have w2:IntKind.wrap .i64 (((tag+5:Nat):Int)+((lets s (tag+5):Nat):Int))=((tag+5+lets s (tag+5):Nat):Int):=wr (by omega) (by omega)
 obtain⟨q1,q2⟩:=CB s (show tag+5<=tag+5+lets s (tag+5) by omega) (by omega)
 have MJ:cut s (tag+5) (tag+5+lets s (tag+5))=(s.drop (tag+5)).take (lets s (tag+5)):=by unfold cut;rw[Nat.add_sub_cancel_left]
 refine t30 au ⟨s,tag+5,hs,ht,by rw[w1],?_⟩
 rw[w1,w2,q1,MJ]
 refine AF q2 ⟨_,rfl,AA (fun x=> ?_) fun x=> ?_⟩
 ·have x:Bk ((s.drop (tag+5)).take (lets s (tag+5)))=false:=by simpa using x
  unfold Tj;rw[if_pos x];rfl
 ·have x:¬Bk ((s.drop (tag+5)).take (lets s (tag+5)))=false:=by simpa using x
  unfold Tj;rw[if_neg x]
  exact cX hs (s.length+1) (tag+5+lets s (tag+5)) [] (by omega) (by omega) (by omega) (by simp)
theorem pk :CP AI 72 Vy:=by
 refine Ar rY fun vs h K ht=> ?_
 obtain⟨s,tag,hs,kO,rfl,h1,h2⟩:=ht;refine⟨Tj s tag,?_,mq hs kO⟩;unfold Tj;unfold Dh B9 at h1;unfold Dh at h2;simp only at h1 h2
 by_cases hk:Bk ((s.drop (tag+5)).take (lets s (tag+5)))=false
 ·simp only[if_pos hk] at h1⊢;exact h1 _ _ rfl
 ·simp only[if_neg hk] at h1 h2⊢;unfold RH
  cases ha:A7 s tag (s.length+1) (tag+5+lets s (tag+5)) [] with
  |error x=>
   obtain⟨p,e⟩:=x;rw[ha] at h1;exact h1 p e rfl
  |ok x=>
   obtain⟨l,b⟩:=x;rw[ha] at h1 h2;simp only at h1 h2⊢;unfold eG
   cases he:CW s tag ((s.drop (tag+5)).take (lets s (tag+5))) l b with
   |error x=>obtain⟨p,e⟩:=x;exact h1 p e he
   |ok t=>exact h2 t he
theorem rb :BE AI 46 Tryz.f46:=(by refine⟨?_,?_,?_,?_,?_,?_⟩<;>kernel_rfl)
theorem mR :AK AI (Af [(70,QJ),(72,Vy),(73,lE),(74,Sm),(71,O9)]):=AX (AG lN (AG pk (AG yd (AG yc (AG pn AN)))))
def Ig (s:List UInt8)(a:Nat)(hid:Option Nat):AV:=match CH s a hid with
 |.error (p,e)=>.tup [.sl 6 (D6 s a) none,.int .i64 p,.int .i64 e]
 |.ok (l,_)=>.tup [.sl 6 (l.map AJ) none,.int .i64 0,.int .i64 0]
theorem WE {s:List UInt8}{a:Nat}{hid:Option Nat}{t:Tok}(ho:has s Al a=true)(ht:Dh s a=.ok t):Ig s a hid=match Fe s t with
  |.error (p,e)=>.tup [.sl 6 [] none,.int .i64 p,.int .i64 e]
  |.ok l=>.tup [.sl 6 (l.map AJ) none,.int .i64 0,.int .i64 0]:=by
 unfold Ig CH D6;simp only[if_pos ho,ht]
 cases Fe s t with
 |error x=>rfl
 |ok l=>rfl
theorem Np {t:Tok}(h:t.kind≠7):AJ t=Ex.encT t:=by unfold AJ;rw[if_neg h]
theorem mr {s:List UInt8}{a:Nat}{hid:Option Nat}(hs:s.length<=limE)(ha:a<s.length)(D8:spec s a hid.isSome=true):
  AE AI 46 (AD Tryz.f46) (AR Tryz.prog Tryz.f46 (Ig s a hid)) [.code []] .normal [(0,true,.str s),(1,true,.int .i64 a),(2,true,.bool hid.isSome)] []:=by
 have FC:s.length<=1000000:=hs
 refine t19 mR ⟨s,Al,a,by simp[Al],hs,by decide,by omega,rfl,AA (fun ho=>⟨s,a,hs,DC ho (by simp[Al]),rfl,fun p e he=> ?_,fun t ht=> ?_⟩) fun ho=>
  ⟨s,Ae,a,by simp[Ae],hs,by decide,by omega,rfl,AA (fun hc=>⟨s,a,hs,DC hc (by simp[Ae]),rfl,fun p e he=> ?_,fun t ht=> ?_⟩) fun hc=>⟨s,a,hs,by omega,rfl,AA (fun hh=>AA (fun hd=> ?_) fun hd=>AF ?_ ?_) fun hh=> ?_⟩⟩⟩
 ·refine AA (fun _=> ?_) fun w=>absurd (by simpa using w) (Xe he)
  simp only[IV];unfold Ig CH D6;simp only[if_pos ho,he];rfl
 ·have h5:=DC ho (by simp[Al])
  have e5:Al.length=5:=rfl
  obtain⟨k1,k2,k3,k4,k5⟩:=Ks (by omega) ht
  have ss:t.kind≠7:=by omega
  rw[WE ho ht];simp only[IV]
  refine AA (fun x=> ?_) fun x=>AA (fun y=>AA (fun z=> ?_) fun z=> ?_) fun y=> ?_
  ·have x:t.kind=3:=by simpa using x
   have:Fe s t=.ok [t]:=by unfold Fe;rw[if_neg (by omega)]
   rw[this];simp only[List.map_cons,List.map_nil,Np ss];rfl
  ·have y:¬t.name=BC:=by simpa[BC] using y
   have z:¬t.name=Cp:=by simpa[Cp] using z
   have:Fe s t=.ok [t]:=by unfold Fe;rw[if_neg (by rintro⟨_,h|h⟩;exact y h;exact z h)]
   rw[this];simp only[List.map_cons,List.map_nil,Np ss];rfl
  all_goals
   have hk:t.kind=2:=by
    have x:¬t.kind=3:=by simpa using x
    omega
   have hn:t.name=BC\/t.name=Cp:=by
    first|exact .inl (by simpa[BC] using y)|exact .inr (by simpa[Cp] using z)
   have dL:t.name.length=6:=by rcases hn with h|h<;>rw[h]<;>rfl
   have DZ:(Ae++t.name).length=12:=by rw[List.length_append,dL];rfl
   have sa:Fe s t=(match CY (Ae++t.name) (s.drop t.to) with
     |none=>.error (t.fr,14)
     |some n=>match CY Al ((s.drop t.to).take n),decide (t.name=BC) with
      |some k,true=>.error (t.to+k,13)
      |_,_=>.ok [t,⟨7,[],[],(s.drop t.to).take n,t.to,t.to+n⟩]):=by
    unfold Fe;rw[if_pos ⟨hk,hn⟩];rfl
   rw[sa]
   refine AF (decide_eq_true (by omega)) ⟨s,Ae++t.name,t.to,by simp[Ae],hs,by omega,k5,rfl,?_⟩
   cases hf:CY (Ae++t.name) (s.drop t.to) with
   |none=>
    have hR:BU s (Ae++t.name) t.to= -1:=by unfold BU;rw[hf]
    rw[hR]
    refine AA (fun _=> ?_) fun q=>by simp at q
    rw[k2]
   |some n=>
    have hR:BU s (Ae++t.name) t.to=((t.to+n:Nat):Int):=by unfold BU;rw[hf]
    have hle:=HE hf;rw[List.length_drop,DZ] at hle;rw[hR];have MJ:B6 s none (some ((t.to+n:Nat):Int))=s.take (t.to+n):=rfl
    have wM:(s.take (t.to+n)).drop t.to=(s.drop t.to).take n:=by rw[List.drop_take,Nat.add_sub_cancel_left]
    obtain⟨c1,c2⟩:=CB s (show t.to<=t.to+n by omega) (by omega)
    rw[Eu] at c1;rw[MJ,c1]
    refine AA (fun q=>by simp at q;omega) fun _=>AF (by simp[BB];omega) ⟨s.take (t.to+n),Al,t.to,by simp[Al],by rw[List.length_take];omega,by decide,by rw[List.length_take];omega,rfl,?_⟩
    have xn:BU (s.take (t.to+n)) Al t.to=match CY Al ((s.drop t.to).take n) with|some k=>((t.to+k:Nat):Int)|none=> -1:=by unfold BU;rw[wM];rfl
    rw[xn]
    have last:AV.tup [AV.sl 6 [Ex.encT t,[.int .i64 7,.str [],.sl 0 [] none,.str ((s.drop t.to).take n),.int .i64 t.to,.int .i64 ((t.to+n:Nat):Int)]] none,.int .i64 0,.int .i64 0]=.tup [.sl 6 ([t,⟨7,[],[],(s.drop t.to).take n,t.to,t.to+n⟩].map AJ) none,.int .i64 0,.int .i64 0]:=by
     simp only[List.map_cons,List.map_nil,Np ss];rfl
    refine AA (fun r=> ?_) fun r=>AF c2 ?_
    ·have r:t.name=BC:=by simpa[BC] using r
     cases S7:CY Al ((s.drop t.to).take n) with
     |some k=>
      refine AA (fun _=> ?_) fun q=>by simp at q;omega
      simp only[S7,decide_eq_true r]
     |none=>
      refine AA (fun q=>by simp at q) fun _=>AF c2 ?_
      simp only[S7];exact last
    ·have r:¬t.name=BC:=by simpa[BC] using r
     simp only[decide_eq_false r]
     cases CY Al ((s.drop t.to).take n)<;>exact last
 ·unfold Ig CH D6
  simp only[if_neg (show¬has s Al a=true by rw[ho];simp),if_pos hc,he]
  rfl
 ·have h6:=DC hc (by simp[Ae])
  have e6:Ae.length=6:=rfl
  have hk:=(GM (by omega) ht).1
  simp only[IV];unfold Ig CH D6
  simp only[if_neg (show¬has s Al a=true by rw[ho];simp),if_pos hc,ht,List.map_cons,List.map_nil,Np (show t.kind≠7 by omega)]
  rfl
 all_goals
  have jD:¬has s Al a=true:=by rw[ho];simp
  have fV:¬has s Ae a=true:=by rw[hc];simp
 ·unfold Ig CH D6;simp only[if_neg jD,if_neg fV,if_pos hh,if_pos hd]
 all_goals try
  have h8:a+8<=s.length:=by
   unfold Cz at hh;simp only[Bool.and_eq_true,decide_eq_true_eq] at hh;omega
  have w8:IntKind.wrap .i64 ((a:Int)+8)=((a+8:Nat):Int):=wr (by omega) (by omega)
  obtain⟨c1,c2⟩:=CB s (show a<=a+8 by omega) h8
  rw[w8]
 ·exact c2
 ·rw[c1];unfold Ig CH D6
  simp only[if_neg jD,if_neg fV,if_pos hh,if_neg (show¬hid.isSome=true by rw[hd];simp),List.map_cons,List.map_nil]
  rfl
 ·have w3:IntKind.wrap .i64 ((a:Int)+3)=((a+3:Nat):Int):=wr (by omega) (by omega)
  rw[w3];unfold Ig CH D6
  simp only[if_neg jD,if_neg fV,if_neg (show¬Cz s a=true by rw[hh];simp),List.map_cons,List.map_nil]
  rfl
theorem yi :CP AI 46 Tx:=by
 refine Ar rb fun vs h K ht=> ?_
 obtain⟨s,a,hid,hs,ha,D8,rfl,h1,h2⟩:=ht;refine⟨Ig s a hid,?_,mr hs ha D8⟩;unfold Ig
 cases hc:CH s a hid with
 |error x=>obtain⟨p,e⟩:=x;exact h1 p e hc
 |ok x=>obtain⟨l,Eg⟩:=x;exact h2 l Eg hc
theorem vn :BE AI 19 Tryz.f19:=(by refine⟨?_,?_,?_,?_,?_,?_⟩<;>kernel_rfl)
theorem Yf :AK AI (Af [(45,TO),(46,Tx)]):=AX (AG yj (AG yi AN))
def XP (s:List UInt8):AV:=match lexM s with
 |.error (p,e)=>.tup [.sl 6 [] none,.int .i64 p,.int .i64 e]
 |.ok l=>.tup [.sl 6 (l.map AJ) none,.int .i64 0,.int .i64 0]
def Gb (h:Option Nat):Int:=match h with
 |some p=>p
 |none=> -1
theorem JM (h:Option Nat):decide (Gb h>=0)=h.isSome:=by
 cases h with
 |none=>rfl
 |some p=>show decide ((p:Int)>=0)=true;exact decide_eq_true (Int.natCast_nonneg p)
abbrev pG (s:List UInt8)(v:AV)(l:List Tok)(hid:Option Nat)(a:Nat):Prop:=
 AE AI 19 (AD Tryz.f19) (AR Tryz.prog Tryz.f19 v) [.code [0,0,1,1,1,1],.block 0,.code [1,1,1,1,1]] .normal [(0,true,.str s),(5,true,.sl 6 (l.map AJ) (some 1)),(6,true,.int .i64 (Gb hid)),(7,true,.int .i64 a)] [.grow 0 6 95,.grow (l.map AJ).length 6 95]
theorem mG {s:List UInt8}{v:AV}{l:List Tok}{hid:Option Nat}{a:Nat}(hs:s.length<=limE)(ha:a<=s.length)(hl:l.length<=2*a):∀(f b:Nat),s.length<=b+f->a<=b->b<=s.length->
  pG s v (l++[⟨1,[],[],cut s a (BM s hid.isSome f b),a,BM s hid.isSome f b⟩]) hid (BM s hid.isSome f b)->
  AE AI 19 (AD Tryz.f19) (AR Tryz.prog Tryz.f19 v) [.code [0,0,1,0,1,0,0,1,0,0,0,1,1,1,1],.block 2,.code [1,1,0,1,0,0,1,0,0,0,1,1,1,1],.code [1,0,1,0,0,0,1,1,1,1],.block 1,.loop [0,0,1,1,1,1] 2,.block 0,.code [1,1,1,1,1]] .normal
   [(0,true,.str s),(5,true,.sl 6 (l.map AJ) (some 1)),(6,true,.int .i64 (Gb hid)),(7,true,.int .i64 a),(8,true,.int .i64 b)] [.grow 0 6 95,.grow (l.map AJ).length 6 95]:=by
 have FC:s.length<=1000000:=hs;intro f
 induction f with
 |zero=>
  intro b hf Qv hb k
  have HD:b=s.length:=by omega
  have e:BM s hid.isSome 0 b=b:=rfl;rw[e] at k;obtain⟨c1,c2⟩:=CB s Qv hb
  refine uZ Yf (AA (fun x=>by simp at x;omega) fun _=>AF c2 (AF ?_ ?_))
  ·rw[show Bf [Blk.grow 0 6 95,Blk.grow (List.map AJ l).length 6 95,Blk.grow 0 3 80,Blk.grow 1 6 95] (List.map AJ l).length 6 95 (some 1)=true by simp[Bf],List.length_map]
   simp;omega
  ·rw[c1,Cb,Ba 2 _ _ (Ol 2 l)];have:=k;unfold pG at this;rw[List.map_append,List.length_append] at this;exact this
 |succ f ih=>
  intro b hf Qv hb k;obtain⟨c1,c2⟩:=CB s Qv hb
  have stop:BM s hid.isSome (f+1) b=b->AU (BB s.length (some (a:Int)) (some (b:Int))) (AU (Bf [Blk.grow 0 6 95,Blk.grow (List.length (List.map AJ l)) 6 95,Blk.grow 0 3 80,Blk.grow 1 6 95] (List.length (List.map AJ l)) 6 95 (some 1)&&true&&true&&true&&decide ((List.length (List.map AJ l)+1)*80<=140737488355328)&&true&&true)
    (AE AI 19 (AD Tryz.f19) (AR Tryz.prog Tryz.f19 v) [Fm.code [0,0,1,1,1,1],Fm.block 0,Fm.code [1,1,1,1,1]] XT.normal [(0,true,AV.str s),(5,true,AV.sl 6 (AB 2 [Blk.grow 0 6 95,Blk.grow (List.length (List.map AJ l)+1) 6 95,Blk.grow 0 3 80,Blk.grow 1 6 95] (List.map AJ l++[[.int .i64 1,AV.str [],AV.sl 3 [] (some 2),AV.str (B6 s (some (a:Int)) (some (b:Int))),.int .i64 a,.int .i64 b]])) (some 1)),(6,true,.int .i64 (Gb hid)),(7,true,.int .i64 b)] [Blk.grow 0 6 95,Blk.grow (List.length (List.map AJ l)+1) 6 95])):=by
   intro e;rw[e] at k;refine AF c2 (AF ?_ ?_)
   ·rw[show Bf [Blk.grow 0 6 95,Blk.grow (List.map AJ l).length 6 95,Blk.grow 0 3 80,Blk.grow 1 6 95] (List.map AJ l).length 6 95 (some 1)=true by simp[Bf],List.length_map]
    simp;omega
   ·rw[c1,Cb,Ba 2 _ _ (Ol 2 l)];have:=k;unfold pG at this;rw[List.map_append,List.length_append] at this;exact this
  refine uZ Yf (AA (fun x=>⟨s,b,hid.isSome,hs,by omega,by rw[JM],AA (fun y=> ?_) fun y=> ?_⟩) fun x=> ?_)
  ·have x:b<s.length:=by simpa using x
   have y:spec s b hid.isSome=false:=by simpa using y
   have e:BM s hid.isSome (f+1) b=BM s hid.isSome f (b+1):=by
    conv=>lhs;unfold BM
    rw[if_neg (by rw[y];simp;omega)]
   rw[e] at k
   have:=ih (b+1) (by omega) (by omega) (by omega) k
   rw[Ba 2 _ _ (Ol 2 l),show IntKind.wrap .i64 ((b:Int)+1)=((b+1:Nat):Int) from wr (by omega) (by omega)]
   exact this
  ·have y:spec s b hid.isSome=true:=by simpa using y
   refine stop ?_;unfold BM;rw[if_pos (.inr y)]
  ·refine stop ?_;unfold BM
   rw[if_pos (.inl (by simp at x;omega))]
theorem nP {s:List UInt8}(hs:s.length<=limE):∀(f a:Nat) (hid:Option Nat) (l:List Tok),s.length-a<f->a<=s.length->l.length<=2*a->
  ∀v,(∀p e,Ce s f a hid=.error (p,e)->v=.tup [.sl 6 [] none,.int .i64 p,.int .i64 e])->(∀r,Ce s f a hid=.ok r->v=.tup [.sl 6 ((l++r).map AJ) none,.int .i64 0,.int .i64 0])->pG s v l hid a:=by
 have FC:s.length<=1000000:=hs;intro f
 induction f with
 |zero=>intro a hid l hf;omega
 |succ f ih=>
  intro a hid l hf ha hl v dF fQ;unfold pG
  by_cases QD:s.length<=a
  ·refine qO Yf (AA (fun x=>by simp at x;omega) fun _=> ?_)
   cases hid with
   |some p=>
    refine AA (fun _=>(dF p 14 ?_).symm) fun x=> ?_
    ·unfold Ce;rw[if_pos QD]
    ·rw[JM] at x;cases x
   |none=>
    refine AA (fun x=> ?_) fun _=> ?_
    ·rw[JM] at x;cases x
    ·rw[Ba 0 _ _ (Ol 0 l),fQ [] ?_,List.append_nil];unfold Ce;rw[if_pos QD]
  ·by_cases D8:spec s a hid.isSome=true
   ·refine qO Yf (AA (fun _=>⟨s,a,hid.isSome,hs,by omega,by rw[JM],AA (fun y=>by rw[D8] at y;cases y) fun _=>⟨s,a,hid,hs,by omega,D8,by rw[JM],fun p e he=> ?_,fun m Eg hm=> ?_⟩⟩) fun x=>by simp at x;omega)
    ·refine AA (fun _=> ?_) fun z=>absurd (by simpa using z) (Xk he)
     refine(dF p e ?_).symm;unfold Ce;rw[if_neg QD,if_pos D8,he]
    ·obtain⟨t,r,rfl,k7,hh,j1,j2,j3⟩:=Tw (by omega) D8 hm
     have e:=ZN (f:=f) QD D8 hm;rw[cd (a+1) 0] at e
     have nx:=ih (Bd (t::r) 0) Eg (l++t::r) (by omega) j2 (by rw[List.length_append];omega) v (fun p e' he=>dF p e' (by rw[e,he];rfl)) (fun q hq=>by
      rw[fQ (t::r++q) (by rw[e,hq];rfl)];simp)
     obtain⟨z1,z2⟩:=WM (t:=t) (r:=r) 0;have g0:Bm ((t::r).map AJ) 0=AJ t:=rfl
     have i0:C7 0 ((t::r).map AJ).length=true:=by rw[List.length_map];exact Au (i:=0) (by simp)
     have w:IntKind.wrap .i64 ((((t::r).map AJ).length:Int)-1)=(((t::r).length-1:Nat):Int):=wr (by rw[List.length_map];simp) (by omega)
     have i1:C7 (((t::r).length-1:Nat):Int) ((t::r).map AJ).length=true:=by rw[List.length_map];exact Au z1
     have g1:=CF AJ (t::r) z1
     have tag:∀n:Nat,n<=2->(Bf [Blk.grow 0 6 95,Blk.grow (List.length (List.map AJ l)) 6 95] (List.length (List.map AJ l)) 6 95 (some 1)&&true&&true&&true&&decide ((List.length (List.map AJ l)+n)*80<=140737488355328)&&true&&true)=true:=by
      intro n hn
      rw[show Bf [Blk.grow 0 6 95,Blk.grow (List.map AJ l).length 6 95] (List.map AJ l).length 6 95 (some 1)=true by simp[Bf],List.length_map]
      simp;omega
     have rq:AE AI 19 (AD Tryz.f19) (AR Tryz.prog Tryz.f19 v) [Fm.code [0,0,1,1,1,1],Fm.block 0,Fm.code [1,1,1,1,1]] XT.normal [(0,true,AV.str s),(5,true,AV.sl 6 (AB 2 [Blk.grow 0 6 95,Blk.grow (List.length (List.map AJ l)+List.length (List.map AJ (t::r))) 6 95] (List.map AJ l++List.map AJ (t::r))) (some 1)),(6,true,.int .i64 (Gb Eg)),(7,true,.int .i64 ((Bd (t::r) 0:Nat):Int))] [Blk.grow 0 6 95,Blk.grow (List.length (List.map AJ l)+List.length (List.map AJ (t::r))) 6 95]:=by
      rw[<-List.map_append,Ba 2 _ _ (Ol 2 _),<-List.length_append,<-List.map_append];exact nx
     have e9:∀u:Tok,∃(nm:List UInt8) (w:AV) (tx:List UInt8),AJ u=[.int .i64 u.kind,.str nm,w,.str tx,.int .i64 u.fr,.int .i64 u.to]:=by
      intro u;unfold AJ;split
      ·rename_i h7
       exact⟨_,_,_,by rw[h7]⟩
      ·exact⟨_,_,_,rfl⟩
     obtain⟨nm,w1,tx,q1⟩:=e9 t;obtain⟨cH,w2,RW,q2⟩:=e9 ((t::r)[(t::r).length-1]);rw[<-z2] at q2;rw[q1] at g0;rw[q2] at g1
     refine AF (by rw[i0];rfl) ⟨_,_,_,_,_,_,g0,AA (fun x=> ?_) fun x=> ?_⟩
     ·have x:t.kind=5:=by simpa using x
      rw[if_pos x] at hh;subst hh
      refine AF (by rw[i0];rfl) ⟨_,_,_,_,_,_,g0,AA (fun y=> ?_) fun y=> ?_⟩
      ·have y:t.kind=6:=by simpa using y
       omega
      ·refine AF (tag _ (by rw[List.length_map];exact j3)) ?_
       rw[w]
       exact AF (by rw[i1];rfl) ⟨_,_,_,_,_,_,g1,rq⟩
     ·have x:¬t.kind=5:=by simpa using x
      rw[if_neg x] at hh
      refine AF (by rw[i0];rfl) ⟨_,_,_,_,_,_,g0,AA (fun y=> ?_) fun y=> ?_⟩
      ·have y:t.kind=6:=by simpa using y
       rw[if_pos y] at hh;subst hh
       refine AF (tag _ (by rw[List.length_map];exact j3)) ?_
       rw[w]
       exact AF (by rw[i1];rfl) ⟨_,_,_,_,_,_,g1,rq⟩
      ·have y:¬t.kind=6:=by simpa using y
       rw[if_neg y] at hh;subst hh
       refine AF (tag _ (by rw[List.length_map];exact j3)) ?_
       rw[w]
       exact AF (by rw[i1];rfl) ⟨_,_,_,_,_,_,g1,rq⟩
   ·have e:=ZM (f:=f) QD D8
    have h1:=LW (f:=s.length-a) QD D8 (by omega)
    obtain⟨h2,h3,_⟩:=GC (s:=s) (hid:=hid.isSome) (s.length-a) a (by omega) ha
    have nx:=ih (BM s hid.isSome (s.length-a) a) hid (l++[⟨1,[],[],cut s a (BM s hid.isSome (s.length-a) a),a,BM s hid.isSome (s.length-a) a⟩]) (by omega) h3 (by rw[List.length_append,List.length_singleton];omega) v
     (fun p e' he=>dF p e' (by rw[e,he];rfl)) (fun q hq=>by rw[fQ (_::q) (by rw[e,hq];rfl)];simp)
    have:=mG hs ha hl (s.length-a) a (by omega) (Nat.le_refl _) ha nx
    refine qO Yf (AA (fun _=>⟨s,a,hid.isSome,hs,by omega,by rw[JM],AA (fun y=>this) fun y=> ?_⟩) fun x=>by simp at x;omega)
    exact absurd (by simpa using y) D8
theorem c9 :CP AI 19 iQ:=by
 refine Ar vn fun vs h K ht=> ?_
 obtain⟨s,hs,rfl,h1,h2⟩:=ht
 refine⟨XP s,?_,t9 Yf (nP hs (s.length+1) 0 none [] (by omega) (by omega) (by simp) _ (fun p e he=> ?_) fun r hr=> ?_)⟩
 ·unfold XP
  cases hc:lexM s with
  |error x=>obtain⟨p,e⟩:=x;exact h1 p e hc
  |ok l=>exact h2 l hc
 ·unfold XP lexM;rw[he]
 ·unfold XP lexM;rw[hr];rfl
end Go.Proofs.YtopjpnhgnopbiaaGreatDoor.Rx
end
