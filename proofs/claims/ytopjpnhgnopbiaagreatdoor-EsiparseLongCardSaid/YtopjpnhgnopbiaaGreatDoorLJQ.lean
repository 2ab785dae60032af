/-
  Pieces of a page's text: bytes, words, places as the document says them, under contract.
  Pieces of a page's text: tags that close, attributes as the document says them, under contract.
  Pieces of a page's text: a tag that opens as the document says it, under contract.
  Pieces of a page's text: what stands at a place as the document says it, under contract.
  Pieces of a page's text: the pieces as the document says them; that both are the same. The row's function under contract.
-/
import Derived.Test.YtopjpnhgnopbiaaGreatDoorLJY
import Derived.Test.YtopjpnhgnopbiaaGreatDoorLJG
import Derived.Test.YtopjpnhgnopbiaaGreatDoorLJA
set_option linter.unusedVariables false
set_option linter.unusedSimpArgs false
set_option linter.unnecessarySimpa false
section
namespace Go.Proofs.YtopjpnhgnopbiaaGreatDoor.Rx
open Go.Ai Go Go.Ai.Ex Go.Proofs.YtopjpnhgnopbiaaGreatDoor.Lx
set_option maxRecDepth 100000
theorem rX :BD AI 127 Tryz.f127:=(by refine⟨?_,?_,?_,?_,?_,?_⟩<;>kernel_rfl)
theorem ri :BD AI 76 Tryz.f76:=(by refine⟨?_,?_,?_,?_,?_,?_⟩<;>kernel_rfl)
theorem rq :BD AI 70 Tryz.f70:=(by refine⟨?_,?_,?_,?_,?_,?_⟩<;>kernel_rfl)
theorem rp :BD AI 71 Tryz.f71:=(by refine⟨?_,?_,?_,?_,?_,?_⟩<;>kernel_rfl)
theorem ru :BD AI 45 Tryz.f45:=(by refine⟨?_,?_,?_,?_,?_,?_⟩<;>kernel_rfl)
theorem rh :BD AI 103 Tryz.f103:=(by refine⟨?_,?_,?_,?_,?_,?_⟩<;>kernel_rfl)
theorem re :BD AI 105 Tryz.f105:=(by refine⟨?_,?_,?_,?_,?_,?_⟩<;>kernel_rfl)
theorem rf :BD AI 104 Tryz.f104:=(by refine⟨?_,?_,?_,?_,?_,?_⟩<;>kernel_rfl)
theorem rW :BD AI 107 Tryz.f107:=(by refine⟨?_,?_,?_,?_,?_,?_⟩<;>kernel_rfl)
theorem rm :BD AI 73 Tryz.f73:=(by refine⟨?_,?_,?_,?_,?_,?_⟩<;>kernel_rfl)
theorem gU :AJ AI (Ae []):=AX AM
theorem yn :CO AI 127 Fv:=by
 refine Ar rX fun vs h K ht=> ?_
 obtain⟨c,rfl,hk⟩:=ht
 refine⟨_,hk,t55 gU (AA (fun a=> ?_) fun a=> ?_)⟩
 ·rw[Rj,a,Bool.true_and]
 ·rw[Rj,a,Bool.false_and]
theorem Gy (c:UInt8)(n:Nat)(hn:n<256):((c.toNat:Int)==(n:Int))=(c==UInt8.ofNat n):=by
 rw[Bool.eq_iff_iff];simp only[beq_iff_eq];constructor
 ·intro h;apply UInt8.toNat_inj.1;simp;omega
 ·rintro rfl
  simp;omega
theorem pM :CO AI 76 E6:=by
 refine Ar ri fun vs h K ht=> ?_
 obtain⟨c,rfl,hk⟩:=ht
 have e1:((c.toNat:Int)==32)=(c==32):=Gy c 32 (by omega)
 have e2:((c.toNat:Int)==9)=(c==9):=Gy c 9 (by omega)
 have e3:((c.toNat:Int)==10)=(c==10):=Gy c 10 (by omega)
 have e4:((c.toNat:Int)==13)=(c==13):=Gy c 13 (by omega)
 refine⟨_,hk,t42 gU ?_⟩;rw[e1,e2,e3,e4];unfold blB
 cases c==32<;>cases c==9<;>cases c==10<;>cases c==13<;>rfl
theorem lW :CO AI 70 QO:=by
 refine Ar rq fun vs h K ht=> ?_
 obtain⟨s,x,a,GJ,hs,hx,ha,rfl,hk⟩:=ht;unfold limE at hs hx ha
 have hw:IntKind.wrap .i64 ((a:Int)+(x.length:Int))=((a+x.length:Nat):Int):=by rw[Bs (by omega) (by omega)];omega
 refine⟨_,hk,t28 gU (AA (fun _=> ?_) fun y=> ?_)⟩
 ·rw[hw];have hp:=JH x (s.drop a);rw[List.length_drop] at hp
  refine AA (fun y=> ?_) fun y=> ?_
  ·have y:a+x.length<=s.length:=by simp at y;omega
   obtain⟨q1,q2⟩:=CB s (show a<=a+x.length by omega) y
   refine AF q2 ?_;rw[q1];unfold has cut
   rw[hp,decide_eq_true (by omega),Bool.true_and,show a+x.length-a=x.length by omega]
  ·have y:¬a+x.length<=s.length:=by simp at y;omega
   unfold has;rw[hp];have:0<x.length:=List.length_pos_iff.2 GJ
   rw[decide_eq_false (by omega),Bool.false_and]
 ·simp at y
theorem mc :AJ AI (Ae [(70,QO),(76,E6)]):=AX (AG lW (AG pM AM))
theorem qG :CO AI 71 PE:=by
 refine Ar rp fun vs h K ht=> ?_
 obtain⟨s,a,hs,ha,rfl,hk⟩:=ht
 refine⟨_,hk,t29 mc ⟨s,_,a,by simp,hs,by decide,ha,rfl,?_⟩⟩
 unfold limE at hs ha
 have hw:IntKind.wrap .i64 ((a:Int)+7)=((a+7:Nat):Int):=by rw[Bs (by omega) (by omega)];omega
 rw[hw];show Ad (has s ET a) _ _
 refine AA (fun y=>AA (fun z=> ?_) fun z=> ?_) fun y=> ?_
 ·have z:a+7<s.length:=by simp at z;omega
  refine AF (As z) ⟨s.getD (a+7) 0,rfl,?_⟩;unfold C6;rw[y,decide_eq_true z];rfl
 ·have z:¬a+7<s.length:=by simp at z;omega
  unfold C6;rw[decide_eq_false z,Bool.false_and,Bool.and_false]
 ·unfold C6;rw[y];rfl
theorem mh :AJ AI (Ae [(70,QO),(71,PE)]):=AX (AG lW (AG qG AM))
theorem y8 :CO AI 45 TU:=by
 refine Ar ru fun vs h K ht=> ?_
 obtain⟨s,a,hid,hs,ha,rfl,hk⟩:=ht
 refine⟨_,hk,t18 mh ⟨s,Al,a,by simp[Al],hs,by decide,ha,rfl,AA (fun x=> ?_) fun x=>⟨s,Af,a,by simp[Af],hs,by decide,ha,rfl,AA (fun y=> ?_) fun y=>⟨s,a,hs,ha,rfl,AA (fun z=> ?_) fun z=>AA (fun w=>⟨s,Bq,a,by simp[Bq],hs,by decide,ha,rfl,?_⟩) fun w=> ?_⟩⟩⟩⟩
 all_goals (unfold spec;simp_all)
theorem Kb :AJ AI (Ae [(127,Fv)]):=AX (AG yn AM)
theorem ax :AJ AI (Ae [(76,E6)]):=AX (AG pM AM)
theorem cc {s:List UInt8}{a:Nat}(hs:s.length<=limE)(ha:a<=s.length):∀(n j:Nat),lets s a=j+n->
  AE AI 103 (AD Tryz.f103) (AO Tryz.prog Tryz.f103 (.int .i64 (lets s a))) [.code [0,0,1,1],.block 0,.code [1,1,1]] .normal [(0,true,.str s),(1,true,.int .i64 a),(5,true,.int .i64 j)] []
 |0,j,hj=>by
  have hl:=C8 s a;unfold limE at hs
  have hw:IntKind.wrap .i64 ((a:Int)+(j:Int))=((a+j:Nat):Int):=by rw[Bs (by omega) (by omega)];omega
  refine mz Kb ?_;rw[hw]
  refine AA (fun x=> ?_) fun _=>by rw[hj];rfl
  have x:a+j<s.length:=by simp at x;omega
  refine AF (As x) ⟨s.getD (a+j) 0,rfl,AA (fun y=> ?_) fun _=>by rw[hj];rfl⟩
  have:=SS (s:=s) (a:=a) (by omega)
  rw[hj,Nat.add_zero,y] at this;cases this
 |n+1,j,hj=>by
  have hl:=C8 s a;have FE:=hs;unfold limE at FE
  have hw:IntKind.wrap .i64 ((a:Int)+(j:Int))=((a+j:Nat):Int):=by rw[Bs (by omega) (by omega)];omega
  have ZV:IntKind.wrap .i64 ((j:Int)+1)=((j+1:Nat):Int):=by rw[Bs (by omega) (by omega)];omega
  obtain⟨q1,q2⟩:=Oy (s:=s) (a:=a) (b:=a+j) (by omega) (by omega)
  refine mz Kb ?_;rw[hw,ZV]
  refine AA (fun x=>AF (As q1) ⟨s.getD (a+j) 0,rfl,AA (fun _=>cc hs ha n (j+1) (by omega)) fun y=> ?_⟩) fun x=> ?_
  ·rw[q2] at y;cases y
  ·simp at x;omega
theorem iL :CO AI 103 Il:=by
 refine Ar rh fun vs h K ht=> ?_
 obtain⟨s,a,hs,ha,rfl,hk⟩:=ht
 exact⟨_,hk,t43 Kb (cc hs ha (lets s a) 0 (by omega))⟩
theorem cZ {s:List UInt8}{a:Nat}(hs:s.length<=limE)(ha:a<=s.length):∀(n j:Nat),a<=j->past s a=j+n->
  AE AI 105 (AD Tryz.f105) (AO Tryz.prog Tryz.f105 (.int .i64 (past s a))) [.code [0,0,1],.block 0,.code [1,1]] .normal [(0,true,.str s),(1,true,.int .i64 j)] []
 |0,j,yF,hj=>by
  rw[Nat.add_zero] at hj
  refine mr ax (AA (fun x=> ?_) fun _=>by rw[hj])
  have x:j<s.length:=by simpa using x
  refine AF (As x) ⟨s.getD j 0,rfl,AA (fun y=> ?_) fun _=>by rw[hj]⟩
  have:=Xf (s:=s) (a:=a) (by omega)
  rw[hj,y] at this;cases this
 |n+1,j,yF,hj=>by
  obtain⟨p1,p2⟩:=EM ha;have FE:=hs;unfold limE at FE
  have ZV:IntKind.wrap .i64 ((j:Int)+1)=((j+1:Nat):Int):=by rw[Bs (by omega) (by omega)];omega
  obtain⟨q1,q2⟩:=Ti (s:=s) (a:=a) (b:=j) (by omega) (by omega)
  refine mr ax ?_;rw[ZV]
  refine AA (fun x=>AF (As q1) ⟨s.getD j 0,rfl,AA (fun _=>cZ hs ha n (j+1) (by omega) (by omega)) fun y=> ?_⟩) fun x=> ?_
  ·rw[q2] at y;cases y
  ·simp at x;omega
theorem qD :CO AI 105 OV:=by
 refine Ar re fun vs h K ht=> ?_
 obtain⟨s,a,hs,ha,rfl,hk⟩:=ht;obtain⟨p1,p2⟩:=EM ha
 exact⟨_,hk,t45 ax (cZ hs ha (past s a-a) a (Nat.le_refl _) (by omega))⟩
theorem vm :CO AI 107 Ol:=by
 refine Ar rW fun vs h K ht=> ?_
 obtain⟨hv,hk⟩:=ht;obtain rfl:=List.isEmpty_iff.1 hv;exact⟨_,hk,t56 gU rfl⟩
theorem ay :AJ AI (Ae [(107,Ol)]):=AX (AG vm AM)
theorem cb (x:List UInt8)(l:List (List UInt8))(hl:l.length<=1000):∀(n i:Nat),l.length-i=n->i<=l.length->
  AE AI 104 (AD Tryz.f104) (AO Tryz.prog Tryz.f104 (.bool ((l.drop i).any (·==x)))) [.code [0,1,0,1,1],.block 0,.code [1,1,1]] .normal [(0,true,.str x),(3,true,.sl 1 (l.map fun n=>[.str n]) none),(4,true,.int .i64 i)] []
 |0,i,hn,hi=>by
  refine mu ay (AA (fun a=> ?_) fun _=>by rw[List.drop_of_length_le (by omega)];rfl)
  simp at a;omega
 |n+1,i,hn,hi=>by
  have Au:i<l.length:=by omega
  refine mu ay (AA (fun _=>AF (by rw[List.length_map,As Au];rfl) ⟨l[i],CF _ l Au,?_⟩) fun a=> ?_)
  ·rw[Fs (·==x) l Au]
   refine AA (fun y=>by rw[y];rfl) fun y=> ?_
   rw[y,Bool.false_or,show IntKind.wrap .i64 ((i:Int)+1)=((i+1:Nat):Int) by rw[Bs (by omega) (by omega)];omega]
   exact cb x l hl n (i+1) (by omega) (by omega)
  ·simp at a;omega
theorem vn :CO AI 104 KG:=by
 refine Ar rf fun vs h K ht=> ?_
 obtain⟨s,rfl,hk⟩:=ht
 exact⟨_,hk,t44 ay ⟨rfl,cb s KD (by decide) 11 0 rfl (by decide)⟩⟩
theorem PT {s x:List UInt8}{i:Nat}(hx:x≠[])(hi:i+x.length<=s.length):BV s x i=if has s x i=true then(i:Int) else BV s x (i+1):=by
 have GJ:0<x.length:=List.length_pos_iff.2 hx
 have h:i<s.length:=by omega
 have e:CY x (s.drop i)=if has s x i=true then some 0 else(CY x (s.drop (i+1))).map (·+ 1):=by
  unfold has;rw[List.drop_eq_getElem_cons h,CY]
 unfold BV;rw[e]
 by_cases hp:has s x i=true
 ·rw[if_pos hp,if_pos hp];simp
 ·rw[if_neg hp,if_neg hp]
  cases CY x (s.drop (i+1)) with
  |none=>rfl
  |some m=>simp only[Option.map_some];omega
theorem RC {s x:List UInt8}{i:Nat}(hi:¬i+x.length<=s.length)(h:i<=s.length):BV s x i= -1:=by
 unfold BV
 cases hf:CY x (s.drop i) with
 |none=>rfl
 |some n=>
  have:=HF hf;rw[List.length_drop] at this;omega
theorem bC :AJ AI (Ae [(70,QO)]):=AX (AG lW AM)
theorem kM {s x:List UInt8}(GJ:x≠[])(hs:s.length<=limE)(hx:x.length<=limE):∀(n i:Nat),s.length-i=n->i<=s.length->
  AE AI 73 (AD Tryz.f73) (AO Tryz.prog Tryz.f73 (.int .i64 (BV s x i))) [.code [0,1,0,1],.block 0,.code [1,1]] .normal [(0,true,.str s),(2,true,.str x),(7,true,.int .i64 i)] []:=by
 intro n
 induction n with
 |zero=>
  intro i hn hi;have h1:0<x.length:=List.length_pos_iff.2 GJ;unfold limE at hs hx
  have hw:IntKind.wrap .i64 ((i:Int)+(x.length:Int))=((i+x.length:Nat):Int):=by rw[Bs (by omega) (by omega)];omega
  refine nA bC ?_;rw[hw]
  refine AA (fun y=> ?_) fun y=> ?_
  ·simp at y;omega
  ·rw[RC (by omega) hi]
 |succ n ih=>
  intro i hn hi;have FE:=hs;have IS:=hx;unfold limE at FE IS
  have hw:IntKind.wrap .i64 ((i:Int)+(x.length:Int))=((i+x.length:Nat):Int):=by rw[Bs (by omega) (by omega)];omega
  have ZV:IntKind.wrap .i64 ((i:Int)+1)=((i+1:Nat):Int):=by rw[Bs (by omega) (by omega)];omega
  refine nA bC ?_;rw[hw,ZV]
  refine AA (fun y=>⟨s,x,i,GJ,hs,hx,by omega,rfl,AA (fun z=> ?_) fun z=> ?_⟩) fun y=> ?_
  ·have y:i+x.length<=s.length:=by simp at y;omega
   rw[PT GJ y,if_pos z]
  ·have y:i+x.length<=s.length:=by simp at y;omega
   rw[PT GJ y,if_neg (by rw[z];simp)]
   exact ih (i+1) (by omega) (by omega)
  ·have y:¬i+x.length<=s.length:=by simp at y;omega
   rw[RC y hi]
theorem yv :CO AI 73 lP:=by
 refine Ar rm fun vs h K ht=> ?_
 obtain⟨s,x,a,GJ,hs,hx,ha,rfl,hk⟩:=ht;exact⟨_,hk,t31 bC (kM GJ hs hx (s.length-a) a rfl ha)⟩
theorem rl :BD AI 74 Tryz.f74:=(by refine⟨?_,?_,?_,?_,?_,?_⟩<;>kernel_rfl)
theorem rb :BD AI 106 Tryz.f106:=(by refine⟨?_,?_,?_,?_,?_,?_⟩<;>kernel_rfl)
theorem Po (c:UInt8)(n:Nat)(hn:n<256):((c.toNat:Int) !=(n:Int))=(c !=UInt8.ofNat n):=by
 simp only[bne];rw[Gy c n hn]
def H8 (s:List UInt8)(tag:Nat):AV:=match BW s tag with
 |.error (p,e)=>.tup [.agg (Ex.encT ⟨4,(s.drop (tag+6)).take (lets s (tag+6)),[],[],tag,0⟩),.int .i64 p,.int .i64 e]
 |.ok t=>.tup [.agg (Ex.encT t),.int .i64 0,.int .i64 0]
theorem mb :AJ AI (Ae [(103,Il),(104,KG),(105,OV)]):=AX (AG iL (AG vn (AG qD AM)))
theorem wr {n:Int}{m:Nat}(h:n=m)(hm:m<=4000000):IntKind.wrap .i64 n=m:=by rw[Bs (by omega) (by omega)];exact h
theorem nG {s:List UInt8}{tag:Nat}(hs:s.length<=limE)(ht:tag+6<=s.length):AE AI 74 (AD Tryz.f74) (AO Tryz.prog Tryz.f74 (H8 s tag)) [.code []] .normal [(0,true,.str s),(1,true,.int .i64 tag)] []:=by
 have FE:s.length<=1000000:=hs;have hn:=C8 s (tag+6)
 have w1:IntKind.wrap .i64 ((tag:Int)+6)=((tag+6:Nat):Int):=wr (by omega) (by omega)
 have w2:IntKind.wrap .i64 (((tag+6:Nat):Int)+((lets s (tag+6):Nat):Int))=((tag+6+lets s (tag+6):Nat):Int):=wr (by omega) (by omega)
 obtain⟨q1,q2⟩:=CB s (show tag+6<=tag+6+lets s (tag+6) by omega) (by omega)
 have MO:cut s (tag+6) (tag+6+lets s (tag+6))=(s.drop (tag+6)).take (lets s (tag+6)):=by unfold cut;rw[Nat.add_sub_cancel_left]
 obtain⟨p1,p2⟩:=EM (s:=s) (a:=tag+6+lets s (tag+6)) (by omega)
 have w3:IntKind.wrap .i64 (((past s (tag+6+lets s (tag+6)):Nat):Int)+1)=((past s (tag+6+lets s (tag+6))+1:Nat):Int):=wr (by omega) (by omega)
 refine t32 mb ⟨s,tag+6,hs,ht,by rw[w1],?_⟩
 rw[w1,w2,q1,MO]
 refine AF q2 ⟨_,rfl,AA (fun x=> ?_) fun x=>⟨s,tag+6+lets s (tag+6),hs,by omega,rfl,AA (fun y=> ?_) fun y=>AF ?_ (AA (fun z=> ?_) fun z=>AF ?_ ?_)⟩⟩
 ·have x:Bk ((s.drop (tag+6)).take (lets s (tag+6)))=false:=by simpa using x
  unfold H8 BW;simp only[x,if_pos];rfl
 ·have x:¬Bk ((s.drop (tag+6)).take (lets s (tag+6)))=false:=by simpa using x
  have y:s.length<=past s (tag+6+lets s (tag+6)):=by simp at y;omega
  unfold H8 BW;simp only[if_neg x,if_pos y];rfl
 ·exact As (by simp at y;omega)
 ·have x:¬Bk ((s.drop (tag+6)).take (lets s (tag+6)))=false:=by simpa using x
  have y:¬s.length<=past s (tag+6+lets s (tag+6)):=by simp at y;omega
  have z:s.getD (past s (tag+6+lets s (tag+6))) 0≠62:=by
   have:=z.symm.trans (Po _ 62 (by omega))
   simpa using this
  unfold H8 BW;simp only[if_neg x,if_neg y,if_pos z];rfl
 all_goals
  have x:¬Bk ((s.drop (tag+6)).take (lets s (tag+6)))=false:=by simpa using x
  have y:¬s.length<=past s (tag+6+lets s (tag+6)):=by simp at y;omega
  obtain⟨r1,r2⟩:=CB s (show tag<=past s (tag+6+lets s (tag+6))+1 by omega) (by omega)
  rw[w3]
 ·exact r2
 ·have z:¬s.getD (past s (tag+6+lets s (tag+6))) 0≠62:=by
   have:=z.symm.trans (Po _ 62 (by omega))
   simpa using this
  rw[r1];unfold H8 BW;simp only[if_neg x,if_neg y,if_neg z];rfl
theorem yu :CO AI 74 Ss:=by
 refine Ar rl fun vs h K ht=> ?_
 obtain⟨s,tag,hs,kZ,rfl,h1,h2⟩:=ht;refine⟨H8 s tag,?_,nG hs kZ⟩;unfold H8
 cases hc:BW s tag with
 |error x=>obtain⟨p,e⟩:=x;exact h1 p e hc
 |ok t=>exact h2 t hc
theorem TM :AJ AI (Ae [(103,Il)]):=AX (AG iL AM)
theorem Zf {s:List UInt8}{m:UInt8}{j:Nat}(h:j<s.length):CY [m] (s.drop j)=if s.getD j 0=m then some 0 else(CY [m] (s.drop (j+1))).map (·+ 1):=by
 have e:s.getD j 0=s[j]:=by simp[List.getD_eq_getElem?_getD,h]
 rw[e,List.drop_eq_getElem_cons h,CY]
 by_cases hm:s[j]=m
 ·rw[if_pos hm,if_pos (by rw[hm];simp[List.isPrefixOf])]
 ·rw[if_neg hm,if_neg (by simp[List.isPrefixOf];exact fun h=>hm h.symm)]
def aN (s nm:List UInt8)(a tag b:Nat)(m:UInt8):AV:=match CY [m] (s.drop b) with
 |none=>.tup [.agg (Ex.Ao ⟨nm,[],a⟩),.int .i64 0,.int .i64 tag,.int .i64 14]
 |some k=>.tup [.agg (Ex.Ao ⟨nm,(s.drop b).take k,a⟩),.int .i64 ((b+k+1:Nat):Int),.int .i64 0,.int .i64 0]
theorem gX {s nm:List UInt8}{a tag i:Nat}{m:UInt8}(hs:s.length<=limE)(hi:i<s.length):∀(k j:Nat),s.length-j=k->i+1<=j->j<=s.length->CY [m] (s.drop (i+1))=(CY [m] (s.drop j)).map (·+ (j-(i+1)))->
  AE AI 106 (AD Tryz.f106) (AO Tryz.prog Tryz.f106 (aN s nm a tag (i+1) m)) [.code [0,1,0,1,1,1,1,1,1,1,1,1,1,1,1],.block 2,.code [1,1,1,1,1,1,1,1,1,1,1,1,1]] .normal
   [(0,true,.str s),(2,true,.int .i64 tag),(8,true,.ptr 0 0),(13,true,.ptr 1 0),(15,true,.int .i64 i),(16,true,.int .u8 m.toNat),(17,true,.int .i64 j)] [.mem 80 [.str [],.str [],.int .i64 0],.mem 80 [.str nm,.str [],.int .i64 a]]:=by
 have FE:s.length<=1000000:=hs;intro k
 induction k with
 |zero=>
  intro j hk hj oP hf
  have:j=s.length:=by omega
  subst this
  refine mo TM (AA (fun x=> ?_) fun _=> ?_)
  ·simp at x
  ·have hn:CY [m] (s.drop (i+1))=none:=by rw[hf,List.drop_of_length_le (Nat.le_refl _)];rfl
   unfold aN;rw[hn];rfl
 |succ k ih=>
  intro j hk hj oP hf
  have Au:j<s.length:=by omega
  have DJ:=Zf (s:=s) (m:=m) Au
  have hb:(((s.getD j 0).toNat:Int)==(m.toNat:Int))=(s.getD j 0==m):=by
   rw[Bool.eq_iff_iff];simp only[beq_iff_eq];constructor
   ·intro h;apply UInt8.toNat_inj.1;omega
   ·intro h;rw[h]
  refine mo TM (AA (fun x=>AF (As Au) ?_) fun x=> ?_)
  ·show Ad (((s.getD j 0).toNat:Int)==(m.toNat:Int)) _ _;rw[hb]
   refine AA (fun y=> ?_) fun y=> ?_
   ·have y:s.getD j 0=m:=by simpa using y
    rw[if_pos y] at DJ;rw[DJ] at hf
    have w1:IntKind.wrap .i64 ((i:Int)+1)=((i+1:Nat):Int):=wr (by omega) (by omega)
    have w2:IntKind.wrap .i64 ((j:Int)+1)=((j+1:Nat):Int):=wr (by omega) (by omega)
    obtain⟨q1,q2⟩:=CB s hj oP;rw[w1,w2,q1];refine AF q2 ?_;unfold aN;rw[hf];simp only[Option.map_some,Nat.zero_add]
    rw[show i+1+(j-(i+1))+1=j+1 by omega]
    rfl
   ·have y:¬s.getD j 0=m:=by simpa using y
    rw[if_neg y] at DJ;rw[DJ] at hf
    rw[show IntKind.wrap .i64 ((j:Int)+1)=((j+1:Nat):Int) from wr (by omega) (by omega)]
    refine ih (j+1) (by omega) (by omega) (by omega) ?_
    rw[hf,Option.map_map]
    congr 1
    funext z
    simp only[Function.comp];omega
  ·simp at x;omega
def Hd (s:List UInt8)(a tag:Nat)(l:List Ex.A9)(n:Nat):AV:=match DG s a tag l with
 |.error (p,e)=>.tup [.agg (Ex.Ao ⟨(s.drop a).take n,[],a⟩),.int .i64 0,.int .i64 p,.int .i64 e]
 |.ok (x,b)=>.tup [.agg (Ex.Ao x),.int .i64 b,.int .i64 0,.int .i64 0]
theorem aM {s:List UInt8}{a tag:Nat}{l:List Ex.A9}{n:Nat}(hn:n=min (lets s a) 16)(h1:¬l.any (fun c=>(s.drop a).take n==c.name)=true)(h2:¬s.length<=a+n)(h3:¬(n=0\/s.getD (a+n) 0≠61))(h4:¬s.length<=a+n+1)(h5:¬(s.getD (a+n+1) 0≠34/\s.getD (a+n+1) 0≠39)):
  Hd s a tag l n=aN s ((s.drop a).take n) a tag (a+n+1+1) (s.getD (a+n+1) 0):=by
 unfold Hd aN;rw[Fq s a tag l hn,if_neg h1,if_neg h2,if_neg h3,if_neg h4,if_neg h5]
 show _=match CY [s.getD (a+n+1) 0] (s.drop (a+n+2)) with|none=>_|some k=>_
 cases CY [s.getD (a+n+1) 0] (s.drop (a+n+2))<;>rfl
theorem Xv {s:List UInt8}{a tag n:Nat}{l:List Ex.A9}(hs:s.length<=limE)(ha:a<=s.length)(kZ:tag<=s.length)(hl:l.length<=limE)(hn:n=min (lets s a) 16):∀(r p:List Ex.A9),l=p++r->p.any (fun c=>(s.drop a).take n==c.name)=false->
  AE AI 106 (AD Tryz.f106) (AO Tryz.prog Tryz.f106 (Hd s a tag l n)) [.code [0,1,0,1,1,1,1],.block 0,.code [1,1,1,1,1]] .normal
   [(0,true,.str s),(1,true,.int .i64 a),(2,true,.int .i64 tag),(3,true,.sl 3 (encAs l) none),(8,true,.ptr 0 0),(12,true,.int .i64 n),(13,true,.ptr 1 0),(14,true,.int .i64 p.length)]
   [.mem 80 [.str [],.str [],.int .i64 0],.mem 80 [.str ((s.drop a).take n),.str [],.int .i64 a]]
 |[],p,hp,lI=>by
  rw[List.append_nil] at hp;subst hp;have FE:s.length<=1000000:=hs;have dT:=C8 s a
  have h1:¬l.any (fun c=>(s.drop a).take n==c.name)=true:=by rw[lI];simp
  have w1:IntKind.wrap .i64 ((a:Int)+(n:Int))=((a+n:Nat):Int):=wr (by omega) (by omega)
  have w2:IntKind.wrap .i64 (((a+n:Nat):Int)+1)=((a+n+1:Nat):Int):=wr (by omega) (by omega)
  have w3:IntKind.wrap .i64 (((a+n+1:Nat):Int)+1)=((a+n+1+1:Nat):Int):=wr (by omega) (by omega)
  refine mq TM (AA (fun x=> ?_) fun _=> ?_)
  ·simp[encAs] at x
  rw[w1,w2,w3]
  have vq:=Po (s.getD (a+n) 0) 61 (by omega)
  have vt:=Po (s.getD (a+n+1) 0) 34 (by omega)
  have vr:=Po (s.getD (a+n+1) 0) 39 (by omega)
  refine AA (fun x=> ?_) fun x=>AA (fun y=> ?_) fun y=>AF ?_ (AA (fun z=> ?_) fun z=>AA (fun u=> ?_) fun u=>AF ?_ ?_)
  ·have h2:s.length<=a+n:=by simp at x;omega
   unfold Hd;rw[Fq s a tag l hn,if_neg h1,if_pos h2];rfl
  ·have h2:¬s.length<=a+n:=by simp at x;omega
   have h3:n=0:=by simpa using y
   unfold Hd;rw[Fq s a tag l hn,if_neg h1,if_neg h2,if_pos (.inl h3)];rfl
  ·exact As (by simp at x;omega)
  ·have h2:¬s.length<=a+n:=by simp at x;omega
   have h3:s.getD (a+n) 0≠61:=by simpa using vq.symm.trans z
   unfold Hd;rw[Fq s a tag l hn,if_neg h1,if_neg h2,if_pos (.inr h3)];rfl
  all_goals
   have h2:¬s.length<=a+n:=by simp at x;omega
   have h3:¬(n=0\/s.getD (a+n) 0≠61):=by
    have z':(s.getD (a+n) 0 !=61)=false:=vq.symm.trans z
    have y':¬n=0:=by simpa using y
    simp at z'
    rintro(h|h)
    ·exact y' h
    ·exact h (by simpa using z')
  ·have h4:s.length<=a+n+1:=by simp at u;omega
   unfold Hd;rw[Fq s a tag l hn,if_neg h1,if_neg h2,if_neg h3,if_pos h4];rfl
  ·exact As (by simp at u;omega)
  ·have h4:¬s.length<=a+n+1:=by simp at u;omega
   have go:¬(s.getD (a+n+1) 0≠34/\s.getD (a+n+1) 0≠39)->AE AI 106 (AD Tryz.f106) (AO Tryz.prog Tryz.f106 (Hd s a tag l n)) [.code [0,1,0,1,1,1,1,1,1,1,1,1,1,1,1],.block 2,.code [1,1,1,1,1,1,1,1,1,1,1,1,1]] .normal
     [(0,true,.str s),(2,true,.int .i64 tag),(8,true,.ptr 0 0),(13,true,.ptr 1 0),(15,true,.int .i64 ((a+n+1:Nat):Int)),(16,true,.int .u8 (s.getD (a+n+1) 0).toNat),(17,true,.int .i64 ((a+n+1+1:Nat):Int))] [.mem 80 [.str [],.str [],.int .i64 0],.mem 80 [.str ((s.drop a).take n),.str [],.int .i64 a]]:=by
    intro h5;rw[aM hn h1 h2 h3 h4 h5]
    exact gX hs (by omega) (s.length-(a+n+1+1)) (a+n+1+1) rfl (Nat.le_refl _) (by omega) (by simp)
   refine AA (fun q=>AA (fun t=> ?_) fun t=> ?_) fun q=> ?_
   ·have h5:s.getD (a+n+1) 0≠34/\s.getD (a+n+1) 0≠39:=⟨by simpa using vt.symm.trans q,by simpa using vr.symm.trans t⟩
    unfold Hd;rw[Fq s a tag l hn,if_neg h1,if_neg h2,if_neg h3,if_neg h4,if_pos h5];rfl
   ·exact go fun h=>h.2 (by simpa using vr.symm.trans t)
   ·exact go fun h=>h.1 (by simpa using vt.symm.trans q)
 |b::r,p,hp,lI=>by
  have hlen:l.length=p.length+(r.length+1):=by rw[hp];simp
  have Wd:l.length<=1000000:=hl
  have g:Cy ((p.length:Nat):Int) (encAs l).length=true/\Bm (encAs l) ((p.length:Nat):Int)=Ex.Ao b:=by
   have Au:p.length<l.length:=by omega
   refine⟨by rw[encAs,List.length_map];exact As Au,?_⟩
   rw[encAs,CF Ex.Ao _ Au]
   congr 1
   simp[hp]
  refine mq TM (AA (fun _=>AF (by rw[g.1];rfl) ⟨_,_,_,g.2,AA (fun x=> ?_) fun x=> ?_⟩) fun x=> ?_)
  ·have x:b.name=(s.drop a).take n:=by simpa using x
   have h1:l.any (fun c=>(s.drop a).take n==c.name)=true:=by rw[hp];simp[x]
   unfold Hd;rw[Fq s a tag l hn,if_pos h1];rfl
  ·rw[show IntKind.wrap .i64 ((p.length:Int)+1)=((p++[b]).length:Int) by rw[Bs (by omega) (by omega)];simp]
   refine Xv hs ha kZ hl hn r (p++[b]) (by rw[hp];simp) ?_
   rw[List.any_append,lI]
   have x:¬b.name=(s.drop a).take n:=by simpa using x
   simp
   exact fun h=>x h.symm
  ·simp[encAs] at x;omega
theorem iK :CO AI 106 Pr:=by
 refine Ar rb fun vs h K ht=> ?_
 obtain⟨s,a,tag,l,hs,ha,kZ,hl,rfl,h1,h2⟩:=ht;have FE:s.length<=1000000:=hs;have dT:=C8 s a
 refine⟨Hd s a tag l (min (lets s a) 16),?_,t46 TM ⟨s,a,hs,ha,rfl,AA (fun x=> ?_) fun x=> ?_⟩⟩
 ·unfold Hd
  cases hc:DG s a tag l with
  |error x=>obtain⟨p,e⟩:=x;exact h1 p e hc _
  |ok x=>obtain⟨x,b⟩:=x;exact h2 x b hc
 all_goals
  have go:∀n,n=min (lets s a) 16->BC s.length (some (a:Int)) (some ((a+n:Nat):Int))=true/\AE AI 106 (AD Tryz.f106) (AO Tryz.prog Tryz.f106 (Hd s a tag l (min (lets s a) 16))) [.code [0,1,0,1,1,1,1],.block 0,.code [1,1,1,1,1]] .normal
    [(0,true,.str s),(1,true,.int .i64 a),(2,true,.int .i64 tag),(3,true,.sl 3 (encAs l) none),(8,true,.ptr 0 0),(12,true,.int .i64 n),(13,true,.ptr 1 0),(14,true,.int .i64 0)]
    [.mem 80 [.str [],.str [],.int .i64 0],.mem 80 [.str (B6 s (some (a:Int)) (some ((a+n:Nat):Int))),.str [],.int .i64 a]]:=by
   intro n hn
   obtain⟨q1,q2⟩:=CB s (show a<=a+n by omega) (show a+n<=s.length by omega)
   refine⟨q2,?_⟩
   rw[q1,<-hn,show cut s a (a+n)=(s.drop a).take n by unfold cut;rw[Nat.add_sub_cancel_left]]
   exact Xv hs ha kZ hl hn l [] rfl rfl
 ·have x:16<lets s a:=by simp at x;omega
  obtain⟨q1,q2⟩:=go 16 (by omega)
  rw[show IntKind.wrap .i64 ((a:Int)+16)=((a+16:Nat):Int) from wr (by omega) (by omega)]
  exact AF q1 q2
 ·have x:¬16<lets s a:=by simp at x;omega
  obtain⟨q1,q2⟩:=go (lets s a) (by omega)
  rw[show IntKind.wrap .i64 ((a:Int)+((lets s a:Nat):Int))=((a+lets s a:Nat):Int) from wr (by omega) (by omega)]
  exact AF q1 q2
theorem rn :BD AI 72 Tryz.f72:=(by refine⟨?_,?_,?_,?_,?_,?_⟩<;>kernel_rfl)
theorem bD :AJ AI (Ae [(103,Il),(104,KG),(105,OV),(106,Pr)]):=AX (AG iL (AG vn (AG qD (AG iK AM))))
def eM (s nm:List UInt8)(tag:Nat)(l:List Ex.A9)(b:Nat):AV:=match CW s tag nm l b with
 |.error (p,e)=>.tup [.agg (Ex.encT ⟨if s.getD b 0=47 then 3 else 2,nm,l,[],tag,0⟩),.int .i64 p,.int .i64 e]
 |.ok t=>.tup [.agg (Ex.encT t),.int .i64 0,.int .i64 0]
def RN (s nm:List UInt8)(tag f a:Nat)(l:List Ex.A9):AV:=match A8 s tag f a l with
 |.error (p,e)=>.tup [.agg (Ex.encT ⟨2,nm,S6 s tag f a l,[],tag,0⟩),.int .i64 p,.int .i64 e]
 |.ok (l',b)=>eM s nm tag l' b
def To (s:List UInt8)(tag:Nat):AV:=
 if Bk ((s.drop (tag+5)).take (lets s (tag+5)))=false then .tup [.agg (Ex.encT ⟨2,(s.drop (tag+5)).take (lets s (tag+5)),[],[],tag,0⟩),.int .i64 tag,.int .i64 11]
 else RN s ((s.drop (tag+5)).take (lets s (tag+5))) tag (s.length+1) (tag+5+lets s (tag+5)) []
theorem IY (n:Nat)(g:Hp)(l:List Ex.A9):AB n g (encAs l)=encAs l:=Bb n g _ (ME n l)
def hO (nm:List UInt8)(tag:Nat)(l:List Ex.A9):Hp:=[.grow 0 3 80,.mem 95 [.int .i64 0,.str [],.sl 3 [] (some 0),.str [],.int .i64 0,.int .i64 0],.grow (encAs l).length 3 80,.grow 0 3 80,.mem 95 [.int .i64 2,.str nm,.sl 3 (encAs l) (some 2),.str [],.int .i64 tag,.int .i64 0]]
theorem Jw {s nm:List UInt8}{tag b:Nat}{l:List Ex.A9}(h:s.getD b 0=47):CW s tag nm l b=if s.length<=b+1 then .error (tag,14) else if s.getD (b+1) 0≠62 then .error (b+1,12) else .ok ⟨3,nm,l,cut s tag (b+1+1),tag,b+1+1⟩:=by
 unfold CW;simp only[h,if_true]
theorem QZ {s nm:List UInt8}{tag b:Nat}{l:List Ex.A9}(h:¬s.getD b 0=47):CW s tag nm l b=if s.length<=b then .error (tag,14) else if s.getD b 0≠62 then .error (b,12) else .ok ⟨2,nm,l,cut s tag (b+1),tag,b+1⟩:=by
 unfold CW;simp only[if_neg h,Nat.add_zero];rfl
theorem jX {s nm:List UInt8}{tag b:Nat}{l:List Ex.A9}(hs:s.length<=limE)(se:tag<=b)(hb:b<s.length):
  AE AI 72 (AD Tryz.f72) (AO Tryz.prog Tryz.f72 (eM s nm tag l b)) [.code [1,1,1,1,1,1]] .normal [(0,true,.str s),(1,true,.int .i64 tag),(4,true,.ptr 1 0),(8,true,.ptr 4 0),(9,true,.int .i64 b)] (hO nm tag l):=by
 have FE:s.length<=1000000:=hs
 have w1:IntKind.wrap .i64 ((b:Int)+1)=((b+1:Nat):Int):=wr (by omega) (by omega)
 have w2:IntKind.wrap .i64 (((b+1:Nat):Int)+1)=((b+1+1:Nat):Int):=wr (by omega) (by omega)
 have ug:(((s.getD b 0).toNat:Int)==47)=(s.getD b 0==47):=Gy _ 47 (by omega)
 refine jo bD (AF (As hb) ?_);rw[w1,w2];simp only[IY];show Ad (((s.getD b 0).toNat:Int)==47) _ _;rw[ug]
 have qH:=Po (s.getD b 0) 62 (by omega)
 have pR:=Po (s.getD (b+1) 0) 62 (by omega)
 refine AA (fun x=>AA (fun y=> ?_) fun y=>AF ?_ (AA (fun z=> ?_) fun z=> ?_)) fun x=>AA (fun y=> ?_) fun y=>AF (As hb) (AA (fun z=> ?_) fun z=> ?_)
 all_goals (try unfold eM)
 ·have x:s.getD b 0=47:=by simpa using x
  have y:s.length<=b+1:=by simp at y;omega
  rw[Jw x,if_pos y];simp only[if_pos x];rfl
 ·exact As (by simp at y;omega)
 ·have x:s.getD b 0=47:=by simpa using x
  have y:¬s.length<=b+1:=by simp at y;omega
  have z:s.getD (b+1) 0≠62:=by simpa using pR.symm.trans z
  rw[Jw x,if_neg y,if_pos z];simp only[if_pos x];rfl
 ·have x:s.getD b 0=47:=by simpa using x
  have y:¬s.length<=b+1:=by simp at y;omega
  have z:¬s.getD (b+1) 0≠62:=by
   have z':(s.getD (b+1) 0 !=62)=false:=pR.symm.trans z;simpa using z'
  obtain⟨q1,q2⟩:=CB s (show tag<=b+1+1 by omega) (by omega)
  rw[q1,Jw x,if_neg y,if_neg z];exact AF q2 rfl
 ·exfalso
  have:(b:Int)=s.length:=by simpa using y
  omega
 ·have x:¬s.getD b 0=47:=by simpa using x
  have z:s.getD b 0≠62:=by simpa using qH.symm.trans z
  rw[QZ x,if_neg (by omega),if_pos z]
  simp only[if_neg x];rfl
 ·have x:¬s.getD b 0=47:=by simpa using x
  have z:¬s.getD b 0≠62:=by
   have z':(s.getD b 0 !=62)=false:=qH.symm.trans z;simpa using z'
  obtain⟨q1,q2⟩:=CB s (show tag<=b+1 by omega) (by omega)
  rw[q1,QZ x,if_neg (by omega),if_neg z]
  exact AF q2 rfl
theorem eY (s nm:List UInt8)(tag f a:Nat)(l:List Ex.A9):RN s nm tag (f+1) a l=
  if s.length<=past s a then .tup [.agg (Ex.encT ⟨2,nm,l,[],tag,0⟩),.int .i64 tag,.int .i64 14] else
  if s.getD (past s a) 0=62\/s.getD (past s a) 0=47 then eM s nm tag l (past s a) else
  if past s a=a then .tup [.agg (Ex.encT ⟨2,nm,l,[],tag,0⟩),.int .i64 a,.int .i64 12] else
  match DG s (past s a) tag l with
  |.error (p,e)=>.tup [.agg (Ex.encT ⟨2,nm,l,[],tag,0⟩),.int .i64 p,.int .i64 e]
  |.ok (x,b)=>RN s nm tag f b (l++[x]):=by
 unfold RN;rw[A8,S6]
 by_cases h1:s.length<=past s a
 ·simp only[if_pos h1]
 ·simp only[if_neg h1]
  by_cases h2:s.getD (past s a) 0=62\/s.getD (past s a) 0=47
  ·simp only[if_pos h2]
  ·simp only[if_neg h2]
   by_cases h3:past s a=a
   ·simp only[if_pos h3]
   ·simp only[if_neg h3]
    cases DG s (past s a) tag l with
    |error x=>rfl
    |ok x=>rfl
theorem cf {s nm:List UInt8}{tag:Nat}(hs:s.length<=limE):∀(f a:Nat) (l:List Ex.A9),s.length-a<f->tag<=a->a<=s.length->l.length<=a->
  AE AI 72 (AD Tryz.f72) (AO Tryz.prog Tryz.f72 (RN s nm tag f a l)) [.code [0,0,1,1,1,1,1],.block 0,.code [1,1,1,1,1,1]] .normal [(0,true,.str s),(1,true,.int .i64 tag),(4,true,.ptr 1 0),(8,true,.ptr 4 0),(9,true,.int .i64 a)] (hO nm tag l)
 |0,a,l,hf,_,_,_=>by omega
 |f+1,a,l,hf,zL,ha,hl=>by
  have FE:s.length<=1000000:=hs;obtain⟨p1,p2⟩:=EM ha;rw[eY]
  have qH:(((s.getD (past s a) 0).toNat:Int)==62)=(s.getD (past s a) 0==62):=Gy _ 62 (by omega)
  have ug:(((s.getD (past s a) 0).toNat:Int)==47)=(s.getD (past s a) 0==47):=Gy _ 47 (by omega)
  refine qy bD ⟨s,a,hs,ha,rfl,?_⟩;simp only[IY]
  refine AA (fun x=> ?_) fun x=>AF (As (by simp at x;omega)) ?_
  ·rw[if_pos (by simp at x;omega)]
   rfl
  have h1:¬s.length<=past s a:=by simp at x;omega
  rw[if_neg h1];show Ad (((s.getD (past s a) 0).toNat:Int)==62) _ _;rw[qH]
  refine AA (fun y=> ?_) fun y=>AF (As (by omega)) ?_
  ·have y:s.getD (past s a) 0=62:=by simpa using y
   rw[if_pos (.inl y)]
   exact jX hs (by omega) (by omega)
  show Ad (((s.getD (past s a) 0).toNat:Int)==47) _ _;rw[ug]
  refine AA (fun z=> ?_) fun z=> ?_
  ·have z:s.getD (past s a) 0=47:=by simpa using z
   rw[if_pos (.inr z)]
   exact jX hs (by omega) (by omega)
  have h2:¬(s.getD (past s a) 0=62\/s.getD (past s a) 0=47):=by
   have y:¬s.getD (past s a) 0=62:=by simpa using y
   have z:¬s.getD (past s a) 0=47:=by simpa using z
   rintro(h|h)
   ·exact y h
   ·exact z h
  rw[if_neg h2]
  refine AA (fun u=> ?_) fun u=> ?_
  ·rw[if_pos (by simp at u;omega)]
   rfl
  have h3:¬past s a=a:=by simp at u;omega
  rw[if_neg h3]
  refine⟨s,past s a,tag,l,hs,by omega,by omega,by omega,rfl,fun p e he x=> ?_,fun x b hx=> ?_⟩
  ·rw[he]
   refine AA (fun _=> ?_) fun w=>absurd (by simpa using w) (YY he)
   rfl
  ·obtain⟨q1,q2⟩:=LU hx
   have hle:(encAs l).length=l.length:=by simp[encAs]
   rw[hx];refine AF ?_ (AF ?_ ?_)
   ·simp only[Bf,List.getElem?_cons_succ,List.getElem?_cons_zero,Nat.beq_refl,Bool.and_self,Bool.true_and,Bool.and_true]
    exact decide_eq_true (by omega)
   ·have:=ME 5 (l++[x])
    rw[show encAs (l++[x])=encAs l++[[AV.str x.name,AV.str x.value,AV.int .i64 x.at']] by simp[encAs,Ex.Ao]] at this
    rw[this];rfl
   ·have ih:=cf (nm:=nm) (tag:=tag) hs f b (l++[x]) (by omega) (by omega) q2 (by simp;omega)
    unfold hO at ih
    rw[show encAs (l++[x])=encAs l++[[AV.str x.name,AV.str x.value,AV.int .i64 x.at']] by simp[encAs,Ex.Ao]] at ih
    rw[List.length_append] at ih;exact ih
theorem nH {s:List UInt8}{tag:Nat}(hs:s.length<=limE)(ht:tag+5<=s.length):AE AI 72 (AD Tryz.f72) (AO Tryz.prog Tryz.f72 (To s tag)) [.code []] .normal [(0,true,.str s),(1,true,.int .i64 tag)] []:=by
 have FE:s.length<=1000000:=hs;have hn:=C8 s (tag+5)
 have w1:IntKind.wrap .i64 ((tag:Int)+5)=((tag+5:Nat):Int):=wr (by omega) (by omega)
 have w2:IntKind.wrap .i64 (((tag+5:Nat):Int)+((lets s (tag+5):Nat):Int))=((tag+5+lets s (tag+5):Nat):Int):=wr (by omega) (by omega)
 obtain⟨q1,q2⟩:=CB s (show tag+5<=tag+5+lets s (tag+5) by omega) (by omega)
 have MO:cut s (tag+5) (tag+5+lets s (tag+5))=(s.drop (tag+5)).take (lets s (tag+5)):=by unfold cut;rw[Nat.add_sub_cancel_left]
 refine t30 bD ⟨s,tag+5,hs,ht,by rw[w1],?_⟩
 rw[w1,w2,q1,MO]
 refine AF q2 ⟨_,rfl,AA (fun x=> ?_) fun x=> ?_⟩
 ·have x:Bk ((s.drop (tag+5)).take (lets s (tag+5)))=false:=by simpa using x
  unfold To;rw[if_pos x];rfl
 ·have x:¬Bk ((s.drop (tag+5)).take (lets s (tag+5)))=false:=by simpa using x
  unfold To;rw[if_neg x]
  exact cf hs (s.length+1) (tag+5+lets s (tag+5)) [] (by omega) (by omega) (by omega) (by simp)
theorem qF :CO AI 72 V9:=by
 refine Ar rn fun vs h K ht=> ?_
 obtain⟨s,tag,hs,kZ,rfl,h1,h2⟩:=ht;refine⟨To s tag,?_,nH hs kZ⟩;unfold To;unfold Di B9 at h1;unfold Di at h2;simp only at h1 h2
 by_cases hk:Bk ((s.drop (tag+5)).take (lets s (tag+5)))=false
 ·simp only[if_pos hk] at h1⊢;exact h1 _ _ rfl
 ·simp only[if_neg hk] at h1 h2⊢;unfold RN
  cases ha:A8 s tag (s.length+1) (tag+5+lets s (tag+5)) [] with
  |error x=>
   obtain⟨p,e⟩:=x;rw[ha] at h1;exact h1 p e rfl
  |ok x=>
   obtain⟨l,b⟩:=x;rw[ha] at h1 h2;simp only at h1 h2⊢;unfold eM
   cases he:CW s tag ((s.drop (tag+5)).take (lets s (tag+5))) l b with
   |error x=>obtain⟨p,e⟩:=x;exact h1 p e he
   |ok t=>exact h2 t he
theorem rr :BD AI 46 Tryz.f46:=(by refine⟨?_,?_,?_,?_,?_,?_⟩<;>kernel_rfl)
theorem mg :AJ AI (Ae [(70,QO),(72,V9),(73,lP),(74,Ss),(71,PE)]):=AX (AG lW (AG qF (AG yv (AG yu (AG qG AM)))))
def Ij (s:List UInt8)(a:Nat)(hid:Option Nat):AV:=match CH s a hid with
 |.error (p,e)=>.tup [.sl 6 (D7 s a) none,.int .i64 p,.int .i64 e]
 |.ok (l,_)=>.tup [.sl 6 (l.map AK) none,.int .i64 0,.int .i64 0]
theorem WM {s:List UInt8}{a:Nat}{hid:Option Nat}{t:Tok}(ho:has s Al a=true)(ht:Di s a=.ok t):Ij s a hid=match Fg s t with
  |.error (p,e)=>.tup [.sl 6 [] none,.int .i64 p,.int .i64 e]
  |.ok l=>.tup [.sl 6 (l.map AK) none,.int .i64 0,.int .i64 0]:=by
 unfold Ij CH D7;simp only[if_pos ho,ht]
 cases Fg s t with
 |error x=>rfl
 |ok l=>rfl
theorem Nv {t:Tok}(h:t.kind≠7):AK t=Ex.encT t:=by unfold AK;rw[if_neg h]
theorem nI {s:List UInt8}{a:Nat}{hid:Option Nat}(hs:s.length<=limE)(ha:a<s.length)(D9:spec s a hid.isSome=true):
  AE AI 46 (AD Tryz.f46) (AO Tryz.prog Tryz.f46 (Ij s a hid)) [.code []] .normal [(0,true,.str s),(1,true,.int .i64 a),(2,true,.bool hid.isSome)] []:=by
 have FE:s.length<=1000000:=hs
 refine t19 mg ⟨s,Al,a,by simp[Al],hs,by decide,by omega,rfl,AA (fun ho=>⟨s,a,hs,DD ho (by simp[Al]),rfl,fun p e he=> ?_,fun t ht=> ?_⟩) fun ho=>
  ⟨s,Af,a,by simp[Af],hs,by decide,by omega,rfl,AA (fun hc=>⟨s,a,hs,DD hc (by simp[Af]),rfl,fun p e he=> ?_,fun t ht=> ?_⟩) fun hc=>⟨s,a,hs,by omega,rfl,AA (fun hh=>AA (fun hd=> ?_) fun hd=>AF ?_ ?_) fun hh=> ?_⟩⟩⟩
 ·refine AA (fun _=> ?_) fun w=>absurd (by simpa using w) (Xh he)
  simp only[IY];unfold Ij CH D7;simp only[if_pos ho,he];rfl
 ·have h5:=DD ho (by simp[Al])
  have e5:Al.length=5:=rfl
  obtain⟨k1,k2,k3,k4,k5⟩:=Ku (by omega) ht
  have tH:t.kind≠7:=by omega
  rw[WM ho ht];simp only[IY]
  refine AA (fun x=> ?_) fun x=>AA (fun y=>AA (fun z=> ?_) fun z=> ?_) fun y=> ?_
  ·have x:t.kind=3:=by simpa using x
   have:Fg s t=.ok [t]:=by unfold Fg;rw[if_neg (by omega)]
   rw[this];simp only[List.map_cons,List.map_nil,Nv tH];rfl
  ·have y:¬t.name=BE:=by simpa[BE] using y
   have z:¬t.name=Cp:=by simpa[Cp] using z
   have:Fg s t=.ok [t]:=by unfold Fg;rw[if_neg (by rintro⟨_,h|h⟩;exact y h;exact z h)]
   rw[this];simp only[List.map_cons,List.map_nil,Nv tH];rfl
  all_goals
   have hk:t.kind=2:=by
    have x:¬t.kind=3:=by simpa using x
    omega
   have hn:t.name=BE\/t.name=Cp:=by
    first|exact .inl (by simpa[BE] using y)|exact .inr (by simpa[Cp] using z)
   have dT:t.name.length=6:=by rcases hn with h|h<;>rw[h]<;>rfl
   have Da:(Af++t.name).length=12:=by rw[List.length_append,dT];rfl
   have so:Fg s t=(match CY (Af++t.name) (s.drop t.to) with
     |none=>.error (t.fr,14)
     |some n=>match CY Al ((s.drop t.to).take n),decide (t.name=BE) with
      |some k,true=>.error (t.to+k,13)
      |_,_=>.ok [t,⟨7,[],[],(s.drop t.to).take n,t.to,t.to+n⟩]):=by
    unfold Fg;rw[if_pos ⟨hk,hn⟩];rfl
   rw[so]
   refine AF (decide_eq_true (by omega)) ⟨s,Af++t.name,t.to,by simp[Af],hs,by omega,k5,rfl,?_⟩
   cases hf:CY (Af++t.name) (s.drop t.to) with
   |none=>
    have hR:BV s (Af++t.name) t.to= -1:=by unfold BV;rw[hf]
    rw[hR]
    refine AA (fun _=> ?_) fun q=>by simp at q
    rw[k2]
   |some n=>
    have hR:BV s (Af++t.name) t.to=((t.to+n:Nat):Int):=by unfold BV;rw[hf]
    have hle:=HF hf;rw[List.length_drop,Da] at hle;rw[hR];have MO:B6 s none (some ((t.to+n:Nat):Int))=s.take (t.to+n):=rfl
    have we:(s.take (t.to+n)).drop t.to=(s.drop t.to).take n:=by rw[List.drop_take,Nat.add_sub_cancel_left]
    obtain⟨c1,c2⟩:=CB s (show t.to<=t.to+n by omega) (by omega)
    rw[Ew] at c1;rw[MO,c1]
    refine AA (fun q=>by simp at q;omega) fun _=>AF (by simp[BC];omega) ⟨s.take (t.to+n),Al,t.to,by simp[Al],by rw[List.length_take];omega,by decide,by rw[List.length_take];omega,rfl,?_⟩
    have yG:BV (s.take (t.to+n)) Al t.to=match CY Al ((s.drop t.to).take n) with|some k=>((t.to+k:Nat):Int)|none=> -1:=by unfold BV;rw[we];rfl
    rw[yG]
    have last:AV.tup [AV.sl 6 [Ex.encT t,[.int .i64 7,.str [],.sl 0 [] none,.str ((s.drop t.to).take n),.int .i64 t.to,.int .i64 ((t.to+n:Nat):Int)]] none,.int .i64 0,.int .i64 0]=.tup [.sl 6 ([t,⟨7,[],[],(s.drop t.to).take n,t.to,t.to+n⟩].map AK) none,.int .i64 0,.int .i64 0]:=by
     simp only[List.map_cons,List.map_nil,Nv tH];rfl
    refine AA (fun r=> ?_) fun r=>AF c2 ?_
    ·have r:t.name=BE:=by simpa[BE] using r
     cases TF:CY Al ((s.drop t.to).take n) with
     |some k=>
      refine AA (fun _=> ?_) fun q=>by simp at q;omega
      simp only[TF,decide_eq_true r]
     |none=>
      refine AA (fun q=>by simp at q) fun _=>AF c2 ?_
      simp only[TF];exact last
    ·have r:¬t.name=BE:=by simpa[BE] using r
     simp only[decide_eq_false r]
     cases CY Al ((s.drop t.to).take n)<;>exact last
 ·unfold Ij CH D7
  simp only[if_neg (show¬has s Al a=true by rw[ho];simp),if_pos hc,he]
  rfl
 ·have h6:=DD hc (by simp[Af])
  have e6:Af.length=6:=rfl
  have hk:=(GO (by omega) ht).1
  simp only[IY];unfold Ij CH D7
  simp only[if_neg (show¬has s Al a=true by rw[ho];simp),if_pos hc,ht,List.map_cons,List.map_nil,Nv (show t.kind≠7 by omega)]
  rfl
 all_goals
  have jN:¬has s Al a=true:=by rw[ho];simp
  have fg:¬has s Af a=true:=by rw[hc];simp
 ·unfold Ij CH D7;simp only[if_neg jN,if_neg fg,if_pos hh,if_pos hd]
 all_goals try
  have h8:a+8<=s.length:=by
   unfold C6 at hh;simp only[Bool.and_eq_true,decide_eq_true_eq] at hh;omega
  have w8:IntKind.wrap .i64 ((a:Int)+8)=((a+8:Nat):Int):=wr (by omega) (by omega)
  obtain⟨c1,c2⟩:=CB s (show a<=a+8 by omega) h8
  rw[w8]
 ·exact c2
 ·rw[c1];unfold Ij CH D7
  simp only[if_neg jN,if_neg fg,if_pos hh,if_neg (show¬hid.isSome=true by rw[hd];simp),List.map_cons,List.map_nil]
  rfl
 ·have w3:IntKind.wrap .i64 ((a:Int)+3)=((a+3:Nat):Int):=wr (by omega) (by omega)
  rw[w3];unfold Ij CH D7
  simp only[if_neg jN,if_neg fg,if_neg (show¬C6 s a=true by rw[hh];simp),List.map_cons,List.map_nil]
  rfl
theorem y5 :CO AI 46 T8:=by
 refine Ar rr fun vs h K ht=> ?_
 obtain⟨s,a,hid,hs,ha,D9,rfl,h1,h2⟩:=ht;refine⟨Ij s a hid,?_,nI hs ha D9⟩;unfold Ij
 cases hc:CH s a hid with
 |error x=>obtain⟨p,e⟩:=x;exact h1 p e hc
 |ok x=>obtain⟨l,Eg⟩:=x;exact h2 l Eg hc
theorem wC :BD AI 19 Tryz.f19:=(by refine⟨?_,?_,?_,?_,?_,?_⟩<;>kernel_rfl)
theorem Yi :AJ AI (Ae [(45,TU),(46,T8)]):=AX (AG y8 (AG y5 AM))
def XU (s:List UInt8):AV:=match lexM s with
 |.error (p,e)=>.tup [.sl 6 [] none,.int .i64 p,.int .i64 e]
 |.ok l=>.tup [.sl 6 (l.map AK) none,.int .i64 0,.int .i64 0]
def Gd (h:Option Nat):Int:=match h with
 |some p=>p
 |none=> -1
theorem JP (h:Option Nat):decide (Gd h>=0)=h.isSome:=by
 cases h with
 |none=>rfl
 |some p=>show decide ((p:Int)>=0)=true;exact decide_eq_true (Int.natCast_nonneg p)
abbrev pT (s:List UInt8)(v:AV)(l:List Tok)(hid:Option Nat)(a:Nat):Prop:=
 AE AI 19 (AD Tryz.f19) (AO Tryz.prog Tryz.f19 v) [.code [0,0,1,1,1,1],.block 0,.code [1,1,1,1,1]] .normal [(0,true,.str s),(5,true,.sl 6 (l.map AK) (some 1)),(6,true,.int .i64 (Gd hid)),(7,true,.int .i64 a)] [.grow 0 6 95,.grow (l.map AK).length 6 95]
theorem mT {s:List UInt8}{v:AV}{l:List Tok}{hid:Option Nat}{a:Nat}(hs:s.length<=limE)(ha:a<=s.length)(hl:l.length<=2*a):∀(f b:Nat),s.length<=b+f->a<=b->b<=s.length->
  pT s v (l++[⟨1,[],[],cut s a (BN s hid.isSome f b),a,BN s hid.isSome f b⟩]) hid (BN s hid.isSome f b)->
  AE AI 19 (AD Tryz.f19) (AO Tryz.prog Tryz.f19 v) [.code [0,0,1,0,1,0,0,1,0,0,0,1,1,1,1],.block 2,.code [1,1,0,1,0,0,1,0,0,0,1,1,1,1],.code [1,0,1,0,0,0,1,1,1,1],.block 1,.loop [0,0,1,1,1,1] 2,.block 0,.code [1,1,1,1,1]] .normal
   [(0,true,.str s),(5,true,.sl 6 (l.map AK) (some 1)),(6,true,.int .i64 (Gd hid)),(7,true,.int .i64 a),(8,true,.int .i64 b)] [.grow 0 6 95,.grow (l.map AK).length 6 95]:=by
 have FE:s.length<=1000000:=hs;intro f
 induction f with
 |zero=>
  intro b hf Q6 hb k
  have HE:b=s.length:=by omega
  have e:BN s hid.isSome 0 b=b:=rfl;rw[e] at k;obtain⟨c1,c2⟩:=CB s Q6 hb
  refine uq Yi (AA (fun x=>by simp at x;omega) fun _=>AF c2 (AF ?_ ?_))
  ·rw[show Bf [Blk.grow 0 6 95,Blk.grow (List.map AK l).length 6 95,Blk.grow 0 3 80,Blk.grow 1 6 95] (List.map AK l).length 6 95 (some 1)=true by simp[Bf],List.length_map]
   simp;omega
  ·rw[c1,Cb,Bb 2 _ _ (Ot 2 l)];have:=k;unfold pT at this;rw[List.map_append,List.length_append] at this;exact this
 |succ f ih=>
  intro b hf Q6 hb k;obtain⟨c1,c2⟩:=CB s Q6 hb
  have stop:BN s hid.isSome (f+1) b=b->AS (BC s.length (some (a:Int)) (some (b:Int))) (AS (Bf [Blk.grow 0 6 95,Blk.grow (List.length (List.map AK l)) 6 95,Blk.grow 0 3 80,Blk.grow 1 6 95] (List.length (List.map AK l)) 6 95 (some 1)&&true&&true&&true&&decide ((List.length (List.map AK l)+1)*80<=140737488355328)&&true&&true)
    (AE AI 19 (AD Tryz.f19) (AO Tryz.prog Tryz.f19 v) [Fm.code [0,0,1,1,1,1],Fm.block 0,Fm.code [1,1,1,1,1]] XT.normal [(0,true,AV.str s),(5,true,AV.sl 6 (AB 2 [Blk.grow 0 6 95,Blk.grow (List.length (List.map AK l)+1) 6 95,Blk.grow 0 3 80,Blk.grow 1 6 95] (List.map AK l++[[.int .i64 1,AV.str [],AV.sl 3 [] (some 2),AV.str (B6 s (some (a:Int)) (some (b:Int))),.int .i64 a,.int .i64 b]])) (some 1)),(6,true,.int .i64 (Gd hid)),(7,true,.int .i64 b)] [Blk.grow 0 6 95,Blk.grow (List.length (List.map AK l)+1) 6 95])):=by
   intro e;rw[e] at k;refine AF c2 (AF ?_ ?_)
   ·rw[show Bf [Blk.grow 0 6 95,Blk.grow (List.map AK l).length 6 95,Blk.grow 0 3 80,Blk.grow 1 6 95] (List.map AK l).length 6 95 (some 1)=true by simp[Bf],List.length_map]
    simp;omega
   ·rw[c1,Cb,Bb 2 _ _ (Ot 2 l)];have:=k;unfold pT at this;rw[List.map_append,List.length_append] at this;exact this
  refine uq Yi (AA (fun x=>⟨s,b,hid.isSome,hs,by omega,by rw[JP],AA (fun y=> ?_) fun y=> ?_⟩) fun x=> ?_)
  ·have x:b<s.length:=by simpa using x
   have y:spec s b hid.isSome=false:=by simpa using y
   have e:BN s hid.isSome (f+1) b=BN s hid.isSome f (b+1):=by
    conv=>lhs;unfold BN
    rw[if_neg (by rw[y];simp;omega)]
   rw[e] at k
   have:=ih (b+1) (by omega) (by omega) (by omega) k
   rw[Bb 2 _ _ (Ot 2 l),show IntKind.wrap .i64 ((b:Int)+1)=((b+1:Nat):Int) from wr (by omega) (by omega)]
   exact this
  ·have y:spec s b hid.isSome=true:=by simpa using y
   refine stop ?_;unfold BN;rw[if_pos (.inr y)]
  ·refine stop ?_;unfold BN
   rw[if_pos (.inl (by simp at x;omega))]
theorem nd {s:List UInt8}(hs:s.length<=limE):∀(f a:Nat) (hid:Option Nat) (l:List Tok),s.length-a<f->a<=s.length->l.length<=2*a->
  ∀v,(∀p e,Ce s f a hid=.error (p,e)->v=.tup [.sl 6 [] none,.int .i64 p,.int .i64 e])->(∀r,Ce s f a hid=.ok r->v=.tup [.sl 6 ((l++r).map AK) none,.int .i64 0,.int .i64 0])->pT s v l hid a:=by
 have FE:s.length<=1000000:=hs;intro f
 induction f with
 |zero=>intro a hid l hf;omega
 |succ f ih=>
  intro a hid l hf ha hl v dL fZ;unfold pT
  by_cases QI:s.length<=a
  ·refine qa Yi (AA (fun x=>by simp at x;omega) fun _=> ?_)
   cases hid with
   |some p=>
    refine AA (fun _=>(dL p 14 ?_).symm) fun x=> ?_
    ·unfold Ce;rw[if_pos QI]
    ·rw[JP] at x;cases x
   |none=>
    refine AA (fun x=> ?_) fun _=> ?_
    ·rw[JP] at x;cases x
    ·rw[Bb 0 _ _ (Ot 0 l),fZ [] ?_,List.append_nil];unfold Ce;rw[if_pos QI]
  ·by_cases D9:spec s a hid.isSome=true
   ·refine qa Yi (AA (fun _=>⟨s,a,hid.isSome,hs,by omega,by rw[JP],AA (fun y=>by rw[D9] at y;cases y) fun _=>⟨s,a,hid,hs,by omega,D9,by rw[JP],fun p e he=> ?_,fun m Eg hm=> ?_⟩⟩) fun x=>by simp at x;omega)
    ·refine AA (fun _=> ?_) fun z=>absurd (by simpa using z) (Xo he)
     refine(dL p e ?_).symm;unfold Ce;rw[if_neg QI,if_pos D9,he]
    ·obtain⟨t,r,rfl,k7,hh,j1,j2,j3⟩:=T7 (by omega) D9 hm
     have e:=ZQ (f:=f) QI D9 hm;rw[cp (a+1) 0] at e
     have nx:=ih (Bd (t::r) 0) Eg (l++t::r) (by omega) j2 (by rw[List.length_append];omega) v (fun p e' he=>dL p e' (by rw[e,he];rfl)) (fun q hq=>by
      rw[fZ (t::r++q) (by rw[e,hq];rfl)];simp)
     obtain⟨z1,z2⟩:=WT (t:=t) (r:=r) 0;have g0:Bm ((t::r).map AK) 0=AK t:=rfl
     have i0:Cy 0 ((t::r).map AK).length=true:=by rw[List.length_map];exact As (i:=0) (by simp)
     have w:IntKind.wrap .i64 ((((t::r).map AK).length:Int)-1)=(((t::r).length-1:Nat):Int):=wr (by rw[List.length_map];simp) (by omega)
     have i1:Cy (((t::r).length-1:Nat):Int) ((t::r).map AK).length=true:=by rw[List.length_map];exact As z1
     have g1:=CF AK (t::r) z1
     have tag:∀n:Nat,n<=2->(Bf [Blk.grow 0 6 95,Blk.grow (List.length (List.map AK l)) 6 95] (List.length (List.map AK l)) 6 95 (some 1)&&true&&true&&true&&decide ((List.length (List.map AK l)+n)*80<=140737488355328)&&true&&true)=true:=by
      intro n hn
      rw[show Bf [Blk.grow 0 6 95,Blk.grow (List.map AK l).length 6 95] (List.map AK l).length 6 95 (some 1)=true by simp[Bf],List.length_map]
      simp;omega
     have sH:AE AI 19 (AD Tryz.f19) (AO Tryz.prog Tryz.f19 v) [Fm.code [0,0,1,1,1,1],Fm.block 0,Fm.code [1,1,1,1,1]] XT.normal [(0,true,AV.str s),(5,true,AV.sl 6 (AB 2 [Blk.grow 0 6 95,Blk.grow (List.length (List.map AK l)+List.length (List.map AK (t::r))) 6 95] (List.map AK l++List.map AK (t::r))) (some 1)),(6,true,.int .i64 (Gd Eg)),(7,true,.int .i64 ((Bd (t::r) 0:Nat):Int))] [Blk.grow 0 6 95,Blk.grow (List.length (List.map AK l)+List.length (List.map AK (t::r))) 6 95]:=by
      rw[<-List.map_append,Bb 2 _ _ (Ot 2 _),<-List.length_append,<-List.map_append];exact nx
     have e9:∀u:Tok,∃(nm:List UInt8) (w:AV) (tx:List UInt8),AK u=[.int .i64 u.kind,.str nm,w,.str tx,.int .i64 u.fr,.int .i64 u.to]:=by
      intro u;unfold AK;split
      ·rename_i h7
       exact⟨_,_,_,by rw[h7]⟩
      ·exact⟨_,_,_,rfl⟩
     obtain⟨nm,w1,tx,q1⟩:=e9 t;obtain⟨cN,w2,Rb,q2⟩:=e9 ((t::r)[(t::r).length-1]);rw[<-z2] at q2;rw[q1] at g0;rw[q2] at g1
     refine AF (by rw[i0];rfl) ⟨_,_,_,_,_,_,g0,AA (fun x=> ?_) fun x=> ?_⟩
     ·have x:t.kind=5:=by simpa using x
      rw[if_pos x] at hh;subst hh
      refine AF (by rw[i0];rfl) ⟨_,_,_,_,_,_,g0,AA (fun y=> ?_) fun y=> ?_⟩
      ·have y:t.kind=6:=by simpa using y
       omega
      ·refine AF (tag _ (by rw[List.length_map];exact j3)) ?_
       rw[w]
       exact AF (by rw[i1];rfl) ⟨_,_,_,_,_,_,g1,sH⟩
     ·have x:¬t.kind=5:=by simpa using x
      rw[if_neg x] at hh
      refine AF (by rw[i0];rfl) ⟨_,_,_,_,_,_,g0,AA (fun y=> ?_) fun y=> ?_⟩
      ·have y:t.kind=6:=by simpa using y
       rw[if_pos y] at hh;subst hh
       refine AF (tag _ (by rw[List.length_map];exact j3)) ?_
       rw[w]
       exact AF (by rw[i1];rfl) ⟨_,_,_,_,_,_,g1,sH⟩
      ·have y:¬t.kind=6:=by simpa using y
       rw[if_neg y] at hh;subst hh
       refine AF (tag _ (by rw[List.length_map];exact j3)) ?_
       rw[w]
       exact AF (by rw[i1];rfl) ⟨_,_,_,_,_,_,g1,sH⟩
   ·have e:=ZP (f:=f) QI D9
    have h1:=La (f:=s.length-a) QI D9 (by omega)
    obtain⟨h2,h3,_⟩:=GF (s:=s) (hid:=hid.isSome) (s.length-a) a (by omega) ha
    have nx:=ih (BN s hid.isSome (s.length-a) a) hid (l++[⟨1,[],[],cut s a (BN s hid.isSome (s.length-a) a),a,BN s hid.isSome (s.length-a) a⟩]) (by omega) h3 (by rw[List.length_append,List.length_singleton];omega) v
     (fun p e' he=>dL p e' (by rw[e,he];rfl)) (fun q hq=>by rw[fZ (_::q) (by rw[e,hq];rfl)];simp)
    have:=mT hs ha hl (s.length-a) a (by omega) (Nat.le_refl _) ha nx
    refine qa Yi (AA (fun _=>⟨s,a,hid.isSome,hs,by omega,by rw[JP],AA (fun y=>this) fun y=> ?_⟩) fun x=>by simp at x;omega)
    exact absurd (by simpa using y) D9
theorem c9 :CO AI 19 ia:=by
 refine Ar wC fun vs h K ht=> ?_
 obtain⟨s,hs,rfl,h1,h2⟩:=ht
 refine⟨XU s,?_,t9 Yi (nd hs (s.length+1) 0 none [] (by omega) (by omega) (by simp) _ (fun p e he=> ?_) fun r hr=> ?_)⟩
 ·unfold XU
  cases hc:lexM s with
  |error x=>obtain⟨p,e⟩:=x;exact h1 p e hc
  |ok l=>exact h2 l hc
 ·unfold XU lexM;rw[he]
 ·unfold XU lexM;rw[hr];rfl
end Go.Proofs.YtopjpnhgnopbiaaGreatDoor.Rx
end
