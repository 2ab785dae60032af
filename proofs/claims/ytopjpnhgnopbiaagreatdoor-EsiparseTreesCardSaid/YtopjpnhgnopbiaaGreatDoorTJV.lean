/-
  The document's parser: its small functions, and what a tag's attributes owe, under contract.
  The document's parser: the node that a tag begins, under contract.
  The document's parser: a node's children, under contract.
  The document's parser: children, whole.
  The document's answer for a text's tree; that both are the same: the rows' functions under contract.
  What a row reads at the types of this seat is a text or a byte, in plain terms.
-/
import Derived.Test.YtopjpnhgnopbiaaGreatDoorTJU
import Derived.Test.YtopjpnhgnopbiaaGreatDoorTJQ
import Derived.Test.YtopjpnhgnopbiaaGreatDoorTJG
import Derived.Test.YtopjpnhgnopbiaaGreatDoorTAiMono
import Derived.Test.YtopjpnhgnopbiaaGreatDoorTCfg
import Derived.Test.YtopjpnhgnopbiaaGreatDoorTAiLaw
set_option linter.unusedVariables false
set_option linter.unusedSimpArgs false
set_option linter.unnecessarySimpa false
section
namespace Go.Proofs.YtopjpnhgnopbiaaGreatDoor.Rx
open Go.Ai Go Go.Ai.Sp Go.Ai.Ex
set_option maxRecDepth 100000
theorem cG :AK AI (Af []):=AX AN
theorem s9 (n:Nat)(h:Hp)(l:List Tok):AB n h (l.map AJ)=l.map AJ:=Ba n h _ (Ol n l)
theorem sA (n:Nat)(h:Hp)(l:List Ex.A8):AB n h (encAs l)=encAs l:=Ba n h _ (L9 n l)
theorem jv {g:List (List AV)}{a lo pl e:Int}{r:Hp}(hr:okB r=true):HN 5 (hR g a lo pl e++r)=true:=by
 have h:(hR g a lo pl e++r).all (fun b=>!HS b)=true:=by
  rw[List.all_append,show r.all (fun b=>!HS b)=true from hr];rfl
 have h2:Nat.ble 5 (hR g a lo pl e++r).length=true:=Nat.ble_eq_true_of_le (by simp[hR])
 unfold HN;rw[h,h2];rfl
theorem aV (l:List Tok)(a lo pl e:Int)(r:Hp):((hR (l.map AJ) a lo pl e++r).take 5).map (AL 5 [])=hR (l.map AJ) a lo pl e:=by
 show [Blk.grow 0 3 80,.grow 0 5 26,.mem 26 [.int .i64 0,.int .i64 0,.str [],.sl 3 [] (some 0),.sl 5 [] (some 1)],.grow 0 6 95,.mem 59 [.sl 6 (AB 5 [] (l.map AJ)) none,.int .i64 a,.int .i64 lo,.int .i64 pl,.int .i64 e]]=_;rw[s9];rfl
theorem vT (n:Nat)(h:Hp)(t:Tok):AP n h (Ex.encT t)=Ex.encT t:=by
 show [AV.int .i64 t.kind,.str t.name,.sl 3 (AB n h (encAs t.attrs)) none,.str t.text,.int .i64 t.fr,.int .i64 t.to]=_;rw[sA];rfl
theorem nE :Qf AI 47 Tryz.f47 5:=⟨by kernel_rfl,by kernel_rfl,by kernel_rfl,by kernel_rfl,by kernel_rfl,by kernel_rfl,by kernel_rfl⟩
theorem eZ (l:List Tok)(lo:Int)(r:Hp)(hr:okB r=true):CP AI 47 (FQ l lo r):=by
 refine Nq nE fun vs h K ht=> ?_
 obtain⟨p,x,a,pl,e,rfl,rfl,hk⟩:=ht;refine⟨jv hr,?_⟩;rw[aV]
 refine t47 cG (AA (fun h=> ?_) fun h=> ?_)
 ·obtain rfl:=eq_of_beq h;rw[s9];exact hk
 ·have h:=beq_eq_false_iff_ne.1 h;rw[lF h] at hk;rw[s9];exact hk
theorem nJ :BE AI 108 Tryz.f108:=(by refine⟨?_,?_,?_,?_,?_,?_⟩<;>kernel_rfl)
theorem nI :BE AI 109 Tryz.f109:=(by refine⟨?_,?_,?_,?_,?_,?_⟩<;>kernel_rfl)
theorem rE :BE AI 77 Tryz.f77:=(by refine⟨?_,?_,?_,?_,?_,?_⟩<;>kernel_rfl)
theorem rF :BE AI 75 Tryz.f75:=(by refine⟨?_,?_,?_,?_,?_,?_⟩<;>kernel_rfl)
theorem rM :BE AI 48 Tryz.f48:=(by refine⟨?_,?_,?_,?_,?_,?_⟩<;>kernel_rfl)
theorem rL :BE AI 49 Tryz.f49:=(by refine⟨?_,?_,?_,?_,?_,?_⟩<;>kernel_rfl)
theorem o9 :CP AI 108 WH:=by
 refine Ar nJ fun vs h K ht=> ?_
 obtain⟨k,rfl,hk⟩:=ht;refine⟨_,hk,t108 cG ?_⟩;unfold Ml
 cases k==3<;>cases k==4<;>cases k==6<;>cases k==11<;>rfl
theorem uS :CP AI 109 XY:=by
 refine Ar nI fun vs h K ht=> ?_
 obtain⟨k,p,x,y,rfl,hk⟩:=ht;refine⟨_,hk,t109 cG ?_⟩;unfold EP
 cases k==3 with
 |true=>cases x==[115,114,99]<;>cases x==[97,108,116]<;>cases y==[]<;>cases x==[111,110,101,114,114,111,114]<;>rfl
 |false=>
  cases k==4 with
  |true=>cases x==[110,97,109,101]<;>cases y==[]<;>cases x==[102,101,116,99,104,97,98,108,101]<;>cases y==[121,101,115]<;>rfl
  |false=>
   cases k==6 with
   |true=>rfl
   |false=>cases k==11<;>cases x==[116,101,115,116]<;>rfl
theorem yN :CP AI 77 ib:=by
 refine Ar rE fun vs h K ht=> ?_
 obtain⟨k,i,l,rfl,hk⟩:=ht;refine⟨_,hk,t77 cG ?_⟩;unfold HR;simp only[bne]
 cases i==7<;>cases i==10<;>cases k==8<;>cases k==9<;>cases k==11<;>cases k==12<;>cases l==0<;>cases l==11<;>rfl
theorem vU :CP AI 75 WN:=by
 refine Ar rF fun vs h K ht=> ?_
 obtain⟨s,rfl,hk⟩:=ht;refine⟨_,hk,t75 (AX (AG vY AN)) ⟨rfl,?_⟩⟩
 have sw:∀a b:List UInt8,(a==b)=(b==a):=fun a b=>Bool.eq_iff_iff.2 ⟨fun h=>beq_iff_eq.2 (beq_iff_eq.1 h).symm,fun h=>beq_iff_eq.2 (beq_iff_eq.1 h).symm⟩
 have e:Ga s=bif Bk s then((C6 s).kind:Int) else 0:=rfl;have e2:Bk s=(([105,110,99,108,117,100,101]==s)||(([105,110,108,105,110,101]==s)||(([114,101,109,111,118,101]==s)||(([99,111,109,109,101,110,116]==s)||(([116,114,121]==s)||(([97,116,116,101,109,112,116]==s)||(([101,120,99,101,112,116]==s)||(([99,104,111,111,115,101]==s)||(([119,104,101,110]==s)||(([111,116,104,101,114,119,105,115,101]==s)||(([118,97,114,115]==s)||false))))))))))):=rfl;rw[e,e2];unfold C6;rw[sw s [105,110,99,108,117,100,101],sw s [105,110,108,105,110,101],sw s [114,101,109,111,118,101],sw s [99,111,109,109,101,110,116],sw s [116,114,121],sw s [97,116,116,101,109,112,116],sw s [101,120,99,101,112,116],sw s [99,104,111,111,115,101],sw s [119,104,101,110],sw s [111,116,104,101,114,119,105,115,101]];generalize ([105,110,99,108,117,100,101]==s)=b1;generalize ([105,110,108,105,110,101]==s)=b2;generalize ([114,101,109,111,118,101]==s)=b3;generalize ([99,111,109,109,101,110,116]==s)=b4;generalize ([116,114,121]==s)=b5;generalize ([97,116,116,101,109,112,116]==s)=b6;generalize ([101,120,99,101,112,116]==s)=b7;generalize ([99,104,111,111,115,101]==s)=b8;generalize ([119,104,101,110]==s)=b9;generalize ([111,116,104,101,114,119,105,115,101]==s)=er;generalize ([118,97,114,115]==s)=pF
 cases b1 with
 |true=>rfl
 |false=>
 cases b2 with
 |true=>rfl
 |false=>
 cases b3 with
 |true=>rfl
 |false=>
 cases b4 with
 |true=>rfl
 |false=>
 cases b5 with
 |true=>rfl
 |false=>
 cases b6 with
 |true=>rfl
 |false=>
 cases b7 with
 |true=>rfl
 |false=>
 cases b8 with
 |true=>rfl
 |false=>
 cases b9 with
 |true=>rfl
 |false=>
 cases er with
 |true=>rfl
 |false=>cases pF<;>rfl
theorem ov :CP AI 48 Gk:=by
 refine Ar rM fun vs h K ht=> ?_
 obtain⟨t,k,rfl,hk⟩:=ht;refine⟨_,hk,t48 (AX (AG vU AN)) ?_⟩;unfold Dy
 cases h6:t.kind==6 with
 |true=>
  cases pg:k==14 with
  |true=>rfl
  |false=>
   cases h4:t.kind==4 with
   |true=>exact⟨t.name,rfl,rfl⟩
   |false=>rfl
 |false=>
  cases h4:t.kind==4 with
  |true=>exact⟨t.name,rfl,rfl⟩
  |false=>rfl
theorem QN {s:List UInt8}{c:UInt8}:BZ (c::s)=if blB c=true then BZ s else c::s:=by
 unfold BZ;rw[List.dropWhile_cons]
theorem TP :∀(r p:List UInt8),(∀c∈p,blB c=true)->CL (p++r)=bif (BZ r).isEmpty then -1 else(((p++r).length-(BZ r).length:Nat):Int):=by
 intro r p hp
 have e:BZ (p++r)=BZ r:=by
  induction p with
  |nil=>rfl
  |cons c p ih=>
   rw[List.cons_append,QN,if_pos (hp c (by simp))]
   exact ih fun x hx=>hp x (by simp[hx])
 unfold CL;rw[e]
theorem kA {s:List UInt8}(hs:s.length<=limE):∀(r p:List UInt8),s=p++r->(∀c∈p,blB c=true)->
  AE AI 49 (AD Tryz.f49) (AR Tryz.prog Tryz.f49 (.int .i64 (CL s))) [.code [0,1,0,1],.block 0,.code [1,1]] .normal [(0,true,.str s),(3,true,.int .i64 (p.length:Nat))] []:=by
 have FC:s.length<=1000000:=hs;intro r
 induction r with
 |nil=>
  intro p D8 hp;have hT:=AX (AG o7 AN)
  refine az hT (AA (fun h=> ?_) fun _=> ?_)
  ·rw[D8] at h;simp at h
  ·rw[D8,TP [] p hp];rfl
 |cons c r ih=>
  intro p D8 hp;have hT:=AX (AG o7 AN)
  have As:p.length<s.length:=by rw[D8];simp
  have hc:s.getD p.length 0=c:=by rw[D8];simp[List.getD]
  refine az hT (AA (fun h=>AF (Au As) ⟨c,by rw[<-hc];rfl,?_⟩) fun h=> ?_)
  ·cases hb:blB c with
   |true=>
    have:=ih (p++[c]) (by rw[D8];simp) (fun x hx=>by
     rcases List.mem_append.1 hx with hx|hx
     ·exact hp x hx
     ·rw[List.mem_singleton.1 hx];exact hb)
    rw[show IntKind.wrap .i64 ((p.length:Int)+1)=(((p++[c]).length:Nat):Int) by rw[Bx (by omega) (by omega)];simp]
    exact this
   |false=>
    show AV.int .i64 (p.length:Nat)=_
    rw[D8,TP (c::r) p hp,QN,if_neg (by rw[hb];simp)]
    simp
  ·have:=of_decide_eq_false h;omega
theorem c49 :CP AI 49 Hk:=by
 refine Ar rL fun vs h K ht=> ?_
 obtain⟨s,hs,rfl,hk⟩:=ht
 exact⟨_,hk,t49 (AX (AG o7 AN)) (kA hs s [] rfl fun c hc=>by cases hc)⟩
theorem nC :Qf AI 78 Tryz.f78 5:=⟨by kernel_rfl,by kernel_rfl,by kernel_rfl,by kernel_rfl,by kernel_rfl,by kernel_rfl,by kernel_rfl⟩
def tu (l:List Tok)(a lo pl e:Int)(t:Tok):Hp:=hR (l.map AJ) a lo pl e++[.mem 95 (Ex.encT t)]
theorem Xp (l:List Tok)(q:List Ex.A8):(Aa 6 (l.map AJ)&&true&&true&&(Aa 6 (encAs q)&&true&&true&&true))=true:=by
 rw[Ol,L9];rfl
theorem oV {q:List Ex.A8}{i:Nat}(h:i<q.length):Bm (encAs q) i=Ex.Ao q[i]/\(C7 (i:Int) (encAs q).length&&true&&true)=true:=by
 refine⟨CF Ex.Ao q h,?_⟩;rw[encAs,List.length_map,Au h];rfl
theorem gQ (q:List Ex.A8):(encAs q).length=q.length:=by rw[encAs,List.length_map]
theorem lT {α:Type}(p:α->Bool)(q:List α){i:Nat}(h:i<q.length):(q.drop i).any p=(p q[i]||(q.drop (i+1)).any p):=by
 rw[List.drop_eq_getElem_cons h,List.any_cons]
theorem gM {l:List Tok}{a lo pl e:Int}{t:Tok}{k:Int}{K:AV->Hp->Prop}(hl:t.attrs.length<=limE):∀(n i:Nat) (f:Bool),t.attrs.length-i=n->i<=t.attrs.length->
  AE AI 78 (AD Tryz.f78) (AQ Tryz.prog Tryz.f78 5 K) [.code [1,1,1]] .normal [(0,true,.ptr 4 0),(1,true,.int .i64 k),(5,true,.ptr 5 0),(6,true,.bool (f||(t.attrs.drop i).any fun a=>a.name==Ml k))] (tu l a lo pl e t)->
  AE AI 78 (AD Tryz.f78) (AQ Tryz.prog Tryz.f78 5 K) [.code [0,1,0,1,1],.block 0,.code [1,1,1]] .normal [(0,true,.ptr 4 0),(1,true,.int .i64 k),(5,true,.ptr 5 0),(6,true,.bool f),(7,true,.int .i64 (i:Nat))] (tu l a lo pl e t):=by
 have WX:t.attrs.length<=1000000:=hl;have hT:=AX (AG o9 AN);intro n
 induction n with
 |zero=>
  intro i f hn hi hK
  refine ay hT (AA (fun h=> ?_) fun _=> ?_)
  ·have:=of_decide_eq_true h;rw[gQ] at this;omega
  ·rw[List.drop_of_length_le (by omega),List.any_nil,Bool.or_false] at hK
   exact hK
 |succ n ih=>
  intro i f hn hi hK
  have As:i<t.attrs.length:=by omega
  have w:IntKind.wrap .i64 ((i:Int)+1)=((i+1:Nat):Int):=wr (by omega) (by omega)
  obtain⟨g1,g2⟩:=oV As;rw[lT _ _ As,<-Bool.or_assoc] at hK
  refine ay hT (AA (fun _=>AA (fun hf=>AF (Xp l t.attrs) ?_) fun hf=>AF g2 ⟨_,_,_,g1,k,rfl,AF (Xp l t.attrs) ?_⟩) fun h=> ?_)
  ·rw[hf,Bool.true_or] at hK;rw[w]
   exact ih (i+1) true (by omega) (by omega) hK
  ·rw[hf,Bool.false_or] at hK;rw[w]
   exact ih (i+1) _ (by omega) (by omega) hK
  ·have:=of_decide_eq_false h;rw[gQ] at this;omega
theorem Xq {l:List Tok}{a lo:Int}{t:Tok}{k:Int}{K:AV->Hp->Prop}(hl:t.attrs.length<=limE):∀(n i:Nat) (q:Int×Int),t.attrs.length-i=n->i<=t.attrs.length->
  K (.tup []) (hR (l.map AJ) a lo ((t.attrs.drop i).foldl (fun s a=>bif !EP k a.name a.value then fE a.at' 12 s.1 s.2 else s) q).1 ((t.attrs.drop i).foldl (fun s a=>bif !EP k a.name a.value then fE a.at' 12 s.1 s.2 else s) q).2)->
  AE AI 78 (AD Tryz.f78) (AQ Tryz.prog Tryz.f78 5 K) [.code [0,1,1,1,1,1],.block 2] .normal [(0,true,.ptr 4 0),(1,true,.int .i64 k),(5,true,.ptr 5 0),(8,true,.int .i64 (i:Nat))] (tu l a lo q.1 q.2 t):=by
 have WX:t.attrs.length<=1000000:=hl;have hT:=AX (AG uS (AG (eZ l lo [.mem 95 (Ex.encT t)] rfl) AN));intro n
 induction n with
 |zero=>
  intro i q hn hi hK
  refine mU hT (AA (fun h=> ?_) fun _=> ?_)
  ·have:=of_decide_eq_true h;rw[gQ] at this;omega
  ·rw[List.drop_of_length_le (by omega),List.foldl_nil] at hK
   rw[s9];exact hK
 |succ n ih=>
  intro i q hn hi hK
  have As:i<t.attrs.length:=by omega
  have w:IntKind.wrap .i64 ((i:Int)+1)=((i+1:Nat):Int):=wr (by omega) (by omega)
  obtain⟨g1,g2⟩:=oV As;rw[List.drop_eq_getElem_cons As,List.foldl_cons] at hK
  refine mU hT (AA (fun _=>AF g2 ⟨_,_,_,g1,k,_,_,_,rfl,AA (fun hf=>AF g2 ⟨_,_,_,g1,_,_,a,q.1,q.2,rfl,rfl,AF (Xp l t.attrs) ?_⟩) fun hf=>AF (Xp l t.attrs) ?_⟩) fun h=> ?_)
  ·rw[hf,cond_true] at hK;rw[w]
   exact ih (i+1) _ (by omega) (by omega) hK
  ·rw[hf,cond_false] at hK;rw[w]
   exact ih (i+1) _ (by omega) (by omega) hK
  ·have:=of_decide_eq_false h;rw[gQ] at this;omega
theorem uH (l:List Tok)(lo:Int)(r:Hp)(hr:okB r=true):CP AI 78 (YU l lo r):=by
 refine Nq nC fun vs h K ht=> ?_
 obtain⟨k,a,pl,e,t,hl,rfl,rfl,hk⟩:=ht;refine⟨jv hr,?_⟩;rw[aV]
 have hv:AP 5 [] [.ptr 4 0,.int .i64 k,.agg (Ex.encT t)]=[.ptr 4 0,.int .i64 k,.agg (Ex.encT t)]:=by
  show [AV.ptr 4 0,.int .i64 k,.agg (AP 5 [] (Ex.encT t))]=_;rw[vT]
 rw[hv];have hT:=AX (AG o9 AN)
 refine t78 hT ⟨k,rfl,gM hl t.attrs.length 0 (Ml k==[]) (by omega) (by omega) ?_⟩
 rw[List.drop_zero];unfold EC Gf at hk
 refine qW (AX (AG (eZ l lo [.mem 95 (Ex.encT t)] rfl) AN)) (AA (fun hf=>⟨_,_,a,pl,e,rfl,rfl,?_⟩) fun hf=> ?_)
 ·rw[hf,cond_true] at hk
  exact mT cG (Xq hl t.attrs.length 0 _ (by omega) (by omega) hk)
 ·rw[hf,cond_false] at hk
  exact mT cG (Xq hl t.attrs.length 0 (pl,e) (by omega) (by omega) hk)
end Go.Proofs.YtopjpnhgnopbiaaGreatDoor.Rx
end
section
namespace Go.Proofs.YtopjpnhgnopbiaaGreatDoor.Rx
open Go.Ai Go Go.Ai.Sp Go.Ai.Ex
set_option maxRecDepth 100000
theorem sB (n:Nat)(h:Hp)(l:List Go.Ai.A8):AB n h (l.map Go.Ai.Ao)=l.map Go.Ai.Ao:=A9 n h _ (FJ l)
theorem sN (n:Nat)(h:Hp)(l:List Nd):AB n h (Ac l)=Ac l:=A9 n h _ (FI l)
theorem nD :Qf AI 50 Tryz.f50 5:=⟨by kernel_rfl,by kernel_rfl,by kernel_rfl,by kernel_rfl,by kernel_rfl,by kernel_rfl,by kernel_rfl⟩
def bc (t:Tok)(k:Int):Hp:=[.mem 95 (Ex.encT t),.grow 0 3 80,.grow 0 5 26,.mem 26 [.int .i64 0,.int .i64 0,.str [],.sl 3 [] (some 6),.sl 5 [] (some 7)],.grow 0 3 80,.grow 0 5 26,.grow 0 3 80,.grow 0 5 26,
 .mem 26 [.int .i64 k,.int .i64 t.fr,.str [],.sl 3 (encAs t.attrs) none,.sl 5 [] (some 10)]]
def f50 (d:Nat)(k:Int)(sm:Bool):Fr:=[(0,true,.ptr 4 0),(4,true,.int .i64 d),(6,true,.ptr 5 0),(10,true,.ptr 8 0),(11,true,.int .i64 k),(12,true,.ptr 13 0),(13,true,.bool sm)]
abbrev St (K:AV->Hp->Prop)(p:List Nat)(F:Fr)(h:Hp):Prop:=AE AI 50 (AD Tryz.f50) (AQ Tryz.prog Tryz.f50 5 K) [.code p] .normal F h
section
variable {K:AV->Hp->Prop}{l:List Tok}{a lo:Int}{t:Tok}{N d:Nat}{k i la:Int}
theorem rj {q:Int×Int}(sm:Bool)(hK:St K [1,1,1,1,1,1] (f50 d k sm) (hR (l.map AJ) a lo (bif (sm !=(t.kind==3))|| !HR k i la then fE t.fr 13 q.1 q.2 else q).1 (bif (sm !=(t.kind==3))|| !HR k i la then fE t.fr 13 q.1 q.2 else q).2++bc t k)):
  St K [1,1,1,1,1] [(0,true,.ptr 4 0),(2,true,.int .i64 i),(3,true,.int .i64 la),(4,true,.int .i64 d),(6,true,.ptr 5 0),(10,true,.ptr 8 0),(11,true,.int .i64 k),(12,true,.ptr 13 0),(13,true,.bool sm)] (hR (l.map AJ) a lo q.1 q.2++bc t k):=by
 have hT:=AX (AG yN (AG (eZ l lo (bc t k) rfl) AN))
 refine qb hT (AA (fun h=>⟨_,_,a,q.1,q.2,rfl,rfl,?_⟩) fun h=>⟨k,i,la,rfl,AA (fun h2=>⟨_,_,a,q.1,q.2,rfl,rfl,?_⟩) fun h2=> ?_⟩)
 ·have h:(sm !=(t.kind==3))=true:=h;rw[h,Bool.true_or,cond_true] at hK;exact hK
 ·have h:(sm !=(t.kind==3))=false:=h;rw[h,h2,Bool.or_true,cond_true] at hK;exact hK
 ·have h:(sm !=(t.kind==3))=false:=h;rw[h,h2,Bool.or_false,cond_false] at hK;exact hK
theorem ri {q:Int×Int}(sm:Bool)(hK:St K [1,1,1,1,1,1,1] (f50 d k sm) (hR (l.map AJ) a lo (bif decide (16<d) then fE t.fr 3 q.1 q.2 else q).1 (bif decide (16<d) then fE t.fr 3 q.1 q.2 else q).2++bc t k)):
  St K [1,1,1,1,1,1] (f50 d k sm) (hR (l.map AJ) a lo q.1 q.2++bc t k):=by
 have hT:=AX (AG (eZ l lo (bc t k) rfl) AN)
 refine qa hT (AA (fun h=>⟨_,_,a,q.1,q.2,rfl,rfl,?_⟩) fun h=> ?_)
 ·have h:decide (16<d)=true:=decide_eq_true (by have:=of_decide_eq_true h;omega)
  rw[h,cond_true] at hK;exact hK
 ·have h:decide (16<d)=false:=decide_eq_false (by have:=of_decide_eq_false h;omega)
  rw[h,cond_false] at hK;exact hK
theorem rh {q:Int×Int}(sm:Bool)(hl:t.attrs.length<=limE)(hK:St K [1,1,1,1,1,1,1,1] [(0,true,.ptr 4 0),(4,true,.int .i64 d),(10,true,.ptr 8 0),(12,true,.ptr 13 0),(13,true,.bool sm)] (hR (l.map AJ) a lo (bif k==14 then q else EC k t.fr t.attrs q).1 (bif k==14 then q else EC k t.fr t.attrs q).2++bc t k)):
  St K [1,1,1,1,1,1,1] (f50 d k sm) (hR (l.map AJ) a lo q.1 q.2++bc t k):=by
 have hT:=AX (AG (uH l lo (bc t k) rfl) AN)
 refine qZ hT (AA (fun h=>⟨k,a,q.1,q.2,t,hl,rfl,rfl,?_⟩) fun h=> ?_)
 ·have h:(k==14)=false:=by simpa[bne] using h
  rw[h,cond_false] at hK;exact hK
 ·have h:(k==14)=true:=by simpa[bne] using h
  rw[h,cond_true] at hK;exact hK
end
theorem ou {N:Nat}(hF:∀l lo r,okB r=true->CP AI 20 (SZ N l lo r))(l:List Tok)(lo:Int)(r:Hp)(hr:okB r=true):CP AI 50 (Ew N l lo r):=by
 refine Nq nD fun vs h K ht=> ?_
 obtain⟨t,i,la,d,f,s,hN,hf,BD,hm,hk,hd,rfl,rfl,hK⟩:=ht;refine⟨jv hr,?_⟩;unfold Sp.hT at hK⊢;rw[aV]
 have hv:AP 5 [] [.ptr 4 0,.agg (Ex.encT t),.int .i64 i,.int .i64 la,.int .i64 d]=[.ptr 4 0,.agg (Ex.encT t),.int .i64 i,.int .i64 la,.int .i64 d]:=by
  show [AV.ptr 4 0,.agg (AP 5 [] (Ex.encT t)),.int .i64 i,.int .i64 la,.int .i64 d]=_;rw[vT]
 rw[hv];have hl:=(BD.tok t hm).2.1
 have QD:∀s2:Rs,s2=Sp.FA t i la d s->s2.l=s.l->St (fun v h1=>K v (h1++(hR (l.map AJ) ((l.length-s.l.length:Nat):Int) lo s.pl s.e++r).drop 5)) [1,1,1,1,1,1,1,1] [(0,true,.ptr 4 0),(4,true,.int .i64 d),(10,true,.ptr 8 0),(12,true,.ptr 13 0),(13,true,.bool (CD (Cc t)))]
   (hR (l.map AJ) ((l.length-s.l.length:Nat):Int) lo s2.pl s2.e++bc t (Cc t)):=by
  intro s2 h2 oT;have hT:=AX (AG (hF l lo [.grow 0 3 80,.grow 0 5 26,.mem 26 [.int .i64 (Cc t),.int .i64 t.fr,.str [],.sl 3 (encAs t.attrs) none,.sl 5 [] (some 10)]] rfl) AN);unfold DN at hK;rw[<-h2] at hK
  have stop:∀q:Bool,CD (Cc t)=q->(CD (Cc t)|| !(s2.e==0))=true->K (.agg [.int .i64 (Cc t),.int .i64 t.fr,.str [],.sl 3 (encAs t.attrs) none,.sl 5 [] none]) (hR (l.map AJ) ((l.length-s.l.length:Nat):Int) lo s2.pl s2.e++r):=by
   intro q _ hq;rw[hq] at hK;have:=hK (Ff t) s2 rfl;rw[oT] at this;rw[Hb];exact this
  refine qY hT (AA (fun h=> ?_) fun h=>AA (fun h3=> ?_) fun h3=>⟨Ff t,t,d,f,s2,rfl,by rw[oT];exact hN,by rw[oT];exact hf,⟨by rw[oT];exact BD.ml,BD.len,BD.tok⟩,?_,?_,?_,fun n' s' FC=> ?_⟩)
  ·rw[sA,s9]
   exact stop true h (by rw[h];rfl)
  ·rw[sA,s9]
   exact stop false h (by rw[show(!(s2.e==0))=true from h3,Bool.or_true])
  ·have h3:(s2.e==0)=true:=by simpa[bne] using h3
   exact Zo (t:=t) (i:=i) (la:=la) (s:=s) (by rw[<-h2];exact eq_of_beq h3)
  ·rw[Hb];rfl
  ·rw[oT]
  ·have h3:(s2.e==0)=true:=by simpa[bne] using h3
   rw[h,h3] at hK;have:=hK n' s' FC;rw[sB,sN,s9];exact this
 have e1:=Sp.MS t i la d s;unfold Sp.FA at e1 QD;simp only at e1 QD;refine t50 (AX (AG vU AN)) ?_
 have go:St (fun v h1=>K v (h1++(hR (l.map AJ) ((l.length-s.l.length:Nat):Int) lo s.pl s.e++r).drop 5)) [1,1,1,1,1] [(0,true,.ptr 4 0),(2,true,.int .i64 i),(3,true,.int .i64 la),(4,true,.int .i64 d),(6,true,.ptr 5 0),(10,true,.ptr 8 0),(11,true,.int .i64 (Cc t)),(12,true,.ptr 13 0),(13,true,.bool (CD (Cc t)))] (hR (l.map AJ) ((l.length-s.l.length:Nat):Int) lo s.pl s.e++bc t (Cc t)):=by
  refine rj (q:=(s.pl,s.e)) _ (ri _ (rh _ hl ?_));have fin:=QD _ rfl e1
  cases hb:(CD (Cc t) !=(t.kind==3))|| !HR (Cc t) i la<;>cases hd:decide (16<d)<;>cases pg:Cc t==14<;>(rw[hb,hd,pg] at fin;exact fin)
 refine AA (fun h5=>⟨t.name,rfl,AA (fun h3=> ?_) fun h3=> ?_⟩) fun h5=> ?_
 ·have h5:(t.kind==5)=false:=by simpa[bne] using h5
  have e:Cc t=Ga t.name:=by unfold Cc;rw[h5];rfl
  rw[e] at go;unfold CD at go;rw[h3] at go;exact go
 ·have h5:(t.kind==5)=false:=by simpa[bne] using h5
  have e:Cc t=Ga t.name:=by unfold Cc;rw[h5];rfl
  rw[e] at go;unfold CD at go;rw[h3] at go;exact go
 ·have h5:(t.kind==5)=true:=by simpa[bne] using h5
  have e:Cc t=14:=by unfold Cc;rw[h5];rfl
  rw[e] at go;exact go
end Go.Proofs.YtopjpnhgnopbiaaGreatDoor.Rx
end
section
namespace Go.Proofs.YtopjpnhgnopbiaaGreatDoor.Rx
open Go.Ai Go Go.Ai.Sp Go.Ai.Ex
set_option maxRecDepth 100000
theorem Hy (ks:List Nd)(k:Nd):Ac (ks++[k])=Ac ks++[PW k]:=by
 rw[Dx,Dx,List.map_append];rfl
def w9 (t:Tok):AV:=if t.kind=7 then .sl 0 [] none else .sl 3 (encAs t.attrs) none
theorem YM (t:Tok):AJ t=[.int .i64 t.kind,.str t.name,w9 t,.str t.text,.int .i64 t.fr,.int .i64 t.to]:=by
 unfold AJ w9;split
 ·rename_i h;rw[h]
 ·rfl
theorem sK (n:Nat)(h:Hp)(k:Nd):AB n h [Mk k]=[Mk k]:=by
 have e:Mk k=PW k:=(Gt k).symm;rw[e]
 exact A9 n h _ (by simp only[AZ.BX,JD,Bool.and_true])
theorem fX {t:Tok}(h:t.kind≠7):w9 t=.sl 3 (encAs t.attrs) none:=if_neg h
theorem Tp {l:List Tok}{s s':Rs}(h:Iy l s)(e:∃p,s.l=p++s'.l):Iy l s':=by
 obtain⟨p,hp⟩:=h.ml;obtain⟨q,hq⟩:=e
 exact⟨⟨p++q,by rw[hp,hq,List.append_assoc]⟩,h.len,h.tok⟩
theorem read {l:List Tok}{s:Rs}{t:Tok}{r:List Tok}(h:Iy l s)(hl:s.l=t::r):
  Bm (l.map AJ) ((l.length-s.l.length:Nat):Int)=AJ t/\(C7 ((l.length-s.l.length:Nat):Int) (l.map AJ).length&&true&&true)=true/\(((l.length-s.l.length:Nat):Int)==((l.map AJ).length:Int))=false/\
  IntKind.wrap .i64 (((l.length-s.l.length:Nat):Int)+1)=((l.length-r.length:Nat):Int)/\t∈l:=by
 obtain⟨p,hp⟩:=h.ml;have hlen:l.length<=1000000:=h.len;rw[hl] at hp
 have hn:l.length=p.length+(r.length+1):=by rw[hp];simp
 have hi:l.length-s.l.length=p.length:=by rw[hl,List.length_cons];omega
 rw[hi]
 have As:p.length<l.length:=by omega
 refine⟨?_,?_,?_,?_,?_⟩
 ·rw[CF AJ l As]
  congr 1
  simp[hp]
 ·rw[List.length_map,Au As];rfl
 ·rw[List.length_map]
  exact beq_eq_false_iff_ne.2 (by omega)
 ·exact wr (by omega) (by omega)
 ·rw[hp];simp
theorem Ui {lo:Int}{f:Nat}{n:Nd}{la:Int}{d:Nat}{s:Rs}(he:s.e=0)(hl:s.l=[]):Bu lo (f+1) n la d s=(n,bif n.kind==1 then s else DV lo 14 s):=by
 rw[Bu,he,hl];rfl
theorem YH {lo:Int}{f:Nat}{n:Nd}{la:Int}{d:Nat}{s:Rs}{t:Tok}{r:List Tok}(he:s.e=0)(hl:s.l=t::r):Bu lo (f+1) n la d s=
  bif t.kind==4||t.kind==6 then(n,bif Jb t n.kind la then DV t.fr 13 ⟨r,s.pl,s.e⟩ else⟨r,s.pl,s.e⟩)
  else bif t.kind==7 then Bu lo f (.mk n.kind n.pl t.text n.attrs n.kids) la d ⟨r,s.pl,s.e⟩
  else bif t.kind==1 then
   (bif !(n.kind==7)&& !(n.kind==10) then Bu lo f (EJ n (.mk 2 t.fr t.text [] [])) la d ⟨r,s.pl,s.e⟩
   else bif (BZ t.text).isEmpty then Bu lo f n la d ⟨r,s.pl,s.e⟩ else Bu lo f n la d (DV ((t.fr:Int)+CL t.text) 13 ⟨r,s.pl,s.e⟩))
  else Bu lo f (EJ n (DN lo f t n.kind la (d+1) ⟨r,s.pl,s.e⟩).1) (DN lo f t n.kind la (d+1) ⟨r,s.pl,s.e⟩).1.kind d (DN lo f t n.kind la (d+1) ⟨r,s.pl,s.e⟩).2:=by
 rw[Bu,he,hl];rfl
theorem Pf {t:Tok}{k la:Int}{F R:Prop}(h:(Jb t k la=true->F)/\(Jb t k la=false->R)):
  Ad (!Dy t k) F (Ad (k==7) (Ad (la !=9) F (Ad (k==10) (Ad (la==0) F R) R)) (Ad (k==10) (Ad (la==0) F R) R)):=by
 unfold Jb at h;simp only[bne];revert h;generalize Dy t k=b1;generalize (k==7)=b2;generalize (la==9)=b3;generalize (k==10)=b4;generalize (la==0)=b5
 rintro⟨h1,h2⟩
 cases b1<;>cases b2<;>cases b3<;>cases b4<;>cases b5<;>first|exact h1 rfl|exact h2 rfl
theorem Yn (s:List UInt8):decide (CL s>=0)=!(BZ s).isEmpty:=by
 unfold CL
 cases (BZ s).isEmpty with
 |true=>rfl
 |false=>
  rw[cond_false];exact decide_eq_true (Int.natCast_nonneg _)
theorem RZ {h:Hp}{n id:Nat}(hh:h[id]?=some (.grow n 5 26))(hn:n<=1000000):(Bf h n 5 26 (some id)&&true&&true&&true&&decide ((n+1)*80<=140737488355328)&&true&&true)=true:=by
 rw[show Bf h n 5 26 (some id)=true by simp[Bf,hh,Nat.beq_refl],decide_eq_true (by omega)];rfl
def iY (i:Nat):Blk:=.mem 26 [.int .i64 0,.int .i64 0,.str [],.sl 3 [] (some i),.sl 5 [] (some (i+1))]
section
variable {K:AV->Hp->Prop}{l:List Tok}{lo:Int}{t0:Tok}{d N:Nat}
abbrev TB (K:AV->Hp->Prop)(st:List Fm)(F:Fr)(h:Hp):Prop:=AE AI 20 (AD Tryz.f20) (AQ Tryz.prog Tryz.f20 11 K) st .normal F h
def rB (t0:Tok)(n:Nd):Hp:=hC t0 (Ac n.kids).length++[.mem 26 (Ie n none 10),.grow 0 3 80,.grow 0 5 26,iY 12]
def fB (d:Nat)(la:Int):Fr:=[(0,true,.ptr 4 0),(2,true,.int .i64 d),(4,true,.ptr 11 0),(6,true,.ptr 14 0),(7,true,.int .i64 la)]
abbrev Fx (t:Tok):Blk:=.mem 95 [.int .i64 t.kind,.str t.name,w9 t,.str t.text,.int .i64 t.fr,.int .i64 t.to]
abbrev LB (K:AV->Hp->Prop)(l:List Tok)(lo:Int)(t0:Tok)(d:Nat)(n:Nd)(la:Int)(s:Rs):Prop:=TB K [.code [0,0,1,1],.block 0,.code [1,1,1]] (fB d la) (Sp.hT l lo s++rB t0 n)
def KB (K:AV->Hp->Prop)(l:List Tok)(lo:Int)(t0:Tok)(R:Nd×Rs):Prop:=K (.agg (Ie R.1 none 10)) (Sp.hT l lo R.2++hC t0 (Ac R.1.kids).length)
theorem iR {n:Nd}{t:Tok}{la:Int}{s:Rs}(ht:VZ t)(hx:t.text.length<=limE)(h1:t.kind=1)(hn:n.kids.length<=limE)(KU:t.fr<=limE)
  (hL:(bif !(n.kind==7)&& !(n.kind==10) then LB K l lo t0 d (EJ n (.mk 2 t.fr t.text [] [])) la s else bif (BZ t.text).isEmpty then LB K l lo t0 d n la s else LB K l lo t0 d n la (DV ((t.fr:Int)+CL t.text) 13 s)))
  (hT:AK AI (Af [(47,FQ l lo (rB t0 n++[Fx t])),(48,Gk),(49,Hk),(50,Ew N l lo (rB t0 n++[Fx t]))])):
  TB K [.code [1,1,1,1,0,1,0,0,0,1,1],.block 1,.loop [0,0,1,1] 15,.block 0,.code [1,1,1]] (fB d la++[(8,true,.ptr 15 0),(54,true,.int .i64 t.kind)]) (Sp.hT l lo s++(rB t0 n++[Fx t])):=by
 have IM:t.text.length<=1000000:=hx;have xO:t.fr<=1000000:=KU;have kY:n.kids.length<=1000000:=hn
 have e4:(t.kind==4)=false:=beq_eq_false_iff_ne.2 (by omega)
 have e6:(t.kind==6)=false:=beq_eq_false_iff_ne.2 (by omega)
 have e7:(t.kind==7)=false:=beq_eq_false_iff_ne.2 (by omega)
 have e1:(t.kind==1)=true:=by rw[h1];rfl
 have yr:CL t.text<=1000000/\-1<=CL t.text:=by
  unfold CL;cases (BZ t.text).isEmpty
  ·rw[cond_false];constructor<;>omega
  ·rw[cond_true];constructor<;>omega
 have hw:IntKind.wrap .i64 ((t.fr:Int)+CL t.text)=(t.fr:Int)+CL t.text:=Bx (by omega) (by omega)
 have stay:∀q:Bool,decide (CL t.text>=0)=q->(bif (BZ t.text).isEmpty then LB K l lo t0 d n la s else LB K l lo t0 d n la (DV ((t.fr:Int)+CL t.text) 13 s))->(q=true->LB K l lo t0 d n la (DV ((t.fr:Int)+CL t.text) 13 s))/\(q=false->LB K l lo t0 d n la s):=by
  intro q hq hh;rw[Yn] at hq
  cases hb:(BZ t.text).isEmpty with
  |true=>rw[hb] at hq hh;exact⟨fun h=>(by rw[h] at hq;cases hq),fun _=>hh⟩
  |false=>rw[hb] at hq hh;exact⟨fun _=>hh,fun h=>by rw[h] at hq;cases hq⟩
 refine XU hT (AA (fun h=>absurd (e4.symm.trans h) (by decide)) fun _=>AA (fun h=>absurd (e6.symm.trans h) (by decide)) fun _=>AA (fun h=>absurd (e7.symm.trans h) (by decide)) fun _=>AA (fun _=>⟨t.text,hx,rfl,?_⟩) fun h=>absurd (e1.symm.trans h) (by decide))
 have inner:(bif (BZ t.text).isEmpty then LB K l lo t0 d n la s else LB K l lo t0 d n la (DV ((t.fr:Int)+CL t.text) 13 s))->∀{G:Prop},((decide (CL t.text>=0)=true->LB K l lo t0 d n la (DV ((t.fr:Int)+CL t.text) 13 s))/\(decide (CL t.text>=0)=false->LB K l lo t0 d n la s)->G)->G:=fun hh G g=>g (stay _ rfl hh)
 refine AA (fun h7=>AA (fun Pt=> ?_) fun Pt=> ?_) fun h7=> ?_
 ·have h7:(n.kind==7)=false:=by simpa[bne] using h7
  have Pt:(n.kind==10)=false:=by simpa[bne] using Pt
  rw[h7,Pt] at hL;have hL:LB K l lo t0 d (EJ n (.mk 2 t.fr t.text [] [])) la s:=hL;unfold LB rB Ie at hL;rw[Cn,Hy,List.length_append] at hL
  refine AF (RZ rfl (by rw[Be];exact kY)) ?_
  rw[Lx.Cb,sN,s9,sA,sB];exact hL
 ·have h7:(n.kind==7)=false:=by simpa[bne] using h7
  have Pt:(n.kind==10)=true:=by simpa[bne] using Pt
  rw[h7,Pt] at hL
  refine inner hL fun⟨g1,g2⟩=>AA (fun hs=>⟨_,_,_,s.pl,s.e,rfl,rfl,?_⟩) fun hs=> ?_
  ·rw[hw,sN,s9,sA,sB];exact g1 hs
  ·rw[sN,s9,sA,sB];exact g2 hs
 ·have h7:(n.kind==7)=true:=by simpa[bne] using h7
  rw[h7] at hL
  refine inner hL fun⟨g1,g2⟩=>AA (fun hs=>⟨_,_,_,s.pl,s.e,rfl,rfl,?_⟩) fun hs=> ?_
  ·rw[hw,sN,s9,sA,sB];exact g1 hs
  ·rw[sN,s9,sA,sB];exact g2 hs
theorem lI {n:Nd}{t:Tok}{la:Int}{s:Rs}(aB:t.kind=4\/t.kind=6)(hK:KB K l lo t0 (n,bif Jb t n.kind la then DV t.fr 13 s else s))
  (hT:AK AI (Af [(47,FQ l lo (rB t0 n++[Fx t])),(48,Gk),(49,Hk),(50,Ew N l lo (rB t0 n++[Fx t]))])):
  TB K [.code [1,1,1,1,0,1,0,0,0,1,1],.block 1,.loop [0,0,1,1] 15,.block 0,.code [1,1,1]] (fB d la++[(8,true,.ptr 15 0),(54,true,.int .i64 t.kind)]) (Sp.hT l lo s++(rB t0 n++[Fx t])):=by
 have hw:strip 0 [] (w9 t)=.sl 3 (encAs t.attrs) none:=by
  rw[fX (by omega)]
  show AV.sl 3 (AB 0 [] (encAs t.attrs)) none=_;rw[sA]
 have fin:(Jb t n.kind la=true->KB K l lo t0 (n,DV t.fr 13 s))/\(Jb t n.kind la=false->KB K l lo t0 (n,s)):=by
  constructor<;>intro h<;>(rw[h] at hK;exact hK)
 obtain⟨f1,f2⟩:=fin
 refine XU hT (AA (fun _=>⟨t,n.kind,by rw[hw],Pf ⟨fun hb=>⟨_,_,_,s.pl,s.e,rfl,rfl,?_⟩,fun hb=> ?_⟩⟩) fun h4=>AA (fun _=>⟨t,n.kind,by rw[hw],Pf ⟨fun hb=>⟨_,_,_,s.pl,s.e,rfl,rfl,?_⟩,fun hb=> ?_⟩⟩) fun h6=> ?_)
 ·rw[sB,sN,s9,sA];exact f1 hb
 ·rw[sB,sN,s9,sA];exact f2 hb
 ·rw[sB,sN,s9,sA];exact f1 hb
 ·rw[sB,sN,s9,sA];exact f2 hb
 ·have:=beq_eq_false_iff_ne.1 h4;have:=beq_eq_false_iff_ne.1 h6;omega
theorem q6 {n:Nd}{t:Tok}{la:Int}{s:Rs}(h7:t.kind=7)(hL:LB K l lo t0 d (.mk n.kind n.pl t.text n.attrs n.kids) la s)
  (hT:AK AI (Af [(47,FQ l lo (rB t0 n++[Fx t])),(48,Gk),(49,Hk),(50,Ew N l lo (rB t0 n++[Fx t]))])):
  TB K [.code [1,1,1,1,0,1,0,0,0,1,1],.block 1,.loop [0,0,1,1] 15,.block 0,.code [1,1,1]] (fB d la++[(8,true,.ptr 15 0),(54,true,.int .i64 t.kind)]) (Sp.hT l lo s++(rB t0 n++[Fx t])):=by
 have e4:(t.kind==4)=false:=beq_eq_false_iff_ne.2 (by omega)
 have e6:(t.kind==6)=false:=beq_eq_false_iff_ne.2 (by omega)
 have e7:(t.kind==7)=true:=by rw[h7];rfl
 refine XU hT (AA (fun h=>absurd (e4.symm.trans h) (by decide)) fun _=>AA (fun h=>absurd (e6.symm.trans h) (by decide)) fun _=>AA (fun _=> ?_) fun h=>absurd (e7.symm.trans h) (by decide))
 rw[sN,s9,sA,sB];exact hL
theorem qM {n:Nd}{t:Tok}{la:Int}{s:Rs}{f:Nat}(hk:t.kind=2\/t.kind=3\/t.kind=5)(hm:t∈l)(hN:s.l.length<N)(hf:s.l.length<f)(BD:Iy l s)(hd:d<=16)(hn:n.kids.length<=limE)
  (hL:LB K l lo t0 d (EJ n (DN lo f t n.kind la (d+1) s).1) (DN lo f t n.kind la (d+1) s).1.kind (DN lo f t n.kind la (d+1) s).2)
  (hT:AK AI (Af [(47,FQ l lo (rB t0 n++[Fx t])),(48,Gk),(49,Hk),(50,Ew N l lo (rB t0 n++[Fx t]))])):
  TB K [.code [1,1,1,1,0,1,0,0,0,1,1],.block 1,.loop [0,0,1,1] 15,.block 0,.code [1,1,1]] (fB d la++[(8,true,.ptr 15 0),(54,true,.int .i64 t.kind)]) (Sp.hT l lo s++(rB t0 n++[Fx t])):=by
 have kY:n.kids.length<=1000000:=hn
 have e4:(t.kind==4)=false:=beq_eq_false_iff_ne.2 (by omega)
 have e6:(t.kind==6)=false:=beq_eq_false_iff_ne.2 (by omega)
 have e7:(t.kind==7)=false:=beq_eq_false_iff_ne.2 (by omega)
 have e1:(t.kind==1)=false:=beq_eq_false_iff_ne.2 (by omega)
 have hw:IntKind.wrap .i64 ((d:Int)+1)=((d+1:Nat):Int):=wr (by omega) (by omega)
 refine XU hT (AA (fun h=>absurd (e4.symm.trans h) (by decide)) fun _=>AA (fun h=>absurd (e6.symm.trans h) (by decide)) fun _=>AA (fun h=>absurd (e7.symm.trans h) (by decide)) fun _=>AA (fun h=>absurd (e1.symm.trans h) (by decide)) fun _=>⟨t,n.kind,la,d+1,f,s,hN,hf,BD,hm,hk,by omega,by rw[hw,fX (by omega)],rfl,fun k s' VO=> ?_⟩)
 rw[VO] at hL;unfold LB rB Ie at hL;simp only at hL;rw[Cn,Hy,List.length_append,Gt] at hL
 refine AF (RZ rfl (by rw[Be];exact kY)) ?_
 rw[Lx.Cb,sN,sK,s9,sA,sB];exact hL
end
end Go.Proofs.YtopjpnhgnopbiaaGreatDoor.Rx
end
section
namespace Go.Proofs.YtopjpnhgnopbiaaGreatDoor.Rx
open Go.Ai Go Go.Ai.Sp Go.Ai.Ex
set_option maxRecDepth 100000
theorem Sj {l:List Tok}{s:Rs}(BD:Iy l s):(s.l=[]/\(((l.length-s.l.length:Nat):Int)==((l.map AJ).length:Int))=true)\/∃t r,s.l=t::r:=by
 cases h:s.l with
 |nil=>exact .inl ⟨rfl,by simp⟩
 |cons t r=>exact .inr ⟨t,r,rfl⟩
section
variable {K:AV->Hp->Prop}{l:List Tok}{lo:Int}{t0:Tok}{d N:Nat}
theorem ig (gu:∀l lo r,okB r=true->CP AI 50 (Ew N l lo r))(hd:d<=16):∀(f:Nat) (n:Nd) (la:Int) (s:Rs),s.l.length<f->s.l.length<=N->Iy l s->n.kids.length+s.l.length<=l.length->
  KB K l lo t0 (Bu lo f n la d s)->LB K l lo t0 d n la s
 |0,_,_,_,h,_,_,_,_=>absurd h (Nat.not_lt_zero _)
 |f+1,n,la,s,hf,hN,BD,hlen,hK=>by
  have ih:=ig gu hd f;have ga:l.length<=limE:=BD.len;have hT:=AX (AG (eZ l lo (rB t0 n) rfl) AN)
  have fin:∀s2:Rs,KB K l lo t0 (n,s2)->KB K l lo t0 (n,s2):=fun _ h=>h
  refine mi hT (AA (fun he=>AA (fun ha=> ?_) fun ha=> ?_) fun he=> ?_)
  ·have he:=eq_of_beq he
   rcases Sj BD with ⟨hl,_⟩|⟨t,r,hl⟩
   ·rw[Ui he hl] at hK
    refine AA (fun hk=>⟨_,_,_,s.pl,s.e,rfl,rfl,?_⟩) fun hk=> ?_
    ·have hk:(n.kind==1)=false:=by simpa[bne] using hk
     rw[hk] at hK;rw[sB,sN,s9,sA];exact hK
    ·have hk:(n.kind==1)=true:=by simpa[bne] using hk
     rw[hk] at hK;rw[sB,sN,s9,sA];exact hK
   ·obtain⟨_,_,h3,_⟩:=read BD hl
    exact absurd (h3.symm.trans ha) (by decide)
  ·have he:=eq_of_beq he
   rcases Sj BD with ⟨hl,h1⟩|⟨t,r,hl⟩
   ·exact absurd (ha.symm.trans h1) (by decide)
   ·obtain⟨q1,q2,_,q4,q5⟩:=read BD hl;have ht:=BD.tok t q5
    have hr:s.l.length=r.length+1:=by rw[hl];rfl
    have Oz:Iy l ⟨r,s.pl,s.e⟩:=Tp BD ⟨[t],by rw[hl];rfl⟩
    have gq:=AX (AG (eZ l lo (rB t0 n++[Fx t]) rfl) (AG ov (AG c49 (AG (gu l lo (rB t0 n++[Fx t]) rfl) AN))));refine AF q2 ⟨_,_,_,_,_,_,q1.trans (YM t),?_⟩;rw[q4];rw[YH he hl] at hK
    by_cases aB:t.kind=4\/t.kind=6
    ·have eJ:((t.kind==4)||(t.kind==6))=true:=by rcases aB with h|h<;>rw[h]<;>rfl
     rw[eJ,cond_true] at hK;exact lI (s:=⟨r,s.pl,s.e⟩) aB hK gq
    ·have eJ:((t.kind==4)||(t.kind==6))=false:=by rw[beq_eq_false_iff_ne.2 (by omega),beq_eq_false_iff_ne.2 (by omega)];rfl
     rw[eJ,cond_false] at hK
     by_cases h7:t.kind=7
     ·rw[h7] at hK
      exact q6 (s:=⟨r,s.pl,s.e⟩) h7 (ih _ la ⟨r,s.pl,s.e⟩ (show r.length<f by omega) (show r.length<=N by omega) Oz (show n.kids.length+r.length<=l.length by omega) hK) gq
     ·rw[beq_eq_false_iff_ne.2 h7,cond_false] at hK
      by_cases h1:t.kind=1
      ·have e1:(t.kind==1)=true:=by rw[h1];rfl
       rw[e1,cond_true] at hK
       refine iR (s:=⟨r,s.pl,s.e⟩) ht.1 ht.2.2.1 h1 (by omega) (by have:=ht.2.2.2.1;have:=ht.1.2.2.1;omega) ?_ gq
       cases YC: !(n.kind==7)&& !(n.kind==10) with
       |true=>
        rw[YC,cond_true] at hK
        exact ih _ la ⟨r,s.pl,s.e⟩ (show r.length<f by omega) (show r.length<=N by omega) Oz (by rw[Cn,List.length_append];show n.kids.length+1+r.length<=l.length;omega) hK
       |false=>
        rw[YC,cond_false] at hK
        cases hb:(BZ t.text).isEmpty with
        |true=>
         rw[hb,cond_true] at hK
         exact ih n la ⟨r,s.pl,s.e⟩ (show r.length<f by omega) (show r.length<=N by omega) Oz (show n.kids.length+r.length<=l.length by omega) hK
        |false=>
         rw[hb,cond_false] at hK
         exact ih n la (DV _ 13 ⟨r,s.pl,s.e⟩) (show r.length<f by omega) (show r.length<=N by omega) (Tp Oz ⟨[],rfl⟩) (show n.kids.length+r.length<=l.length by omega) hK
      ·have hk:t.kind=2\/t.kind=3\/t.kind=5:=by have:=ht.1.1;omega
       rw[beq_eq_false_iff_ne.2 h1,cond_false] at hK;obtain⟨p,hp⟩:=RI (long:=lo) (f:=f) (t:=t) (i:=n.kind) (la:=la) (d:=d+1) (s:=⟨r,s.pl,s.e⟩);have hp:r=p++(DN lo f t n.kind la (d+1) ⟨r,s.pl,s.e⟩).2.l:=hp
       have fS:r.length=p.length+(DN lo f t n.kind la (d+1) ⟨r,s.pl,s.e⟩).2.l.length:=by
        have:=congrArg List.length hp
        rwa [List.length_append] at this
       refine qM (s:=⟨r,s.pl,s.e⟩) (f:=f) hk q5 (show r.length<N by omega) (show r.length<f by omega) Oz hd (by omega) ?_ gq
       exact ih _ _ _ (by omega) (by omega) (Tp Oz ⟨p,hp⟩) (by rw[Cn,List.length_append,List.length_singleton];omega) hK
  ·rw[HY he] at hK;rw[sB,sN,s9,sA];exact hK
theorem ia :Qf AI 20 Tryz.f20 11:=⟨by kernel_rfl,by kernel_rfl,by kernel_rfl,by kernel_rfl,by kernel_rfl,by kernel_rfl,by kernel_rfl⟩
theorem nF {l:List Tok}{s:Rs}{t:Tok}{r:Hp}(hr:okB r=true):HN 11 (Sp.hT l lo s++(hC t 0++r))=true:=by
 have h:(Sp.hT l lo s++(hC t 0++r)).all (fun b=>!HS b)=true:=by
  rw[List.all_append,List.all_append,show r.all (fun b=>!HS b)=true from hr];rfl
 have h2:Nat.ble 11 (Sp.hT l lo s++(hC t 0++r)).length=true:=Nat.ble_eq_true_of_le (by simp[Sp.hT,hR,hC])
 unfold HN;rw[h,h2];rfl
theorem jY (l:List Tok)(s:Rs)(t:Tok)(r:Hp):((Sp.hT l lo s++(hC t 0++r)).take 11).map (AL 11 [])=Sp.hT l lo s++hC t 0:=by
 show [Blk.grow 0 3 80,.grow 0 5 26,.mem 26 [.int .i64 0,.int .i64 0,.str [],.sl 3 [] (some 0),.sl 5 [] (some 1)],.grow 0 6 95,.mem 59 [.sl 6 (AB 11 [] (l.map AJ)) none,.int .i64 ((l.length-s.l.length:Nat):Int),.int .i64 lo,.int .i64 s.pl,.int .i64 s.e],
  .mem 95 (AP 11 [] (Ex.encT t)),.grow 0 3 80,.grow 0 5 26,.mem 26 [.int .i64 0,.int .i64 0,.str [],.sl 3 [] (some 6),.sl 5 [] (some 7)],.grow 0 3 80,.grow 0 5 26]=_
 rw[s9,vT];rfl
theorem uP (gu:∀l lo r,okB r=true->CP AI 50 (Ew N l lo r))(l:List Tok)(lo:Int)(r:Hp)(hr:okB r=true):CP AI 20 (SZ (N+1) l lo r):=by
 refine Nq ia fun vs h K ht=> ?_
 obtain⟨n,t,d,f,s,xE,hN,hf,BD,hd,rfl,rfl,hK⟩:=ht;refine⟨nF hr,?_⟩;rw[jY];obtain⟨k,p0,tx,al,ks⟩:=n;obtain rfl:ks=[]:=xE
 have hv:AP 11 [] [.ptr 4 0,.agg (Ie (.mk k p0 tx al []) none 10),.int .i64 d]=[.ptr 4 0,.agg (Ie (.mk k p0 tx al []) none 10),.int .i64 d]:=by
  show [AV.ptr 4 0,.agg [.int .i64 k,.int .i64 p0,.str tx,.sl 3 (AB 11 [] (al.map Go.Ai.Ao)) none,.sl 5 [] (some 10)],.int .i64 d]=_;rw[sB];rfl
 rw[hv]
 refine qq cG (ig gu hd f (.mk k p0 tx al []) 0 s hf (by omega) BD ?_ ?_)
 ·obtain⟨p,hp⟩:=BD.ml;have:=congrArg List.length hp;rw[List.length_append] at this;show 0+s.l.length<=l.length;omega
 ·have:=hK _ _ rfl;exact this
abbrev TA (K:AV->Hp->Prop)(st:List Fm)(F:Fr)(h:Hp):Prop:=AE AI 20 (AD Tryz.f20) (AQ Tryz.prog Tryz.f20 7 K) st .normal F h
def rA (tx:List UInt8)(ks:List Nd):Hp:=[.grow 0 3 80,.grow (Ac ks).length 5 26,.mem 26 [.int .i64 1,.int .i64 0,.str tx,.sl 3 [] (some 5),.sl 5 (Ac ks) (some 6)],.grow 0 3 80,.grow 0 5 26,iY 8]
def fA (la:Int):Fr:=[(0,true,.ptr 4 0),(2,true,.int .i64 0),(4,true,.ptr 7 0),(6,true,.ptr 10 0),(7,true,.int .i64 la)]
abbrev LA (K:AV->Hp->Prop)(l:List Tok)(lo:Int)(tx:List UInt8)(ks:List Nd)(la:Int)(s:Rs):Prop:=TA K [.code [0,0,1,1],.block 0,.code [1,1,1]] (fA la) (Sp.hT l lo s++rA tx ks)
def KA (K:AV->Hp->Prop)(l:List Tok)(lo:Int)(R:Nd×Rs):Prop:=K (.agg (Ie R.1 (some 5) 6)) (Sp.hT l lo R.2++[.grow 0 3 80,.grow (Ac R.1.kids).length 5 26])
theorem ij (gu:∀l lo r,okB r=true->CP AI 50 (Ew N l lo r)):∀(f:Nat) (tx:List UInt8) (ks:List Nd) (la:Int) (s:Rs),s.l.length<f->s.l.length<=N->Iy l s->ks.length+s.l.length<=l.length->
  KA K l lo (Bu lo f (.mk 1 0 tx [] ks) la 0 s)->LA K l lo tx ks la s
 |0,_,_,_,_,h,_,_,_,_=>absurd h (Nat.not_lt_zero _)
 |f+1,tx,ks,la,s,hf,hN,BD,hlen,hK=>by
  have ih:=ij gu f;have ga:l.length<=1000000:=BD.len;have hT:=AX (AG (eZ l lo (rA tx ks) rfl) AN)
  refine mj hT (AA (fun he=>AA (fun ha=> ?_) fun ha=> ?_) fun he=> ?_)
  ·have he:=eq_of_beq he
   rcases Sj BD with ⟨hl,_⟩|⟨t,r,hl⟩
   ·rw[Ui he hl] at hK;rw[sN,s9];exact hK
   ·obtain⟨_,_,h3,_⟩:=read BD hl
    exact absurd (h3.symm.trans ha) (by decide)
  ·have he:=eq_of_beq he
   rcases Sj BD with ⟨hl,h1⟩|⟨t,r,hl⟩
   ·exact absurd (ha.symm.trans h1) (by decide)
   ·obtain⟨q1,q2,_,q4,q5⟩:=read BD hl;have ht:=BD.tok t q5
    have hr:s.l.length=r.length+1:=by rw[hl];rfl
    have Oz:Iy l ⟨r,s.pl,s.e⟩:=Tp BD ⟨[t],by rw[hl];rfl⟩
    have gq:=AX (AG (eZ l lo (rA tx ks++[Fx t]) rfl) (AG ov (AG c49 (AG (gu l lo (rA tx ks++[Fx t]) rfl) AN))));refine AF q2 ⟨_,_,_,_,_,_,q1.trans (YM t),?_⟩;rw[q4];rw[YH he hl] at hK
    have go:∀{c:Int},t.kind=c->(t.kind==c)=true:=fun h=>by rw[h];exact beq_self_eq_true _
    have no:∀{c:Int} {G:Prop},t.kind≠c->(t.kind==c)=true->G:=fun h h2=>absurd (eq_of_beq h2) h
    have yes:∀{c:Int} {G:Prop},t.kind=c->(t.kind==c)=false->G:=fun h h2=>absurd h (beq_eq_false_iff_ne.1 h2)
    by_cases aB:t.kind=4\/t.kind=6
    ·have eJ:((t.kind==4)||(t.kind==6))=true:=by rcases aB with h|h<;>rw[h]<;>rfl
     rw[eJ,cond_true] at hK
     have hw:strip 0 [] (w9 t)=.sl 3 (encAs t.attrs) none:=by
      rw[fX (by omega)]
      show AV.sl 3 (AB 0 [] (encAs t.attrs)) none=_;rw[sA]
     have hb:Jb t 1 la=!Dy t 1:=by
      unfold Jb;simp
     have hK:KA K l lo (.mk 1 0 tx [] ks,bif Jb t 1 la then DV t.fr 13 ⟨r,s.pl,s.e⟩ else⟨r,s.pl,s.e⟩):=hK;rw[hb] at hK
     refine XV gq (AA (fun _=>⟨t,1,by rw[hw],AA (fun hc=>⟨_,_,_,s.pl,s.e,rfl,rfl,?_⟩) fun hc=> ?_⟩) fun h4=>AA (fun _=>⟨t,1,by rw[hw],AA (fun hc=>⟨_,_,_,s.pl,s.e,rfl,rfl,?_⟩) fun hc=> ?_⟩) fun h6=> ?_)
     ·rw[hc] at hK;rw[sN,s9];exact hK
     ·rw[hc] at hK;rw[sN,s9];exact hK
     ·rw[hc] at hK;rw[sN,s9];exact hK
     ·rw[hc] at hK;rw[sN,s9];exact hK
     ·rcases aB with h|h
      ·exact yes h h4
      ·exact yes h h6
    ·have eJ:((t.kind==4)||(t.kind==6))=false:=by rw[beq_eq_false_iff_ne.2 (by omega),beq_eq_false_iff_ne.2 (by omega)];rfl
     rw[eJ,cond_false] at hK
     have n4:t.kind≠4:=fun h=>aB (.inl h)
     have n6:t.kind≠6:=fun h=>aB (.inr h)
     by_cases h7:t.kind=7
     ·rw[h7] at hK
      have:=ih t.text ks la ⟨r,s.pl,s.e⟩ (show r.length<f by omega) (show r.length<=N by omega) Oz (show ks.length+r.length<=l.length by omega) hK
      refine XV gq (AA (no n4) fun _=>AA (no n6) fun _=>AA (fun _=> ?_) (yes h7))
      rw[sN,s9];exact this
     ·rw[beq_eq_false_iff_ne.2 h7,cond_false] at hK
      by_cases h1:t.kind=1
      ·have e1:(t.kind==1)=true:=by rw[h1];rfl
       rw[e1,cond_true] at hK;have hK:KA K l lo (Bu lo f (.mk 1 0 tx [] (ks++[.mk 2 t.fr t.text [] []])) la 0 ⟨r,s.pl,s.e⟩):=hK
       have:=ih tx (ks++[.mk 2 t.fr t.text [] []]) la ⟨r,s.pl,s.e⟩ (show r.length<f by omega) (show r.length<=N by omega) Oz (by rw[List.length_append];show ks.length+1+r.length<=l.length;omega) hK
       refine XV gq (AA (no n4) fun _=>AA (no n6) fun _=>AA (no h7) fun _=>AA (fun _=>⟨t.text,ht.2.2.1,rfl,AF (RZ rfl (by rw[Be];omega)) ?_⟩) (yes h1))
       unfold LA rA at this;rw[Hy,List.length_append] at this;rw[Lx.Cb,sN,s9];exact this
      ·have hk:t.kind=2\/t.kind=3\/t.kind=5:=by have:=ht.1.1;omega
       rw[beq_eq_false_iff_ne.2 h1,cond_false] at hK;obtain⟨p,hp⟩:=RI (long:=lo) (f:=f) (t:=t) (i:=1) (la:=la) (d:=0+1) (s:=⟨r,s.pl,s.e⟩);have hp:r=p++(DN lo f t 1 la (0+1) ⟨r,s.pl,s.e⟩).2.l:=hp
       have fS:r.length=p.length+(DN lo f t 1 la (0+1) ⟨r,s.pl,s.e⟩).2.l.length:=by
        have:=congrArg List.length hp
        rwa [List.length_append] at this
       have L:=ih tx (ks++[(DN lo f t 1 la (0+1) ⟨r,s.pl,s.e⟩).1]) (DN lo f t 1 la (0+1) ⟨r,s.pl,s.e⟩).1.kind (DN lo f t 1 la (0+1) ⟨r,s.pl,s.e⟩).2 (by omega) (by omega) (Tp Oz ⟨p,hp⟩) (by rw[List.length_append,List.length_singleton];omega) hK
       refine XV gq (AA (no n4) fun _=>AA (no n6) fun _=>AA (no h7) fun _=>AA (no h1) fun _=>⟨t,1,la,0+1,f,⟨r,s.pl,s.e⟩,show r.length<N by omega,show r.length<f by omega,Oz,q5,hk,by omega,by rw[fX (by omega)];rfl,rfl,fun k s' VO=> ?_⟩)
       rw[VO] at L;unfold LA rA at L;simp only at L;rw[Hy,List.length_append,Gt] at L
       refine AF (RZ rfl (by rw[Be];omega)) ?_
       rw[Lx.Cb,sN,sK,s9];exact L
  ·rw[HY he] at hK;rw[sN,s9];exact hK
theorem uQ (gu:∀l lo r,okB r=true->CP AI 50 (Ew N l lo r))(l:List Tok)(lo:Int):CP AI 20 (Wp (N+1) l lo):=by
 refine eV ia fun vs h K ht=> ?_
 obtain⟨f,s,hN,hf,BD,rfl,rfl,hK⟩:=ht;refine⟨rfl,?_⟩
 have e:((Sp.hT l lo s++[Blk.grow 0 3 80,.grow 0 5 26]).take 7).map (AL 7 [])=Sp.hT l lo s++[.grow 0 3 80,.grow 0 5 26]:=by
  show [Blk.grow 0 3 80,.grow 0 5 26,.mem 26 [.int .i64 0,.int .i64 0,.str [],.sl 3 [] (some 0),.sl 5 [] (some 1)],.grow 0 6 95,.mem 59 [.sl 6 (AB 7 [] (l.map AJ)) none,.int .i64 ((l.length-s.l.length:Nat):Int),.int .i64 lo,.int .i64 s.pl,.int .i64 s.e],.grow 0 3 80,.grow 0 5 26]=_;rw[s9];rfl
 have e2:Hm 11 (Sp.hT l lo s++[Blk.grow 0 3 80,.grow 0 5 26])=7:=rfl;rw[e2,e]
 refine qt cG (ij gu f [] [] 0 s hf (by omega) BD ?_ ?_)
 ·obtain⟨p,hp⟩:=BD.ml;have:=congrArg List.length hp;rw[List.length_append] at this;show 0+s.l.length<=l.length;omega
 ·exact hK _ _ rfl
end
theorem uR :∀N,(∀l lo r,okB r=true->CP AI 20 (SZ N l lo r))/\∀l lo,CP AI 20 (Wp N l lo)
 |0=>⟨fun l lo r hr vs h K ht=>by obtain⟨_,_,_,_,s,_,hN,_⟩:=ht;exact absurd hN (Nat.not_lt_zero _),fun l lo vs h K ht=>by obtain⟨_,s,hN,_⟩:=ht;exact absurd hN (Nat.not_lt_zero _)⟩
 |N+1=>⟨uP (ou (uR N).1),uQ (ou (uR N).1)⟩
end Go.Proofs.YtopjpnhgnopbiaaGreatDoor.Rx
end
section
namespace Go.Proofs.YtopjpnhgnopbiaaGreatDoor.Rx
open Go.Ai Go Go.Ai.Sp Go.Ai.Ex
set_option maxRecDepth 100000
theorem q9 :BE AI 9 Tryz.f9:=(by refine⟨?_,?_,?_,?_,?_,?_⟩<;>kernel_rfl)
theorem nH :BE AI 10 Tryz.f10:=(by refine⟨?_,?_,?_,?_,?_,?_⟩<;>kernel_rfl)
theorem nG :BE AI 21 Tryz.f21:=(by refine⟨?_,?_,?_,?_,?_,?_⟩<;>kernel_rfl)
theorem vq :BE AI 3 Tryz.f3:=(by refine⟨?_,?_,?_,?_,?_,?_⟩<;>kernel_rfl)
theorem vp :BE AI 7 Tryz.f7:=(by refine⟨?_,?_,?_,?_,?_,?_⟩<;>kernel_rfl)
theorem lL :CP AI 7 mC:=eU (n:=1000) vp (by kernel_rfl)
theorem lK :CP AI 8 Xc:=by
 refine Gj (g:=OR) (by kernel_rfl) (by kernel_rfl) (by kernel_rfl) (by kernel_rfl) fun vs h K ht=> ?_
 obtain⟨s,rfl,hk⟩:=ht;refine⟨Lp 3 5 (Bz s),?_,rfl⟩;rw[Hi 0 [] _ (Lj _).1]
 have:Lp 3 5 (Bz s)=.tup [.agg [.int .i64 (Bb s).kind,.int .i64 (Bb s).pl,.str (Bb s).text,.sl 3 ((Bb s).attrs.map Go.Ai.Ao) none,.sl 5 (Ac (Bb s).kids) none],.int .i64 (G8 s),.int .i64 (G7 s)]:=by
  rw[<-Gt];unfold Bb G8 G7
  cases Bz s with
  |ok n=>rfl
  |error x=>rfl
 rw[this];exact hk
theorem kE {s:List UInt8}{l:List Tok}(hs:s.length<=65536)(h:lexM s=.ok l)(pl e:Int):Iy l ⟨l,pl,e⟩:=by
 obtain⟨h1,h2⟩:=iP h;have hw:=Hn h;have hf:=Oo h
 refine⟨⟨[],rfl⟩,show l.length<=1000000 by omega,fun t ht=>⟨UK h t ht,?_,?_,?_,fun h7=> ?_⟩⟩
 ·have:=(h2 t ht).2.1;show t.attrs.length<=1000000;omega
 ·have:=(h2 t ht).1;show t.text.length<=1000000;omega
 ·have:=(RV l 0 none false hw t ht).2.1;show t.to<=1000000;omega
 ·rcases(hf t ht).2 with h|h|h
  ·exact h
  ·omega
  ·omega
theorem Yy {s:List UInt8}{p e:Int}(h:Bz s=.error (p,e)):Bb s=lZ/\G8 s=p/\G7 s=e:=by
 unfold Bb G8 G7;rw[h];exact⟨rfl,rfl,rfl⟩
theorem bk {s:List UInt8}{n:Nd}(h:Bz s=.ok n):Bb s=n/\G8 s=0/\G7 s=0:=by
 unfold Bb G8 G7;rw[h];exact⟨rfl,rfl,rfl⟩
theorem mB (z1 z2:Nat):pJ lZ z1 z2:=⟨.inr rfl,.inr rfl⟩
theorem yJ :CP AI 9 iZ:=by
 refine Ar q9 fun vs h K ht=> ?_
 obtain⟨s,hs,rfl,hk⟩:=ht;have FC:s.length<=1000000:=hs
 have bad:∀{p e:Int} (z1 z2:Nat),Bz s=.error (p,e)->K (.tup [.agg [.int .i64 0,.int .i64 0,.str [],.sl z1 [] none,.sl z2 [] none],.int .i64 p,.int .i64 e]) h:=by
  intro p e z1 z2 hp;obtain⟨e1,e2,e3⟩:=Yy hp
  have:=hk z1 z2 (by rw[e1];exact mB _ _)
  rw[e1,e2,e3] at this;exact this
 by_cases dQ:65536<s.length
 ·have hp:Bz s=.error (65536,3):=by unfold Bz;rw[if_pos dQ]
  refine⟨_,bad 3 5 hp,qJ (AX (AG c9 AN)) (AA (fun _=>rfl) fun h=> ?_)⟩
  have:=of_decide_eq_false h;omega
 ·have kd:s.length<=65536:=by omega
  cases hl:lexM s with
  |error x=>
   obtain⟨p,e⟩:=x
   have hp:Bz s=.error ((p:Nat),e):=by unfold Bz;rw[if_neg dQ,hl]
   refine⟨_,bad 3 5 hp,qJ (AX (AG c9 AN)) (AA (fun h=> ?_) fun _=>⟨s,hs,rfl,fun p2 e2 h2=> ?_,fun l h2=> ?_⟩)⟩
   ·have:=of_decide_eq_true h;omega
   ·rw[hl] at h2;simp only[Except.error.injEq,Prod.mk.injEq] at h2;obtain⟨rfl,rfl⟩:=h2
    refine AA (fun _=>rfl) fun h=> ?_
    have:e=0:=by simpa[bne] using h
    exact absurd this (cZ hl)
   ·rw[hl] at h2;cases h2
  |ok l=>
   have hr:=bX s;unfold jq at hr;rw[if_neg dQ,hl] at hr;simp only at hr
   have key:∀v,((Bu s.length (l.length+1) (.mk 1 0 [] [] []) 0 0 ⟨l,0,0⟩).2.e≠0->.tup [.agg [.int .i64 0,.int .i64 0,.str [],.sl 0 [] none,.sl 0 [] none],.int .i64 (Bu s.length (l.length+1) (.mk 1 0 [] [] []) 0 0 ⟨l,0,0⟩).2.pl,.int .i64 (Bu s.length (l.length+1) (.mk 1 0 [] [] []) 0 0 ⟨l,0,0⟩).2.e]=v)->
     ((Bu s.length (l.length+1) (.mk 1 0 [] [] []) 0 0 ⟨l,0,0⟩).2.e=0->.tup [.agg (Mk (Bu s.length (l.length+1) (.mk 1 0 [] [] []) 0 0 ⟨l,0,0⟩).1),.int .i64 0,.int .i64 0]=v)->
     AE AI 9 (AD Tryz.f9) (AR Tryz.prog Tryz.f9 v) [.code []] .normal [(0,true,.str s)] []:=by
    intro v dF fQ
    refine qJ (AX (AG c9 AN)) (AA (fun h=> ?_) fun _=>⟨s,hs,rfl,fun p2 e2 h2=> ?_,fun l2 h2=> ?_⟩)
    ·have:=of_decide_eq_true h;omega
    ·rw[hl] at h2;cases h2
    ·rw[hl] at h2
     injection h2 with h2
     subst h2
     refine qI (AX (AG ((uR (l.length+1)).2 l s.length) AN)) ⟨l.length+1,⟨l,0,0⟩,Nat.lt_succ_self _,Nat.lt_succ_self _,kE kd hl 0 0,rfl,by rw[Nat.sub_self];rfl,fun n s' Nj=> ?_⟩
     rw[Nj] at dF fQ
     refine AA (fun h=>dF ?_) fun h=> ?_
     ·have:(s'.e==0)=false:=by simpa[bne] using h
      exact beq_eq_false_iff_ne.1 this
     ·have:s'.e=0:=by simpa[bne] using h
      rw[sB,sN];exact fQ this
   generalize Bu s.length (l.length+1) (.mk 1 0 [] [] []) 0 0 ⟨l,0,0⟩=R at hr key
   by_cases he:R.2.e=0
   ·rw[he] at hr;obtain⟨e1,e2,e3⟩:=bk hr.symm;have:=hk 3 5 ⟨.inl rfl,.inl rfl⟩;rw[e1,e2,e3] at this
    exact⟨_,this,key _ (fun h=>absurd he h) fun _=>rfl⟩
   ·rw[beq_eq_false_iff_ne.2 he] at hr
    exact⟨_,bad 0 0 hr.symm,key _ (fun _=>rfl) fun h=>absurd h he⟩
theorem kC {z:Nat}{l:List Go.Ai.A8}(hl:l.length<=limE)(hz:z=3\/l=[]):∀(n i:Nat),l.length-i=n->i<=l.length->
  AE AI 21 (AD Tryz.f21) (AR Tryz.prog Tryz.f21 (.bool true)) [.code [0,1,0,1,1],.block 0,.code [1,1,1]] .normal [(0,true,.sl 3 (l.map Go.Ai.Ao) none),(1,true,.sl z (l.map Go.Ai.Ao) none),(5,true,.int .i64 i)] []:=by
 have WX:l.length<=1000000:=hl;intro n
 induction n with
 |zero=>
  intro i hn hi
  exact iM cG (AA (fun x=>by simp at x;omega) fun _=>rfl)
 |succ n ih=>
  intro i hn hi
  have As:i<l.length:=by omega
  have vy:z=3:=by
   rcases hz with h|h
   ·exact h
   ·rw[h] at As;simp at As
  have g:Bm (l.map Go.Ai.Ao) i=Go.Ai.Ao l[i]:=CF Go.Ai.Ao l As
  have r:C7 (i:Int) (l.map Go.Ai.Ao).length=true:=by rw[List.length_map];exact Au As
  refine iM cG (AA (fun _=>AF (by rw[r];rfl) ⟨_,_,_,g,AF (by rw[r,vy];rfl) ⟨_,_,_,g,AA (fun x=>by simp at x) fun _=> ?_⟩⟩) fun x=>by simp at x;omega)
  rw[show IntKind.wrap .i64 ((i:Int)+1)=((i+1:Nat):Int) from wr (by omega) (by omega)]
  exact ih (i+1) (by omega) (by omega)
theorem uO :CP AI 21 bJ:=by
 refine Ar nG fun vs h K ht=> ?_
 obtain⟨l,z,hl,hz,rfl,hk⟩:=ht
 exact⟨_,hk,qK cG (AA (fun x=>by simp at x) fun _=>kC hl hz l.length 0 (by omega) (by omega))⟩
theorem nO (n:Nd):(Aa 2 (n.attrs.map Go.Ai.Ao)&&true&&(Aa 2 (Ac n.kids)&&true&&true)&&(Aa 2 (n.attrs.map Go.Ai.Ao)&&true&&(Aa 2 (Ac n.kids)&&true&&true)&&true))=true:=by
 rw[Qi,Qh];rfl
theorem gO {N:Nat}(hT:CP AI 10 (Rh N)){n:Nd}{z1 z2 M:Nat}(hM:M<=limE)(VI:OD M n.kids)(O7:n.kids.length<=limE)(hz:pJ n z1 z2)(CC:Dc n.kids<N):∀(r pre:List Nd),n.kids=pre++r->Dc r<N->OD M r->
  AE AI 10 (AD Tryz.f10) (AR Tryz.prog Tryz.f10 (.bool true)) [.code [0,1,0,1,1],.block 0,.code [1,1,1]] .normal [(2,true,.ptr 0 0),(3,true,.ptr 1 0),(5,true,.int .i64 (pre.length:Nat))] [.mem 26 (Mk n),.mem 26 (cE n z1 z2)]:=by
 have xA:n.kids.length<=1000000:=O7;intro r
 induction r with
 |nil=>
  intro pre hp hs hm
  refine iO (AX (AG hT AN)) (AA (fun h=> ?_) fun _=>rfl)
  exfalso;rw[hp] at h;simp[Be] at h
 |cons x r ih=>
  intro pre hp hs hm;rw[Dc] at hs
  have As:pre.length<n.kids.length:=by rw[hp];simp
  have g:Bm (Ac n.kids) (pre.length:Int)=Mk x:=by rw[hp];exact(Wj pre x r).trans (Gt x)
  have ir:C7 (pre.length:Int) (Ac n.kids).length=true:=by rw[Be];exact Au As
  have vx:z2=5:=by
   rcases hz.2 with h|h
   ·exact h
   ·rw[h] at As;simp at As
  have nx:=ih (pre++[x]) (by rw[hp];simp) (by omega) hm.2
  refine iO (AX (AG hT AN)) (AA (fun _=>AF (by rw[ir];rfl) ⟨_,_,_,_,_,g,AF (by rw[ir,vx];rfl) ⟨_,_,_,_,_,g,x,3,5,M,by omega,hm.1,hM,⟨.inl rfl,.inl rfl⟩,?_,AF (nO n) ?_⟩⟩) fun h=> ?_)
  ·rw[sB,sN]
  ·rw[show IntKind.wrap .i64 ((pre.length:Int)+1)=(((pre++[x]).length:Nat):Int) from wr (by simp) (by simp;omega)]
   exact nx
  ·have:=of_decide_eq_false h;rw[Be] at this
theorem o8 :∀N,CP AI 10 (Rh N)
 |0=>fun vs h K ht=>by obtain⟨_,_,_,_,hN,_⟩:=ht;exact absurd hN (Nat.not_lt_zero _)
 |N+1=>by
  have hT:=o8 N
  refine Ar nH fun vs h K ht=> ?_
  obtain⟨n,z1,z2,M,hN,VI,hM,hz,rfl,hk⟩:=ht;have yz:M<=1000000:=hM;rw[Re] at VI;obtain⟨a1,a2,a3,a4,a5⟩:=VI;rw[n.size_eq] at hN;refine⟨_,hk,qL (AX (AG uO AN)) ?_⟩
  refine AA (fun x=>by simp[bne] at x) fun _=>AA (fun x=>by simp[bne] at x) fun _=>AA (fun x=>by simp at x) fun _=>AA (fun x=>by simp[bne] at x) fun _=>⟨n.attrs,z1,show n.attrs.length<=1000000 by omega,hz.1,?_,?_⟩
  ·rw[sB]
  ·exact gO hT hM a5 (show n.kids.length<=1000000 by omega) hz (by omega) n.kids [] rfl (by omega) a5
theorem c3 :CP AI 3 jX:=by
 refine Ar vq fun vs h K ht=> ?_
 obtain⟨s,rfl,hk⟩:=ht
 refine⟨_,hk,vi (AX (AG lL (AG lK (AG yJ (AG (o8 1000000) AN))))) (AA (fun _=>⟨rfl,rfl⟩) fun x=> ?_)⟩
 have hs:s.length<=6000:=by have:=of_decide_eq_false x;omega
 have h1:=Km s;have h2:=Te s
 refine⟨s,rfl,s,by omega,rfl,fun z1 z2 hz=>⟨Bb s,z1,z2,2*s.length+1,by omega,h1.1,show 2*s.length+1<=1000000 by omega,hz,?_,AA (fun _=>AA (fun _=>⟨rfl,rfl⟩) fun x=>by simp at x) fun x=>by simp at x⟩⟩
 rw[sB,sN]
end Go.Proofs.YtopjpnhgnopbiaaGreatDoor.Rx
end
section
namespace Go.Proofs.YtopjpnhgnopbiaaGreatDoor
open Go.Ai Go
set_option maxRecDepth 100000
theorem XG {n:Nat}{v:AV}(h:Pn Tryz.prog n 9 v):∃s:List UInt8,s.length<=maxLen/\v=.str s:=by
 have h:=(show wt Tryz.prog n 9 [v] from h)
 cases n with
 |zero=>exact h.elim
 |succ n=>
  simp only[wt,Tryz.underlying9] at h;obtain⟨s,h1,h⟩:=h
  injection h with h _
  exact⟨s,h1,h⟩
end Go.Proofs.YtopjpnhgnopbiaaGreatDoor
end
