/-
  The document's parser: its small functions, and what a tag's attributes owe, under contract.
  The document's parser: the node that a tag begins, under contract.
  The document's parser: a node's children, under contract.
  The document's parser: children, whole.
  The document's answer for a text's tree; that both are the same: the rows' functions under contract.
  Texts of many bytes, and vars so deep: the row's function under contract.
  What a row reads at the types of this seat is a text or a byte, in plain terms.
-/
import Derived.Test.YtopjpnhgnopbiaaGreatDoorLJU
import Derived.Test.YtopjpnhgnopbiaaGreatDoorLJQ
import Derived.Test.YtopjpnhgnopbiaaGreatDoorLJG
import Derived.Test.YtopjpnhgnopbiaaGreatDoorLAiMono
import Derived.Test.YtopjpnhgnopbiaaGreatDoorLCfg
import Derived.Test.YtopjpnhgnopbiaaGreatDoorLAiLaw
set_option linter.unusedVariables false
set_option linter.unusedSimpArgs false
set_option linter.unnecessarySimpa false
section
namespace Go.Proofs.YtopjpnhgnopbiaaGreatDoor.Rx
open Go.Ai Go Go.Ai.Sp Go.Ai.Ex
set_option maxRecDepth 100000
theorem Z9 :AJ AI (Ae []):=AX AM
theorem s9 (n:Nat)(h:Hp)(l:List Tok):AB n h (l.map AK)=l.map AK:=Bb n h _ (Ot n l)
theorem sA (n:Nat)(h:Hp)(l:List Ex.A9):AB n h (encAs l)=encAs l:=Bb n h _ (ME n l)
theorem j8 {g:List (List AV)}{a lo pl e:Int}{r:Hp}(hr:okB r=true):HO 5 (hR g a lo pl e++r)=true:=by
 have h:(hR g a lo pl e++r).all (fun b=>!HT b)=true:=by
  rw[List.all_append,show r.all (fun b=>!HT b)=true from hr];rfl
 have h2:Nat.ble 5 (hR g a lo pl e++r).length=true:=Nat.ble_eq_true_of_le (by simp[hR])
 unfold HO;rw[h,h2];rfl
theorem ah (l:List Tok)(a lo pl e:Int)(r:Hp):((hR (l.map AK) a lo pl e++r).take 5).map (AN 5 [])=hR (l.map AK) a lo pl e:=by
 show [Blk.grow 0 3 80,.grow 0 5 26,.mem 26 [.int .i64 0,.int .i64 0,.str [],.sl 3 [] (some 0),.sl 5 [] (some 1)],.grow 0 6 95,.mem 59 [.sl 6 (AB 5 [] (l.map AK)) none,.int .i64 a,.int .i64 lo,.int .i64 pl,.int .i64 e]]=_;rw[s9];rfl
theorem vT (n:Nat)(h:Hp)(t:Tok):AQ n h (Ex.encT t)=Ex.encT t:=by
 show [AV.int .i64 t.kind,.str t.name,.sl 3 (AB n h (encAs t.attrs)) none,.str t.text,.int .i64 t.fr,.int .i64 t.to]=_;rw[sA];rfl
theorem nR :Qk AI 47 Tryz.f47 5:=⟨by kernel_rfl,by kernel_rfl,by kernel_rfl,by kernel_rfl,by kernel_rfl,by kernel_rfl,by kernel_rfl⟩
theorem eu (l:List Tok)(lo:Int)(r:Hp)(hr:okB r=true):CO AI 47 (FT l lo r):=by
 refine Nw nR fun vs h K ht=> ?_
 obtain⟨p,x,a,pl,e,rfl,rfl,hk⟩:=ht;refine⟨j8 hr,?_⟩;rw[ah]
 refine t47 Z9 (AA (fun h=> ?_) fun h=> ?_)
 ·obtain rfl:=eq_of_beq h;rw[s9];exact hk
 ·have h:=beq_eq_false_iff_ne.1 h;rw[lQ h] at hk;rw[s9];exact hk
theorem nW :BD AI 108 Tryz.f108:=(by refine⟨?_,?_,?_,?_,?_,?_⟩<;>kernel_rfl)
theorem nV :BD AI 109 Tryz.f109:=(by refine⟨?_,?_,?_,?_,?_,?_⟩<;>kernel_rfl)
theorem rQ :BD AI 77 Tryz.f77:=(by refine⟨?_,?_,?_,?_,?_,?_⟩<;>kernel_rfl)
theorem rR :BD AI 75 Tryz.f75:=(by refine⟨?_,?_,?_,?_,?_,?_⟩<;>kernel_rfl)
theorem rZ :BD AI 48 Tryz.f48:=(by refine⟨?_,?_,?_,?_,?_,?_⟩<;>kernel_rfl)
theorem rY :BD AI 49 Tryz.f49:=(by refine⟨?_,?_,?_,?_,?_,?_⟩<;>kernel_rfl)
theorem pN :CO AI 108 WN:=by
 refine Ar nW fun vs h K ht=> ?_
 obtain⟨k,rfl,hk⟩:=ht;refine⟨_,hk,t108 Z9 ?_⟩;unfold Mq
 cases k==3<;>cases k==4<;>cases k==6<;>cases k==11<;>rfl
theorem uf :CO AI 109 Xc:=by
 refine Ar nV fun vs h K ht=> ?_
 obtain⟨k,p,x,y,rfl,hk⟩:=ht;refine⟨_,hk,t109 Z9 ?_⟩;unfold EP
 cases k==3 with
 |true=>cases x==[115,114,99]<;>cases x==[97,108,116]<;>cases y==[]<;>cases x==[111,110,101,114,114,111,114]<;>rfl
 |false=>
  cases k==4 with
  |true=>cases x==[110,97,109,101]<;>cases y==[]<;>cases x==[102,101,116,99,104,97,98,108,101]<;>cases y==[121,101,115]<;>rfl
  |false=>
   cases k==6 with
   |true=>rfl
   |false=>cases k==11<;>cases x==[116,101,115,116]<;>rfl
theorem ye :CO AI 77 iw:=by
 refine Ar rQ fun vs h K ht=> ?_
 obtain⟨k,i,l,rfl,hk⟩:=ht;refine⟨_,hk,t77 Z9 ?_⟩;unfold HS;simp only[bne]
 cases i==7<;>cases i==10<;>cases k==8<;>cases k==9<;>cases k==11<;>cases k==12<;>cases l==0<;>cases l==11<;>rfl
theorem vi :CO AI 75 WU:=by
 refine Ar rR fun vs h K ht=> ?_
 obtain⟨s,rfl,hk⟩:=ht;refine⟨_,hk,t75 (AX (AG vm AM)) ⟨rfl,?_⟩⟩
 have sw:∀a b:List UInt8,(a==b)=(b==a):=fun a b=>Bool.eq_iff_iff.2 ⟨fun h=>beq_iff_eq.2 (beq_iff_eq.1 h).symm,fun h=>beq_iff_eq.2 (beq_iff_eq.1 h).symm⟩
 have e:Gc s=bif Bk s then((C7 s).kind:Int) else 0:=rfl;have e2:Bk s=(([105,110,99,108,117,100,101]==s)||(([105,110,108,105,110,101]==s)||(([114,101,109,111,118,101]==s)||(([99,111,109,109,101,110,116]==s)||(([116,114,121]==s)||(([97,116,116,101,109,112,116]==s)||(([101,120,99,101,112,116]==s)||(([99,104,111,111,115,101]==s)||(([119,104,101,110]==s)||(([111,116,104,101,114,119,105,115,101]==s)||(([118,97,114,115]==s)||false))))))))))):=rfl;rw[e,e2];unfold C7;rw[sw s [105,110,99,108,117,100,101],sw s [105,110,108,105,110,101],sw s [114,101,109,111,118,101],sw s [99,111,109,109,101,110,116],sw s [116,114,121],sw s [97,116,116,101,109,112,116],sw s [101,120,99,101,112,116],sw s [99,104,111,111,115,101],sw s [119,104,101,110],sw s [111,116,104,101,114,119,105,115,101]];generalize ([105,110,99,108,117,100,101]==s)=b1;generalize ([105,110,108,105,110,101]==s)=b2;generalize ([114,101,109,111,118,101]==s)=b3;generalize ([99,111,109,109,101,110,116]==s)=b4;generalize ([116,114,121]==s)=b5;generalize ([97,116,116,101,109,112,116]==s)=b6;generalize ([101,120,99,101,112,116]==s)=b7;generalize ([99,104,111,111,115,101]==s)=b8;generalize ([119,104,101,110]==s)=b9;generalize ([111,116,104,101,114,119,105,115,101]==s)=fI;generalize ([118,97,114,115]==s)=pS
 cases b1 with
 |true=>rfl
 |false=>
 cases b2 with
 |true=>rfl
 |false=>
 cases b3 with
 |true=>rfl
 |false=>
 cases b4 with
 |true=>rfl
 |false=>
 cases b5 with
 |true=>rfl
 |false=>
 cases b6 with
 |true=>rfl
 |false=>
 cases b7 with
 |true=>rfl
 |false=>
 cases b8 with
 |true=>rfl
 |false=>
 cases b9 with
 |true=>rfl
 |false=>
 cases fI with
 |true=>rfl
 |false=>cases pS<;>rfl
theorem pH :CO AI 48 Gm:=by
 refine Ar rZ fun vs h K ht=> ?_
 obtain⟨t,k,rfl,hk⟩:=ht;refine⟨_,hk,t48 (AX (AG vi AM)) ?_⟩;unfold Dz
 cases h6:t.kind==6 with
 |true=>
  cases qB:k==14 with
  |true=>rfl
  |false=>
   cases h4:t.kind==4 with
   |true=>exact⟨t.name,rfl,rfl⟩
   |false=>rfl
 |false=>
  cases h4:t.kind==4 with
  |true=>exact⟨t.name,rfl,rfl⟩
  |false=>rfl
theorem QT {s:List UInt8}{c:UInt8}:Ba (c::s)=if blB c=true then Ba s else c::s:=by
 unfold Ba;rw[List.dropWhile_cons]
theorem TV :∀(r p:List UInt8),(∀c∈p,blB c=true)->CL (p++r)=bif (Ba r).isEmpty then -1 else(((p++r).length-(Ba r).length:Nat):Int):=by
 intro r p hp
 have e:Ba (p++r)=Ba r:=by
  induction p with
  |nil=>rfl
  |cons c p ih=>
   rw[List.cons_append,QT,if_pos (hp c (by simp))]
   exact ih fun x hx=>hp x (by simp[hx])
 unfold CL;rw[e]
theorem kL {s:List UInt8}(hs:s.length<=limE):∀(r p:List UInt8),s=p++r->(∀c∈p,blB c=true)->
  AE AI 49 (AD Tryz.f49) (AO Tryz.prog Tryz.f49 (.int .i64 (CL s))) [.code [0,1,0,1],.block 0,.code [1,1]] .normal [(0,true,.str s),(3,true,.int .i64 (p.length:Nat))] []:=by
 have FE:s.length<=1000000:=hs;intro r
 induction r with
 |nil=>
  intro p D9 hp;have hT:=AX (AG pM AM)
  refine bH hT (AA (fun h=> ?_) fun _=> ?_)
  ·rw[D9] at h;simp at h
  ·rw[D9,TV [] p hp];rfl
 |cons c r ih=>
  intro p D9 hp;have hT:=AX (AG pM AM)
  have Au:p.length<s.length:=by rw[D9];simp
  have hc:s.getD p.length 0=c:=by rw[D9];simp[List.getD]
  refine bH hT (AA (fun h=>AF (As Au) ⟨c,by rw[<-hc];rfl,?_⟩) fun h=> ?_)
  ·cases hb:blB c with
   |true=>
    have:=ih (p++[c]) (by rw[D9];simp) (fun x hx=>by
     rcases List.mem_append.1 hx with hx|hx
     ·exact hp x hx
     ·rw[List.mem_singleton.1 hx];exact hb)
    rw[show IntKind.wrap .i64 ((p.length:Int)+1)=(((p++[c]).length:Nat):Int) by rw[Bs (by omega) (by omega)];simp]
    exact this
   |false=>
    show AV.int .i64 (p.length:Nat)=_
    rw[D9,TV (c::r) p hp,QT,if_neg (by rw[hb];simp)]
    simp
  ·have:=of_decide_eq_false h;omega
theorem c49 :CO AI 49 Hl:=by
 refine Ar rY fun vs h K ht=> ?_
 obtain⟨s,hs,rfl,hk⟩:=ht
 exact⟨_,hk,t49 (AX (AG pM AM)) (kL hs s [] rfl fun c hc=>by cases hc)⟩
theorem nP :Qk AI 78 Tryz.f78 5:=⟨by kernel_rfl,by kernel_rfl,by kernel_rfl,by kernel_rfl,by kernel_rfl,by kernel_rfl,by kernel_rfl⟩
def uJ (l:List Tok)(a lo pl e:Int)(t:Tok):Hp:=hR (l.map AK) a lo pl e++[.mem 95 (Ex.encT t)]
theorem Xt (l:List Tok)(q:List Ex.A9):(Ab 6 (l.map AK)&&true&&true&&(Ab 6 (encAs q)&&true&&true&&true))=true:=by
 rw[Ot,ME];rfl
theorem ox {q:List Ex.A9}{i:Nat}(h:i<q.length):Bm (encAs q) i=Ex.Ao q[i]/\(Cy (i:Int) (encAs q).length&&true&&true)=true:=by
 refine⟨CF Ex.Ao q h,?_⟩;rw[encAs,List.length_map,As h];rfl
theorem ga (q:List Ex.A9):(encAs q).length=q.length:=by rw[encAs,List.length_map]
theorem lg {α:Type}(p:α->Bool)(q:List α){i:Nat}(h:i<q.length):(q.drop i).any p=(p q[i]||(q.drop (i+1)).any p):=by
 rw[List.drop_eq_getElem_cons h,List.any_cons]
theorem gW {l:List Tok}{a lo pl e:Int}{t:Tok}{k:Int}{K:AV->Hp->Prop}(hl:t.attrs.length<=limE):∀(n i:Nat) (f:Bool),t.attrs.length-i=n->i<=t.attrs.length->
  AE AI 78 (AD Tryz.f78) (AR Tryz.prog Tryz.f78 5 K) [.code [1,1,1]] .normal [(0,true,.ptr 4 0),(1,true,.int .i64 k),(5,true,.ptr 5 0),(6,true,.bool (f||(t.attrs.drop i).any fun a=>a.name==Mq k))] (uJ l a lo pl e t)->
  AE AI 78 (AD Tryz.f78) (AR Tryz.prog Tryz.f78 5 K) [.code [0,1,0,1,1],.block 0,.code [1,1,1]] .normal [(0,true,.ptr 4 0),(1,true,.int .i64 k),(5,true,.ptr 5 0),(6,true,.bool f),(7,true,.int .i64 (i:Nat))] (uJ l a lo pl e t):=by
 have Wd:t.attrs.length<=1000000:=hl;have hT:=AX (AG pN AM);intro n
 induction n with
 |zero=>
  intro i f hn hi hK
  refine bG hT (AA (fun h=> ?_) fun _=> ?_)
  ·have:=of_decide_eq_true h;rw[ga] at this;omega
  ·rw[List.drop_of_length_le (by omega),List.any_nil,Bool.or_false] at hK
   exact hK
 |succ n ih=>
  intro i f hn hi hK
  have Au:i<t.attrs.length:=by omega
  have w:IntKind.wrap .i64 ((i:Int)+1)=((i+1:Nat):Int):=wr (by omega) (by omega)
  obtain⟨g1,g2⟩:=ox Au;rw[lg _ _ Au,<-Bool.or_assoc] at hK
  refine bG hT (AA (fun _=>AA (fun hf=>AF (Xt l t.attrs) ?_) fun hf=>AF g2 ⟨_,_,_,g1,k,rfl,AF (Xt l t.attrs) ?_⟩) fun h=> ?_)
  ·rw[hf,Bool.true_or] at hK;rw[w]
   exact ih (i+1) true (by omega) (by omega) hK
  ·rw[hf,Bool.false_or] at hK;rw[w]
   exact ih (i+1) _ (by omega) (by omega) hK
  ·have:=of_decide_eq_false h;rw[ga] at this;omega
theorem Xu {l:List Tok}{a lo:Int}{t:Tok}{k:Int}{K:AV->Hp->Prop}(hl:t.attrs.length<=limE):∀(n i:Nat) (q:Int×Int),t.attrs.length-i=n->i<=t.attrs.length->
  K (.tup []) (hR (l.map AK) a lo ((t.attrs.drop i).foldl (fun s a=>bif !EP k a.name a.value then fE a.at' 12 s.1 s.2 else s) q).1 ((t.attrs.drop i).foldl (fun s a=>bif !EP k a.name a.value then fE a.at' 12 s.1 s.2 else s) q).2)->
  AE AI 78 (AD Tryz.f78) (AR Tryz.prog Tryz.f78 5 K) [.code [0,1,1,1,1,1],.block 2] .normal [(0,true,.ptr 4 0),(1,true,.int .i64 k),(5,true,.ptr 5 0),(8,true,.int .i64 (i:Nat))] (uJ l a lo q.1 q.2 t):=by
 have Wd:t.attrs.length<=1000000:=hl;have hT:=AX (AG uf (AG (eu l lo [.mem 95 (Ex.encT t)] rfl) AM));intro n
 induction n with
 |zero=>
  intro i q hn hi hK
  refine mj hT (AA (fun h=> ?_) fun _=> ?_)
  ·have:=of_decide_eq_true h;rw[ga] at this;omega
  ·rw[List.drop_of_length_le (by omega),List.foldl_nil] at hK
   rw[s9];exact hK
 |succ n ih=>
  intro i q hn hi hK
  have Au:i<t.attrs.length:=by omega
  have w:IntKind.wrap .i64 ((i:Int)+1)=((i+1:Nat):Int):=wr (by omega) (by omega)
  obtain⟨g1,g2⟩:=ox Au;rw[List.drop_eq_getElem_cons Au,List.foldl_cons] at hK
  refine mj hT (AA (fun _=>AF g2 ⟨_,_,_,g1,k,_,_,_,rfl,AA (fun hf=>AF g2 ⟨_,_,_,g1,_,_,a,q.1,q.2,rfl,rfl,AF (Xt l t.attrs) ?_⟩) fun hf=>AF (Xt l t.attrs) ?_⟩) fun h=> ?_)
  ·rw[hf,cond_true] at hK;rw[w]
   exact ih (i+1) _ (by omega) (by omega) hK
  ·rw[hf,cond_false] at hK;rw[w]
   exact ih (i+1) _ (by omega) (by omega) hK
  ·have:=of_decide_eq_false h;rw[ga] at this;omega
theorem uU (l:List Tok)(lo:Int)(r:Hp)(hr:okB r=true):CO AI 78 (YX l lo r):=by
 refine Nw nP fun vs h K ht=> ?_
 obtain⟨k,a,pl,e,t,hl,rfl,rfl,hk⟩:=ht;refine⟨j8 hr,?_⟩;rw[ah]
 have hv:AQ 5 [] [.ptr 4 0,.int .i64 k,.agg (Ex.encT t)]=[.ptr 4 0,.int .i64 k,.agg (Ex.encT t)]:=by
  show [AV.ptr 4 0,.int .i64 k,.agg (AQ 5 [] (Ex.encT t))]=_;rw[vT]
 rw[hv];have hT:=AX (AG pN AM)
 refine t78 hT ⟨k,rfl,gW hl t.attrs.length 0 (Mq k==[]) (by omega) (by omega) ?_⟩
 rw[List.drop_zero];unfold ED Gh at hk
 refine qj (AX (AG (eu l lo [.mem 95 (Ex.encT t)] rfl) AM)) (AA (fun hf=>⟨_,_,a,pl,e,rfl,rfl,?_⟩) fun hf=> ?_)
 ·rw[hf,cond_true] at hk
  exact mi Z9 (Xu hl t.attrs.length 0 _ (by omega) (by omega) hk)
 ·rw[hf,cond_false] at hk
  exact mi Z9 (Xu hl t.attrs.length 0 (pl,e) (by omega) (by omega) hk)
end Go.Proofs.YtopjpnhgnopbiaaGreatDoor.Rx
end
section
namespace Go.Proofs.YtopjpnhgnopbiaaGreatDoor.Rx
open Go.Ai Go Go.Ai.Sp Go.Ai.Ex
set_option maxRecDepth 100000
theorem sB (n:Nat)(h:Hp)(l:List Go.Ai.A9):AB n h (l.map Go.Ai.Ao)=l.map Go.Ai.Ao:=BA n h _ (FL l)
theorem sN (n:Nat)(h:Hp)(l:List Nd):AB n h (AY l)=AY l:=BA n h _ (FK l)
theorem nQ :Qk AI 50 Tryz.f50 5:=⟨by kernel_rfl,by kernel_rfl,by kernel_rfl,by kernel_rfl,by kernel_rfl,by kernel_rfl,by kernel_rfl⟩
def bm (t:Tok)(k:Int):Hp:=[.mem 95 (Ex.encT t),.grow 0 3 80,.grow 0 5 26,.mem 26 [.int .i64 0,.int .i64 0,.str [],.sl 3 [] (some 6),.sl 5 [] (some 7)],.grow 0 3 80,.grow 0 5 26,.grow 0 3 80,.grow 0 5 26,
 .mem 26 [.int .i64 k,.int .i64 t.fr,.str [],.sl 3 (encAs t.attrs) none,.sl 5 [] (some 10)]]
def f50 (d:Nat)(k:Int)(sm:Bool):Fr:=[(0,true,.ptr 4 0),(4,true,.int .i64 d),(6,true,.ptr 5 0),(10,true,.ptr 8 0),(11,true,.int .i64 k),(12,true,.ptr 13 0),(13,true,.bool sm)]
abbrev St (K:AV->Hp->Prop)(p:List Nat)(F:Fr)(h:Hp):Prop:=AE AI 50 (AD Tryz.f50) (AR Tryz.prog Tryz.f50 5 K) [.code p] .normal F h
section
variable {K:AV->Hp->Prop}{l:List Tok}{a lo:Int}{t:Tok}{N d:Nat}{k i la:Int}
theorem r9 {q:Int×Int}(sm:Bool)(hK:St K [1,1,1,1,1,1] (f50 d k sm) (hR (l.map AK) a lo (bif (sm !=(t.kind==3))|| !HS k i la then fE t.fr 13 q.1 q.2 else q).1 (bif (sm !=(t.kind==3))|| !HS k i la then fE t.fr 13 q.1 q.2 else q).2++bm t k)):
  St K [1,1,1,1,1] [(0,true,.ptr 4 0),(2,true,.int .i64 i),(3,true,.int .i64 la),(4,true,.int .i64 d),(6,true,.ptr 5 0),(10,true,.ptr 8 0),(11,true,.int .i64 k),(12,true,.ptr 13 0),(13,true,.bool sm)] (hR (l.map AK) a lo q.1 q.2++bm t k):=by
 have hT:=AX (AG ye (AG (eu l lo (bm t k) rfl) AM))
 refine qo hT (AA (fun h=>⟨_,_,a,q.1,q.2,rfl,rfl,?_⟩) fun h=>⟨k,i,la,rfl,AA (fun h2=>⟨_,_,a,q.1,q.2,rfl,rfl,?_⟩) fun h2=> ?_⟩)
 ·have h:(sm !=(t.kind==3))=true:=h;rw[h,Bool.true_or,cond_true] at hK;exact hK
 ·have h:(sm !=(t.kind==3))=false:=h;rw[h,h2,Bool.or_true,cond_true] at hK;exact hK
 ·have h:(sm !=(t.kind==3))=false:=h;rw[h,h2,Bool.or_false,cond_false] at hK;exact hK
theorem rz {q:Int×Int}(sm:Bool)(hK:St K [1,1,1,1,1,1,1] (f50 d k sm) (hR (l.map AK) a lo (bif decide (16<d) then fE t.fr 3 q.1 q.2 else q).1 (bif decide (16<d) then fE t.fr 3 q.1 q.2 else q).2++bm t k)):
  St K [1,1,1,1,1,1] (f50 d k sm) (hR (l.map AK) a lo q.1 q.2++bm t k):=by
 have hT:=AX (AG (eu l lo (bm t k) rfl) AM)
 refine qn hT (AA (fun h=>⟨_,_,a,q.1,q.2,rfl,rfl,?_⟩) fun h=> ?_)
 ·have h:decide (16<d)=true:=decide_eq_true (by have:=of_decide_eq_true h;omega)
  rw[h,cond_true] at hK;exact hK
 ·have h:decide (16<d)=false:=decide_eq_false (by have:=of_decide_eq_false h;omega)
  rw[h,cond_false] at hK;exact hK
theorem ry {q:Int×Int}(sm:Bool)(hl:t.attrs.length<=limE)(hK:St K [1,1,1,1,1,1,1,1] [(0,true,.ptr 4 0),(4,true,.int .i64 d),(10,true,.ptr 8 0),(12,true,.ptr 13 0),(13,true,.bool sm)] (hR (l.map AK) a lo (bif k==14 then q else ED k t.fr t.attrs q).1 (bif k==14 then q else ED k t.fr t.attrs q).2++bm t k)):
  St K [1,1,1,1,1,1,1] (f50 d k sm) (hR (l.map AK) a lo q.1 q.2++bm t k):=by
 have hT:=AX (AG (uU l lo (bm t k) rfl) AM)
 refine qm hT (AA (fun h=>⟨k,a,q.1,q.2,t,hl,rfl,rfl,?_⟩) fun h=> ?_)
 ·have h:(k==14)=false:=by simpa[bne] using h
  rw[h,cond_false] at hK;exact hK
 ·have h:(k==14)=true:=by simpa[bne] using h
  rw[h,cond_true] at hK;exact hK
end
theorem pG {N:Nat}(hF:∀l lo r,okB r=true->CO AI 20 (Se N l lo r))(l:List Tok)(lo:Int)(r:Hp)(hr:okB r=true):CO AI 50 (Ez N l lo r):=by
 refine Nw nQ fun vs h K ht=> ?_
 obtain⟨t,i,la,d,f,s,hN,hf,BF,hm,hk,hd,rfl,rfl,hK⟩:=ht;refine⟨j8 hr,?_⟩;unfold Sp.hT at hK⊢;rw[ah]
 have hv:AQ 5 [] [.ptr 4 0,.agg (Ex.encT t),.int .i64 i,.int .i64 la,.int .i64 d]=[.ptr 4 0,.agg (Ex.encT t),.int .i64 i,.int .i64 la,.int .i64 d]:=by
  show [AV.ptr 4 0,.agg (AQ 5 [] (Ex.encT t)),.int .i64 i,.int .i64 la,.int .i64 d]=_;rw[vT]
 rw[hv];have hl:=(BF.tok t hm).2.1
 have QI:∀s2:Rs,s2=Sp.FC t i la d s->s2.l=s.l->St (fun v h1=>K v (h1++(hR (l.map AK) ((l.length-s.l.length:Nat):Int) lo s.pl s.e++r).drop 5)) [1,1,1,1,1,1,1,1] [(0,true,.ptr 4 0),(4,true,.int .i64 d),(10,true,.ptr 8 0),(12,true,.ptr 13 0),(13,true,.bool (CD (Cc t)))]
   (hR (l.map AK) ((l.length-s.l.length:Nat):Int) lo s2.pl s2.e++bm t (Cc t)):=by
  intro s2 h2 ou;have hT:=AX (AG (hF l lo [.grow 0 3 80,.grow 0 5 26,.mem 26 [.int .i64 (Cc t),.int .i64 t.fr,.str [],.sl 3 (encAs t.attrs) none,.sl 5 [] (some 10)]] rfl) AM);unfold DP at hK;rw[<-h2] at hK
  have stop:∀q:Bool,CD (Cc t)=q->(CD (Cc t)|| !(s2.e==0))=true->K (.agg [.int .i64 (Cc t),.int .i64 t.fr,.str [],.sl 3 (encAs t.attrs) none,.sl 5 [] none]) (hR (l.map AK) ((l.length-s.l.length:Nat):Int) lo s2.pl s2.e++r):=by
   intro q _ hq;rw[hq] at hK;have:=hK (Fh t) s2 rfl;rw[ou] at this;rw[Hc];exact this
  refine ql hT (AA (fun h=> ?_) fun h=>AA (fun h3=> ?_) fun h3=>⟨Fh t,t,d,f,s2,rfl,by rw[ou];exact hN,by rw[ou];exact hf,⟨by rw[ou];exact BF.nD,BF.len,BF.tok⟩,?_,?_,?_,fun n' s' FE=> ?_⟩)
  ·rw[sA,s9]
   exact stop true h (by rw[h];rfl)
  ·rw[sA,s9]
   exact stop false h (by rw[show(!(s2.e==0))=true from h3,Bool.or_true])
  ·have h3:(s2.e==0)=true:=by simpa[bne] using h3
   exact Zr (t:=t) (i:=i) (la:=la) (s:=s) (by rw[<-h2];exact eq_of_beq h3)
  ·rw[Hc];rfl
  ·rw[ou]
  ·have h3:(s2.e==0)=true:=by simpa[bne] using h3
   rw[h,h3] at hK;have:=hK n' s' FE;rw[sB,sN,s9];exact this
 have e1:=Sp.MX t i la d s;unfold Sp.FC at e1 QI;simp only at e1 QI;refine t50 (AX (AG vi AM)) ?_
 have go:St (fun v h1=>K v (h1++(hR (l.map AK) ((l.length-s.l.length:Nat):Int) lo s.pl s.e++r).drop 5)) [1,1,1,1,1] [(0,true,.ptr 4 0),(2,true,.int .i64 i),(3,true,.int .i64 la),(4,true,.int .i64 d),(6,true,.ptr 5 0),(10,true,.ptr 8 0),(11,true,.int .i64 (Cc t)),(12,true,.ptr 13 0),(13,true,.bool (CD (Cc t)))] (hR (l.map AK) ((l.length-s.l.length:Nat):Int) lo s.pl s.e++bm t (Cc t)):=by
  refine r9 (q:=(s.pl,s.e)) _ (rz _ (ry _ hl ?_));have fin:=QI _ rfl e1
  cases hb:(CD (Cc t) !=(t.kind==3))|| !HS (Cc t) i la<;>cases hd:decide (16<d)<;>cases qB:Cc t==14<;>(rw[hb,hd,qB] at fin;exact fin)
 refine AA (fun h5=>⟨t.name,rfl,AA (fun h3=> ?_) fun h3=> ?_⟩) fun h5=> ?_
 ·have h5:(t.kind==5)=false:=by simpa[bne] using h5
  have e:Cc t=Gc t.name:=by unfold Cc;rw[h5];rfl
  rw[e] at go;unfold CD at go;rw[h3] at go;exact go
 ·have h5:(t.kind==5)=false:=by simpa[bne] using h5
  have e:Cc t=Gc t.name:=by unfold Cc;rw[h5];rfl
  rw[e] at go;unfold CD at go;rw[h3] at go;exact go
 ·have h5:(t.kind==5)=true:=by simpa[bne] using h5
  have e:Cc t=14:=by unfold Cc;rw[h5];rfl
  rw[e] at go;exact go
end Go.Proofs.YtopjpnhgnopbiaaGreatDoor.Rx
end
section
namespace Go.Proofs.YtopjpnhgnopbiaaGreatDoor.Rx
open Go.Ai Go Go.Ai.Sp Go.Ai.Ex
set_option maxRecDepth 100000
theorem H6 (ks:List Nd)(k:Nd):AY (ks++[k])=AY ks++[Pc k]:=by
 rw[Dy,Dy,List.map_append];rfl
def w9 (t:Tok):AV:=if t.kind=7 then .sl 0 [] none else .sl 3 (encAs t.attrs) none
theorem YQ (t:Tok):AK t=[.int .i64 t.kind,.str t.name,w9 t,.str t.text,.int .i64 t.fr,.int .i64 t.to]:=by
 unfold AK w9;split
 ·rename_i h;rw[h]
 ·rfl
theorem sK (n:Nat)(h:Hp)(k:Nd):AB n h [Kw k]=[Kw k]:=by
 have e:Kw k=Pc k:=(Gw k).symm;rw[e]
 exact BA n h _ (by simp only[Aa.BZ,JG,Bool.and_true])
theorem fj {t:Tok}(h:t.kind≠7):w9 t=.sl 3 (encAs t.attrs) none:=if_neg h
theorem Tv {l:List Tok}{s s':Rs}(h:I7 l s)(e:∃p,s.l=p++s'.l):I7 l s':=by
 obtain⟨p,hp⟩:=h.nD;obtain⟨q,hq⟩:=e
 exact⟨⟨p++q,by rw[hp,hq,List.append_assoc]⟩,h.len,h.tok⟩
theorem read {l:List Tok}{s:Rs}{t:Tok}{r:List Tok}(h:I7 l s)(hl:s.l=t::r):
  Bm (l.map AK) ((l.length-s.l.length:Nat):Int)=AK t/\(Cy ((l.length-s.l.length:Nat):Int) (l.map AK).length&&true&&true)=true/\(((l.length-s.l.length:Nat):Int)==((l.map AK).length:Int))=false/\
  IntKind.wrap .i64 (((l.length-s.l.length:Nat):Int)+1)=((l.length-r.length:Nat):Int)/\t∈l:=by
 obtain⟨p,hp⟩:=h.nD;have hlen:l.length<=1000000:=h.len;rw[hl] at hp
 have hn:l.length=p.length+(r.length+1):=by rw[hp];simp
 have hi:l.length-s.l.length=p.length:=by rw[hl,List.length_cons];omega
 rw[hi]
 have Au:p.length<l.length:=by omega
 refine⟨?_,?_,?_,?_,?_⟩
 ·rw[CF AK l Au]
  congr 1
  simp[hp]
 ·rw[List.length_map,As Au];rfl
 ·rw[List.length_map]
  exact beq_eq_false_iff_ne.2 (by omega)
 ·exact wr (by omega) (by omega)
 ·rw[hp];simp
theorem Un {lo:Int}{f:Nat}{n:Nd}{la:Int}{d:Nat}{s:Rs}(he:s.e=0)(hl:s.l=[]):Bv lo (f+1) n la d s=(n,bif n.kind==1 then s else DW lo 14 s):=by
 rw[Bv,he,hl];rfl
theorem YL {lo:Int}{f:Nat}{n:Nd}{la:Int}{d:Nat}{s:Rs}{t:Tok}{r:List Tok}(he:s.e=0)(hl:s.l=t::r):Bv lo (f+1) n la d s=
  bif t.kind==4||t.kind==6 then(n,bif Jd t n.kind la then DW t.fr 13 ⟨r,s.pl,s.e⟩ else⟨r,s.pl,s.e⟩)
  else bif t.kind==7 then Bv lo f (.mk n.kind n.pl t.text n.attrs n.kids) la d ⟨r,s.pl,s.e⟩
  else bif t.kind==1 then
   (bif !(n.kind==7)&& !(n.kind==10) then Bv lo f (EK n (.mk 2 t.fr t.text [] [])) la d ⟨r,s.pl,s.e⟩
   else bif (Ba t.text).isEmpty then Bv lo f n la d ⟨r,s.pl,s.e⟩ else Bv lo f n la d (DW ((t.fr:Int)+CL t.text) 13 ⟨r,s.pl,s.e⟩))
  else Bv lo f (EK n (DP lo f t n.kind la (d+1) ⟨r,s.pl,s.e⟩).1) (DP lo f t n.kind la (d+1) ⟨r,s.pl,s.e⟩).1.kind d (DP lo f t n.kind la (d+1) ⟨r,s.pl,s.e⟩).2:=by
 rw[Bv,he,hl];rfl
theorem Pl {t:Tok}{k la:Int}{F R:Prop}(h:(Jd t k la=true->F)/\(Jd t k la=false->R)):
  Ad (!Dz t k) F (Ad (k==7) (Ad (la !=9) F (Ad (k==10) (Ad (la==0) F R) R)) (Ad (k==10) (Ad (la==0) F R) R)):=by
 unfold Jd at h;simp only[bne];revert h;generalize Dz t k=b1;generalize (k==7)=b2;generalize (la==9)=b3;generalize (k==10)=b4;generalize (la==0)=b5
 rintro⟨h1,h2⟩
 cases b1<;>cases b2<;>cases b3<;>cases b4<;>cases b5<;>first|exact h1 rfl|exact h2 rfl
theorem Yq (s:List UInt8):decide (CL s>=0)=!(Ba s).isEmpty:=by
 unfold CL
 cases (Ba s).isEmpty with
 |true=>rfl
 |false=>
  rw[cond_false];exact decide_eq_true (Int.natCast_nonneg _)
theorem Re {h:Hp}{n id:Nat}(hh:h[id]?=some (.grow n 5 26))(hn:n<=1000000):(Bf h n 5 26 (some id)&&true&&true&&true&&decide ((n+1)*80<=140737488355328)&&true&&true)=true:=by
 rw[show Bf h n 5 26 (some id)=true by simp[Bf,hh,Nat.beq_refl],decide_eq_true (by omega)];rfl
def iu (i:Nat):Blk:=.mem 26 [.int .i64 0,.int .i64 0,.str [],.sl 3 [] (some i),.sl 5 [] (some (i+1))]
section
variable {K:AV->Hp->Prop}{l:List Tok}{lo:Int}{t0:Tok}{d N:Nat}
abbrev TB (K:AV->Hp->Prop)(st:List Fm)(F:Fr)(h:Hp):Prop:=AE AI 20 (AD Tryz.f20) (AR Tryz.prog Tryz.f20 11 K) st .normal F h
def rB (t0:Tok)(n:Nd):Hp:=hC t0 (AY n.kids).length++[.mem 26 (Ii n none 10),.grow 0 3 80,.grow 0 5 26,iu 12]
def fB (d:Nat)(la:Int):Fr:=[(0,true,.ptr 4 0),(2,true,.int .i64 d),(4,true,.ptr 11 0),(6,true,.ptr 14 0),(7,true,.int .i64 la)]
abbrev Fz (t:Tok):Blk:=.mem 95 [.int .i64 t.kind,.str t.name,w9 t,.str t.text,.int .i64 t.fr,.int .i64 t.to]
abbrev LB (K:AV->Hp->Prop)(l:List Tok)(lo:Int)(t0:Tok)(d:Nat)(n:Nd)(la:Int)(s:Rs):Prop:=TB K [.code [0,0,1,1],.block 0,.code [1,1,1]] (fB d la) (Sp.hT l lo s++rB t0 n)
def KB (K:AV->Hp->Prop)(l:List Tok)(lo:Int)(t0:Tok)(R:Nd×Rs):Prop:=K (.agg (Ii R.1 none 10)) (Sp.hT l lo R.2++hC t0 (AY R.1.kids).length)
theorem ib {n:Nd}{t:Tok}{la:Int}{s:Rs}(ht:Vg t)(hx:t.text.length<=limE)(h1:t.kind=1)(hn:n.kids.length<=limE)(KX:t.fr<=limE)
  (hL:(bif !(n.kind==7)&& !(n.kind==10) then LB K l lo t0 d (EK n (.mk 2 t.fr t.text [] [])) la s else bif (Ba t.text).isEmpty then LB K l lo t0 d n la s else LB K l lo t0 d n la (DW ((t.fr:Int)+CL t.text) 13 s)))
  (hT:AJ AI (Ae [(47,FT l lo (rB t0 n++[Fz t])),(48,Gm),(49,Hl),(50,Ez N l lo (rB t0 n++[Fz t]))])):
  TB K [.code [1,1,1,1,0,1,0,0,0,1,1],.block 1,.loop [0,0,1,1] 15,.block 0,.code [1,1,1]] (fB d la++[(8,true,.ptr 15 0),(54,true,.int .i64 t.kind)]) (Sp.hT l lo s++(rB t0 n++[Fz t])):=by
 have IS:t.text.length<=1000000:=hx;have xf:t.fr<=1000000:=KX;have kn:n.kids.length<=1000000:=hn
 have e4:(t.kind==4)=false:=beq_eq_false_iff_ne.2 (by omega)
 have e6:(t.kind==6)=false:=beq_eq_false_iff_ne.2 (by omega)
 have e7:(t.kind==7)=false:=beq_eq_false_iff_ne.2 (by omega)
 have e1:(t.kind==1)=true:=by rw[h1];rfl
 have zG:CL t.text<=1000000/\-1<=CL t.text:=by
  unfold CL;cases (Ba t.text).isEmpty
  ·rw[cond_false];constructor<;>omega
  ·rw[cond_true];constructor<;>omega
 have hw:IntKind.wrap .i64 ((t.fr:Int)+CL t.text)=(t.fr:Int)+CL t.text:=Bs (by omega) (by omega)
 have stay:∀q:Bool,decide (CL t.text>=0)=q->(bif (Ba t.text).isEmpty then LB K l lo t0 d n la s else LB K l lo t0 d n la (DW ((t.fr:Int)+CL t.text) 13 s))->(q=true->LB K l lo t0 d n la (DW ((t.fr:Int)+CL t.text) 13 s))/\(q=false->LB K l lo t0 d n la s):=by
  intro q hq hh;rw[Yq] at hq
  cases hb:(Ba t.text).isEmpty with
  |true=>rw[hb] at hq hh;exact⟨fun h=>(by rw[h] at hq;cases hq),fun _=>hh⟩
  |false=>rw[hb] at hq hh;exact⟨fun _=>hh,fun h=>by rw[h] at hq;cases hq⟩
 refine XY hT (AA (fun h=>absurd (e4.symm.trans h) (by decide)) fun _=>AA (fun h=>absurd (e6.symm.trans h) (by decide)) fun _=>AA (fun h=>absurd (e7.symm.trans h) (by decide)) fun _=>AA (fun _=>⟨t.text,hx,rfl,?_⟩) fun h=>absurd (e1.symm.trans h) (by decide))
 have inner:(bif (Ba t.text).isEmpty then LB K l lo t0 d n la s else LB K l lo t0 d n la (DW ((t.fr:Int)+CL t.text) 13 s))->∀{G:Prop},((decide (CL t.text>=0)=true->LB K l lo t0 d n la (DW ((t.fr:Int)+CL t.text) 13 s))/\(decide (CL t.text>=0)=false->LB K l lo t0 d n la s)->G)->G:=fun hh G g=>g (stay _ rfl hh)
 refine AA (fun h7=>AA (fun Py=> ?_) fun Py=> ?_) fun h7=> ?_
 ·have h7:(n.kind==7)=false:=by simpa[bne] using h7
  have Py:(n.kind==10)=false:=by simpa[bne] using Py
  rw[h7,Py] at hL;have hL:LB K l lo t0 d (EK n (.mk 2 t.fr t.text [] [])) la s:=hL;unfold LB rB Ii at hL;rw[Cn,H6,List.length_append] at hL
  refine AF (Re rfl (by rw[Be];exact kn)) ?_
  rw[Lx.Cb,sN,s9,sA,sB];exact hL
 ·have h7:(n.kind==7)=false:=by simpa[bne] using h7
  have Py:(n.kind==10)=true:=by simpa[bne] using Py
  rw[h7,Py] at hL
  refine inner hL fun⟨g1,g2⟩=>AA (fun hs=>⟨_,_,_,s.pl,s.e,rfl,rfl,?_⟩) fun hs=> ?_
  ·rw[hw,sN,s9,sA,sB];exact g1 hs
  ·rw[sN,s9,sA,sB];exact g2 hs
 ·have h7:(n.kind==7)=true:=by simpa[bne] using h7
  rw[h7] at hL
  refine inner hL fun⟨g1,g2⟩=>AA (fun hs=>⟨_,_,_,s.pl,s.e,rfl,rfl,?_⟩) fun hs=> ?_
  ·rw[hw,sN,s9,sA,sB];exact g1 hs
  ·rw[sN,s9,sA,sB];exact g2 hs
theorem lT {n:Nd}{t:Tok}{la:Int}{s:Rs}(aI:t.kind=4\/t.kind=6)(hK:KB K l lo t0 (n,bif Jd t n.kind la then DW t.fr 13 s else s))
  (hT:AJ AI (Ae [(47,FT l lo (rB t0 n++[Fz t])),(48,Gm),(49,Hl),(50,Ez N l lo (rB t0 n++[Fz t]))])):
  TB K [.code [1,1,1,1,0,1,0,0,0,1,1],.block 1,.loop [0,0,1,1] 15,.block 0,.code [1,1,1]] (fB d la++[(8,true,.ptr 15 0),(54,true,.int .i64 t.kind)]) (Sp.hT l lo s++(rB t0 n++[Fz t])):=by
 have hw:strip 0 [] (w9 t)=.sl 3 (encAs t.attrs) none:=by
  rw[fj (by omega)]
  show AV.sl 3 (AB 0 [] (encAs t.attrs)) none=_;rw[sA]
 have fin:(Jd t n.kind la=true->KB K l lo t0 (n,DW t.fr 13 s))/\(Jd t n.kind la=false->KB K l lo t0 (n,s)):=by
  constructor<;>intro h<;>(rw[h] at hK;exact hK)
 obtain⟨f1,f2⟩:=fin
 refine XY hT (AA (fun _=>⟨t,n.kind,by rw[hw],Pl ⟨fun hb=>⟨_,_,_,s.pl,s.e,rfl,rfl,?_⟩,fun hb=> ?_⟩⟩) fun h4=>AA (fun _=>⟨t,n.kind,by rw[hw],Pl ⟨fun hb=>⟨_,_,_,s.pl,s.e,rfl,rfl,?_⟩,fun hb=> ?_⟩⟩) fun h6=> ?_)
 ·rw[sB,sN,s9,sA];exact f1 hb
 ·rw[sB,sN,s9,sA];exact f2 hb
 ·rw[sB,sN,s9,sA];exact f1 hb
 ·rw[sB,sN,s9,sA];exact f2 hb
 ·have:=beq_eq_false_iff_ne.1 h4;have:=beq_eq_false_iff_ne.1 h6;omega
theorem rK {n:Nd}{t:Tok}{la:Int}{s:Rs}(h7:t.kind=7)(hL:LB K l lo t0 d (.mk n.kind n.pl t.text n.attrs n.kids) la s)
  (hT:AJ AI (Ae [(47,FT l lo (rB t0 n++[Fz t])),(48,Gm),(49,Hl),(50,Ez N l lo (rB t0 n++[Fz t]))])):
  TB K [.code [1,1,1,1,0,1,0,0,0,1,1],.block 1,.loop [0,0,1,1] 15,.block 0,.code [1,1,1]] (fB d la++[(8,true,.ptr 15 0),(54,true,.int .i64 t.kind)]) (Sp.hT l lo s++(rB t0 n++[Fz t])):=by
 have e4:(t.kind==4)=false:=beq_eq_false_iff_ne.2 (by omega)
 have e6:(t.kind==6)=false:=beq_eq_false_iff_ne.2 (by omega)
 have e7:(t.kind==7)=true:=by rw[h7];rfl
 refine XY hT (AA (fun h=>absurd (e4.symm.trans h) (by decide)) fun _=>AA (fun h=>absurd (e6.symm.trans h) (by decide)) fun _=>AA (fun _=> ?_) fun h=>absurd (e7.symm.trans h) (by decide))
 rw[sN,s9,sA,sB];exact hL
theorem qY {n:Nd}{t:Tok}{la:Int}{s:Rs}{f:Nat}(hk:t.kind=2\/t.kind=3\/t.kind=5)(hm:t∈l)(hN:s.l.length<N)(hf:s.l.length<f)(BF:I7 l s)(hd:d<=16)(hn:n.kids.length<=limE)
  (hL:LB K l lo t0 d (EK n (DP lo f t n.kind la (d+1) s).1) (DP lo f t n.kind la (d+1) s).1.kind (DP lo f t n.kind la (d+1) s).2)
  (hT:AJ AI (Ae [(47,FT l lo (rB t0 n++[Fz t])),(48,Gm),(49,Hl),(50,Ez N l lo (rB t0 n++[Fz t]))])):
  TB K [.code [1,1,1,1,0,1,0,0,0,1,1],.block 1,.loop [0,0,1,1] 15,.block 0,.code [1,1,1]] (fB d la++[(8,true,.ptr 15 0),(54,true,.int .i64 t.kind)]) (Sp.hT l lo s++(rB t0 n++[Fz t])):=by
 have kn:n.kids.length<=1000000:=hn
 have e4:(t.kind==4)=false:=beq_eq_false_iff_ne.2 (by omega)
 have e6:(t.kind==6)=false:=beq_eq_false_iff_ne.2 (by omega)
 have e7:(t.kind==7)=false:=beq_eq_false_iff_ne.2 (by omega)
 have e1:(t.kind==1)=false:=beq_eq_false_iff_ne.2 (by omega)
 have hw:IntKind.wrap .i64 ((d:Int)+1)=((d+1:Nat):Int):=wr (by omega) (by omega)
 refine XY hT (AA (fun h=>absurd (e4.symm.trans h) (by decide)) fun _=>AA (fun h=>absurd (e6.symm.trans h) (by decide)) fun _=>AA (fun h=>absurd (e7.symm.trans h) (by decide)) fun _=>AA (fun h=>absurd (e1.symm.trans h) (by decide)) fun _=>⟨t,n.kind,la,d+1,f,s,hN,hf,BF,hm,hk,by omega,by rw[hw,fj (by omega)],rfl,fun k s' VU=> ?_⟩)
 rw[VU] at hL;unfold LB rB Ii at hL;simp only at hL;rw[Cn,H6,List.length_append,Gw] at hL
 refine AF (Re rfl (by rw[Be];exact kn)) ?_
 rw[Lx.Cb,sN,sK,s9,sA,sB];exact hL
end
end Go.Proofs.YtopjpnhgnopbiaaGreatDoor.Rx
end
section
namespace Go.Proofs.YtopjpnhgnopbiaaGreatDoor.Rx
open Go.Ai Go Go.Ai.Sp Go.Ai.Ex
set_option maxRecDepth 100000
theorem So {l:List Tok}{s:Rs}(BF:I7 l s):(s.l=[]/\(((l.length-s.l.length:Nat):Int)==((l.map AK).length:Int))=true)\/∃t r,s.l=t::r:=by
 cases h:s.l with
 |nil=>exact .inl ⟨rfl,by simp⟩
 |cons t r=>exact .inr ⟨t,r,rfl⟩
section
variable {K:AV->Hp->Prop}{l:List Tok}{lo:Int}{t0:Tok}{d N:Nat}
theorem jA (iD:∀l lo r,okB r=true->CO AI 50 (Ez N l lo r))(hd:d<=16):∀(f:Nat) (n:Nd) (la:Int) (s:Rs),s.l.length<f->s.l.length<=N->I7 l s->n.kids.length+s.l.length<=l.length->
  KB K l lo t0 (Bv lo f n la d s)->LB K l lo t0 d n la s
 |0,_,_,_,h,_,_,_,_=>absurd h (Nat.not_lt_zero _)
 |f+1,n,la,s,hf,hN,BF,hlen,hK=>by
  have ih:=jA iD hd f;have gp:l.length<=limE:=BF.len;have hT:=AX (AG (eu l lo (rB t0 n) rfl) AM)
  have fin:∀s2:Rs,KB K l lo t0 (n,s2)->KB K l lo t0 (n,s2):=fun _ h=>h
  refine nB hT (AA (fun he=>AA (fun ha=> ?_) fun ha=> ?_) fun he=> ?_)
  ·have he:=eq_of_beq he
   rcases So BF with ⟨hl,_⟩|⟨t,r,hl⟩
   ·rw[Un he hl] at hK
    refine AA (fun hk=>⟨_,_,_,s.pl,s.e,rfl,rfl,?_⟩) fun hk=> ?_
    ·have hk:(n.kind==1)=false:=by simpa[bne] using hk
     rw[hk] at hK;rw[sB,sN,s9,sA];exact hK
    ·have hk:(n.kind==1)=true:=by simpa[bne] using hk
     rw[hk] at hK;rw[sB,sN,s9,sA];exact hK
   ·obtain⟨_,_,h3,_⟩:=read BF hl
    exact absurd (h3.symm.trans ha) (by decide)
  ·have he:=eq_of_beq he
   rcases So BF with ⟨hl,h1⟩|⟨t,r,hl⟩
   ·exact absurd (ha.symm.trans h1) (by decide)
   ·obtain⟨q1,q2,_,q4,q5⟩:=read BF hl;have ht:=BF.tok t q5
    have hr:s.l.length=r.length+1:=by rw[hl];rfl
    have PA:I7 l ⟨r,s.pl,s.e⟩:=Tv BF ⟨[t],by rw[hl];rfl⟩
    have iC:=AX (AG (eu l lo (rB t0 n++[Fz t]) rfl) (AG pH (AG c49 (AG (iD l lo (rB t0 n++[Fz t]) rfl) AM))));refine AF q2 ⟨_,_,_,_,_,_,q1.trans (YQ t),?_⟩;rw[q4];rw[YL he hl] at hK
    by_cases aI:t.kind=4\/t.kind=6
    ·have eP:((t.kind==4)||(t.kind==6))=true:=by rcases aI with h|h<;>rw[h]<;>rfl
     rw[eP,cond_true] at hK;exact lT (s:=⟨r,s.pl,s.e⟩) aI hK iC
    ·have eP:((t.kind==4)||(t.kind==6))=false:=by rw[beq_eq_false_iff_ne.2 (by omega),beq_eq_false_iff_ne.2 (by omega)];rfl
     rw[eP,cond_false] at hK
     by_cases h7:t.kind=7
     ·rw[h7] at hK
      exact rK (s:=⟨r,s.pl,s.e⟩) h7 (ih _ la ⟨r,s.pl,s.e⟩ (show r.length<f by omega) (show r.length<=N by omega) PA (show n.kids.length+r.length<=l.length by omega) hK) iC
     ·rw[beq_eq_false_iff_ne.2 h7,cond_false] at hK
      by_cases h1:t.kind=1
      ·have e1:(t.kind==1)=true:=by rw[h1];rfl
       rw[e1,cond_true] at hK
       refine ib (s:=⟨r,s.pl,s.e⟩) ht.1 ht.2.2.1 h1 (by omega) (by have:=ht.2.2.2.1;have:=ht.1.2.2.1;omega) ?_ iC
       cases YG: !(n.kind==7)&& !(n.kind==10) with
       |true=>
        rw[YG,cond_true] at hK
        exact ih _ la ⟨r,s.pl,s.e⟩ (show r.length<f by omega) (show r.length<=N by omega) PA (by rw[Cn,List.length_append];show n.kids.length+1+r.length<=l.length;omega) hK
       |false=>
        rw[YG,cond_false] at hK
        cases hb:(Ba t.text).isEmpty with
        |true=>
         rw[hb,cond_true] at hK
         exact ih n la ⟨r,s.pl,s.e⟩ (show r.length<f by omega) (show r.length<=N by omega) PA (show n.kids.length+r.length<=l.length by omega) hK
        |false=>
         rw[hb,cond_false] at hK
         exact ih n la (DW _ 13 ⟨r,s.pl,s.e⟩) (show r.length<f by omega) (show r.length<=N by omega) (Tv PA ⟨[],rfl⟩) (show n.kids.length+r.length<=l.length by omega) hK
      ·have hk:t.kind=2\/t.kind=3\/t.kind=5:=by have:=ht.1.1;omega
       rw[beq_eq_false_iff_ne.2 h1,cond_false] at hK;obtain⟨p,hp⟩:=RO (long:=lo) (f:=f) (t:=t) (i:=n.kind) (la:=la) (d:=d+1) (s:=⟨r,s.pl,s.e⟩);have hp:r=p++(DP lo f t n.kind la (d+1) ⟨r,s.pl,s.e⟩).2.l:=hp
       have fc:r.length=p.length+(DP lo f t n.kind la (d+1) ⟨r,s.pl,s.e⟩).2.l.length:=by
        have:=congrArg List.length hp
        rwa [List.length_append] at this
       refine qY (s:=⟨r,s.pl,s.e⟩) (f:=f) hk q5 (show r.length<N by omega) (show r.length<f by omega) PA hd (by omega) ?_ iC
       exact ih _ _ _ (by omega) (by omega) (Tv PA ⟨p,hp⟩) (by rw[Cn,List.length_append,List.length_singleton];omega) hK
  ·rw[HZ he] at hK;rw[sB,sN,s9,sA];exact hK
theorem iv :Qk AI 20 Tryz.f20 11:=⟨by kernel_rfl,by kernel_rfl,by kernel_rfl,by kernel_rfl,by kernel_rfl,by kernel_rfl,by kernel_rfl⟩
theorem nS {l:List Tok}{s:Rs}{t:Tok}{r:Hp}(hr:okB r=true):HO 11 (Sp.hT l lo s++(hC t 0++r))=true:=by
 have h:(Sp.hT l lo s++(hC t 0++r)).all (fun b=>!HT b)=true:=by
  rw[List.all_append,List.all_append,show r.all (fun b=>!HT b)=true from hr];rfl
 have h2:Nat.ble 11 (Sp.hT l lo s++(hC t 0++r)).length=true:=Nat.ble_eq_true_of_le (by simp[Sp.hT,hR,hC])
 unfold HO;rw[h,h2];rfl
theorem jh (l:List Tok)(s:Rs)(t:Tok)(r:Hp):((Sp.hT l lo s++(hC t 0++r)).take 11).map (AN 11 [])=Sp.hT l lo s++hC t 0:=by
 show [Blk.grow 0 3 80,.grow 0 5 26,.mem 26 [.int .i64 0,.int .i64 0,.str [],.sl 3 [] (some 0),.sl 5 [] (some 1)],.grow 0 6 95,.mem 59 [.sl 6 (AB 11 [] (l.map AK)) none,.int .i64 ((l.length-s.l.length:Nat):Int),.int .i64 lo,.int .i64 s.pl,.int .i64 s.e],
  .mem 95 (AQ 11 [] (Ex.encT t)),.grow 0 3 80,.grow 0 5 26,.mem 26 [.int .i64 0,.int .i64 0,.str [],.sl 3 [] (some 6),.sl 5 [] (some 7)],.grow 0 3 80,.grow 0 5 26]=_
 rw[s9,vT];rfl
theorem uc (iD:∀l lo r,okB r=true->CO AI 50 (Ez N l lo r))(l:List Tok)(lo:Int)(r:Hp)(hr:okB r=true):CO AI 20 (Se (N+1) l lo r):=by
 refine Nw iv fun vs h K ht=> ?_
 obtain⟨n,t,d,f,s,xU,hN,hf,BF,hd,rfl,rfl,hK⟩:=ht;refine⟨nS hr,?_⟩;rw[jh];obtain⟨k,p0,tx,al,ks⟩:=n;obtain rfl:ks=[]:=xU
 have hv:AQ 11 [] [.ptr 4 0,.agg (Ii (.mk k p0 tx al []) none 10),.int .i64 d]=[.ptr 4 0,.agg (Ii (.mk k p0 tx al []) none 10),.int .i64 d]:=by
  show [AV.ptr 4 0,.agg [.int .i64 k,.int .i64 p0,.str tx,.sl 3 (AB 11 [] (al.map Go.Ai.Ao)) none,.sl 5 [] (some 10)],.int .i64 d]=_;rw[sB];rfl
 rw[hv]
 refine rC Z9 (jA iD hd f (.mk k p0 tx al []) 0 s hf (by omega) BF ?_ ?_)
 ·obtain⟨p,hp⟩:=BF.nD;have:=congrArg List.length hp;rw[List.length_append] at this;show 0+s.l.length<=l.length;omega
 ·have:=hK _ _ rfl;exact this
abbrev TA (K:AV->Hp->Prop)(st:List Fm)(F:Fr)(h:Hp):Prop:=AE AI 20 (AD Tryz.f20) (AR Tryz.prog Tryz.f20 7 K) st .normal F h
def rA (tx:List UInt8)(ks:List Nd):Hp:=[.grow 0 3 80,.grow (AY ks).length 5 26,.mem 26 [.int .i64 1,.int .i64 0,.str tx,.sl 3 [] (some 5),.sl 5 (AY ks) (some 6)],.grow 0 3 80,.grow 0 5 26,iu 8]
def fA (la:Int):Fr:=[(0,true,.ptr 4 0),(2,true,.int .i64 0),(4,true,.ptr 7 0),(6,true,.ptr 10 0),(7,true,.int .i64 la)]
abbrev LA (K:AV->Hp->Prop)(l:List Tok)(lo:Int)(tx:List UInt8)(ks:List Nd)(la:Int)(s:Rs):Prop:=TA K [.code [0,0,1,1],.block 0,.code [1,1,1]] (fA la) (Sp.hT l lo s++rA tx ks)
def KA (K:AV->Hp->Prop)(l:List Tok)(lo:Int)(R:Nd×Rs):Prop:=K (.agg (Ii R.1 (some 5) 6)) (Sp.hT l lo R.2++[.grow 0 3 80,.grow (AY R.1.kids).length 5 26])
theorem jB (iD:∀l lo r,okB r=true->CO AI 50 (Ez N l lo r)):∀(f:Nat) (tx:List UInt8) (ks:List Nd) (la:Int) (s:Rs),s.l.length<f->s.l.length<=N->I7 l s->ks.length+s.l.length<=l.length->
  KA K l lo (Bv lo f (.mk 1 0 tx [] ks) la 0 s)->LA K l lo tx ks la s
 |0,_,_,_,_,h,_,_,_,_=>absurd h (Nat.not_lt_zero _)
 |f+1,tx,ks,la,s,hf,hN,BF,hlen,hK=>by
  have ih:=jB iD f;have gp:l.length<=1000000:=BF.len;have hT:=AX (AG (eu l lo (rA tx ks) rfl) AM)
  refine nC hT (AA (fun he=>AA (fun ha=> ?_) fun ha=> ?_) fun he=> ?_)
  ·have he:=eq_of_beq he
   rcases So BF with ⟨hl,_⟩|⟨t,r,hl⟩
   ·rw[Un he hl] at hK;rw[sN,s9];exact hK
   ·obtain⟨_,_,h3,_⟩:=read BF hl
    exact absurd (h3.symm.trans ha) (by decide)
  ·have he:=eq_of_beq he
   rcases So BF with ⟨hl,h1⟩|⟨t,r,hl⟩
   ·exact absurd (ha.symm.trans h1) (by decide)
   ·obtain⟨q1,q2,_,q4,q5⟩:=read BF hl;have ht:=BF.tok t q5
    have hr:s.l.length=r.length+1:=by rw[hl];rfl
    have PA:I7 l ⟨r,s.pl,s.e⟩:=Tv BF ⟨[t],by rw[hl];rfl⟩
    have iC:=AX (AG (eu l lo (rA tx ks++[Fz t]) rfl) (AG pH (AG c49 (AG (iD l lo (rA tx ks++[Fz t]) rfl) AM))));refine AF q2 ⟨_,_,_,_,_,_,q1.trans (YQ t),?_⟩;rw[q4];rw[YL he hl] at hK
    have go:∀{c:Int},t.kind=c->(t.kind==c)=true:=fun h=>by rw[h];exact beq_self_eq_true _
    have no:∀{c:Int} {G:Prop},t.kind≠c->(t.kind==c)=true->G:=fun h h2=>absurd (eq_of_beq h2) h
    have yes:∀{c:Int} {G:Prop},t.kind=c->(t.kind==c)=false->G:=fun h h2=>absurd h (beq_eq_false_iff_ne.1 h2)
    by_cases aI:t.kind=4\/t.kind=6
    ·have eP:((t.kind==4)||(t.kind==6))=true:=by rcases aI with h|h<;>rw[h]<;>rfl
     rw[eP,cond_true] at hK
     have hw:strip 0 [] (w9 t)=.sl 3 (encAs t.attrs) none:=by
      rw[fj (by omega)]
      show AV.sl 3 (AB 0 [] (encAs t.attrs)) none=_;rw[sA]
     have hb:Jd t 1 la=!Dz t 1:=by
      unfold Jd;simp
     have hK:KA K l lo (.mk 1 0 tx [] ks,bif Jd t 1 la then DW t.fr 13 ⟨r,s.pl,s.e⟩ else⟨r,s.pl,s.e⟩):=hK;rw[hb] at hK
     refine XZ iC (AA (fun _=>⟨t,1,by rw[hw],AA (fun hc=>⟨_,_,_,s.pl,s.e,rfl,rfl,?_⟩) fun hc=> ?_⟩) fun h4=>AA (fun _=>⟨t,1,by rw[hw],AA (fun hc=>⟨_,_,_,s.pl,s.e,rfl,rfl,?_⟩) fun hc=> ?_⟩) fun h6=> ?_)
     ·rw[hc] at hK;rw[sN,s9];exact hK
     ·rw[hc] at hK;rw[sN,s9];exact hK
     ·rw[hc] at hK;rw[sN,s9];exact hK
     ·rw[hc] at hK;rw[sN,s9];exact hK
     ·rcases aI with h|h
      ·exact yes h h4
      ·exact yes h h6
    ·have eP:((t.kind==4)||(t.kind==6))=false:=by rw[beq_eq_false_iff_ne.2 (by omega),beq_eq_false_iff_ne.2 (by omega)];rfl
     rw[eP,cond_false] at hK
     have n4:t.kind≠4:=fun h=>aI (.inl h)
     have n6:t.kind≠6:=fun h=>aI (.inr h)
     by_cases h7:t.kind=7
     ·rw[h7] at hK
      have:=ih t.text ks la ⟨r,s.pl,s.e⟩ (show r.length<f by omega) (show r.length<=N by omega) PA (show ks.length+r.length<=l.length by omega) hK
      refine XZ iC (AA (no n4) fun _=>AA (no n6) fun _=>AA (fun _=> ?_) (yes h7))
      rw[sN,s9];exact this
     ·rw[beq_eq_false_iff_ne.2 h7,cond_false] at hK
      by_cases h1:t.kind=1
      ·have e1:(t.kind==1)=true:=by rw[h1];rfl
       rw[e1,cond_true] at hK;have hK:KA K l lo (Bv lo f (.mk 1 0 tx [] (ks++[.mk 2 t.fr t.text [] []])) la 0 ⟨r,s.pl,s.e⟩):=hK
       have:=ih tx (ks++[.mk 2 t.fr t.text [] []]) la ⟨r,s.pl,s.e⟩ (show r.length<f by omega) (show r.length<=N by omega) PA (by rw[List.length_append];show ks.length+1+r.length<=l.length;omega) hK
       refine XZ iC (AA (no n4) fun _=>AA (no n6) fun _=>AA (no h7) fun _=>AA (fun _=>⟨t.text,ht.2.2.1,rfl,AF (Re rfl (by rw[Be];omega)) ?_⟩) (yes h1))
       unfold LA rA at this;rw[H6,List.length_append] at this;rw[Lx.Cb,sN,s9];exact this
      ·have hk:t.kind=2\/t.kind=3\/t.kind=5:=by have:=ht.1.1;omega
       rw[beq_eq_false_iff_ne.2 h1,cond_false] at hK;obtain⟨p,hp⟩:=RO (long:=lo) (f:=f) (t:=t) (i:=1) (la:=la) (d:=0+1) (s:=⟨r,s.pl,s.e⟩);have hp:r=p++(DP lo f t 1 la (0+1) ⟨r,s.pl,s.e⟩).2.l:=hp
       have fc:r.length=p.length+(DP lo f t 1 la (0+1) ⟨r,s.pl,s.e⟩).2.l.length:=by
        have:=congrArg List.length hp
        rwa [List.length_append] at this
       have L:=ih tx (ks++[(DP lo f t 1 la (0+1) ⟨r,s.pl,s.e⟩).1]) (DP lo f t 1 la (0+1) ⟨r,s.pl,s.e⟩).1.kind (DP lo f t 1 la (0+1) ⟨r,s.pl,s.e⟩).2 (by omega) (by omega) (Tv PA ⟨p,hp⟩) (by rw[List.length_append,List.length_singleton];omega) hK
       refine XZ iC (AA (no n4) fun _=>AA (no n6) fun _=>AA (no h7) fun _=>AA (no h1) fun _=>⟨t,1,la,0+1,f,⟨r,s.pl,s.e⟩,show r.length<N by omega,show r.length<f by omega,PA,q5,hk,by omega,by rw[fj (by omega)];rfl,rfl,fun k s' VU=> ?_⟩)
       rw[VU] at L;unfold LA rA at L;simp only at L;rw[H6,List.length_append,Gw] at L
       refine AF (Re rfl (by rw[Be];omega)) ?_
       rw[Lx.Cb,sN,sK,s9];exact L
  ·rw[HZ he] at hK;rw[sN,s9];exact hK
theorem ud (iD:∀l lo r,okB r=true->CO AI 50 (Ez N l lo r))(l:List Tok)(lo:Int):CO AI 20 (Wv (N+1) l lo):=by
 refine ec iv fun vs h K ht=> ?_
 obtain⟨f,s,hN,hf,BF,rfl,rfl,hK⟩:=ht;refine⟨rfl,?_⟩
 have e:((Sp.hT l lo s++[Blk.grow 0 3 80,.grow 0 5 26]).take 7).map (AN 7 [])=Sp.hT l lo s++[.grow 0 3 80,.grow 0 5 26]:=by
  show [Blk.grow 0 3 80,.grow 0 5 26,.mem 26 [.int .i64 0,.int .i64 0,.str [],.sl 3 [] (some 0),.sl 5 [] (some 1)],.grow 0 6 95,.mem 59 [.sl 6 (AB 7 [] (l.map AK)) none,.int .i64 ((l.length-s.l.length:Nat):Int),.int .i64 lo,.int .i64 s.pl,.int .i64 s.e],.grow 0 3 80,.grow 0 5 26]=_;rw[s9];rfl
 have e2:Hn 11 (Sp.hT l lo s++[Blk.grow 0 3 80,.grow 0 5 26])=7:=rfl;rw[e2,e]
 refine rD Z9 (jB iD f [] [] 0 s hf (by omega) BF ?_ ?_)
 ·obtain⟨p,hp⟩:=BF.nD;have:=congrArg List.length hp;rw[List.length_append] at this;show 0+s.l.length<=l.length;omega
 ·exact hK _ _ rfl
end
theorem ue :∀N,(∀l lo r,okB r=true->CO AI 20 (Se N l lo r))/\∀l lo,CO AI 20 (Wv N l lo)
 |0=>⟨fun l lo r hr vs h K ht=>by obtain⟨_,_,_,_,s,_,hN,_⟩:=ht;exact absurd hN (Nat.not_lt_zero _),fun l lo vs h K ht=>by obtain⟨_,s,hN,_⟩:=ht;exact absurd hN (Nat.not_lt_zero _)⟩
 |N+1=>⟨uc (pG (ue N).1),ud (pG (ue N).1)⟩
end Go.Proofs.YtopjpnhgnopbiaaGreatDoor.Rx
end
section
namespace Go.Proofs.YtopjpnhgnopbiaaGreatDoor.Rx
open Go.Ai Go Go.Ai.Sp Go.Ai.Ex
set_option maxRecDepth 100000
theorem rN :BD AI 9 Tryz.f9:=(by refine⟨?_,?_,?_,?_,?_,?_⟩<;>kernel_rfl)
theorem nU :BD AI 10 Tryz.f10:=(by refine⟨?_,?_,?_,?_,?_,?_⟩<;>kernel_rfl)
theorem nT :BD AI 21 Tryz.f21:=(by refine⟨?_,?_,?_,?_,?_,?_⟩<;>kernel_rfl)
theorem wG :BD AI 3 Tryz.f3:=(by refine⟨?_,?_,?_,?_,?_,?_⟩<;>kernel_rfl)
theorem wF :BD AI 4 Tryz.f4:=(by refine⟨?_,?_,?_,?_,?_,?_⟩<;>kernel_rfl)
theorem wE :BD AI 7 Tryz.f7:=(by refine⟨?_,?_,?_,?_,?_,?_⟩<;>kernel_rfl)
theorem er :CO AI 7 fi:=ea (n:=1000) wE (by kernel_rfl)
theorem eo :CO AI 8 Rz:=by
 refine Gl (g:=OX) (by kernel_rfl) (by kernel_rfl) (by kernel_rfl) (by kernel_rfl) fun vs h K ht=> ?_
 obtain⟨s,rfl,hk⟩:=ht;refine⟨Lw 3 5 (Bz s),?_,rfl⟩;rw[Hj 0 [] _ (Lo _).1]
 have:Lw 3 5 (Bz s)=.tup [.agg [.int .i64 (A7 s).kind,.int .i64 (A7 s).pl,.str (A7 s).text,.sl 3 ((A7 s).attrs.map Go.Ai.Ao) none,.sl 5 (AY (A7 s).kids) none],.int .i64 (Eo s),.int .i64 (En s)]:=by
  rw[<-Gw];unfold A7 Eo En
  cases Bz s with
  |ok n=>rfl
  |error x=>rfl
 rw[this];exact hk
theorem kP {s:List UInt8}{l:List Tok}(hs:s.length<=65536)(h:lexM s=.ok l)(pl e:Int):I7 l ⟨l,pl,e⟩:=by
 obtain⟨h1,h2⟩:=iZ h;have hw:=Hq h;have hf:=Ow h
 refine⟨⟨[],rfl⟩,show l.length<=1000000 by omega,fun t ht=>⟨UP h t ht,?_,?_,?_,fun h7=> ?_⟩⟩
 ·have:=(h2 t ht).2.1;show t.attrs.length<=1000000;omega
 ·have:=(h2 t ht).1;show t.text.length<=1000000;omega
 ·have:=(Ra l 0 none false hw t ht).2.1;show t.to<=1000000;omega
 ·rcases(hf t ht).2 with h|h|h
  ·exact h
  ·omega
  ·omega
theorem Y6 {s:List UInt8}{p e:Int}(h:Bz s=.error (p,e)):A7 s=lr/\Eo s=p/\En s=e:=by
 unfold A7 Eo En;rw[h];exact⟨rfl,rfl,rfl⟩
theorem bu {s:List UInt8}{n:Nd}(h:Bz s=.ok n):A7 s=n/\Eo s=0/\En s=0:=by
 unfold A7 Eo En;rw[h];exact⟨rfl,rfl,rfl⟩
theorem mM (z1 z2:Nat):mN lr z1 z2:=⟨.inr rfl,.inr rfl⟩
theorem vg :CO AI 9 bk:=by
 refine Ar rN fun vs h K ht=> ?_
 obtain⟨s,hs,rfl,hk⟩:=ht;have FE:s.length<=1000000:=hs
 have bad:∀{p e:Int} (z1 z2:Nat),Bz s=.error (p,e)->K (.tup [.agg [.int .i64 0,.int .i64 0,.str [],.sl z1 [] none,.sl z2 [] none],.int .i64 p,.int .i64 e]) h:=by
  intro p e z1 z2 hp;obtain⟨e1,e2,e3⟩:=Y6 hp
  have:=hk z1 z2 (by rw[e1];exact mM _ _)
  rw[e1,e2,e3] at this;exact this
 by_cases dX:65536<s.length
 ·have hp:Bz s=.error (65536,3):=by unfold Bz;rw[if_pos dX]
  refine⟨_,bad 3 5 hp,qV (AX (AG c9 AM)) (AA (fun _=>rfl) fun h=> ?_)⟩
  have:=of_decide_eq_false h;omega
 ·have kr:s.length<=65536:=by omega
  cases hl:lexM s with
  |error x=>
   obtain⟨p,e⟩:=x
   have hp:Bz s=.error ((p:Nat),e):=by unfold Bz;rw[if_neg dX,hl]
   refine⟨_,bad 3 5 hp,qV (AX (AG c9 AM)) (AA (fun h=> ?_) fun _=>⟨s,hs,rfl,fun p2 e2 h2=> ?_,fun l h2=> ?_⟩)⟩
   ·have:=of_decide_eq_true h;omega
   ·rw[hl] at h2;simp only[Except.error.injEq,Prod.mk.injEq] at h2;obtain⟨rfl,rfl⟩:=h2
    refine AA (fun _=>rfl) fun h=> ?_
    have:e=0:=by simpa[bne] using h
    exact absurd this (cj hl)
   ·rw[hl] at h2;cases h2
  |ok l=>
   have hr:=bj s;unfold j0 at hr;rw[if_neg dX,hl] at hr;simp only at hr
   have key:∀v,((Bv s.length (l.length+1) (.mk 1 0 [] [] []) 0 0 ⟨l,0,0⟩).2.e≠0->.tup [.agg [.int .i64 0,.int .i64 0,.str [],.sl 0 [] none,.sl 0 [] none],.int .i64 (Bv s.length (l.length+1) (.mk 1 0 [] [] []) 0 0 ⟨l,0,0⟩).2.pl,.int .i64 (Bv s.length (l.length+1) (.mk 1 0 [] [] []) 0 0 ⟨l,0,0⟩).2.e]=v)->
     ((Bv s.length (l.length+1) (.mk 1 0 [] [] []) 0 0 ⟨l,0,0⟩).2.e=0->.tup [.agg (Kw (Bv s.length (l.length+1) (.mk 1 0 [] [] []) 0 0 ⟨l,0,0⟩).1),.int .i64 0,.int .i64 0]=v)->
     AE AI 9 (AD Tryz.f9) (AO Tryz.prog Tryz.f9 v) [.code []] .normal [(0,true,.str s)] []:=by
    intro v dL fZ
    refine qV (AX (AG c9 AM)) (AA (fun h=> ?_) fun _=>⟨s,hs,rfl,fun p2 e2 h2=> ?_,fun l2 h2=> ?_⟩)
    ·have:=of_decide_eq_true h;omega
    ·rw[hl] at h2;cases h2
    ·rw[hl] at h2
     injection h2 with h2
     subst h2
     refine qU (AX (AG ((ue (l.length+1)).2 l s.length) AM)) ⟨l.length+1,⟨l,0,0⟩,Nat.lt_succ_self _,Nat.lt_succ_self _,kP kr hl 0 0,rfl,by rw[Nat.sub_self];rfl,fun n s' Nr=> ?_⟩
     rw[Nr] at dL fZ
     refine AA (fun h=>dL ?_) fun h=> ?_
     ·have:(s'.e==0)=false:=by simpa[bne] using h
      exact beq_eq_false_iff_ne.1 this
     ·have:s'.e=0:=by simpa[bne] using h
      rw[sB,sN];exact fZ this
   generalize Bv s.length (l.length+1) (.mk 1 0 [] [] []) 0 0 ⟨l,0,0⟩=R at hr key
   by_cases he:R.2.e=0
   ·rw[he] at hr;obtain⟨e1,e2,e3⟩:=bu hr.symm;have:=hk 3 5 ⟨.inl rfl,.inl rfl⟩;rw[e1,e2,e3] at this
    exact⟨_,this,key _ (fun h=>absurd he h) fun _=>rfl⟩
   ·rw[beq_eq_false_iff_ne.2 he] at hr
    exact⟨_,bad 0 0 hr.symm,key _ (fun _=>rfl) fun h=>absurd h he⟩
theorem kN {z:Nat}{l:List Go.Ai.A9}(hl:l.length<=limE)(hz:z=3\/l=[]):∀(n i:Nat),l.length-i=n->i<=l.length->
  AE AI 21 (AD Tryz.f21) (AO Tryz.prog Tryz.f21 (.bool true)) [.code [0,1,0,1,1],.block 0,.code [1,1,1]] .normal [(0,true,.sl 3 (l.map Go.Ai.Ao) none),(1,true,.sl z (l.map Go.Ai.Ao) none),(5,true,.int .i64 i)] []:=by
 have Wd:l.length<=1000000:=hl;intro n
 induction n with
 |zero=>
  intro i hn hi
  exact iX Z9 (AA (fun x=>by simp at x;omega) fun _=>rfl)
 |succ n ih=>
  intro i hn hi
  have Au:i<l.length:=by omega
  have wN:z=3:=by
   rcases hz with h|h
   ·exact h
   ·rw[h] at Au;simp at Au
  have g:Bm (l.map Go.Ai.Ao) i=Go.Ai.Ao l[i]:=CF Go.Ai.Ao l Au
  have r:Cy (i:Int) (l.map Go.Ai.Ao).length=true:=by rw[List.length_map];exact As Au
  refine iX Z9 (AA (fun _=>AF (by rw[r];rfl) ⟨_,_,_,g,AF (by rw[r,wN];rfl) ⟨_,_,_,g,AA (fun x=>by simp at x) fun _=> ?_⟩⟩) fun x=>by simp at x;omega)
  rw[show IntKind.wrap .i64 ((i:Int)+1)=((i+1:Nat):Int) from wr (by omega) (by omega)]
  exact ih (i+1) (by omega) (by omega)
theorem ub :CO AI 21 bQ:=by
 refine Ar nT fun vs h K ht=> ?_
 obtain⟨l,z,hl,hz,rfl,hk⟩:=ht
 exact⟨_,hk,qW Z9 (AA (fun x=>by simp at x) fun _=>kN hl hz l.length 0 (by omega) (by omega))⟩
theorem nc (n:Nd):(Ab 2 (n.attrs.map Go.Ai.Ao)&&true&&(Ab 2 (AY n.kids)&&true&&true)&&(Ab 2 (n.attrs.map Go.Ai.Ao)&&true&&(Ab 2 (AY n.kids)&&true&&true)&&true))=true:=by
 rw[Qn,Qm];rfl
theorem gY {N:Nat}(hT:CO AI 10 (Lk N)){n:Nd}{z1 z2 M:Nat}(hM:M<=limE)(VO:OJ M n.kids)(PC:n.kids.length<=limE)(hz:mN n z1 z2)(CC:Dd n.kids<N):∀(r pre:List Nd),n.kids=pre++r->Dd r<N->OJ M r->
  AE AI 10 (AD Tryz.f10) (AO Tryz.prog Tryz.f10 (.bool true)) [.code [0,1,0,1,1],.block 0,.code [1,1,1]] .normal [(2,true,.ptr 0 0),(3,true,.ptr 1 0),(5,true,.int .i64 (pre.length:Nat))] [.mem 26 (Kw n),.mem 26 (Xn n z1 z2)]:=by
 have xQ:n.kids.length<=1000000:=PC;intro r
 induction r with
 |nil=>
  intro pre hp hs hm
  refine iY (AX (AG hT AM)) (AA (fun h=> ?_) fun _=>rfl)
  exfalso;rw[hp] at h;simp[Be] at h
 |cons x r ih=>
  intro pre hp hs hm;rw[Dd] at hs
  have Au:pre.length<n.kids.length:=by rw[hp];simp
  have g:Bm (AY n.kids) (pre.length:Int)=Kw x:=by rw[hp];exact(Wp pre x r).trans (Gw x)
  have ir:Cy (pre.length:Int) (AY n.kids).length=true:=by rw[Be];exact As Au
  have wM:z2=5:=by
   rcases hz.2 with h|h
   ·exact h
   ·rw[h] at Au;simp at Au
  have nx:=ih (pre++[x]) (by rw[hp];simp) (by omega) hm.2
  refine iY (AX (AG hT AM)) (AA (fun _=>AF (by rw[ir];rfl) ⟨_,_,_,_,_,g,AF (by rw[ir,wM];rfl) ⟨_,_,_,_,_,g,x,3,5,M,by omega,hm.1,hM,⟨.inl rfl,.inl rfl⟩,?_,AF (nc n) ?_⟩⟩) fun h=> ?_)
  ·rw[sB,sN]
  ·rw[show IntKind.wrap .i64 ((pre.length:Int)+1)=(((pre++[x]).length:Nat):Int) from wr (by simp) (by simp;omega)]
   exact nx
  ·have:=of_decide_eq_false h;rw[Be] at this
theorem lX :∀N,CO AI 10 (Lk N)
 |0=>fun vs h K ht=>by obtain⟨_,_,_,_,hN,_⟩:=ht;exact absurd hN (Nat.not_lt_zero _)
 |N+1=>by
  have hT:=lX N
  refine Ar nU fun vs h K ht=> ?_
  obtain⟨n,z1,z2,M,hN,VO,hM,hz,rfl,hk⟩:=ht;have zN:M<=1000000:=hM;rw[Rk] at VO;obtain⟨a1,a2,a3,a4,a5⟩:=VO;rw[n.size_eq] at hN;refine⟨_,hk,qX (AX (AG ub AM)) ?_⟩
  refine AA (fun x=>by simp[bne] at x) fun _=>AA (fun x=>by simp[bne] at x) fun _=>AA (fun x=>by simp at x) fun _=>AA (fun x=>by simp[bne] at x) fun _=>⟨n.attrs,z1,show n.attrs.length<=1000000 by omega,hz.1,?_,?_⟩
  ·rw[sB]
  ·exact gY hT hM a5 (show n.kids.length<=1000000 by omega) hz (by omega) n.kids [] rfl (by omega) a5
theorem c3 :CO AI 3 Ve:=by
 refine Ar wG fun vs h K ht=> ?_
 obtain⟨s,rfl,hk⟩:=ht
 refine⟨_,hk,vy (AX (AG er (AG eo (AG vg (AG (lX 1000000) AM))))) (AA (fun _=>⟨rfl,rfl⟩) fun x=> ?_)⟩
 have hs:s.length<=6000:=by have:=of_decide_eq_false x;omega
 have h1:=Ho s;have h2:=Mn s
 refine⟨s,rfl,s,by omega,rfl,fun z1 z2 hz=>⟨A7 s,z1,z2,2*s.length+1,by omega,h1.1,show 2*s.length+1<=1000000 by omega,hz,?_,AA (fun _=>AA (fun _=>⟨rfl,rfl⟩) fun x=>by simp at x) fun x=>by simp at x⟩⟩
 rw[sB,sN]
theorem ae (a b:Nat):Int.tmod (a:Int) (b:Int)=((a%b:Nat):Int):=by
 rw[Int.tmod_eq_emod_of_nonneg (by omega)]
 exact(Int.natCast_emod a b).symm
theorem Sv {cs:List AV}(h:Gn cs=true)(o:Nat){c:Int}(h0:0<=c)(h1:c<256):Gn (DB cs o [AV.int .u8 c])=true:=by
 unfold Gn at h⊢;rw[List.all_eq_true] at h⊢;intro x hx;simp only[DB,List.mem_append,List.mem_singleton] at hx
 rcases hx with (hx|rfl)|hx
 ·exact h x (List.mem_of_mem_take hx)
 ·simp only[U9,Bool.and_eq_true,decide_eq_true_eq];omega
 ·exact h x (List.mem_of_mem_drop hx)
theorem J7 {cs:List AV}{o:Nat}{x:AV}(h:o<cs.length):(DB cs o [x]).length=cs.length:=by
 simp only[DB,List.length_append,List.length_take,List.length_drop,List.length_singleton];omega
theorem U8 (n:Nat):Gn (List.replicate n (ofConst (Value.int IntKind.u8 0)))=true:=by
 unfold Gn;rw[List.all_eq_true];intro x hx;rw[List.eq_of_mem_replicate hx];rfl
theorem lh {cs:List AV}{N:Nat}(h:cs.length=N):List.take N (List.drop 0 cs)=cs:=by
 rw[List.drop_zero,List.take_of_length_le (by omega)]
def yV (d:Nat)(k:Nat)(s y:List UInt8):Fr:=[(1,true,.int .u8 d),(7,true,.ptr 3 0),(8,true,.int .i64 (Eo s)),(9,true,.int .i64 (En s)),(10,true,.ptr 6 0),(11,true,.int .i64 (Eo s)),(12,true,.int .i64 (En s)),(13,true,.str y),(14,true,.int .i64 (k:Nat))]
theorem ie :AJ AI (Ae [(10,Lk 1000000),(3,Ve),(7,fi)]):=AX (AG (lX 1000000) (AG c3 (AG er AM)))
theorem kJ {d:Nat}{cs:List AV}{s:List UInt8}{z1 z2:Nat}(hs:s.length<=100000)(hz:mN (A7 s) z1 z2):∀(j k:Nat) (y:List UInt8),k+j=d%40->y.length<=1+21*k->
  AE AI 4 (AD Tryz.f4) (AO Tryz.prog Tryz.f4 (.bool true)) [.code [0,1,0,1,1,1,1,1,1],.block 2,.code [1,1,1,1,1,1,1]] .normal (yV d k s y) [.mem 5 cs,.grow 0 3 80,.grow 0 5 26,.mem 26 (Kw (A7 s)),.grow 0 3 80,.grow 0 5 26,.mem 26 (Xn (A7 s) z1 z2)]:=by
 intro j
 induction j with
 |zero=>
  intro k y hk hy
  have yK:=Nat.mod_lt d (show 40>0 by decide)
  have w:IntKind.wrap .i64 (Int.tmod (d:Int) 40)=((d%40:Nat):Int):=by rw[show((40:Int))=((40:Nat):Int) from rfl,ae];exact wr rfl (by omega)
  have h1:=Ho s;have h2:=Mn s
  refine mQ ie (AA (fun h=> ?_) fun _=>⟨A7 s,z1,z2,2*s.length+1,by omega,h1.1,show 2*s.length+1<=1000000 by omega,hz,?_,AA (fun _=>AA (fun _=>⟨y,rfl,AF ?_ (AF ?_ ⟨_,rfl,rfl,rfl⟩)⟩) fun x=>by simp at x) fun x=>by simp at x⟩)
  ·rw[w] at h;have:=of_decide_eq_true h;omega
  ·rw[sB,sN]
  ·exact decide_eq_true (by omega)
  ·refine decide_eq_true ?_;simp only[List.length_cons,List.append_eq,List.nil_append];omega
 |succ j ih=>
  intro k y hk hy
  have yK:=Nat.mod_lt d (show 40>0 by decide)
  have w:IntKind.wrap .i64 (Int.tmod (d:Int) 40)=((d%40:Nat):Int):=by rw[show((40:Int))=((40:Nat):Int) from rfl,ae];exact wr rfl (by omega)
  refine mQ ie (AA (fun _=>AF ?_ (AF ?_ ?_)) fun h=> ?_)
  ·exact decide_eq_true (by omega)
  ·refine decide_eq_true ?_;simp only[List.length_cons,List.append_eq,List.nil_append];omega
  ·rw[show IntKind.wrap .i64 ((k:Int)+1)=((k+1:Nat):Int) from wr (by omega) (by omega)]
   refine ih (k+1) _ (by omega) ?_
   simp only[List.length_cons,List.append_eq,List.nil_append,List.length_append,List.length_nil];omega
  ·rw[w] at h;have:=of_decide_eq_false h;omega
theorem kK {d N:Nat}(hN:N<=100000):∀(k i:Nat) (cs:List AV),i+k=N->cs.length=N->Gn cs=true->
  AE AI 4 (AD Tryz.f4) (AO Tryz.prog Tryz.f4 (.bool true)) [.code [0,1,0,1,1],.block 0,.code [1,1,1]] .normal [(1,true,.int .u8 (d:Nat)),(5,true,.IP 0 0 N 1),(6,true,.int .i64 (i:Nat))] [.mem 5 cs]:=by
 have hT:=AX (AG eo (AG vg AM));intro k
 induction k with
 |zero=>
  intro i cs hi hc kc
  refine mR hT (AA (fun h=> ?_) fun _=> ?_)
  ·have:=of_decide_eq_true h;omega
  ·rw[lh hc]
   have lc:(List.map NF cs).length=N:=by rw[List.length_map,hc]
   generalize List.map NF cs=x at *
   refine AF kc ⟨x,rfl,AF kc ⟨x,by omega,rfl,fun z1 z2 hz=> ?_⟩⟩
   exact kJ (by omega) hz (d%40) 0 [120] (by omega) (by decide)
 |succ k ih=>
  intro i cs hi hc kc
  have Au:i<N:=by omega
  refine mR hT (AA (fun _=>AF ?_ (AF ?_ ?_)) fun h=> ?_)
  ·rw[As Au];rfl
  ·rw[Int.toNat_natCast]
   exact Nat.ble_eq_true_of_le (by omega)
  ·rw[show IntKind.wrap .i64 ((i:Int)+1)=((i+1:Nat):Int) from wr (by omega) (by omega)]
   refine ih (i+1) _ (by omega) ?_ ?_
   ·rw[J7 (by rw[Int.toNat_natCast];omega),hc]
   ·exact Sv kc _ (by decide) (by decide)
  ·have:=of_decide_eq_false h;omega
def nf :Ci:=fun vs h K=>∃m d:Nat,m<256/\d<256/\vs=[.int .u8 (m:Nat),.int .u8 (d:Nat)]/\K (.bool true) h
theorem c4 :CO AI 4 nf:=by
 refine Ar wF fun vs h K ht=> ?_
 obtain⟨m,d,hm,hd,rfl,hk⟩:=ht;refine⟨_,hk,vx Z9 ?_⟩
 have h9:=Nat.mod_lt m (show 9>0 by decide)
 have w:IntKind.wrap .i64 (65532+IntKind.wrap .i64 (Int.tmod (m:Int) 9))=((65532+m%9:Nat):Int):=by
  rw[show((9:Int))=((9:Nat):Int) from rfl,ae,Bs (n:=((m%9:Nat):Int)) (by omega) (by omega)]
  exact wr (by omega) (by omega)
 rw[w,Int.toNat_natCast]
 refine AF ?_ (kK (by omega) (65532+m%9) 0 _ (by omega) (by rw[List.length_replicate]) (U8 _))
 rw[decide_eq_true (by omega),decide_eq_true (by omega),decide_eq_true (by omega)]
 simp;omega
end Go.Proofs.YtopjpnhgnopbiaaGreatDoor.Rx
end
section
namespace Go.Proofs.YtopjpnhgnopbiaaGreatDoor
open Go.Ai Go
set_option maxRecDepth 100000
theorem fN {n:Nat}{v:AV}(h:Pt Tryz.prog n 5 v):∃k:Nat,k<256/\v=.int .u8 k:=by
 have h:=(show wt Tryz.prog n 5 [v] from h)
 cases n with
 |zero=>exact h.elim
 |succ n=>
  simp only[wt,Tryz.underlying5] at h;obtain⟨z,h1,h⟩:=h
  injection h with h _
  have hw:0<=z/\z<=255:=by simpa[Lit.wf,IntKind.min,IntKind.max,IntKind.signed,IntKind.bits] using h1
  obtain⟨k,rfl⟩:=Int.eq_ofNat_of_zero_le (show 0<=z by omega)
  exact⟨k,by omega,h⟩
end Go.Proofs.YtopjpnhgnopbiaaGreatDoor
end
