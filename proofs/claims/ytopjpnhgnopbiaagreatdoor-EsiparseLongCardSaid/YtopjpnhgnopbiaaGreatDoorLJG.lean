/-
  The parser's small functions: contracts.
  A child more: contracts.
  A tag's attributes: contracts.
  A tag's attributes as a whole: its contract.
  What is done with a text, with a raw text: contracts.
  What is done with what closes: its contract.
  What is done with what opens a hidden part, with a tag: contracts.
  What is done with a tag that opens, or is empty: its contract.
  What is done with the kinds of tokens, a map that stands: as a primitive.
  The parser as a whole: its contract.
  The parser as a primitive: out of its contract.
-/
import Derived.Test.YtopjpnhgnopbiaaGreatDoorLJE
import Derived.Test.YtopjpnhgnopbiaaGreatDoorLJA
import Derived.Test.YtopjpnhgnopbiaaGreatDoorLJT
import Derived.Test.YtopjpnhgnopbiaaGreatDoorLAiPrims
import Derived.Test.YtopjpnhgnopbiaaGreatDoorLJF
import Derived.WalkKit
import Derived.ProofKit
import Derived.MapKept
import Derived.WideMake
set_option linter.unusedVariables false
set_option linter.unusedSimpArgs false
set_option linter.unnecessarySimpa false
section
namespace Go.Proofs.YtopjpnhgnopbiaaGreatDoor
open Go.Ai Go Go.Ai.Sp
open Go.Ai.Ex (encAs encT blB limE)
set_option maxRecDepth 100000
theorem KC :AJ AU (Ae []):=AX AM
theorem ra :BD AU 66 Tryz.f66:=(by refine⟨?_,?_,?_,?_,?_,?_⟩<;>kernel_rfl)
theorem rS :BD AU 102 Tryz.f102:=(by refine⟨?_,?_,?_,?_,?_,?_⟩<;>kernel_rfl)
theorem rU :BD AU 98 Tryz.f98:=(by refine⟨?_,?_,?_,?_,?_,?_⟩<;>kernel_rfl)
theorem rO :BD AU 124 Tryz.f124:=(by refine⟨?_,?_,?_,?_,?_,?_⟩<;>kernel_rfl)
theorem kB :BD AU 101 Tryz.f101:=(by refine⟨?_,?_,?_,?_,?_,?_⟩<;>kernel_rfl)
theorem kA :BD AU 126 Tryz.f126:=(by refine⟨?_,?_,?_,?_,?_,?_⟩<;>kernel_rfl)
theorem tb :Bl AU 62 Tryz.f62:=(by refine⟨?_,?_,?_,?_,?_,?_⟩<;>kernel_rfl)
theorem ta :Bl AU 65 Tryz.f65:=(by refine⟨?_,?_,?_,?_,?_,?_⟩<;>kernel_rfl)
theorem tZ :Bl AU 67 Tryz.f67:=(by refine⟨?_,?_,?_,?_,?_,?_⟩<;>kernel_rfl)
theorem tX :Bl AU 69 Tryz.f69:=(by refine⟨?_,?_,?_,?_,?_,?_⟩<;>kernel_rfl)
theorem eu :CO AU 66 sF:=by
 refine Ar ra fun vs h K ht=> ?_
 obtain⟨s,rfl,hk⟩:=ht;refine⟨_,hk,t47 KC ?_⟩;unfold C7
 repeat' (refine AA (fun a=> ?_) fun a=> ?_)
 all_goals simp only[*,cond_true,cond_false]
 all_goals rfl
theorem yg :CO AU 102 jf:=by
 refine Ar rS fun vs h K ht=> ?_
 obtain⟨x,y,rfl,hk⟩:=ht;refine⟨_,hk,t73 KC ?_⟩;unfold Jq
 repeat' (refine AA (fun a=> ?_) fun a=> ?_)
 all_goals simp[*]
theorem QS {n:Nat}(h:n<=2*Bp):IntKind.wrap .i64 ((n:Int)+1)=((n+1:Nat):Int):=by
 unfold Bp at h;rw[Bs]<;>omega
theorem mP {n:Nat}(h:n+1<=2*Bp):IntKind.wrap .i64 (((n+1:Nat):Int)-1)=(n:Int):=by
 unfold Bp at h;rw[Bs]<;>omega
theorem CF {α:Type}(f:α->List AV)(l:List α){i:Nat}(h:i<l.length):Bm (l.map f) (i:Int)=f l[i]:=by
 unfold Bm;simp[h]
theorem As {i n:Nat}(h:i<n):Cy (i:Int) n=true:=by
 unfold Cy
 rw[decide_eq_true (by omega),decide_eq_true (by omega)];rfl
theorem Fs {α:Type}(p:α->Bool)(l:List α){i:Nat}(h:i<l.length):(l.drop i).any p=(p l[i]||(l.drop (i+1)).any p):=by
 rw[List.drop_eq_getElem_cons h,List.any_cons]
theorem Ou (l:List (List UInt8))(x:List UInt8)(hl:l.length<=Bp):∀(n i:Nat),l.length-i=n->i<=l.length->∃z:Int,decide (z>=0)=(l.drop i).any (·==x)/\
  AE AU 126 (AD Tryz.f126) (AO Tryz.prog Tryz.f126 (.int .i64 z)) [.code [0,1,0,1],.block 0,.code [1,1]] .normal [(0,true,.sl 1 (l.map fun n=>[.str n]) none),(1,true,.str x),(7,true,.int .i64 l.length),(8,true,.int .i64 i)] []
 |0,i,hn,hi=>by
  refine⟨-1,?_,Vi KC (AA (fun a=> ?_) fun _=>rfl)⟩
  ·rw[List.drop_of_length_le (by omega)];rfl
  ·simp at a;omega
 |n+1,i,hn,hi=>by
  have Au:i<l.length:=by omega
  by_cases hx:l[i]=x
  ·refine⟨i,?_,Vi KC (AA (fun a=>AF ?_ ⟨l[i],CF _ l Au,AA (fun _=>rfl) fun b=> ?_⟩) fun a=> ?_)⟩
   ·rw[Fs _ _ Au,decide_eq_true (by omega)];simp[hx]
   ·rw[List.length_map,As Au];rfl
   ·simp[hx] at b
   ·simp at a;omega
  ·obtain⟨z,hz,hr⟩:=Ou l x hl n (i+1) (by omega) (by omega)
   refine⟨z,?_,Vi KC (AA (fun a=>AF ?_ ⟨l[i],CF _ l Au,AA (fun b=> ?_) fun b=> ?_⟩) fun a=> ?_)⟩
   ·rw[hz,Fs _ _ Au];simp[hx]
   ·rw[List.length_map,As Au];rfl
   ·simp at b;exact absurd b.symm hx
   ·rw[QS (by omega)];exact hr
   ·simp at a;omega
theorem cV (l:List Int)(x:Int)(hl:l.length<=Bp):∀(n i:Nat),l.length-i=n->i<=l.length->∃z:Int,decide (z>=0)=(l.drop i).any (·==x)/\
  AE AU 124 (AD Tryz.f124) (AO Tryz.prog Tryz.f124 (.int .i64 z)) [.code [0,1,0,1],.block 0,.code [1,1]] .normal [(0,true,.sl 1 (l.map fun n=>[.int .i64 n]) none),(1,true,.int .i64 x),(7,true,.int .i64 l.length),(8,true,.int .i64 i)] []
 |0,i,hn,hi=>by
  refine⟨-1,?_,jm KC (AA (fun a=> ?_) fun _=>rfl)⟩
  ·rw[List.drop_of_length_le (by omega)];rfl
  ·simp at a;omega
 |n+1,i,hn,hi=>by
  have Au:i<l.length:=by omega
  by_cases hx:l[i]=x
  ·refine⟨i,?_,jm KC (AA (fun a=>AF ?_ ⟨l[i],CF _ l Au,AA (fun _=>rfl) fun b=> ?_⟩) fun a=> ?_)⟩
   ·rw[Fs _ _ Au,decide_eq_true (by omega)];simp[hx]
   ·rw[List.length_map,As Au];rfl
   ·simp[hx] at b
   ·simp at a;omega
  ·obtain⟨z,hz,hr⟩:=cV l x hl n (i+1) (by omega) (by omega)
   refine⟨z,?_,jm KC (AA (fun a=>AF ?_ ⟨l[i],CF _ l Au,AA (fun b=> ?_) fun b=> ?_⟩) fun a=> ?_)⟩
   ·rw[hz,Fs _ _ Au];simp[hx]
   ·rw[List.length_map,As Au];rfl
   ·simp at b;exact absurd b.symm hx
   ·rw[QS (by omega)];exact hr
   ·simp at a;omega
theorem uS :CO AU 126 Sp.dE:=by
 refine Ar kA fun vs h K ht=> ?_
 obtain⟨l,x,rfl,hl,hk⟩:=ht
 obtain⟨z,hz,hr⟩:=Ou l x hl l.length 0 (by omega) (by omega)
 refine⟨_,hk z hz,t88 KC ?_⟩;rw[List.length_map];exact hr
theorem yb :CO AU 124 jD:=by
 refine Ar rO fun vs h K ht=> ?_
 obtain⟨l,x,rfl,hl,hk⟩:=ht
 obtain⟨z,hz,hr⟩:=cV l x hl l.length 0 (by omega) (by omega)
 refine⟨_,hk z hz,t86 KC ?_⟩;rw[List.length_map];exact hr
theorem nO (l:List (List UInt8)):Aa.BZ (l.map fun n=>[AV.str n])=true:=by
 induction l with
 |nil=>rfl
 |cons a r ih=>simp only[List.map_cons,Aa.BZ,Aa.Ax,Aa,ih,Bool.true_and]
theorem rL (l:List Int):Aa.BZ (l.map fun n=>[AV.int .i64 n])=true:=by
 induction l with
 |nil=>rfl
 |cons a r ih=>simp only[List.map_cons,Aa.BZ,Aa.Ax,Aa,ih,Bool.true_and]
theorem uV :CO AU 101 Sp.kT:=by
 refine Ar kB fun vs h K ht=> ?_
 obtain⟨l,x,rfl,hl,hk⟩:=ht
 exact⟨_,hk,t72 (AX (AG uS AM)) ⟨l,x,by rw[BA 0 [] _ (nO l)],hl,fun z hz=>by rw[hz]⟩⟩
theorem yi :CO AU 98 kS:=by
 refine Ar rU fun vs h K ht=> ?_
 obtain⟨l,x,rfl,hl,hk⟩:=ht
 exact⟨_,hk,t69 (AX (AG yb AM)) ⟨l,x,by rw[BA 0 [] _ (rL l)],hl,fun z hz=>by rw[hz]⟩⟩
theorem EG {rows:List Row}{r:Hp}(hw:Ak.okW rows r){g:Nat}{pl e:Int}{n:Nat}(G:Hp)(hn:n=8+r.length):
  List.map (AN n G) (List.take n (hP g rows pl e++r))=hP g rows pl e++r:=by
 have hl:(hP g rows pl e++r).length=n:=by rw[hn];simp[hP];omega
 obtain⟨h1,h2⟩:=hw n G (by omega)
 rw[<-hl,List.take_length,hl,List.map_append,h2]
 congr 1
 obtain⟨m,rfl⟩:∃m,n=m+8:=⟨r.length,by omega⟩
 have b:∀i,i<8->Nat.blt i (m+8)=true:=fun i h=>Nat.ble_eq_true_of_le (by omega)
 simp only[hP,List.map_cons,List.map_nil,AN,AQ,strip,AB,Cj,h1,b 0 (by omega),b 1 (by omega),b 5 (by omega),cond_true]
theorem Cf {g:Nat}{rows:List Row}{pl e:Int}{r:Hp}:(hP g rows pl e++r).length=8+r.length:=by simp[hP];omega
theorem D8 {K:AV->Hp->Prop}{v:AV}{h h':Hp}(e:h'=h)(hk:K v h):K v h':=e▸hk
theorem JD {rows:List Row}{r own:Hp}(hw:Ak.okW rows r){g:Nat}{pl e:Int}{n:Nat}{G:Hp}(hn:n=8+r.length):
  List.map (AN n G) (List.take n ((hP g rows pl e++r)++own))=hP g rows pl e++r:=by
 rw[List.take_append_of_le_length (by rw[hn,Cf];exact Nat.le_refl _)]
 exact EG hw G hn
theorem iL :CO AU 62 Jt:=by
 refine BG tb fun vs h K ht=> ?_
 obtain⟨g,row,rows,pl,e,r,hw,hl,rfl,rfl,hk⟩:=ht
 have nz:IntKind.wrap IntKind.i64 (((row::rows).length:Int)-1)=((row::rows).length:Int)-1:=by
  unfold Bp at hl
  rw[Bs]<;>simp at hl⊢<;>omega
 refine t43 KC (AF ?_ ⟨AF ?_ ⟨?_,rfl⟩,?_⟩)
 ·rw[decide_eq_true nz];rfl
 ·rw[decide_eq_true nz];rfl
 ·repeat' (first|exact rfl|exact trivial|constructor)
 ·exact D8 (EG hw _ Cf) hk
theorem iK :CO AU 65 Ch:=by
 refine BG ta fun vs h K ht=> ?_
 obtain⟨p,x,g,rows,pl,e,r,hw,rfl,rfl,hk⟩:=ht
 refine t46 KC (AA (fun a=> ?_) fun a=> ?_)
 ·simp only[fE,a,cond_true] at hk;exact D8 (EG hw _ Cf) hk
 ·simp only[fE,a,cond_false] at hk;exact D8 (EG hw _ Cf) hk
theorem Kb :AJ AU (Ae [(62,Jt)]):=AX (AG iL AM)
theorem cn {es:List (List AV)}{x:List AV}{n:Nat}(hn:es.length=n+1)(hx:Bm es (n:Int)=x):es.getLast? =some x:=by
 have h:n<es.length:=by omega
 have:Bm es (n:Int)=es[n]:=by unfold Bm;simp[h]
 rw[this] at hx;rw[List.getLast?_eq_getElem?,hn,Nat.add_sub_cancel,List.getElem?_eq_getElem h,hx]
theorem pG :CO AU 69 UR:=by
 refine BG tX fun vs h K ht=> ?_
 obtain⟨g,v0,v1,v2,v3,es,rows,pl,e,r,hw,hl,⟨We,Mt⟩,rfl,rfl,hk⟩:=ht
 refine t50 Kb ⟨g,_,_,pl,e,r,hw,hl,rfl,rfl,AF (by simp) (AA (fun a=> ?_) fun a=> ?_)⟩
 ·have:es=[]:=by cases es with
   |nil=>rfl
   |cons=>simp at a;omega
  subst this;exact D8 (EG hw _ Cf) hk
 ·obtain⟨n,hn⟩:∃n,es.length=n+1:=⟨es.length-1,by cases es with
   |nil=>simp at a
   |cons x l=>simp⟩
  have nz:IntKind.wrap .i64 ((es.length:Int)-1)=(n:Int):=by rw[hn];exact mP (by omega)
  rw[nz]
  have dV:Bm es (n:Int)∈es:=by
   have h:n<es.length:=by omega
   have:Bm es (n:Int)=es[n]:=by unfold Bm;simp[h]
   rw[this];exact List.getElem_mem h
  obtain⟨k,w1,w2,w3,w4,hx⟩:=Mt _ dV
  refine AF (by rw[As (by omega)];rfl) ⟨k,w1,w2,w3,w4,hx,?_⟩
  have oM:Ea es=k:=by unfold Ea;rw[cn hn hx]
  rw[oM] at hk;exact D8 (EG hw _ Cf) hk
theorem mX :AJ AU (Ae [(62,Jt),(69,UR),(98,kS)]):=AX (AG iL (AG pG (AG yi AM)))
theorem pH :CO AU 67 cO:=by
 refine BG tZ fun vs h K ht=> ?_
 obtain⟨g,k,x,v1,v2,v3,es,rows,pl,e,r,hw,hl,VU,rfl,rfl,hk⟩:=ht
 have fin:∀{b:Bool} {G:Hp},b=Dv k (Ea es) x->K (.bool b) (List.map (AN (hP g (BH (.int .i64 k) v1 v2 v3 es::rows) pl e++r).length G) (List.take (hP g (BH (.int .i64 k) v1 v2 v3 es::rows) pl e++r).length (hP g (BH (.int .i64 k) v1 v2 v3 es::rows) pl e++r))):=fun e1=>e1▸D8 (EG hw _ Cf) hk
 refine t48 mX ⟨g,_,_,pl,e,r,hw,hl,rfl,rfl,AF (by simp) (AA (fun a=>AA (fun b=> ?_) fun b=> ?_) fun a=>AA (fun a2=>AA (fun b=> ?_) fun b=> ?_) fun a2=> ?_)⟩
 ·refine⟨g,_,_,_,_,es,rows,pl,e,r,hw,hl,VU,rfl,rfl,AA (fun c=>fin ?_) fun c=>AA (fun d=> ?_) fun d=>fin ?_⟩
  ·simp[Dv,a,b,c]
  ·refine⟨g,_,_,_,_,es,rows,pl,e,r,hw,hl,VU,rfl,rfl,fin ?_⟩;simp[Dv,a,b,c,d]
  ·simp[Dv,a,b,c,d]
 ·refine AA (fun d=> ?_) fun d=>fin ?_
  ·refine⟨g,_,_,_,_,es,rows,pl,e,r,hw,hl,VU,rfl,rfl,fin ?_⟩;simp[Dv,a,b,d]
  ·simp[Dv,a,b,d]
 ·refine⟨g,_,_,_,_,es,rows,pl,e,r,hw,hl,VU,rfl,rfl,AA (fun c=>fin ?_) fun c=>AA (fun d=> ?_) fun d=>fin ?_⟩
  ·simp[Dv,a,a2,b,c]
  ·refine⟨g,_,_,_,_,es,rows,pl,e,r,hw,hl,VU,rfl,rfl,fin ?_⟩;simp[Dv,a,a2,b,c,d]
  ·simp[Dv,a,a2,b,c,d]
 ·refine AA (fun d=> ?_) fun d=>fin ?_
  ·refine⟨g,_,_,_,_,es,rows,pl,e,r,hw,hl,VU,rfl,rfl,fin ?_⟩;simp[Dv,a,a2,b,d]
  ·simp[Dv,a,a2,b,d]
 ·refine⟨[8,9,11,12],x,rfl,by simp,?_⟩
  refine D8 ?_ ((show(!([8,9,11,12]:List Int).any (·==x))=Dv k (Ea es) x from ?_)▸hk)
  ·exact JD hw Cf
  ·have h (z:Int):(z==x)=(x==z):=BEq.comm;simp[Dv,a,a2,h,Bool.and_assoc]
theorem lA :Bl AU 63 Tryz.f63:=(by refine⟨?_,?_,?_,?_,?_,?_⟩<;>kernel_rfl)
theorem HQ {rows:List Row}{r:Hp}{x:List AV}(ty:TypeId)(h:Ak.okW rows r)(hs:∀n g,8+r.length<=n->AQ n g x=x):Ak.okW rows (r++[.mem ty x]):=by
 intro n g hn;rw[List.length_append] at hn
 obtain⟨h1,h2⟩:=h n g (by omega)
 exact⟨h1,by rw[List.map_append,h2,List.map_cons,List.map_nil,AN,hs n g (by omega)]⟩
theorem SL {v0 v1 v2 v3:AV}{es:List (List AV)}{x:List AV}{rows:List Row}{r:Hp}(h:Ak.okW (BH v0 v1 v2 v3 es::rows) r)(he:∀n g,8+r.length<=n->AQ n g x=x):Ak.okW (BH v0 v1 v2 v3 (es++[x])::rows) r:=by
 intro n g hn;obtain⟨h1,h2⟩:=h n g hn;refine⟨?_,h2⟩;simp only[BH,List.map_cons,List.cons.injEq,Prod.mk.injEq,AQ,strip,true_and,AV.sl.injEq,and_true] at h1⊢;obtain⟨⟨e0,e1,e2,e3,e4⟩,e5⟩:=h1;refine⟨⟨e0,e1,e2,e3,?_⟩,e5⟩;rw[DM,List.map_append,<-DM,e4,List.map_cons,List.map_nil,he n g hn]
theorem eG {K:AV->Hp->Prop}{g:Nat}{v0 v1 v2 v3:AV}{es:List (List AV)}{rows:List Row}{pl e:Int}{r:Hp}{x:List AV}(hw:Ak.okW (BH v0 v1 v2 v3 (es++[x])::rows) r)
  (hk:K (.tup []) (hP g (BH v0 v1 v2 v3 (es++[x])::rows) pl e++r)) {n:Nat} {G own:Hp} (hn:n=8+r.length):
  K (.tup []) (List.map (AN n G) (List.take n ((hP g ((es.length+1,[v0,v1,v2,v3,.sl 5 (es++[x]) none])::rows) pl e++r)++own))):=by
 rw[show es.length+1=(es++[x]).length by simp]
 exact D8 (JD hw hn) hk
theorem pJ :CO AU 63 (S8 5):=by
 refine BG lA fun vs h K ht=> ?_
 obtain⟨g,v0,v1,v2,v3,es,rows,pl,e,r,nk,na,nt,aa,oa,ks,ow,hw,hl,he,ha,hr,rfl,rfl,hk⟩:=ht
 obtain⟨b0,b1,b2,b3,b4,rfl⟩:∃b0 b1 b2 b3 b4,r=[b0,b1,b2,b3,b4]:=by
  match r,hr with
  |[b0,b1,b2,b3,b4],_=>exact⟨b0,b1,b2,b3,b4,rfl⟩
 have n5:=HQ 26 hw ha;have ZV:=SL hw ha
 have g1:Nat.beq g g=true:=by simp
 have g2:(Nat.beq g g&&true&&true&&true&&Nat.beq es.length es.length&&true&&true&&decide ((es.length+1)*80<=140737488355328)&&true&&true)=true:=by
  unfold Bp at he;simp;omega
 have g3:(Nat.beq g g&&true&&Nat.beq g g&&true&&Nat.beq (es++[CT nk na nt aa oa ks ow]).length (es.length+1)&&true&&true)=true:=by simp
 refine my Kb ?_
 repeat' (first
  |exact rfl
  |exact trivial
  |exact g1
  |exact g2
  |exact g3
  |refine⟨g,_,_,pl,e,_,n5,hl,rfl,rfl,?_⟩
  |refine AF ?_ ?_
  |exact eG ZV hk (own:=[_]) Cf
  |refine⟨?_,?_⟩)
theorem pI :CO AU 63 (S8 6):=by
 refine BG lA fun vs h K ht=> ?_
 obtain⟨g,v0,v1,v2,v3,es,rows,pl,e,r,nk,na,nt,aa,oa,ks,ow,hw,hl,he,ha,hr,rfl,rfl,hk⟩:=ht
 obtain⟨b0,b1,b2,b3,b4,b5,rfl⟩:∃b0 b1 b2 b3 b4 b5,r=[b0,b1,b2,b3,b4,b5]:=by
  match r,hr with
  |[b0,b1,b2,b3,b4,b5],_=>exact⟨b0,b1,b2,b3,b4,b5,rfl⟩
 have n5:=HQ 26 hw ha;have ZV:=SL hw ha
 have g1:Nat.beq g g=true:=by simp
 have g2:(Nat.beq g g&&true&&true&&true&&Nat.beq es.length es.length&&true&&true&&decide ((es.length+1)*80<=140737488355328)&&true&&true)=true:=by
  unfold Bp at he;simp;omega
 have g3:(Nat.beq g g&&true&&Nat.beq g g&&true&&Nat.beq (es++[CT nk na nt aa oa ks ow]).length (es.length+1)&&true&&true)=true:=by simp
 refine mw Kb ?_
 repeat' (first
  |exact rfl
  |exact trivial
  |exact g1
  |exact g2
  |exact g3
  |refine⟨g,_,_,pl,e,_,n5,hl,rfl,rfl,?_⟩
  |refine AF ?_ ?_
  |exact eG ZV hk (own:=[_]) Cf
  |refine⟨?_,?_⟩)
theorem lV :CO AU 63 (S8 10):=by
 refine BG lA fun vs h K ht=> ?_
 obtain⟨g,v0,v1,v2,v3,es,rows,pl,e,r,nk,na,nt,aa,oa,ks,ow,hw,hl,he,ha,hr,rfl,rfl,hk⟩:=ht
 obtain⟨b0,b1,b2,b3,b4,b5,b6,b7,b8,b9,rfl⟩:∃b0 b1 b2 b3 b4 b5 b6 b7 b8 b9,r=[b0,b1,b2,b3,b4,b5,b6,b7,b8,b9]:=by
  match r,hr with
  |[b0,b1,b2,b3,b4,b5,b6,b7,b8,b9],_=>exact⟨b0,b1,b2,b3,b4,b5,b6,b7,b8,b9,rfl⟩
 have n5:=HQ 26 hw ha;have ZV:=SL hw ha
 have g1:Nat.beq g g=true:=by simp
 have g2:(Nat.beq g g&&true&&true&&true&&Nat.beq es.length es.length&&true&&true&&decide ((es.length+1)*80<=140737488355328)&&true&&true)=true:=by
  unfold Bp at he;simp;omega
 have g3:(Nat.beq g g&&true&&Nat.beq g g&&true&&Nat.beq (es++[CT nk na nt aa oa ks ow]).length (es.length+1)&&true&&true)=true:=by simp
 refine jn Kb ?_
 repeat' (first
  |exact rfl
  |exact trivial
  |exact g1
  |exact g2
  |exact g3
  |refine⟨g,_,_,pl,e,_,n5,hl,rfl,rfl,?_⟩
  |refine AF ?_ ?_
  |exact eG ZV hk (own:=[_]) Cf
  |refine⟨?_,?_⟩)
end Go.Proofs.YtopjpnhgnopbiaaGreatDoor
end
section
namespace Go.Proofs.YtopjpnhgnopbiaaGreatDoor
open Go.Ai Go Go.Ai.Sp
open Go.Ai.Ex (encAs encT blB limE)
set_option maxRecDepth 100000
theorem tQ :Bl AU 100 Tryz.f100:=(by refine⟨?_,?_,?_,?_,?_,?_⟩<;>kernel_rfl)
theorem ky :Bl AU 125 Tryz.f125:=(by refine⟨?_,?_,?_,?_,?_,?_⟩<;>kernel_rfl)
theorem kz :Bl AU 99 Tryz.f99:=(by refine⟨?_,?_,?_,?_,?_,?_⟩<;>kernel_rfl)
theorem tY :Bl AU 68 Tryz.f68:=(by refine⟨?_,?_,?_,?_,?_,?_⟩<;>kernel_rfl)
theorem yh :CO AU 100 YH:=by
 refine BG tQ fun vs h K ht=> ?_
 obtain⟨g,rows,pl,e,b0,b1,b2,b3,b4,b5,b6,wd,an,av,ap,hw,rfl,rfl,hk⟩:=ht;refine t71 KC ?_;exact D8 (JD hw (own:=[_]) Cf) hk
theorem aq :AJ AU (Ae [(100,YH)]):=AX (AG yh AM)
section
variable {g:Nat}{rows:List Row}{pl e:Int}{b0 b1 b2 b3 b4 b5 b6:Blk}{wd:List UInt8}{l:List Ex.A9}
theorem Ov {K:AV->Hp->Prop}(hw:Ak.okW rows [b0,b1,b2,b3,b4,b5,b6,.mem 9 [.str wd]])(hl:l.length<=Bp)(hk:∀z:Int,decide (z>=0)=(l.any fun a=>a.name==wd)->K (.int .i64 z) (hP g rows pl e++[b0,b1,b2,b3,b4,b5,b6,.mem 9 [.str wd]])):
  ∀(n i:Nat),l.length-i=n->i<=l.length->(l.take i).any (fun a=>a.name==wd)=false->
  AE AU 125 (AD Tryz.f125) (AR Tryz.prog Tryz.f125 ((hP g rows pl e++[b0,b1,b2,b3,b4,b5,b6,.mem 9 [.str wd]]).length) K) [.code [0,1,0,1],.block 0,.code [1,1]] .normal [(0,true,.sl 3 (encAs l) none),(1,true,.fn (.func 100) [] [.ptr 15 0]),(7,true,.int .i64 l.length),(8,true,.int .i64 i)] (hP g rows pl e++[b0,b1,b2,b3,b4,b5,b6,.mem 9 [.str wd]])
 |0,i,hn,hi,hp=>by
  refine bF aq (AA (fun a=> ?_) fun _=> ?_)
  ·simp at a;omega
  ·refine D8 (EG hw _ Cf) (hk _ ?_)
   rw[List.take_of_length_le (by omega)] at hp
   rw[hp];rfl
 |n+1,i,hn,hi,hp=>by
  have Au:i<l.length:=by omega
  have hlen:(encAs l).length=l.length:=by simp[encAs]
  refine bF aq (AA (fun a=>AF ?_ ⟨_,_,_,CF _ l Au,g,rows,pl,e,b0,b1,b2,b3,b4,b5,b6,wd,_,_,_,hw,rfl,rfl,AA (fun b=> ?_) fun b=> ?_⟩) fun a=> ?_)
  ·rw[hlen,As Au];rfl
  ·refine D8 (EG hw _ Cf) (hk _ ?_)
   rw[decide_eq_true (by omega)]
   symm;rw[List.any_eq_true];exact⟨_,List.getElem_mem Au,b⟩
  ·rw[QS (by omega)]
   refine Ov hw hl hk n (i+1) (by omega) (by omega) ?_
   rw[List.take_succ_eq_append_getElem Au,List.any_append,hp];simpa using b
  ·simp at a;omega
end
theorem uT :CO AU 125 jU:=by
 refine BG ky fun vs h K ht=> ?_
 obtain⟨g,rows,pl,e,b0,b1,b2,b3,b4,b5,b6,wd,l,hw,hl,rfl,rfl,hk⟩:=ht;refine t87 aq ?_
 have hlen:(encAs l).length=l.length:=by simp[encAs]
 rw[hlen]
 exact Ov hw hl hk l.length 0 (by omega) (by omega) rfl
theorem uW :CO AU 99 dx:=by
 refine BG kz fun vs h K ht=> ?_
 obtain⟨g,rows,pl,e,b0,b1,b2,b3,b4,b5,b6,wd,l,hw,hl,rfl,rfl,hk⟩:=ht
 refine t70 (AX (AG uT AM)) ⟨g,rows,pl,e,b0,b1,b2,b3,b4,b5,b6,wd,l,hw,hl,rfl,rfl,fun z hz=> ?_⟩
 rw[hz];exact D8 (EG hw _ Cf) hk
end Go.Proofs.YtopjpnhgnopbiaaGreatDoor
end
section
namespace Go.Proofs.YtopjpnhgnopbiaaGreatDoor
open Go.Ai Go Go.Ai.Sp
open Go.Ai.Ex (encAs encT blB limE)
set_option maxRecDepth 100000
theorem Gk {C:Bh}{k:Nat}{t t':Ci}(h:CO C k t)(w:∀vs h K,t' vs h K->t vs h K):CO C k t':=fun l g K ht=>h l g K (w _ _ _ ht)
theorem Oi {rows:List Row}(h:Ak.gQ rows)(n:Nat)(g:Hp)(hn:4<=n):rows.map (fun x=>(x.1,AQ n g x.2))=rows:=by
 conv=>rhs;rw[<-List.map_id rows]
 exact List.map_congr_left fun r hr=>by rw[Cu n g _ (h r hr n hn)];rfl
theorem SM {rows:List Row}(h:Ak.gQ rows)(n:Nat)(hn:4<=n):(rows.all fun r=>CA n r.2)=true:=List.all_eq_true.2 fun r hr=>h r hr n hn
def IZ :Blk->Bool
 |.mem _ cs=>Aa.Ax cs
 |.stk .. =>false
 |_=>true
theorem Ml {b:Blk}(h:IZ b=true)(n:Nat)(g:Hp):AN n g b=b:=by
 cases b with
 |mem t cs=>rw[AN,BL n g cs h]
 |stk=>cases h
 |_=>rfl
theorem GW {rows:List Row}{r:Hp}(h:Ak.gQ rows)(hr:r.all IZ=true):Ak.okW rows r:=fun n g hn=>⟨Oi h n g (by omega),by
 conv=>rhs;rw[<-List.map_id r]
 exact List.map_congr_left fun b hb=>Ml (List.all_eq_true.1 hr b hb) n g⟩
theorem HN (l:List (List UInt8)):Aa.BZ (l.map fun n=>[AV.str n])=true:=nO l
theorem Ia (l:List Ex.A9):Aa.BZ (encAs l)=true:=by
 unfold encAs
 induction l with
 |nil=>rfl
 |cons a r ih=>simp only[List.map_cons,Ex.Ao,Aa.BZ,Aa.Ax,Aa,ih,Bool.true_and]
theorem Rv {tk fr to:Int}{nm tx:List UInt8}(l:List Ex.A9):Aa.Ax (Jv tk fr to nm tx (encAs l))=true:=by
 have:=Ia l;simp[Jv,Aa.Ax,Aa,this]
theorem Vx (x:El):Aa.Ax (IU x)=true:=by
 have:=HN x.names;simp[IU,Aa.Ax,Aa,this]
theorem HM {tk fr to:Int}{nm tx:List UInt8}(l:List Ex.A9)(x:El):(Fp (Jv tk fr to nm tx (encAs l)) x).all IZ=true:=by
 simp[Fp,IZ,Rv,Vx]
def VF (x:El)(l:List Ex.A9)(s:Int×Int):Int×Int:=l.foldl (fun s a=>bif !(x.names.any (·==a.name))|| !Jq a.name a.value then fE a.at' 12 s.1 s.2 else s) s
def iS (fr:Int)(l:List Ex.A9)(ns:List (List UInt8))(s:Int×Int):Int×Int:=ns.foldl (fun s nm=>bif !(l.any fun a=>a.name==nm) then fE fr 12 s.1 s.2 else s) s
section
variable {g:Nat}{rows:List Row}{x:El}{tk fr to:Int}{nm tx:List UInt8}{l:List Ex.A9}{K:AV->Hp->Prop}
theorem au (hr:Ak.gQ rows):AJ AU (Ae [(101,Sp.kT),(102,jf),(65,jW g rows (Blk.grow 0 3 80) (Blk.mem 50 (Jv tk fr to nm tx (encAs l))) (Blk.mem 50 (Jv tk fr to nm tx (encAs l))) (Blk.grow 0 1 9) (Blk.mem 114 (IU x)) (Blk.mem 114 (IU x)) (Blk.mem 50 (Jv tk fr to nm tx (encAs l))))]):=
 AX (AG uV (AG yg (AG (Gk iK fun vs h K ht=>by
  obtain⟨p,y,pl,e,w,v,q,rfl,rfl,hk⟩:=ht
  exact⟨p,y,g,rows,pl,e,_,GW hr (by simp[IZ,Rv,Vx,Aa.Ax,Aa]),rfl,rfl,hk⟩) AM)))
theorem iz :Ab 15 (encAs l)=true:=Dj 15 _ (Ia l)
theorem cT :Ab 15 (x.names.map fun n=>[AV.str n])=true:=Dj 15 _ (HN _)
theorem Nk (hr:Ak.gQ rows)(hx:x.names.length<=Bp)(hl:l.length<=Bp):∀(n i:Nat) (pl e:Int),l.length-i=n->i<=l.length->K (.tup []) (hP g rows (VF x (l.drop i) (pl,e)).1 (VF x (l.drop i) (pl,e)).2++Fp (Jv tk fr to nm tx (encAs l)) x)->
  AE AU 68 (AD Tryz.f68) (AR Tryz.prog Tryz.f68 ((hP g rows pl e++Fp (Jv tk fr to nm tx (encAs l)) x).length) K) ([.code [0,1,1,1],.block 2]) .normal [(0,true,.ptr 7 0),(4,true,.ptr 13 0),(31,true,.sl 3 (encAs l) none),(32,true,.int .i64 l.length),(33,true,.int .i64 i)]
   (hP g rows pl e++Fp (Jv tk fr to nm tx (encAs l)) x++[.mem 114 (IU x),.mem 50 (Jv tk fr to nm tx (encAs l))])
 |0,i,pl,e,hn,hi,hk=>by
  refine mn (au hr) (AA (fun a=> ?_) fun _=> ?_)
  ·simp at a;omega
  ·rw[List.drop_of_length_le (by omega)] at hk
   exact D8 (JD (GW hr (HM l x)) (own:=[_,_]) Cf) hk
 |n+1,i,pl,e,hn,hi,hk=>by
  have Au:i<l.length:=by omega
  have hlen:(encAs l).length=l.length:=by simp[encAs]
  rw[List.drop_eq_getElem_cons Au] at hk
  have Uc:(Ab 15 (encAs l)&&true&&true&&((List.all rows fun(r:Nat×List AV)↦CA 15 (Prod.snd r))&&(Ab 15 (encAs l)&&true&&true&&(Ab 15 (encAs l)&&true&&true&&(Ab 15 (x.names.map fun n=>[AV.str n])&&true&&true&&(Ab 15 (x.names.map fun n=>[AV.str n])&&true&&true&&(Ab 15 (encAs l)&&true&&true&&true)))))))=true:=by
   rw[iz,cT,SM hr 15 (by decide)];rfl
  have go:∀fY e',(fY,e')=(bif !(x.names.any (·==l[i].name))|| !Jq l[i].name l[i].value then fE l[i].at' 12 pl e else(pl,e))->K (.tup []) (hP g rows (VF x (l.drop (i+1)) (fY,e')).1 (VF x (l.drop (i+1)) (fY,e')).2++Fp (Jv tk fr to nm tx (encAs l)) x):=fun fY e' he=>by
   rw[he];exact hk
  have wr:IntKind.wrap .i64 ((i:Int)+1)=((i+1:Nat):Int):=QS (by omega)
  refine mn (au hr) (AA (fun a=>AF ?_ ⟨_,_,_,CF _ l Au,x.names,_,by rw[BA 0 [] _ (HN _)],hx,AA (fun b=> ?_) fun b=>⟨_,_,rfl,AA (fun c=> ?_) fun c=> ?_⟩⟩) fun a=> ?_)
  ·rw[hlen,As Au];rfl
  ·refine⟨_,_,pl,e,_,_,_,rfl,rfl,AF Uc ?_⟩;rw[wr]
   exact Nk hr hx hl n (i+1) _ _ (by omega) (by omega) (go _ _ (by rw[b];rfl))
  ·refine⟨_,_,pl,e,_,_,_,rfl,rfl,AF Uc ?_⟩;rw[wr]
   exact Nk hr hx hl n (i+1) _ _ (by omega) (by omega) (go _ _ (by rw[b,c];rfl))
  ·refine AF Uc ?_;rw[wr]
   exact Nk hr hx hl n (i+1) _ _ (by omega) (by omega) (go _ _ (by rw[b,c];rfl))
  ·simp at a;omega
theorem aw (hr:Ak.gQ rows):AJ AU (Ae [(99,dx),(65,jV g rows (Blk.grow 0 3 80) (Blk.mem 50 (Jv tk fr to nm tx (encAs l))) (Blk.mem 50 (Jv tk fr to nm tx (encAs l))) (Blk.grow 0 1 9) (Blk.mem 114 (IU x)) (Blk.mem 114 (IU x)) (Blk.mem 50 (Jv tk fr to nm tx (encAs l))))]):=
 AX (AG uW (AG (Gk iK fun vs h K ht=>by
  obtain⟨p,y,pl,e,w,rfl,rfl,hk⟩:=ht
  exact⟨p,y,g,rows,pl,e,_,GW hr (by simp[IZ,Rv,Vx,Aa.Ax,Aa]),rfl,rfl,hk⟩) AM))
theorem SR (hr:Ak.gQ rows)(hx:x.names.length<=Bp)(hl:l.length<=Bp)(ns:List (List UInt8))(Nr:ns.length<=Bp):∀(n i:Nat) (pl e:Int),ns.length-i=n->i<=ns.length->K (.tup []) (hP g rows (VF x l (iS fr l (ns.drop i) (pl,e))).1 (VF x l (iS fr l (ns.drop i) (pl,e))).2++Fp (Jv tk fr to nm tx (encAs l)) x)->
  AE AU 68 (AD Tryz.f68) (AR Tryz.prog Tryz.f68 ((hP g rows pl e++Fp (Jv tk fr to nm tx (encAs l)) x).length) K) ([.code [0,1,0,1],.block 0,.code [1,1]]) .normal [(0,true,.ptr 7 0),(4,true,.ptr 13 0),(5,true,.ptr 14 0),(14,true,.sl 1 (ns.map fun n=>[.str n]) none),(15,true,.int .i64 ns.length),(16,true,.int .i64 i)]
   (hP g rows pl e++Fp (Jv tk fr to nm tx (encAs l)) x++[.mem 114 (IU x),.mem 50 (Jv tk fr to nm tx (encAs l))])
 |0,i,pl,e,hn,hi,hk=>by
  refine bH (aw hr) (AA (fun a=> ?_) fun _=> ?_)
  ·simp at a;omega
  ·rw[List.drop_of_length_le (by omega)] at hk
   have hlen:(encAs l).length=l.length:=by simp[encAs]
   have:=Nk (g:=g) (K:=K) (x:=x) (tk:=tk) (fr:=fr) (to:=to) (nm:=nm) (tx:=tx) hr hx hl l.length 0 pl e (by omega) (by omega) hk
   rw[<-hlen] at this;exact this
 |n+1,i,pl,e,hn,hi,hk=>by
  have Au:i<ns.length:=by omega
  have hlen:(ns.map fun n=>[AV.str n]).length=ns.length:=by simp
  rw[List.drop_eq_getElem_cons Au] at hk
  have Uc:(Ab 15 (ns.map fun n=>[AV.str n])&&true&&true&&((List.all rows fun(r:Nat×List AV)↦CA 15 (Prod.snd r))&&(Ab 15 (encAs l)&&true&&true&&(Ab 15 (encAs l)&&true&&true&&(Ab 15 (x.names.map fun n=>[AV.str n])&&true&&true&&(Ab 15 (x.names.map fun n=>[AV.str n])&&true&&true&&(Ab 15 (encAs l)&&true&&true&&true)))))))=true:=by
   rw[iz,cT,SM hr 15 (by decide),Dj 15 _ (HN ns)];rfl
  have go:∀fY e',(fY,e')=(bif !(l.any fun a=>a.name==ns[i]) then fE fr 12 pl e else(pl,e))->K (.tup []) (hP g rows (VF x l (iS fr l (ns.drop (i+1)) (fY,e'))).1 (VF x l (iS fr l (ns.drop (i+1)) (fY,e'))).2++Fp (Jv tk fr to nm tx (encAs l)) x):=fun fY e' he=>by
   rw[he];exact hk
  have wr:IntKind.wrap .i64 ((i:Int)+1)=((i+1:Nat):Int):=QS (by omega)
  refine bH (aw hr) (AA (fun a=>AF ?_ ⟨_,CF _ ns Au,g,rows,pl,e,_,_,_,_,_,_,_,_,l,GW hr ?_,hl,rfl,rfl,AA (fun b=> ?_) fun b=> ?_⟩) fun a=> ?_)
  ·rw[hlen,As Au];rfl
  ·have h1:=Ia l;have h2:=HN x.names;simp[IZ,Aa.Ax,Aa,h1,h2]
  ·refine⟨_,_,pl,e,_,rfl,rfl,AF Uc ?_⟩;rw[wr]
   exact SR hr hx hl ns Nr n (i+1) _ _ (by omega) (by omega) (go _ _ (by rw[b];rfl))
  ·refine AF Uc ?_;rw[wr]
   exact SR hr hx hl ns Nr n (i+1) _ _ (by omega) (by omega) (go _ _ (by rw[b];rfl))
  ·simp at a;omega
end
theorem c49 :CO AU 68 ld:=by
 refine BG tY fun vs h K ht=> ?_
 obtain⟨g,rows,pl,e,x,tk,fr,to,nm,tx,l,hr,hm,hx,hl,rfl,rfl,hk⟩:=ht
 have hc:B6 (x.names.map fun n=>[AV.str n]) none (some ((x.Jb:Nat):Int))=(x.names.take x.Jb).map fun n=>[AV.str n]:=by
  simp[B6]
 refine t49 KC (AF ?_ ?_)
 ·simp only[BC,List.length_map]
  rw[decide_eq_true (by omega),decide_eq_true (by omega)];rfl
 ·rw[hc,List.length_map]
  exact SR hr hx hl (x.names.take x.Jb) (by rw[List.length_take];omega) _ 0 pl e rfl (by omega) hk
end Go.Proofs.YtopjpnhgnopbiaaGreatDoor
end
section
namespace Go.Proofs.YtopjpnhgnopbiaaGreatDoor
open Go.Ai Go Go.Ai.Sp
open Go.Ai.Ex (encAs encT)
set_option maxRecDepth 100000
theorem tn :Bl AU 40 Tryz.f40:=(by refine⟨?_,?_,?_,?_,?_,?_⟩<;>kernel_rfl)
theorem tm :Bl AU 41 Tryz.f41:=(by refine⟨?_,?_,?_,?_,?_,?_⟩<;>kernel_rfl)
theorem pP (c:UInt8):Ex.blB c=([32,9,10,13]:List UInt8).contains c:=by
 simp only[Ex.blB,List.contains_cons,List.contains_nil,Bool.or_false,Bool.or_assoc]
theorem qD :CO AU 64 aW:=by
 refine Gl (g:=JJ) (by kernel_rfl) (by kernel_rfl) (by kernel_rfl) (by kernel_rfl) fun vs h K ht=> ?_
 obtain⟨s,hs,rfl,hk⟩:=ht;refine⟨.str (Ba s),hk,?_⟩
 have e:Ba s=Lib.trimLeftS s [32,9,10,13]:=by
  unfold Ba Lib.trimLeftS
  congr 1
  funext c
  exact pP c
 rw[e];rfl
theorem Kr (r:List Nd){n:Nat}(h:4<=n):Cj n (Lu r)=Lu r/\(match Lu r with|some id=>Nat.blt id n|none=>true)=true:=by
 cases r with
 |nil=>
  have:Nat.blt 3 n=true:=Nat.ble_eq_true_of_le h
  exact⟨by simp only[Lu,Cj,this,cond_true],this⟩
 |cons a l=>exact⟨rfl,rfl⟩
theorem cR {o:Option Nat}{n:Nat}(ho:(match o with|some id=>Nat.blt id n|none=>true)=true)(m:Nd):CA n (Vt o m).2=true:=by
 have h1:=Qn n m.attrs;have h2:=Qm n m.kids;unfold Vt BH;simp only[CA,Dw,h1,h2,Bool.true_and,Bool.and_true];exact ho
theorem Cm :∀l:List Nd,Ak.gQ (AZ l)
 |[],r,hr=>by cases hr
 |n::l,r,hr=>by
  rcases List.mem_cons.1 hr with rfl|hr
  ·exact fun m hm=>cR (Kr l hm).2 n
  ·exact Cm l r hr
theorem Bw :∀l:List Nd,(AZ l).length=l.length
 |[]=>rfl
 |n::l=>by simp[AZ,Bw l]
theorem GH (t:Ex.Tok):Aa.Ax (encT t)=true:=by
 have:=Ia t.attrs;simp[Ex.encT,Aa.Ax,Aa,this]
theorem Qj (t:Ex.Tok):(CP t).all IZ=true:=by simp[CP,IZ,GH]
theorem SK (l:List Nd)(t:Ex.Tok):Ak.okW (AZ l) (CP t):=GW (Cm l) (Qj t)
theorem MH {l:List Nd}(h:l.length<=Bp):MI (AY l):=by
 refine⟨by rw[Be];exact h,fun x hx=> ?_⟩
 rw[Dy] at hx;obtain⟨n,_,rfl⟩:=List.mem_map.1 hx;exact⟨_,_,_,_,_,Gw n⟩
theorem K0 (l:List Nd):Ea (AY l)=DC l:=by
 unfold Ea DC;rw[Dy,List.getLast?_map]
 cases l.getLast? with
 |none=>rfl
 |some n=>simp only[Option.map_some,Gw]
theorem Ds {rows:List Row}{r own:Hp}{g:Nat}{pl e:Int}{n:Nat}{G:Hp}(hn:n=8+r.length):
  List.map (AN n G) (List.take n (hP g rows pl e++(r++own)))=hP g (rows.map fun x=>(x.1,AQ n G x.2)) pl e++r.map (AN n G):=by
 have hl:(hP g rows pl e++r).length=n:=by rw[hn];simp[hP];omega
 rw[<-List.append_assoc,<-hl,List.take_left' rfl,hl,List.map_append]
 congr 1
 obtain⟨m,rfl⟩:∃m,n=m+8:=⟨r.length,by omega⟩
 have b:∀i,i<8->Nat.blt i (m+8)=true:=fun i h=>Nat.ble_eq_true_of_le (by omega)
 simp only[hP,List.map_cons,List.map_nil,AN,AQ,strip,AB,Cj,b 0 (by omega),b 1 (by omega),b 5 (by omega),cond_true,List.length_map]
theorem Hk {o:Option Nat}{nk np:Int}{nt:List UInt8}{na:List Go.Ai.A9}{BQ:List Nd}{k p:Int}{t:List UInt8}{al:List Go.Ai.A9}{ks:List Nd}{G:Hp}{oa ow:Option Nat}{m:Nat}(ho:Cj m o=o)(ha:Cj m oa=none)(hw:Cj m ow=none):
  ((BH (.int .i64 nk) (.int .i64 np) (.str nt) (.sl 3 (na.map Go.Ai.Ao) o) (AY BQ++[CT k p t (al.map Go.Ai.Ao) oa (AY ks) ow])).1,
   AQ m G (BH (.int .i64 nk) (.int .i64 np) (.str nt) (.sl 3 (na.map Go.Ai.Ao) o) (AY BQ++[CT k p t (al.map Go.Ai.Ao) oa (AY ks) ow])).2)=Vt o (EK (.mk nk np nt na BQ) (.mk k p t al ks)):=by
 have h1:∀l:List Nd,AB m G (AY l)=AY l:=fun l=>BA _ _ _ (FK l)
 have h2:∀l:List Go.Ai.A9,AB m G (l.map Go.Ai.Ao)=l.map Go.Ai.Ao:=fun l=>BA _ _ _ (FL l)
 have h3:AQ m G (CT k p t (al.map Go.Ai.Ao) oa (AY ks) ow)=Pc (.mk k p t al ks):=by
  unfold CT;rw[AQ,AQ,AQ,AQ,AQ,AQ,Cd,Cd,h1,h2,ha,hw];rfl
 have h4:AB m G (AY BQ++[CT k p t (al.map Go.Ai.Ao) oa (AY ks) ow])=AY (BQ++[.mk k p t al ks]):=by
  rw[DM,List.map_append,<-DM,h1,List.map_cons,List.map_nil,h3,Dy,Dy,List.map_append];rfl
 unfold BH;simp only;rw[AQ,AQ,AQ,AQ,AQ,AQ,Cd,Cd,h4,h2,ho];show(_,[AV.int .i64 nk,AV.int .i64 np,AV.str nt,AV.sl 3 (na.map Go.Ai.Ao) o,AV.sl 5 (AY (BQ++[.mk k p t al ks])) none])=((AY (BQ++[.mk k p t al ks])).length,_);rw[Be,List.length_append,List.length_append,Be];rfl
theorem DN (l:List Nd)(m:Nat)(G:Hp)(hm:4<=m):(AZ l).map (fun x=>(x.1,AQ m G x.2))=AZ l:=Oi (Cm l) m G hm
theorem Dr (t:Ex.Tok)(m:Nat)(G:Hp):(CP t).map (AN m G)=CP t:=by
 conv=>rhs;rw[<-List.map_id (CP t)]
 exact List.map_congr_left fun b hb=>Ml (List.all_eq_true.1 (Qj t) b hb) m G
theorem yw :CO AU 41 (IB OS Gu):=by
 refine BG tm fun vs h K ht=> ?_
 obtain⟨g,s,t,BU,⟨GK,JO⟩,se,-,rfl,rfl,hk⟩:=ht;obtain⟨rows,pl,e⟩:=s
 cases rows with
 |nil=>exact absurd rfl BU
 |cons n r=>
  obtain⟨nk,np,nt,na,BQ⟩:=n
  have hw:=HQ 50 (SK (.mk nk np nt na BQ::r) t) (x:=encT t) fun m G _=>BL m G _ (GH t)
  have hl:(AZ (Nd.mk nk np nt na BQ::r)).length<=Bp:=by rw[Bw];exact Nat.le_of_lt GK
  have g1:(Nat.beq g g&&true&&true&&true)=true:=by simp
  refine t27 Kb ?_
  repeat' (first
   |exact rfl
   |exact trivial
   |exact g1
   |refine⟨g,_,_,pl,e,_,hw,hl,rfl,rfl,?_⟩
   |refine AF ?_ ?_
   |exact D8 ((Ds (own:=[_]) (r:=CP t) (rows:=AZ (Nd.mk nk np t.text na BQ::r)) Cf).trans (by rw[DN,Dr]<;>first|rfl|(rw[Cf];omega))) (hk g)
   |refine⟨?_,?_⟩)
theorem me :AJ AU (Ae [(62,Jt),(63,S8 5),(64,aW),(65,Ch)]):=AX (AG iL (AG pJ (AG qD (AG iK AM))))
theorem FV (g:Nat):Nat.beq g g=true:=by simp
theorem Mp {k p:Int}{t:List UInt8}{al:List Go.Ai.A9}{oa ow:Option Nat}{n:Nat}{G:Hp}(h1:Cj n oa=oa)(h2:Cj n ow=ow):AQ n G (CT k p t (al.map Go.Ai.Ao) oa [] ow)=CT k p t (al.map Go.Ai.Ao) oa [] ow:=by
 have h:AB n G (al.map Go.Ai.Ao)=al.map Go.Ai.Ao:=BA _ _ _ (FL al);unfold CT;rw[AQ,AQ,AQ,AQ,AQ,AQ,Cd,Cd,h,h1,h2];rfl
theorem Nl {n id:Nat}(h:id<n):Cj n (some id)=some id:=by
 simp only[Cj,Nat.blt,Nat.ble_eq_true_of_le (show id+1<=n from h),cond_true]
theorem Nn {n id:Nat}(h:n<=id):Cj n (some id)=none:=by
 have:Nat.blt id n=false:=by
  rw[Bool.eq_false_iff];intro e;have:=Nat.le_of_ble_eq_true e;omega
 simp only[Cj,this,cond_false]
theorem aV (s:List UInt8):(Ba s).length<=s.length:=(List.dropWhile_suffix _).length_le
theorem yx :CO AU 40 (IB FZ Gu):=by
 refine BG tn fun vs h K ht=> ?_
 obtain⟨g,s,t,BU,⟨GK,JO⟩,⟨n9,n8,sd,n7,sc⟩,-,rfl,rfl,hk⟩:=ht;obtain⟨rows,pl,e⟩:=s
 cases rows with
 |nil=>exact absurd rfl BU
 |cons n r=>
  obtain⟨nk,np,nt,na,BQ⟩:=n;have n2:=SK (.mk nk np nt na BQ::r) t
  have hw:=HQ 50 n2 (x:=encT t) fun m G _=>BL m G _ (GH t)
  have wU:Ak.okW (BH (.int .i64 nk) (.int .i64 np) (.str nt) (.sl 3 (na.map Go.Ai.Ao) (Lu r)) (AY BQ)::AZ r) (CP t++[.mem 50 (encT t)]++[.grow 0 3 80,.grow 0 5 26]):=GW (Cm (.mk nk np nt na BQ::r)) (by simp[CP,IZ,GH])
  have hl:(AZ (Nd.mk nk np nt na BQ::r)).length<=Bp:=by rw[Bw];exact Nat.le_of_lt GK
  have PC:(AY BQ).length<Bp:=by rw[Be];exact JO _ List.mem_cons_self
  have wr:IntKind.wrap .i64 ((t.to:Int)-((Ba t.text).length:Nat))=(t.to:Int)-((Ba t.text).length:Nat):=by
   have:=aV t.text;unfold Bp at n8
   rw[Bs]<;>omega
  have trimmed:(nk==7||nk==10)=true->∃(pY:List UInt8),List.length pY<=1000000000000/\[AV.str t.text,AV.str [32,9,10,13]]=[AV.str pY,AV.str [32,9,10,13]]/\Ad (!Ba pY==[]) (∃(nX:Int),∃(mO:Int),∃(uL:Nat),∃(Rn:List Row),∃(br:Int),∃(o8:Int),∃(pZ:Hp),Ak.okW Rn pZ/\[AV.ptr 7 0,AV.int IntKind.i64 (IntKind.wrap IntKind.i64 ((t.to:Int)-(↑(List.length (Ba pY)):Int))),AV.int IntKind.i64 13]=[AV.ptr 7 0,AV.int IntKind.i64 nX,AV.int IntKind.i64 mO]/\
    hP g (AZ (Nd.mk nk np nt na BQ::r)) pl e++(CP t++[.mem 50 (encT t)])=hP uL Rn br o8++pZ/\
    K (.tup []) (List.map (AN (hP g (AZ (Nd.mk nk np nt na BQ::r)) pl e++CP t).length (hP uL Rn (fE nX mO br o8).1 (fE nX mO br o8).2++pZ)) (List.take (hP g (AZ (Nd.mk nk np nt na BQ::r)) pl e++CP t).length (hP uL Rn (fE nX mO br o8).1 (fE nX mO br o8).2++pZ))))
    (K (.tup []) (List.map (AN (hP g (AZ (Nd.mk nk np nt na BQ::r)) pl e++CP t).length (hP g (AZ (Nd.mk nk np nt na BQ::r)) pl e++(CP t++[.mem 50 (encT t)]))) (List.take (hP g (AZ (Nd.mk nk np nt na BQ::r)) pl e++CP t).length (hP g (AZ (Nd.mk nk np nt na BQ::r)) pl e++(CP t++[.mem 50 (encT t)]))))):=fun YG=>by
   have hp:FZ t ⟨.mk nk np nt na BQ::r,pl,e⟩=bif (Ba t.text).isEmpty then⟨.mk nk np nt na BQ::r,pl,e⟩ else Iu ((t.to:Int)-(Ba t.text).length) 13 ⟨.mk nk np nt na BQ::r,pl,e⟩:=by
    show(bif nk==7||nk==10 then _ else _)=_;rw[YG];rfl
   refine⟨t.text,n9,rfl,AA (fun a=> ?_) fun a=> ?_⟩
   ·have he:(Ba t.text).isEmpty=false:=by
     cases h:Ba t.text with
     |nil=>rw[h] at a;cases a
     |cons=>rfl
    rw[hp,he] at hk;refine⟨_,_,g,_,pl,e,_,hw,rfl,rfl,?_⟩;rw[wr]
    exact D8 ((Ds (own:=[_]) Cf).trans (by rw[DN,Dr]<;>first|rfl|(rw[Cf];omega))) (hk g)
   ·have he:(Ba t.text).isEmpty=true:=by
     cases h:Ba t.text with
     |nil=>rfl
     |cons=>rw[h] at a;cases a
    rw[hp,he] at hk
    exact D8 ((Ds (own:=[_]) Cf).trans (by rw[DN,Dr]<;>first|rfl|(rw[Cf];omega))) (hk g)
  refine t26 me ⟨g,_,_,pl,e,_,hw,hl,rfl,rfl,AF (FV g) (AA (fun a=>AA (fun b=> ?_) fun b=> ?_) fun a=> ?_)⟩
  ·have YG:(nk==7||nk==10)=false:=by
    simp only[bne_iff_ne,ne_eq] at a b;have a1:¬nk=7:=a;have b1:¬nk=10:=b;simp[a1,b1]
   have hp:FZ t ⟨.mk nk np nt na BQ::r,pl,e⟩=⟨EK (.mk nk np nt na BQ) (.mk 2 t.fr t.text [] [])::r,pl,e⟩:=by
    show(bif nk==7||nk==10 then _ else _)=_;rw[YG];rfl
   rw[hp] at hk
   refine⟨g,_,_,_,_,AY BQ,AZ r,pl,e,CP t++[.mem 50 (encT t)]++[.grow 0 3 80,.grow 0 5 26],2,t.fr,t.text,[],some 11,[],some 12,wU,hl,PC,fun n G hn=> ?_,rfl,rfl,rfl,?_⟩
   ·exact Mp (al:=[]) (Nl (by omega)) (Nl (by omega))
   ·refine D8 ((Ds (n:=10) (r:=CP t) (own:=[_,_,_]) (rows:=BH (.int .i64 nk) (.int .i64 np) (.str nt) (.sl 3 (na.map Go.Ai.Ao) (Lu r)) (AY BQ++[CT 2 t.fr t.text (([]:List Go.Ai.A9).map Go.Ai.Ao) (some 11) (AY []) (some 12)])::AZ r) rfl).trans ?_) (hk g)
    rw[List.map_cons,Hk (Kr r (by decide)).1 (Nn (show 10<=11 by decide)) (Nn (show 10<=12 by decide)),DN _ _ _ (by decide),Dr]
    rfl
  ·refine trimmed ?_;simp only[bne_eq_false_iff_eq] at b;have b1:nk=10:=b;simp[b1]
  ·refine trimmed ?_;simp only[bne_eq_false_iff_eq] at a;have a1:nk=7:=a;simp[a1]
theorem th :Bl AU 44 Tryz.f44:=(by refine⟨?_,?_,?_,?_,?_,?_⟩<;>kernel_rfl)
theorem jl :AJ AU (Ae [(62,Jt),(65,Ch),(69,UR)]):=AX (AG iL (AG iK (AG pG AM)))
theorem jk :AJ AU (Ae [(62,Jt),(63,S8 6)]):=AX (AG iL (AG pI AM))
abbrev hT (g:Nat)(l:List Nd)(pl e:Int)(t:Ex.Tok):Hp:=hP g (AZ l) pl e++(CP t++[.mem 50 (encT t)])
theorem Xk (l:List Nd)(t:Ex.Tok):Ak.okW (AZ l) (CP t++[.mem 50 (encT t)]):=HQ 50 (SK l t) (x:=encT t) fun m G _=>BL m G _ (GH t)
theorem oz {K:AV->Hp->Prop}{g:Nat}{l:List Nd}{pl e:Int}{t:Ex.Tok}{G:Hp}{n:Nat}(hn:n=8+(CP t).length)(hk:K (.tup []) (hP g (AZ l) pl e++CP t)):
  K (.tup []) (List.map (AN n G) (List.take n (hT g l pl e t))):=
 D8 ((Ds (own:=[_]) hn).trans (by rw[DN _ _ _ (by omega),Dr])) hk
theorem fF {a b:Int}(h:(a !=b)=true):(a==b)=false:=by simpa[bne] using h
theorem VC {a b:Int}(h:(a !=b)=false):(a==b)=true:=by simpa[bne] using h
theorem ju {K:AV->Hp->Prop}{g:Nat}{nk np:Int}{nt:List UInt8}{na:List Go.Ai.A9}{BQ:List Nd}{r:List Nd}{pl e:Int}{t:Ex.Tok}{kk:Int}(hs:Hm (.mk nk np nt na BQ::r)){bad:Bool}(hb:bad=(!(nk==kk)||((kk==7&& !(DC BQ==9))||(kk==10&&DC BQ==0))))
  (hf:bad=true->K (.tup []) (hP g (AZ (Nd.mk nk np nt na BQ::r)) (fE t.fr 13 pl e).1 (fE t.fr 13 pl e).2++CP t))
  (hg:bad=false->AE AU 44 (AD Tryz.f44) (AR Tryz.prog Tryz.f44 (hP g (AZ (Nd.mk nk np nt na BQ::r)) pl e++CP t).length K) [.code [1,1,1,1]] .normal [(0,true,.ptr 7 0)] (hT g (.mk nk np nt na BQ::r) pl e t)):
  AE AU 44 (AD Tryz.f44) (AR Tryz.prog Tryz.f44 (hP g (AZ (Nd.mk nk np nt na BQ::r)) pl e++CP t).length K) [.code [1,1,1]] .normal [(0,true,.ptr 7 0),(3,true,.ptr 10 0),(4,true,.int .i64 kk)] (hT g (.mk nk np nt na BQ::r) pl e t):=by
 obtain⟨GK,JO⟩:=hs;have hw:=Xk (.mk nk np nt na BQ::r) t
 have hl:(AZ (Nd.mk nk np nt na BQ::r)).length<=Bp:=by rw[Bw];exact Nat.le_of_lt GK
 have PC:MI (AY BQ):=MH (Nat.le_of_lt (JO _ List.mem_cons_self));have VR:=K0 BQ
 have fail:bad=true->∃(p7:Int),∃(x8:Int),∃(g9:Nat),∃(Ro:List Row),∃(bt:Int),∃(o9:Int),∃(pb:Hp),Ak.okW Ro pb/\[AV.ptr 7 0,.int .i64 t.fr,.int .i64 13]=[.ptr 7 0,.int .i64 p7,.int .i64 x8]/\hT g (.mk nk np nt na BQ::r) pl e t=hP g9 Ro bt o9++pb/\
   K (.tup []) (List.map (AN (hP g (AZ (Nd.mk nk np nt na BQ::r)) pl e++CP t).length (hP g9 Ro (fE p7 x8 bt o9).1 (fE p7 x8 bt o9).2++pb)) (List.take (hP g (AZ (Nd.mk nk np nt na BQ::r)) pl e++CP t).length (hP g9 Ro (fE p7 x8 bt o9).1 (fE p7 x8 bt o9).2++pb))):=fun hZ=>
  ⟨_,_,g,_,pl,e,_,hw,rfl,rfl,oz Cf (hf hZ)⟩
 refine jo jl ⟨g,_,_,pl,e,_,hw,hl,rfl,rfl,AF (FV g) (AA (fun a=> ?_) fun a=> ?_)⟩
 ·have a':(nk==kk)=false:=fF a
  exact fail (by rw[hb,a'];rfl)
 ·have a':(nk==kk)=true:=VC a
  refine AA (fun b=> ?_) fun b=> ?_
  ·refine⟨g,_,_,_,_,AY BQ,_,pl,e,_,hw,hl,PC,rfl,rfl,AA (fun c=> ?_) fun c=> ?_⟩
   ·rw[VR] at c
    exact fail (by rw[hb,a',b,fF c];rfl)
   ·rw[VR] at c
    refine AA (fun d=> ?_) fun d=> ?_
    ·refine⟨g,_,_,_,_,AY BQ,_,pl,e,_,hw,hl,PC,rfl,rfl,AA (fun f=> ?_) fun f=> ?_⟩
     ·rw[VR] at f
      exact fail (by rw[hb,a',b,d,f,VC c];rfl)
     ·rw[VR] at f
      exact hg (by rw[hb,a',b,d,f,VC c];rfl)
    ·exact hg (by rw[hb,a',b,d,VC c];rfl)
  ·refine AA (fun d=> ?_) fun d=> ?_
   ·refine⟨g,_,_,_,_,AY BQ,_,pl,e,_,hw,hl,PC,rfl,rfl,AA (fun f=> ?_) fun f=> ?_⟩
    ·rw[VR] at f
     exact fail (by rw[hb,a',b,d,f];rfl)
    ·rw[VR] at f
     exact hg (by rw[hb,a',b,d,f];rfl)
   ·exact hg (by rw[hb,a',b,d];rfl)
theorem jd {α:Type}{a b:α}{l:List α}(h:l.length+2<=Bp)(g:Nat):(decide (IntKind.wrap .i64 ((((a::b::l).length:Nat):Int)-1)=(((a::b::l).length:Nat):Int)-1)&&true&&true&&true&&Nat.beq g g)=true:=by
 have e:IntKind.wrap .i64 ((((a::b::l).length:Nat):Int)-1)=(((a::b::l).length:Nat):Int)-1:=by
  have:(a::b::l).length=l.length+2:=rfl;unfold Bp at h
  rw[Bs]<;>omega
 rw[decide_eq_true e,FV g];rfl
theorem jt {K:AV->Hp->Prop}{g:Nat}{nk np:Int}{nt:List UInt8}{na:List Go.Ai.A9}{BQ:List Nd}{mk mp:Int}{mt:List UInt8}{ma:List Go.Ai.A9}{SO:List Nd}{r:List Nd}{pl e:Int}{t:Ex.Tok}(hs:Hm (.mk nk np nt na BQ:: .mk mk mp mt ma SO::r))
  (hk:K (.tup []) (hP (g+1) (AZ (EK (.mk mk mp mt ma SO) (.mk nk np nt na BQ)::r)) pl e++CP t)):
  AE AU 44 (AD Tryz.f44) (AR Tryz.prog Tryz.f44 (hP g (AZ (Nd.mk nk np nt na BQ:: .mk mk mp mt ma SO::r)) pl e++CP t).length K) [.code [1,1,1,1]] .normal [(0,true,.ptr 7 0)] (hT g (.mk nk np nt na BQ:: .mk mk mp mt ma SO::r) pl e t):=by
 obtain⟨GK,JO⟩:=hs;have hw:=Xk (.mk nk np nt na BQ:: .mk mk mp mt ma SO::r) t
 have hl:(AZ (Nd.mk nk np nt na BQ:: .mk mk mp mt ma SO::r)).length<=Bp:=by rw[Bw];exact Nat.le_of_lt GK
 have ZX:(AZ (Nd.mk mk mp mt ma SO::r)).length<=Bp:=by
  rw[Bw];have:(Nd.mk nk np nt na BQ:: .mk mk mp mt ma SO::r).length=(Nd.mk mk mp mt ma SO::r).length+1:=rfl;have GK:=GK;omega
 have hm:(AY SO).length<Bp:=by rw[Be];exact JO (.mk mk mp mt ma SO) (List.mem_cons_of_mem _ List.mem_cons_self)
 have ku:(AZ r).length+2<=Bp:=hl;have hp:Aa.Ax [AV.int .i64 nk,.int .i64 np,.str nt,.sl 3 (na.map Go.Ai.Ao) none,.sl 5 (AY BQ) none]=true:=JG (.mk nk np nt na BQ)
 have wT:Ak.okW (BH (.int .i64 mk) (.int .i64 mp) (.str mt) (.sl 3 (ma.map Go.Ai.Ao) (Lu r)) (AY SO)::AZ r) (CP t++[.mem 50 (encT t)]++[.grow 0 3 80,.grow 0 5 26,.mem 26 [.int .i64 nk,.int .i64 np,.str nt,.sl 3 (na.map Go.Ai.Ao) none,.sl 5 (AY BQ) none]]):=
  GW (Cm (.mk mk mp mt ma SO::r)) (by simp[CP,IZ,GH];exact hp)
 have hn:∀(n:Nat) (G:Hp),14<=n->AQ n G (CT nk np nt (na.map Go.Ai.Ao) none (AY BQ) none)=CT nk np nt (na.map Go.Ai.Ao) none (AY BQ) none:=fun n G _=>BL n G _ hp
 refine qx jk ⟨g,_,_,pl,e,_,hw,hl,rfl,rfl,AF (FV g) ?_⟩
 repeat' (first
  |exact rfl
  |exact trivial
  |exact jd ku g
  |refine AF ?_ ?_
  |refine And.intro ?_ ?_)
 refine⟨g+1,_,_,_,_,AY SO,AZ r,pl,e,CP t++[.mem 50 (encT t)]++[.grow 0 3 80,.grow 0 5 26,.mem 26 [.int .i64 nk,.int .i64 np,.str nt,.sl 3 (na.map Go.Ai.Ao) none,.sl 5 (AY BQ) none]],nk,np,nt,na.map Go.Ai.Ao,none,AY BQ,none,wT,ZX,hm,hn,rfl,rfl,rfl,?_⟩;refine D8 ?_ hk;show List.map (AN 10 (hP (g+1) (BH (.int .i64 mk) (.int .i64 mp) (.str mt) (.sl 3 (ma.map Go.Ai.Ao) (Lu r)) (AY SO++[CT nk np nt (na.map Go.Ai.Ao) none (AY BQ) none])::AZ r) pl e++(CP t++[.mem 50 (encT t),.grow 0 3 80,.grow 0 5 26,.mem 26 [.int .i64 nk,.int .i64 np,.str nt,.sl 3 (na.map Go.Ai.Ao) none,.sl 5 (AY BQ) none]]))) (List.take 10 (hP (g+1) (BH (.int .i64 mk) (.int .i64 mp) (.str mt) (.sl 3 (ma.map Go.Ai.Ao) (Lu r)) (AY SO++[CT nk np nt (na.map Go.Ai.Ao) none (AY BQ) none])::AZ r) pl e++(CP t++[.mem 50 (encT t),.grow 0 3 80,.grow 0 5 26,.mem 26 [.int .i64 nk,.int .i64 np,.str nt,.sl 3 (na.map Go.Ai.Ao) none,.sl 5 (AY BQ) none]])))=_;rw[Ds (n:=10) rfl]
 rw[List.map_cons,Hk (Kr r (by decide)).1 rfl rfl,DN _ _ _ (by decide),Dr]
 rfl
theorem eN (s:List UInt8):3<=(C7 s).kind/\(C7 s).kind<=13:=by
 unfold C7
 repeat' (first|(constructor<;>simp only[]<;>decide)|(rw[Bool.cond_eq_ite];split))
theorem qF :CO AU 44 (IB Ev WL):=by
 refine BG th fun vs h K ht=> ?_
 obtain⟨g,s,t,BU,hs,se,NW,rfl,rfl,hk⟩:=ht;obtain⟨rows,pl,e⟩:=s
 cases rows with
 |nil=>exact absurd rfl BU
 |cons n r=>
  obtain⟨nk,np,nt,na,BQ⟩:=n;have ft:AJ AU (Ae [(66,sF)]):=AX (AG eu AM);have hZ:Hz t (.mk nk np nt na BQ)=(!(nk==Jc t)||((Jc t==7&& !(DC BQ==9))||(Jc t==10&&DC BQ==0))):=rfl
  have key:=ju (K:=K) (g:=g) (np:=np) (nt:=nt) (na:=na) (r:=r) (pl:=pl) (e:=e) (t:=t) (kk:=Jc t) (bad:=Hz t (.mk nk np nt na BQ)) hs hZ
   (fun hb=>by
    have hp:Ev t ⟨.mk nk np nt na BQ::r,pl,e⟩=Iu t.fr 13 ⟨.mk nk np nt na BQ::r,pl,e⟩:=by
     show(bif Hz t _ then _ else _)=_;rw[hb];rfl
    rw[hp] at hk
    exact hk g)
   (fun hb=>by
    cases r with
    |nil=>
     have h1:nk=1:=NW _ rfl;exfalso;rw[hZ,h1] at hb
     have:((1:Int)==Jc t)=false:=by
      rw[beq_eq_false_iff_ne];unfold Jc;have:=eN t.name
      cases t.kind==4<;>simp only[cond_true,cond_false]<;>omega
     rw[this] at hb;cases hb
    |cons m q=>
     obtain⟨mk,mp,mt,ma,SO⟩:=m
     have hp:Ev t ⟨.mk nk np nt na BQ:: .mk mk mp mt ma SO::q,pl,e⟩=⟨EK (.mk mk mp mt ma SO) (.mk nk np nt na BQ)::q,pl,e⟩:=by
      show(bif Hz t _ then _ else _)=_;rw[hb];rfl
     rw[hp] at hk
     exact jt hs (hk (g+1)))
  refine t30 ft (AA (fun a=>⟨_,rfl,?_⟩) fun a=> ?_)
  ·have:Jc t=(C7 t.name).kind:=by unfold Jc;rw[a];rfl
   rw[this] at key;exact key
  ·have:Jc t=14:=by unfold Jc;rw[a];rfl
   rw[this] at key;exact key
end Go.Proofs.YtopjpnhgnopbiaaGreatDoor
end
section
namespace Go.Proofs.YtopjpnhgnopbiaaGreatDoor
open Go.Ai Go Go.Ai.Sp
open Go.Ai.Ex (encAs encT)
set_option maxRecDepth 100000
theorem fq {C:Bh}{k:Nat}{t:Ci}(h:AJ C (Ae [(k,t)])):∀p∈[(k,t)],CO C p.1 p.2:=fun p hp=>by
 rw[List.mem_singleton] at hp;subst hp
 exact fun l g K ht=>h k t (by simp[Ae,Ga]) l g K ht
theorem tj :Bl AU 43 Tryz.f43:=(by refine⟨?_,?_,?_,?_,?_,?_⟩<;>kernel_rfl)
theorem tl :Bl AU 42 Tryz.f42:=(by refine⟨?_,?_,?_,?_,?_,?_⟩<;>kernel_rfl)
theorem Ru {α:Type}{a:α}{l:List α}(h:l.length+1<=Bp)(g:Nat):(Nat.beq g g&&true&&true&&true&&true&&true&&decide (((a::l).length+1)*80<=140737488355328)&&true&&true)=true:=by
 have:(a::l).length=l.length+1:=rfl;unfold Bp at h
 rw[FV g,decide_eq_true (by omega)];rfl
theorem Rt {α:Type}{l:List α}:(decide (((l.length:Nat):Int)=((l.length+1:Nat):Int)-1)&&true&&true&&true)=true:=by
 rw[decide_eq_true (by omega)];rfl
theorem Rr (g:Nat):(Nat.beq g g&&true&&true&&true)=true:=by rw[FV g];rfl
theorem OD {k p:Int}{t:List UInt8}{al:List Go.Ai.A9}{oa:Option Nat}{m:Nat}{G:Hp}(h:Cj m oa=none):(0,AQ m G [AV.int .i64 k,.int .i64 p,.str t,.sl 3 (al.map Go.Ai.Ao) oa,.sl 5 [] none])=Vt none (.mk k p t al []):=by
 have h2:AB m G (al.map Go.Ai.Ao)=al.map Go.Ai.Ao:=BA _ _ _ (FL al);rw[AQ,AQ,AQ,AQ,AQ,AQ,Cd,Cd,h2,h];rfl
section
variable {K:AV->Hp->Prop}{g:Nat}{nk np:Int}{nt:List UInt8}{na:List Go.Ai.A9}{BQ:List Nd}{r:List Nd}{pl e:Int}{t:Ex.Tok}
theorem bU (hs:Hm (.mk nk np nt na BQ::r))(hk:K (.tup []) (hP (g+1) (AZ (.mk 14 t.fr [] [] []:: .mk nk np nt na BQ::r)) pl e++CP t)):
  AE AU 43 (AD Tryz.f43) (AR Tryz.prog Tryz.f43 10 K) [.code [1,1,1]] .normal [(0,true,.ptr 7 0),(3,true,.ptr 10 0)] (hT g (.mk nk np nt na BQ::r) pl e t):=by
 obtain⟨GK,JO⟩:=hs
 have ku:(AZ r).length+1<=Bp:=by rw[Bw];exact Nat.le_of_lt GK
 refine qz (k:=nk) (b0:=.grow 0 3 80) (b1:=.mem 50 (encT t)) KC ?_;refine AF (Ru ku g) (AF Rt (AF (Rr _) ⟨?_,?_⟩))
 ·repeat' (first
   |exact rfl
   |exact trivial
   |exact Ru ku g
   |exact Rt
   |exact Rr _
   |refine AF ?_ ?_
   |refine And.intro ?_ ?_)
 ·refine D8 ?_ hk;show List.map (AN 10 (hP (g+1) ((0,[.int .i64 14,.int .i64 t.fr,.str [],.sl 3 (([]:List Go.Ai.A9).map Go.Ai.Ao) (some 11),.sl 5 [] none])::AZ (Nd.mk nk np nt na BQ::r)) pl e++(CP t++[.mem 50 (encT t),.grow 0 3 80,.dead]))) (List.take 10 (hP (g+1) ((0,[.int .i64 14,.int .i64 t.fr,.str [],.sl 3 (([]:List Go.Ai.A9).map Go.Ai.Ao) (some 11),.sl 5 [] none])::AZ (Nd.mk nk np nt na BQ::r)) pl e++(CP t++[.mem 50 (encT t),.grow 0 3 80,.dead])))=_;rw[Ds (n:=10) rfl]
  rw[List.map_cons,OD (Nn (show 10<=11 by decide)),DN _ _ _ (by decide),Dr]
  rfl
theorem Sq {α:Type}{a:α}{l:List Nd}{m:List α}(hm:m.length=l.length):decide ((((a::m).length:Nat):Int)>16)=decide (16<l.length+1):=by
 have:(a::m).length=l.length+1:=by rw[List.length_cons,hm]
 rw[this]
 by_cases h:16<l.length+1
 ·rw[decide_eq_true h,decide_eq_true (by omega)]
 ·rw[decide_eq_false h,decide_eq_false (by omega)]
def Eb (fr:Int)(n:Nat)(s:Int×Int):Int×Int:=bif decide (16<n+1) then fE fr 3 s.1 s.2 else s
theorem bE :AJ AU (Ae [(65,Mz g (AZ (Nd.mk nk np nt na BQ::r)) (CP t++[.mem 50 (encT t)]))]):=AX (AG (Gk iK fun vs h K ht=>by
  obtain⟨p,y,pl,e,rfl,rfl,hk⟩:=ht
  exact⟨p,y,g,_,pl,e,_,Xk _ t,rfl,rfl,hk⟩) AM)
theorem bV (hs:Hm (.mk nk np nt na BQ::r))(hk:K (.tup []) (hP (g+1) (AZ (.mk 14 t.fr [] [] []:: .mk nk np nt na BQ::r)) (Eb t.fr r.length (pl,e)).1 (Eb t.fr r.length (pl,e)).2++CP t)):
  AE AU 43 (AD Tryz.f43) (AR Tryz.prog Tryz.f43 10 K) [.code [1,1]] .normal [(0,true,.ptr 7 0),(3,true,.ptr 10 0)] (hT g (.mk nk np nt na BQ::r) pl e t):=by
 refine q6 (k:=nk) (b0:=.grow 0 3 80) (b1:=.mem 50 (encT t)) bE (AA (fun a=> ?_) fun a=> ?_)
 ·rw[Sq (Bw _)] at a;unfold Eb at hk;rw[a] at hk;exact⟨_,_,pl,e,rfl,rfl,bU hs hk⟩
 ·rw[Sq (Bw _)] at a;unfold Eb at hk;rw[a] at hk;exact bU hs hk
end
theorem qG :CO AU 43 (IB HY Gu):=by
 refine BG tj fun vs h K ht=> ?_
 obtain⟨g,s,t,BU,hs,se,-,rfl,rfl,hk⟩:=ht;obtain⟨rows,pl,e⟩:=s
 cases rows with
 |nil=>exact absurd rfl BU
 |cons n r=>
  obtain⟨nk,np,nt,na,BQ⟩:=n;have ft:AJ AU (Ae [(67,cO),(65,Mz g (AZ (Nd.mk nk np nt na BQ::r)) (CP t++[.mem 50 (encT t)]))]):=AX (AG pH (fq bE))
  have hl:(AZ (Nd.mk nk np nt na BQ::r)).length<=Bp:=by rw[Bw];exact Nat.le_of_lt hs.1
  have PC:MI (AY BQ):=MH (Nat.le_of_lt (hs.2 _ List.mem_cons_self))
  have hp:∀b,Dv nk (DC BQ) 14=b->(HY t ⟨.mk nk np nt na BQ::r,pl,e⟩)=⟨.mk 14 t.fr [] [] []:: .mk nk np nt na BQ::r,(Eb t.fr r.length (bif !b then fE t.fr 13 pl e else(pl,e))).1,(Eb t.fr r.length (bif !b then fE t.fr 13 pl e else(pl,e))).2⟩:=fun b hb=>by
   show(⟨_,(bif decide (16<r.length+1) then Iu t.fr 3 (bif !Dv nk (DC BQ) 14 then _ else _) else(bif !Dv nk (DC BQ) 14 then _ else _):Ps).pl,(bif decide (16<r.length+1) then Iu t.fr 3 (bif !Dv nk (DC BQ) 14 then _ else _) else(bif !Dv nk (DC BQ) 14 then _ else _):Ps).e⟩:Ps)=_;rw[hb];unfold Eb
   cases b<;>cases decide (16<r.length+1)<;>rfl
  refine t29 (k:=nk) (b0:=.grow 0 3 80) (b1:=.mem 50 (encT t)) ft ⟨g,_,_,_,_,_,AY BQ,_,pl,e,_,Xk (.mk nk np nt na BQ::r) t,hl,PC,rfl,rfl,AA (fun a=> ?_) fun a=> ?_⟩
  ·rw[K0] at a;have a1:(!Dv nk (DC BQ) 14)=true:=a
   rw[hp false (by simpa using a1)] at hk
   exact⟨_,_,pl,e,rfl,rfl,bV hs (hk (g+1))⟩
  ·rw[K0] at a;have a1:(!Dv nk (DC BQ) 14)=false:=a
   rw[hp true (by simpa using a1)] at hk
   exact bV hs (hk (g+1))
end Go.Proofs.YtopjpnhgnopbiaaGreatDoor
end
section
namespace Go.Proofs.YtopjpnhgnopbiaaGreatDoor
open Go.Ai Go Go.Ai.Sp
open Go.Ai.Ex (encAs encT)
set_option maxRecDepth 100000
theorem Hc (l:List Ex.A9):encAs l=(l.map XV).map Go.Ai.Ao:=by
 unfold encAs;rw[List.map_map];rfl
theorem RI (s:List UInt8):(C7 s).Jb<=(C7 s).names.length/\(C7 s).names.length<=3:=by
 unfold C7
 repeat' (first|(constructor<;>simp only[]<;>decide)|(rw[Bool.cond_eq_ite];split))
theorem TP {k p:Int}{l:List Ex.A9}{m:Nat}{G:Hp}:(0,AQ m G [AV.int .i64 k,.int .i64 p,.str [],.sl 3 (encAs l) none,.sl 5 [] none])=Vt none (.mk k p [] (l.map XV) []):=by
 rw[Hc];exact OD rfl
theorem Vj {o:Option Nat}{nk np:Int}{nt:List UInt8}{na:List Go.Ai.A9}{BQ:List Nd}{k p:Int}{l:List Ex.A9}{G:Hp}{ow:Option Nat}{m:Nat}(ho:Cj m o=o)(hw:Cj m ow=none):
  ((BH (.int .i64 nk) (.int .i64 np) (.str nt) (.sl 3 (na.map Go.Ai.Ao) o) (AY BQ++[CT k p [] (encAs l) none [] ow])).1,
   AQ m G (BH (.int .i64 nk) (.int .i64 np) (.str nt) (.sl 3 (na.map Go.Ai.Ao) o) (AY BQ++[CT k p [] (encAs l) none [] ow])).2)=Vt o (EK (.mk nk np nt na BQ) (.mk k p [] (l.map XV) [])):=by
 rw[Hc];exact Hk (oa:=none) (ks:=[]) ho rfl hw
def KT (k f:Int)(al:List (List AV)):Hp:=[.grow 0 3 80,.grow 0 5 26,.grow 0 3 80,.grow 0 5 26,.mem 26 [.int .i64 k,.int .i64 f,.str [],.sl 3 al none,.sl 5 [] (some 14)]]
section
variable {K:AV->Hp->Prop}{g:Nat}{nk np:Int}{nt:List UInt8}{na:List Go.Ai.A9}{BQ:List Nd}{r:List Nd}{pl e:Int}{t:Ex.Tok}{x:El}
theorem jv (hs:Hm (.mk nk np nt na BQ::r))(hk:K (.tup []) (hP (g+1) (AZ (.mk x.kind t.fr [] (t.attrs.map XV) []:: .mk nk np nt na BQ::r)) pl e++CP t)):
  AE AU 42 (AD Tryz.f42) (AR Tryz.prog Tryz.f42 10 K) [.code [1,1,1,1,1,1,1,1,1]] .normal [(0,true,.ptr 7 0),(6,true,.ptr 17 0)] (hP g (AZ (Nd.mk nk np nt na BQ::r)) pl e++(Fp (encT t) x++KT x.kind t.fr (encAs t.attrs))):=by
 obtain⟨GK,JO⟩:=hs
 have ku:(AZ r).length+1<=Bp:=by rw[Bw];exact Nat.le_of_lt GK
 refine q7 (k:=nk) (tk:=t.kind) (fr:=t.fr) (to:=t.to) (nm:=t.name) (tx:=t.text) (l:=t.attrs) KC ?_;refine AF (Ru ku g) (AF Rt (AF (Rr _) ⟨?_,?_⟩))
 ·repeat' (first
   |exact rfl
   |exact trivial
   |exact Ru ku g
   |exact Rt
   |exact Rr _
   |refine AF ?_ ?_
   |refine And.intro ?_ ?_)
 ·refine D8 ?_ hk
  show List.map (AN 10 (hP (g+1) ((0,[.int .i64 x.kind,.int .i64 t.fr,.str [],.sl 3 (encAs t.attrs) none,.sl 5 [] none])::AZ (Nd.mk nk np nt na BQ::r)) pl e++(CP t++[.mem 50 (encT t),.grow 0 1 9,.mem 114 (IU x),.grow 0 3 80,.dead,.grow 0 3 80,.grow 0 5 26,.mem 26 [.int .i64 x.kind,.int .i64 t.fr,.str [],.sl 3 (encAs t.attrs) none,.sl 5 [] (some 14)]])))
   (List.take 10 (hP (g+1) ((0,[.int .i64 x.kind,.int .i64 t.fr,.str [],.sl 3 (encAs t.attrs) none,.sl 5 [] none])::AZ (Nd.mk nk np nt na BQ::r)) pl e++(CP t++[.mem 50 (encT t),.grow 0 1 9,.mem 114 (IU x),.grow 0 3 80,.dead,.grow 0 3 80,.grow 0 5 26,.mem 26 [.int .i64 x.kind,.int .i64 t.fr,.str [],.sl 3 (encAs t.attrs) none,.sl 5 [] (some 14)]])))=_
  rw[Ds (n:=10) rfl]
  rw[List.map_cons,TP,DN _ _ _ (by decide),Dr]
  rfl
theorem bW (hs:Hm (.mk nk np nt na BQ::r))(ha:t.attrs.length<=Bp)(hx:x.Jb<=x.names.length/\x.names.length<=Bp){b:Bool}
  (We:b=true->K (.tup []) (hP g (AZ (EK (.mk nk np nt na BQ) (.mk x.kind t.fr [] (t.attrs.map XV) [])::r)) (Sp.A8 x t.fr t.attrs (pl,e)).1 (Sp.A8 x t.fr t.attrs (pl,e)).2++CP t))
  (Mt:b=false->K (.tup []) (hP (g+1) (AZ (.mk x.kind t.fr [] (t.attrs.map XV) []:: .mk nk np nt na BQ::r)) (Sp.A8 x t.fr t.attrs (pl,e)).1 (Sp.A8 x t.fr t.attrs (pl,e)).2++CP t)):
  AE AU 42 (AD Tryz.f42) (AR Tryz.prog Tryz.f42 10 K) [.code [1,1,1,1,1]] .normal [(0,true,.ptr 7 0),(3,true,.ptr 10 0),(4,true,.ptr 12 0),(5,true,.bool b)] (hP g (AZ (Nd.mk nk np nt na BQ::r)) pl e++Fp (encT t) x):=by
 have ft:AJ AU (Ae [(68,fK g (AZ (Nd.mk nk np nt na BQ::r)) x t.kind t.fr t.to t.name t.text t.attrs),(63,S8 10)]):=
  AX (AG (Gk c49 fun vs h K ht=>by
   obtain⟨pl,e,rfl,rfl,hk⟩:=ht
   exact⟨g,_,pl,e,x,_,_,_,_,_,_,Cm _,hx.1,hx.2,ha,rfl,rfl,hk⟩) (AG lV AM))
 have hl:(AZ (Nd.mk nk np nt na BQ::r)).length<=Bp:=by rw[Bw];exact Nat.le_of_lt hs.1
 have PC:(AY BQ).length<Bp:=by rw[Be];exact hs.2 _ List.mem_cons_self
 refine q8 (k:=nk) (tk:=t.kind) (fr:=t.fr) (to:=t.to) (nm:=t.name) (tx:=t.text) (l:=t.attrs) (x:=x) ft ⟨pl,e,rfl,rfl,AA (fun a=> ?_) fun a=> ?_⟩
 ·have hw:Ak.okW (BH (.int .i64 nk) (.int .i64 np) (.str nt) (.sl 3 (na.map Go.Ai.Ao) (Lu r)) (AY BQ)::AZ r) (Fp (encT t) x++KT x.kind t.fr (encAs t.attrs)):=by
   intro n G hn
   refine⟨Oi (Cm (.mk nk np nt na BQ::r)) n G (by omega),?_⟩
   rw[List.map_append]
   congr 1
   ·exact((GW (Cm []) (HM t.attrs x):Ak.okW _ (Fp (encT t) x)) n G (by
     rw[List.length_append] at hn
     omega)).2
   ·have h1:AB n G (encAs t.attrs)=encAs t.attrs:=BA _ _ _ (Ia _)
    have h2:Cj n (some 14)=some 14:=Nl (by
     have:(Fp (encT t) x++KT x.kind t.fr (encAs t.attrs)).length=10:=rfl
     omega)
    unfold KT;simp only[List.map_cons,List.map_nil,AN];rw[AQ,AQ,AQ,AQ,AQ,AQ,Cd,Cd,h1,h2];rfl
  refine⟨g,_,_,_,_,AY BQ,AZ r,_,_,Fp (encT t) x++KT x.kind t.fr (encAs t.attrs),x.kind,t.fr,[],encAs t.attrs,none,[],some 14,hw,hl,PC,fun n G hn=> ?_,rfl,rfl,rfl,?_⟩
  ·rw[Hc]
   exact Mp (n:=n) (G:=G) (oa:=none) (ow:=some 14) rfl (Nl (by omega))
  ·refine D8 ?_ (We a)
   show List.map (AN 10 (hP g (BH (.int .i64 nk) (.int .i64 np) (.str nt) (.sl 3 (na.map Go.Ai.Ao) (Lu r)) (AY BQ++[CT x.kind t.fr [] (encAs t.attrs) none [] (some 14)])::AZ r) (Sp.A8 x t.fr t.attrs (pl,e)).1 (Sp.A8 x t.fr t.attrs (pl,e)).2++(CP t++(.mem 50 (encT t):: .grow 0 1 9:: .mem 114 (IU x)::KT x.kind t.fr (encAs t.attrs)))))
    (List.take 10 (hP g (BH (.int .i64 nk) (.int .i64 np) (.str nt) (.sl 3 (na.map Go.Ai.Ao) (Lu r)) (AY BQ++[CT x.kind t.fr [] (encAs t.attrs) none [] (some 14)])::AZ r) (Sp.A8 x t.fr t.attrs (pl,e)).1 (Sp.A8 x t.fr t.attrs (pl,e)).2++(CP t++(.mem 50 (encT t):: .grow 0 1 9:: .mem 114 (IU x)::KT x.kind t.fr (encAs t.attrs)))))=_
   rw[Ds (n:=10) rfl]
   rw[List.map_cons,Vj (Kr r (by decide)).1 (Nn (show 10<=14 by decide)),DN _ _ _ (by decide),Dr]
   rfl
 ·exact jv hs (Mt a)
theorem jx (hs:Hm (.mk nk np nt na BQ::r))(ha:t.attrs.length<=Bp)(hx:x.Jb<=x.names.length/\x.names.length<=Bp){b:Bool}
  (We:b=true->K (.tup []) (hP g (AZ (EK (.mk nk np nt na BQ) (.mk x.kind t.fr [] (t.attrs.map XV) [])::r)) (Sp.A8 x t.fr t.attrs (Eb t.fr r.length (pl,e))).1 (Sp.A8 x t.fr t.attrs (Eb t.fr r.length (pl,e))).2++CP t))
  (Mt:b=false->K (.tup []) (hP (g+1) (AZ (.mk x.kind t.fr [] (t.attrs.map XV) []:: .mk nk np nt na BQ::r)) (Sp.A8 x t.fr t.attrs (Eb t.fr r.length (pl,e))).1 (Sp.A8 x t.fr t.attrs (Eb t.fr r.length (pl,e))).2++CP t)):
  AE AU 42 (AD Tryz.f42) (AR Tryz.prog Tryz.f42 10 K) [.code [1,1,1,1]] .normal [(0,true,.ptr 7 0),(3,true,.ptr 10 0),(4,true,.ptr 12 0),(5,true,.bool b)] (hP g (AZ (Nd.mk nk np nt na BQ::r)) pl e++Fp (encT t) x):=by
 have ft:AJ AU (Ae [(65,Mz g (AZ (Nd.mk nk np nt na BQ::r)) (Fp (encT t) x))]):=AX (AG (Gk iK fun vs h K ht=>by
  obtain⟨p,y,pl,e,rfl,rfl,hk⟩:=ht
  exact⟨p,y,g,_,pl,e,_,GW (Cm _) (HM t.attrs x),rfl,rfl,hk⟩) AM)
 refine q9 (k:=nk) (b0:=.grow 0 3 80) (b1:=.mem 50 (encT t)) (ek:=x.kind) (em:=(x.Jb:Nat)) (en:=x.names.map fun n=>[.str n]) ft (AA (fun a=> ?_) fun a=> ?_)
 ·rw[Sq (Bw _)] at a;unfold Eb at We Mt;rw[a] at We Mt;exact⟨_,_,pl,e,rfl,rfl,bW hs ha hx We Mt⟩
 ·rw[Sq (Bw _)] at a;unfold Eb at We Mt;rw[a] at We Mt;exact bW hs ha hx We Mt
end
theorem lW :CO AU 42 (IB GC Gu):=by
 refine BG tl fun vs h K ht=> ?_
 obtain⟨g,s,t,BU,hs,⟨n9,n8,sd,n7,sc⟩,-,rfl,rfl,hk⟩:=ht;obtain⟨rows,pl,e⟩:=s
 cases rows with
 |nil=>exact absurd rfl BU
 |cons n r=>
  obtain⟨nk,np,nt,na,BQ⟩:=n
  have ft:AJ AU (Ae [(65,Mz g (AZ (Nd.mk nk np nt na BQ::r)) (pQ (.grow 0 3 80) (.mem 50 (encT t)) (encT t) (C7 t.name))),(66,ux t.name),(67,cO)]):=
   AX (AG (Gk iK fun vs h K ht=>by
    obtain⟨p,y,pl,e,rfl,rfl,hk⟩:=ht
    exact⟨p,y,g,_,pl,e,_,GW (Cm _) (HM t.attrs (C7 t.name)),rfl,rfl,hk⟩)
   (AG (Gk eu fun vs h K ht=>by
    obtain⟨rfl,hk⟩:=ht
    exact⟨_,rfl,hk⟩) (AG pH AM)))
  have hl:(AZ (Nd.mk nk np nt na BQ::r)).length<=Bp:=by rw[Bw];exact Nat.le_of_lt hs.1
  have PC:MI (AY BQ):=MH (Nat.le_of_lt (hs.2 _ List.mem_cons_self));have VR:=K0 BQ;have hw:Ak.okW (AZ (Nd.mk nk np nt na BQ::r)) (Fp (encT t) (C7 t.name)):=GW (Cm _) (HM t.attrs (C7 t.name))
  have hx:(C7 t.name).Jb<=(C7 t.name).names.length/\(C7 t.name).names.length<=Bp:=⟨(RI _).1,Nat.le_trans (RI _).2 (by decide)⟩
  have go:∀(b:Bool) (s1:Int×Int),FU (C7 t.name)=b->s1=(bif (b !=(t.kind==3))|| !Dv nk (DC BQ) (C7 t.name).kind then fE t.fr 13 pl e else(pl,e))->
    AE AU 42 (AD Tryz.f42) (AR Tryz.prog Tryz.f42 10 K) [.code [1,1,1,1]] .normal [(0,true,.ptr 7 0),(3,true,.ptr 10 0),(4,true,.ptr 12 0),(5,true,.bool b)] (hP g (AZ (Nd.mk nk np nt na BQ::r)) s1.1 s1.2++Fp (encT t) (C7 t.name)):=by
   intro b s1 hb GK
   have hp:GC t ⟨.mk nk np nt na BQ::r,pl,e⟩=bif b then⟨EK (.mk nk np nt na BQ) (.mk (C7 t.name).kind t.fr [] (t.attrs.map XV) [])::r,(Sp.A8 (C7 t.name) t.fr t.attrs (Eb t.fr r.length s1)).1,(Sp.A8 (C7 t.name) t.fr t.attrs (Eb t.fr r.length s1)).2⟩
     else⟨.mk (C7 t.name).kind t.fr [] (t.attrs.map XV) []:: .mk nk np nt na BQ::r,(Sp.A8 (C7 t.name) t.fr t.attrs (Eb t.fr r.length s1)).1,(Sp.A8 (C7 t.name) t.fr t.attrs (Eb t.fr r.length s1)).2⟩:=by
    have h2:Nz (C7 t.name) t (.mk nk np nt na BQ) r ⟨.mk nk np nt na BQ::r,pl,e⟩=⟨.mk nk np nt na BQ::r,(Sp.A8 (C7 t.name) t.fr t.attrs (Eb t.fr r.length s1)).1,(Sp.A8 (C7 t.name) t.fr t.attrs (Eb t.fr r.length s1)).2⟩:=by
     unfold Nz Eb;rw[hb,GK];show(⟨_,_,_⟩:Ps)=_;have e1:(Nd.mk nk np nt na BQ).kind=nk:=rfl;have e2:(Nd.mk nk np nt na BQ).kids=BQ:=rfl;rw[e1,e2]
     cases (b !=(t.kind==3))|| !Dv nk (DC BQ) (C7 t.name).kind<;>cases decide (16<r.length+1)<;>rfl
    show(bif FU (C7 t.name) then _ else _)=_;rw[hb];simp only[h2]
   rw[hp] at hk
   exact jx hs n7 hx (fun h=>by rw[h] at hk;exact hk g) fun h=>by rw[h] at hk;exact hk (g+1)
  refine t28 (k:=nk) (b0:=.grow 0 3 80) (b1:=.mem 50 (encT t)) ft ⟨rfl,AA (fun a=>AA (fun b=> ?_) fun b=> ?_) fun a=>AA (fun b=> ?_) fun b=> ?_⟩
  ·exact⟨_,_,pl,e,rfl,rfl,go true _ (by unfold FU;rw[a];rfl) (by rw[show(true !=(t.kind==3))=true from b];rfl)⟩
  ·refine⟨g,_,_,_,_,_,AY BQ,_,pl,e,_,hw,hl,PC,rfl,rfl,AA (fun c=> ?_) fun c=> ?_⟩
   ·rw[VR] at c
    exact⟨_,_,pl,e,rfl,rfl,go true _ (by unfold FU;rw[a];rfl) (by rw[show(true !=(t.kind==3))=false from b,show(!Dv nk (DC BQ) (C7 t.name).kind)=true from c];rfl)⟩
   ·rw[VR] at c
    exact go true (pl,e) (by unfold FU;rw[a];rfl) (by rw[show(true !=(t.kind==3))=false from b,show(!Dv nk (DC BQ) (C7 t.name).kind)=false from c];rfl)
  ·exact⟨_,_,pl,e,rfl,rfl,go ((C7 t.name).kind==6) _ (by unfold FU;rw[a];rfl) (by rw[show(((C7 t.name).kind==6) !=(t.kind==3))=true from b];rfl)⟩
  ·refine⟨g,_,_,_,_,_,AY BQ,_,pl,e,_,hw,hl,PC,rfl,rfl,AA (fun c=> ?_) fun c=> ?_⟩
   ·rw[VR] at c
    exact⟨_,_,pl,e,rfl,rfl,go ((C7 t.name).kind==6) _ (by unfold FU;rw[a];rfl) (by rw[show(((C7 t.name).kind==6) !=(t.kind==3))=false from b,show(!Dv nk (DC BQ) (C7 t.name).kind)=true from c];rfl)⟩
   ·rw[VR] at c
    exact go ((C7 t.name).kind==6) (pl,e) (by unfold FU;rw[a];rfl) (by rw[show(((C7 t.name).kind==6) !=(t.kind==3))=false from b,show(!Dv nk (DC BQ) (C7 t.name).kind)=false from c];rfl)
end Go.Proofs.YtopjpnhgnopbiaaGreatDoor
end
section
namespace Go.Proofs.YtopjpnhgnopbiaaGreatDoor
open Go.Ai Go Go.RowKit Go.Ai.Sp
set_option maxRecDepth 100000
def ve (k:Int)(f:Nat)(c:Nat):MapEntry:={key:=.int .i64 k,val:=.agg #[.func (.func f) #[] #[]],born:=c}
def Pb (ks:List (Int×Nat)):List MapEntry:=ks.zipIdx.map fun x=>ve x.1.1 x.1.2 x.2
theorem YP {ks:List (Int×Nat)}{x:MapEntry}(h:x∈Pb ks):∃p∈ks,x.key=.int .i64 p.1:=by
 obtain⟨y,hy,rfl⟩:=List.mem_map.1 h;refine⟨y.1,?_,rfl⟩;obtain⟨a,b⟩:=y;exact List.mem_of_getElem? (List.mem_zipIdx_iff_getElem?.1 hy)
theorem Ct {w0 w:World}{r:Nat}{ks:List (Int×Nat)}(hr:w0.heap.size<=r)(hw:Below w0.heap.size w0 w)(hb:w.heap[r]?=some (.map (Pb ks).toArray ks.length)){k:Int}{f:Nat}(hn:(ks.all fun p=>!(p.1==k))=true):
  ∃w',(Instr.mapUpdate 47 (.map (some r)) (.int .i64 k) (.agg #[.func (.func f) #[] #[]])).run Tryz.prog w=.ok () w'/\w'.heap[r]?=some (.map (Pb (ks++[(k,f)])).toArray (ks++[(k,f)]).length)/\Below w0.heap.size w0 w':=by
 have hm:Tryz.prog.underlying 47=some (.map 3 53):=by kernel_rfl
 have hd:Tryz.prog.underlying 3=some (.int .i64):=by kernel_rfl
 have hk:MapKept.IsKey (.int .i64) (.int .i64 k):=rfl
 have VU:∀x∈(Pb ks).toArray.toList,MapKept.IsKey (.int .i64) x.key:=fun x hx=>by
  obtain⟨p,_,e⟩:=YP hx;rw[e];rfl
 rcases MapKept.findNow_spec hk (Pb ks).toArray.toList 0 VU with ⟨h1,h2⟩|⟨j,e,h1,h2,h3⟩
 ·refine⟨_,by simp only[Instr.mapUpdate,run_underlying hm,MapKept.run_getObj_map hb,MapKept.run_checkKey hd hk,MapKept.run_findKey hd h1,MapKept.run_setObj_map _ hb,Result.andThen,Sem.run_bind];rfl,?_,?_⟩
  ·have h:=(MapKept.heap_set (o':=.map ((Pb ks).toArray.push {key:=.int .i64 k,val:=.agg #[.func (.func f) #[] #[]],born:=ks.length}) (ks.length+1)) hb).1;rw[h]
   congr 1
   have e1:(Pb (ks++[(k,f)])).toArray=(Pb ks).toArray.push {key:=.int .i64 k,val:=.agg #[.func (.func f) #[] #[]],born:=ks.length}:=by
    unfold Pb;rw[List.zipIdx_append];simp[ve]
   rw[e1];simp
  ·exact⟨hw.os,hw.tape,hw.output,by simpa using hw.size,fun i hi=>((MapKept.heap_set hb).2 i (by omega)).trans (hw.block i hi)⟩
 ·obtain⟨p,hp,e2⟩:=YP (List.mem_of_getElem? h2);rw[e2] at h3
  injection h3 with _ h3
  have:=List.all_eq_true.1 hn p hp;rw[h3] at this;simp at this
def bI :List (Int×Nat):=[(1,40),(7,41),(2,42),(3,42),(5,43),(4,44),(6,44)]
theorem Yj (w:World):Calls Tryz.prog 18 #[] w fun e w'=>e=.returned (.map (some w.heap.size))/\Below w.heap.size w w'/\w'.heap[w.heap.size]?=some (.map (Pb bI).toArray bI.length):=by
 go_enter Tryz.func18,Tryz.f18
 go_wp
 rw[Go.run_makeMap_plain];simp only[Result.andThen];have iA:Below w.heap.size w (w.alloc (.map #[] 0)):=(Below.refl _ w).alloc (Nat.le_refl _) _;have ff:(w.alloc (.map #[] 0)).heap[w.heap.size]?=some (.map (Pb []).toArray ([]:List (Int×Nat)).length):=(MapKept.heap_alloc w _).1;generalize w.alloc (.map #[] 0)=w0 at iA ff⊢
 go_wp
 obtain⟨w1,Qv,pq,Uj⟩:=Ct (Nat.le_refl _) iA ff (k:=1) (f:=40) rfl;rw[Qv];simp only[Result.andThen]
 go_wp
 obtain⟨w2,Ms,tB,qA⟩:=Ct (Nat.le_refl _) Uj pq (k:=7) (f:=41) rfl;rw[Ms];simp only[Result.andThen]
 go_wp
 obtain⟨w3,wv,xN,yB⟩:=Ct (Nat.le_refl _) qA tB (k:=2) (f:=42) rfl;rw[wv];simp only[Result.andThen]
 go_wp
 obtain⟨w4,wu,xM,yA⟩:=Ct (Nat.le_refl _) yB xN (k:=3) (f:=42) rfl;rw[wu];simp only[Result.andThen]
 go_wp
 obtain⟨w5,wq,xL,xz⟩:=Ct (Nat.le_refl _) yA xM (k:=5) (f:=43) rfl;rw[wq];simp only[Result.andThen]
 go_wp
 obtain⟨w6,wo,xK,xy⟩:=Ct (Nat.le_refl _) xz xL (k:=4) (f:=44) rfl;rw[wo];simp only[Result.andThen]
 go_wp
 obtain⟨w7,wm,xJ,xx⟩:=Ct (Nat.le_refl _) xy xK (k:=6) (f:=44) rfl;rw[wm];simp only[Result.andThen]
 go_wp
 refine⟨rfl,.map (some w.heap.size),?_,rfl,xx,xJ⟩;simp[go_sem,results]
def Vl :List AV->Option (Bool×AV):=fun vs=>match vs with|[]=>some (true,EN)|_=>none
theorem Yk {G:Nat->Option (List AV)}{I:World->Prop}{B0:Nat}:EL Tryz.prog G I B0 18 Vl:=by
 intro vs v hv E args hE hB H hr;unfold Vl at hv;split at hv
 ·simp only[Option.some.injEq,Prod.mk.injEq,true_and] at hv;subst hv;simp only[BK] at hr;subst hr
  refine(Yj E.w).mono fun e w' ⟨h1,h2,h3⟩=>⟨_,h1,h2,?_⟩
  refine⟨E.w.heap.size,_,_,rfl,h3,rfl,?_⟩
  have fn:∀f:Nat,Ag {E with w:=w'} [.fn (.func f) [] []] [.func (.func f) #[] #[]]:=fun f=>⟨_,[],rfl,rfl,⟨#[],#[],rfl,rfl,rfl⟩,rfl⟩
  exact⟨_,_,rfl,fn 40,_,_,rfl,fn 41,_,_,rfl,fn 42,_,_,rfl,fn 42,_,_,rfl,fn 43,_,_,rfl,fn 44,_,_,rfl,fn 44,rfl⟩
 ·cases hv
end Go.Proofs.YtopjpnhgnopbiaaGreatDoor
end
section
namespace Go.Proofs.YtopjpnhgnopbiaaGreatDoor
open Go.Ai Go Go.Ai.Sp
open Go.Ai.Ex (encAs encT encTs lexM tokC limE)
set_option maxRecDepth 100000
theorem wD :BD AU 8 Tryz.f8:=(by refine⟨?_,?_,?_,?_,?_,?_⟩<;>kernel_rfl)
theorem zA :CO AU 17 tokC:=by
 refine Gl (g:=Lx.WR) (by kernel_rfl) (by kernel_rfl) (by kernel_rfl) (by kernel_rfl) fun vs h K ht=> ?_
 obtain⟨s,hs,rfl,h1,h2⟩:=ht
 refine⟨Ex.UQ (lexM s),?_,by show some (Nat.ble s.length 1000000,Ex.UQ (lexM s))=_;rw[show Nat.ble s.length 1000000=true from Nat.ble_eq_true_of_le hs]⟩
 cases hl:lexM s with
 |error x=>
  obtain⟨p,e⟩:=x;exact h1 p e hl
 |ok l=>
  show K (AV.tup [.sl 6 (AB 0 [] (encTs l)) none,.int .i64 0,.int .i64 0]) h;rw[Bb 0 [] _ (Ex.cQ 0 l)];exact h2 l hl
theorem y9 :CO AU 18 Vm:=by
 refine Gl (g:=Vl) (by kernel_rfl) (by kernel_rfl) (by kernel_rfl) (by kernel_rfl) fun vs h K ht=> ?_
 obtain⟨hv,hk⟩:=ht
 match vs,hv with
 |[],_=>exact⟨EN,hk,rfl⟩
def Lw (z1 z2:Nat):Except (Int×Int) Nd->AV
 |.ok n=>.tup [.agg (Pc n),.int .i64 0,.int .i64 0]
 |.error (p,e)=>.tup [.agg [.int .i64 0,.int .i64 0,.str [],.sl z1 [] none,.sl z2 [] none],.int .i64 p,.int .i64 e]
theorem eB {l:List Ex.Tok}{i:Nat}(h:i<l.length):Bm (encTs l) (i:Int)=encT l[i]:=by
 unfold encTs Bm;simp[h]
theorem ZN (l:List Nd):(List.all (AZ l) fun r=>CA 8 r.2)=true:=SM (Cm l) 8 (by decide)
theorem jz {v:AV}{s:List UInt8}{l:List Ex.Tok}{i:Nat}{g:Nat}{st:Ps}(hi:i<l.length)(hl:l.length<=131074)(ht:aZ l[i])(hk:l[i].kind=1\/l[i].kind=2\/l[i].kind=3\/l[i].kind=4\/l[i].kind=5\/l[i].kind=6\/l[i].kind=7)(hinv:Inv i st.rows)
  (h1:((CS l[i] st).e !=0)=true->v=Lw 0 0 (.error ((CS l[i] st).pl,(CS l[i] st).e)))
  (h2:((CS l[i] st).e !=0)=false->∀g',AE AU 8 (AD Tryz.f8) (AO Tryz.prog Tryz.f8 v) [.code [0,1,0,1,1,1,1,1,1],.block 0,.code [1,1,1,1,1,1,1]] .normal [(0,true,.str s),(2,true,.ptr 2 0),(6,true,.ptr 7 0),(7,true,EN),(30,true,.sl 6 (encTs l) none),(31,true,.int .i64 l.length),(32,true,.int .i64 ((i+1:Nat):Int))] (hP g' (AZ (CS l[i] st).rows) (CS l[i] st).pl (CS l[i] st).e)):
  AE AU 8 (AD Tryz.f8) (AO Tryz.prog Tryz.f8 v) [.code [1,0,0,1,1,0,0,1,0,1,1,1,1,1,1],.block 1,.code [1,1,1,0,0,1,0,1,1,1,1,1,1],.loop [0,1,0,1,1,1,1,1,1] 8,.block 0,.code [1,1,1,1,1,1,1]] .normal [(0,true,.str s),(2,true,.ptr 2 0),(6,true,.ptr 7 0),(7,true,EN),(9,true,.ptr 9 0),(30,true,.sl 6 (encTs l) none),(31,true,.int .i64 l.length),(32,true,.int .i64 i)]
   (hP g (AZ st.rows) st.pl st.e++CP l[i]):=by
 have VO:Hm st.rows:=by
  have:=hinv.len
  refine⟨by unfold Bp;omega,fun n hn=> ?_⟩
  have:=hinv.kids n hn;unfold Bp;omega
 have wr:IntKind.wrap .i64 ((i:Int)+1)=((i+1:Nat):Int):=QS (by unfold Bp;omega)
 have sI:(Ab 8 (encTs l)&&true&&true&&((List.all (AZ (CS l[i] st).rows) fun(r:Nat×List AV)↦CA 8 (Prod.snd r))&&true))=true:=by
  rw[Ex.cQ,ZN];rfl
 have NW:Xi st:=fun n hn=>by
  have:=hinv.bot;rw[hn] at this;exact this
 generalize hT:l[i]=t at *;obtain⟨k,nm,al,tx,fr,to⟩:=t
 have fin:∀(w:Ps),w=CS ⟨k,nm,al,tx,fr,to⟩ st->∀g',Ad (w.e !=0) (AV.tup [.agg [.int .i64 0,.int .i64 0,.str [],.sl 0 [] none,.sl 0 [] none],.int .i64 w.pl,.int .i64 w.e]=v)
   (AS (Ab 8 (encTs l)&&true&&true&&((List.all (AZ w.rows) fun(r:Nat×List AV)↦CA 8 (Prod.snd r))&&true)) (AE AU 8 (AD Tryz.f8) (AO Tryz.prog Tryz.f8 v) [.code [0,1,0,1,1,1,1,1,1],.block 0,.code [1,1,1,1,1,1,1]] .normal [(0,true,.str s),(2,true,.ptr 2 0),(6,true,.ptr 7 0),(7,true,EN),(30,true,.sl 6 (encTs l) none),(31,true,.int .i64 l.length),(32,true,.int .i64 (IntKind.wrap .i64 ((i:Int)+1)))] (hP g' (AZ w.rows) w.pl w.e))):=by
  rintro w rfl g'
  refine AA (fun a=>(h1 a).symm) fun a=>AF sI ?_
  rw[wr];exact h2 a g'
 have hk:k=1\/k=2\/k=3\/k=4\/k=5\/k=6\/k=7:=hk
 rcases hk with rfl|rfl|rfl|rfl|rfl|rfl|rfl
 ·exact qi (AX (AG yx AM)) ⟨g,st,_,hinv.bot.ne,VO,ht,trivial,rfl,rfl,fun g'=>fin _ rfl g'⟩
 ·exact qh (AX (AG lW AM)) ⟨g,st,_,hinv.bot.ne,VO,ht,trivial,rfl,rfl,fun g'=>fin _ rfl g'⟩
 ·exact qg (AX (AG lW AM)) ⟨g,st,_,hinv.bot.ne,VO,ht,trivial,rfl,rfl,fun g'=>fin _ rfl g'⟩
 ·exact qf (AX (AG qF AM)) ⟨g,st,_,hinv.bot.ne,VO,ht,NW,rfl,rfl,fun g'=>fin _ rfl g'⟩
 ·exact qe (AX (AG qG AM)) ⟨g,st,_,hinv.bot.ne,VO,ht,trivial,rfl,rfl,fun g'=>fin _ rfl g'⟩
 ·exact qc (AX (AG qF AM)) ⟨g,st,_,hinv.bot.ne,VO,ht,NW,rfl,rfl,fun g'=>fin _ rfl g'⟩
 ·exact qb (AX (AG yw AM)) ⟨g,st,_,hinv.bot.ne,VO,ht,trivial,rfl,rfl,fun g'=>fin _ rfl g'⟩
theorem jC {v:AV}{s:List UInt8}{l:List Ex.Tok}(hl:l.length<=131074)(S9:∀t∈l,aZ t/\(t.kind=1\/t.kind=2\/t.kind=3\/t.kind=4\/t.kind=5\/t.kind=6\/t.kind=7)):∀(m i:Nat) (g:Nat) (st:Ps),l.length-i=m->i<=l.length->Inv i st.rows->st.e=0->
  (∃z,v=Lw z.1 z.2 (Iy s.length (Bi (l.drop i) st))/\((Bi (l.drop i) st).e=0->z=(3,5))/\((Bi (l.drop i) st).e≠0->z=(0,0)))->
  AE AU 8 (AD Tryz.f8) (AO Tryz.prog Tryz.f8 v) [.code [0,1,0,1,1,1,1,1,1],.block 0,.code [1,1,1,1,1,1,1]] .normal [(0,true,.str s),(2,true,.ptr 2 0),(6,true,.ptr 7 0),(7,true,EN),(30,true,.sl 6 (encTs l) none),(31,true,.int .i64 l.length),(32,true,.int .i64 i)] (hP g (AZ st.rows) st.pl st.e)
 |0,i,g,st,hm,hi,hinv,he,⟨z,hv,hz,_⟩=>by
  rw[List.drop_of_length_le (by omega)] at hv hz
  have hz:=hz he;subst hz;have hp:Bi [] st=st:=rfl;rw[hp] at hv;unfold Iy at hv;rw[he] at hv
  refine ur (s:=s) KC (AA (fun a=> ?_) fun _=>AA (fun a=> ?_) fun a=> ?_)
  ·simp at a;omega
  ·rw[Bw] at a;have a:=of_decide_eq_true a
   match hr:st.rows,a with
   |[],a=>simp at a
   |[_],a=>simp at a
   |n::m::r,_=>
    rw[hr] at hv;exact hv.symm
  ·rw[Bw] at a;have a:=of_decide_eq_false a;have BU:=hinv.bot.ne
   match hr:st.rows,a with
   |[],_=>exact absurd hr BU
   |[n],_=>
    rw[hr] at hv;refine vz KC (AF (FV g) ?_);rw[hv,BA 0 _ _ (FL n.attrs),BA 0 _ _ (FK n.kids),<-Gw];rfl
   |n::m::r,a=>simp at a;omega
 |m+1,i,g,st,hm,hi,hinv,he,⟨z,hv,hz,kV⟩=>by
  have Au:i<l.length:=by omega
  obtain⟨h1,h2⟩:=S9 _ (List.getElem_mem Au)
  have hlen:(encTs l).length=l.length:=by simp[encTs]
  rw[List.drop_eq_getElem_cons Au] at hv hz kV
  refine ur (s:=s) KC (AA (fun a=>AF (by rw[hlen,As Au];rfl) ⟨_,_,_,_,_,_,eB Au,jz Au hl h1 h2 hinv (fun b=> ?_) fun b g'=> ?_⟩) fun a=> ?_)
  ·have b':((CS l[i] st).e==0)=false:=fF b
   have hp:Bi (l[i]::l.drop (i+1)) st=CS l[i] st:=by
    rw[Bi,b'];rfl
   rw[hp] at hv kV
   have kV:=kV (by simpa using b')
   subst kV;rw[hv];unfold Iy;rw[b'];rfl
  ·have b':((CS l[i] st).e==0)=true:=VC b
   have hp:Bi (l[i]::l.drop (i+1)) st=Bi (l.drop (i+1)) (CS l[i] st):=by
    rw[Bi,b'];rfl
   rw[hp] at hv hz kV
   exact jC hl S9 m (i+1) g' _ (by omega) (by omega) (dD hinv _) (by simpa using b') ⟨z,hv,hz,kV⟩
  ·simp at a;omega
theorem jj :AJ AU (Ae [(17,tokC),(18,Vm)]):=AX (AG zA (AG y9 AM))
theorem c8 :CO AU 8 kC:=by
 refine Ar wD fun vs h K ht=> ?_
 obtain⟨s,rfl,We,Mt⟩:=ht
 have done:∀z1 z2:Nat,(z1=3/\z2=5)\/(z1=0/\z2=0)->K (Lw z1 z2 (Bz s)) h:=fun z1 z2 hz=>by
  cases hp:Bz s with
  |ok n=>exact We n hp
  |error x=>exact Mt x.1 x.2 hp z1 z2 hz
 by_cases hs:65536<s.length
 ·refine⟨_,done 3 5 (.inl ⟨rfl,rfl⟩),t8 jj (AA (fun _=> ?_) fun a=> ?_)⟩
  ·unfold Bz;rw[if_pos hs];rfl
  ·simp at a;omega
 ·cases hl:lexM s with
  |error x=>
   obtain⟨p,e⟩:=x
   have hp:Bz s=.error ((p:Nat),e):=by
    unfold Bz;rw[if_neg hs,hl]
   have he:(e !=0)=true:=by
    have:=Ex.cj hl;simp[bne,this]
   refine⟨_,done 3 5 (.inl ⟨rfl,rfl⟩),t8 jj (AA (fun a=> ?_) fun a=>⟨s,by omega,rfl,fun p' e' h'=> ?_,fun l' h'=> ?_⟩)⟩
   ·simp at a;omega
   ·rw[hl] at h'
    injection h' with h'
    injection h' with e1 e2
    subst e1;subst e2
    refine AA (fun _=> ?_) fun b=> ?_
    ·rw[hp];rfl
    ·rw[he] at b;cases b
   ·rw[hl] at h';cases h'
  |ok l=>
   obtain⟨VS,ZX⟩:=gZ (by omega) hl
   have hp:Bz s=Iy s.length (Bi l Jg):=by
    unfold Bz;rw[if_neg hs,hl];rfl
   have hz:∃z:Nat×Nat,((z.1=3/\z.2=5)\/(z.1=0/\z.2=0))/\((Bi l Jg).e=0->z=(3,5))/\((Bi l Jg).e≠0->z=(0,0)):=by
    by_cases h0:(Bi l Jg).e=0
    ·exact⟨(3,5),.inl ⟨rfl,rfl⟩,fun _=>rfl,fun h=>absurd h0 h⟩
    ·exact⟨(0,0),.inr ⟨rfl,rfl⟩,fun h=>absurd h h0,fun _=>rfl⟩
   obtain⟨z,z0,z1,z2⟩:=hz
   refine⟨_,done z.1 z.2 z0,t8 jj (AA (fun a=> ?_) fun a=>⟨s,by omega,rfl,fun p' e' h'=> ?_,fun l' h'=>⟨rfl,?_⟩⟩)⟩
   ·simp at a;omega
   ·rw[hl] at h';cases h'
   ·rw[hl] at h'
    injection h' with h'
    subst h'
    have hlen:(encTs l).length=l.length:=by simp[encTs]
    rw[hlen]
    exact jC VS ZX l.length 0 0 Jg rfl (Nat.zero_le _) sO rfl ⟨z,by rw[hp];rfl,z1,z2⟩
end Go.Proofs.YtopjpnhgnopbiaaGreatDoor
end
section
namespace Go.Ai
open Go.RowKit
section
variable {C:Bh}{I:World->Prop}{B0:Nat}
theorem Xe (S0:Sound C I B0){k:Nat}{vs:List AV}{u v:AV}(hr:Jp C false k vs [] u [])(hu:Aa u=true)(hv:∀(E:Env) c,Rel E u c->Rel E v c)(E:Env)(args:List Value)(hE:E.h=[])(hB:E.B=E.w.heap.size)(H:Good C.G I B0 E)(ha:BK E vs args):
  Calls C.P k args.toArray E.w (fun e w'=>∃c,e=.returned c/\Below E.w.heap.size E.w w'/\Rel {E with w:=w'} v c):=by
 obtain⟨n0,hn⟩:=hr;obtain⟨_,PL⟩:=(LO S0 false n0).2 k vs [] u [] (hn n0 (Nat.le_refl _))
 refine(PL E args hE H ha).mono fun e w' hp=> ?_
 obtain⟨c,E',rfl,rfl,S,Gr,HC⟩:=hp
 refine⟨c,rfl,by have:=S.below;rwa [hB] at this,hv _ _ ?_⟩
 have hA:∀g,E.A g=none:=fun g=>by
  cases hg:E.A g with
  |none=>rfl
  |some x=>
   obtain⟨o,i,m⟩:=x;have:=H.ar g o i m hg;omega
 have K:Cut 0 [] E' {E with w:=E'.w}:=
  ⟨rfl,fun _ h=>absurd h (Nat.not_lt_zero _),fun b o w _ hs=>⟨⟨fun hu=>hs.1.1 (by rw[S.U];exact hu),fun id i m h=>(by have h:E.A b=_:=h;rw[hA] at h;cases h)⟩,fun id x hx=>(by have hx:E.h[id]?=_:=hx;rw[hE] at hx;simp at hx)⟩,
   fun _ _ _ h=>absurd h (Nat.not_lt_zero _),fun _ h=>absurd h (Nat.not_lt_zero _),Nat.zero_le _,fun _ _ _ _ h=>absurd h (Nat.not_lt_zero _),fun _ _ _ h=>absurd h (Nat.not_lt_zero _),fun _ _ _ _ _ _ _ _ h=>absurd h (Nat.not_lt_zero _),fun _ h=>absurd h (Nat.not_lt_zero _),fun b t cs _ h=>by simp at h⟩
 have:=Rel.cut K u c HC
 rwa [Hj 0 [] u hu] at this
end
theorem Xd {E:Env}{z z':Nat}{c:Value}(h:Rel E (.sl z [] none) c):Rel E (.sl z' [] none) c:=by
 obtain⟨⟨A,cap,h1,h2,h3,_,h5⟩,_⟩:=h
 exact⟨⟨A,cap,h1,h2,h3,fun e he=>(by cases he),fun hn=>absurd rfl hn⟩,trivial⟩
end Go.Ai
namespace Go.Proofs.YtopjpnhgnopbiaaGreatDoor
open Go.Ai Go Go.Ai.Sp
set_option maxRecDepth 100000
theorem Lo (r:Except (Int×Int) Nd):Aa (Lw 3 5 r)=true/\Aa (Lw 0 0 r)=true:=by
 cases r with
 |ok n=>
  have h:=JG n
  constructor<;>simp[Lw,Aa,Aa.Ax,h]
 |error x=>exact⟨rfl,rfl⟩
theorem gD {E:Env}{r:Except (Int×Int) Nd}{c:Value}(h:Rel E (Lw 0 0 r) c):Rel E (Lw 3 5 r) c:=by
 cases r with
 |ok n=>exact h
 |error x=>
  obtain⟨p,e⟩:=x;obtain⟨a,h1,⟨v1,r1,h2,h3,h4⟩⟩:=h;refine⟨a,h1,⟨v1,r1,h2,?_,h4⟩⟩;obtain⟨b,g1,g2⟩:=h3;refine⟨b,g1,?_⟩;obtain⟨x1,q1,e1,o1,l1,x2,q2,e2,o2,l2,x3,q3,e3,o3,l3,x4,q4,e4,o4,l4,x5,q5,e5,o5,l5,l6⟩:=g2;exact⟨x1,q1,e1,o1,l1,x2,q2,e2,o2,l2,x3,q3,e3,o3,l3,x4,q4,e4,o4,Xd l4,x5,q5,e5,o5,Xd l5,l6⟩
def OX :List AV->Option (Bool×AV)
 |[.str s]=>some (true,Lw 3 5 (Bz s))
 |_=>none
theorem Y7 {I:World->Prop}{B0:Nat}(S0:Sound AU I B0):EL Tryz.prog AU.G I B0 8 OX:=by
 intro vs v hv E args hE hB H hr;unfold OX at hv;split at hv
 ·rename_i s;simp only[Option.some.injEq,Prod.mk.injEq,true_and] at hv;subst hv
  obtain⟨u,h',hc,hh,hu⟩:=c8 [.str s] [] (fun u h=>h=[]/\(u=Lw 3 5 (Bz s)\/u=Lw 0 0 (Bz s))) ⟨s,rfl,fun n hn=>⟨rfl,.inl (by rw[hn];rfl)⟩,fun p e he z1 z2 hz=>⟨rfl,by
   rw[he]
   rcases hz with ⟨rfl,rfl⟩|⟨rfl,rfl⟩
   ·exact .inl rfl
   ·exact .inr rfl⟩⟩
  subst hh
  rcases hu with rfl|rfl
  ·exact Xe S0 hc (Lo _).1 (fun _ _ h=>h) E args hE hB H hr
  ·exact Xe S0 hc (Lo _).2 (fun _ _ h=>gD h) E args hE hB H hr
 ·cases hv
noncomputable def AI:Bh:={cfg with E9:=fun f=>Ga f (Mm++[(17,Lx.WR),(8,OX)])}
end Go.Proofs.YtopjpnhgnopbiaaGreatDoor
end
