/-
  The parser's small functions: contracts.
  A child more: contracts.
  A tag's attributes: contracts.
  A tag's attributes as a whole: its contract.
  What is done with a text, with a raw text: contracts.
  What is done with what closes: its contract.
  What is done with what opens a hidden part, with a tag: contracts.
  What is done with a tag that opens, or is empty: its contract.
  What is done with the kinds of tokens, a map that stands: as a primitive.
  The parser as a whole: its contract.
  The parser as a primitive: out of its contract.
-/
import Derived.Test.YtopjpnhgnopbiaaGreatDoorJE
import Derived.Test.YtopjpnhgnopbiaaGreatDoorJA
import Derived.Test.YtopjpnhgnopbiaaGreatDoorJT
import Derived.Test.YtopjpnhgnopbiaaGreatDoorAiPrims
import Derived.Test.YtopjpnhgnopbiaaGreatDoorJF
import Derived.WalkKit
import Derived.ProofKit
import Derived.MapKept
import Derived.WideMake
set_option linter.unusedVariables false
set_option linter.unusedSimpArgs false
set_option linter.unnecessarySimpa false
section
namespace Go.Proofs.YtopjpnhgnopbiaaGreatDoor
open Go.Ai Go Go.Ai.Sp
open Go.Ai.Ex (encAs encT blB limE)
set_option maxRecDepth 100000
theorem LU :AL AU (Ac []):=AY AM
theorem vl :BN AU 66 Tryz.f66:=(by refine⟨?_,?_,?_,?_,?_,?_⟩<;>kernel_rfl)
theorem ve :BN AU 102 Tryz.f102:=(by refine⟨?_,?_,?_,?_,?_,?_⟩<;>kernel_rfl)
theorem nx :BN AU 98 Tryz.f98:=(by refine⟨?_,?_,?_,?_,?_,?_⟩<;>kernel_rfl)
theorem nv :BN AU 124 Tryz.f124:=(by refine⟨?_,?_,?_,?_,?_,?_⟩<;>kernel_rfl)
theorem nw :BN AU 101 Tryz.f101:=(by refine⟨?_,?_,?_,?_,?_,?_⟩<;>kernel_rfl)
theorem nu :BN AU 126 Tryz.f126:=(by refine⟨?_,?_,?_,?_,?_,?_⟩<;>kernel_rfl)
theorem xd :BW AU 62 Tryz.f62:=(by refine⟨?_,?_,?_,?_,?_,?_⟩<;>kernel_rfl)
theorem xc :BW AU 65 Tryz.f65:=(by refine⟨?_,?_,?_,?_,?_,?_⟩<;>kernel_rfl)
theorem xb :BW AU 67 Tryz.f67:=(by refine⟨?_,?_,?_,?_,?_,?_⟩<;>kernel_rfl)
theorem xY :BW AU 69 Tryz.f69:=(by refine⟨?_,?_,?_,?_,?_,?_⟩<;>kernel_rfl)
theorem zq :CQ AU 66 wE:=by
 refine Ax vl fun vs h K ht=> ?_
 obtain⟨s,rfl,hk⟩:=ht;refine⟨_,hk,t47 LU ?_⟩;unfold Br
 repeat' (refine AA (fun a=> ?_) fun a=> ?_)
 all_goals simp only[*,cond_true,cond_false]
 all_goals rfl
theorem c73 :CQ AU 102 nE:=by
 refine Ax ve fun vs h K ht=> ?_
 obtain⟨x,y,rfl,hk⟩:=ht;refine⟨_,hk,t73 LU ?_⟩;unfold M8
 repeat' (refine AA (fun a=> ?_) fun a=> ?_)
 all_goals simp[*]
theorem SW {n:Nat}(h:n<=2*Bt):IntKind.wrap .i64 ((n:Int)+1)=((n+1:Nat):Int):=by
 unfold Bt at h;rw[BH]<;>omega
theorem qh {n:Nat}(h:n+1<=2*Bt):IntKind.wrap .i64 (((n+1:Nat):Int)-1)=(n:Int):=by
 unfold Bt at h;rw[BH]<;>omega
theorem Ds {α:Type}(f:α->List AV)(l:List α){i:Nat}(h:i<l.length):CH (l.map f) (i:Int)=f l[i]:=by
 unfold CH;simp[h]
theorem CF {i n:Nat}(h:i<n):Dm (i:Int) n=true:=by
 unfold Dm
 rw[decide_eq_true (by omega),decide_eq_true (by omega)];rfl
theorem Hj {α:Type}(p:α->Bool)(l:List α){i:Nat}(h:i<l.length):(l.drop i).any p=(p l[i]||(l.drop (i+1)).any p):=by
 rw[List.drop_eq_getElem_cons h,List.any_cons]
theorem Qv (l:List (List UInt8))(x:List UInt8)(hl:l.length<=Bt):∀(n i:Nat),l.length-i=n->i<=l.length->∃z:Int,decide (z>=0)=(l.drop i).any (·==x)/\
  AF AU 126 (AB Tryz.f126) (AK Tryz.prog Tryz.f126 (.int .i64 z)) [.code [0,1,0,1],.block 0,.code [1,1]] .normal [(0,true,.sl 1 (l.map fun n=>[.str n]) none),(1,true,.str x),(7,true,.int .i64 l.length),(8,true,.int .i64 i)] []
 |0,i,hn,hi=>by
  refine⟨-1,?_,YG LU (AA (fun a=> ?_) fun _=>rfl)⟩
  ·rw[List.drop_of_length_le (by omega)];rfl
  ·simp at a;omega
 |n+1,i,hn,hi=>by
  have BC:i<l.length:=by omega
  by_cases hx:l[i]=x
  ·refine⟨i,?_,YG LU (AA (fun a=>AD ?_ ⟨l[i],Ds _ l BC,AA (fun _=>rfl) fun b=> ?_⟩) fun a=> ?_)⟩
   ·rw[Hj _ _ BC,decide_eq_true (by omega)];simp[hx]
   ·rw[List.length_map,CF BC];rfl
   ·simp[hx] at b
   ·simp at a;omega
  ·obtain⟨z,hz,hr⟩:=Qv l x hl n (i+1) (by omega) (by omega)
   refine⟨z,?_,YG LU (AA (fun a=>AD ?_ ⟨l[i],Ds _ l BC,AA (fun b=> ?_) fun b=> ?_⟩) fun a=> ?_)⟩
   ·rw[hz,Hj _ _ BC];simp[hx]
   ·rw[List.length_map,CF BC];rfl
   ·simp at b;exact absurd b.symm hx
   ·rw[SW (by omega)];exact hr
   ·simp at a;omega
theorem Uk (l:List Int)(x:Int)(hl:l.length<=Bt):∀(n i:Nat),l.length-i=n->i<=l.length->∃z:Int,decide (z>=0)=(l.drop i).any (·==x)/\
  AF AU 124 (AB Tryz.f124) (AK Tryz.prog Tryz.f124 (.int .i64 z)) [.code [0,1,0,1],.block 0,.code [1,1]] .normal [(0,true,.sl 1 (l.map fun n=>[.int .i64 n]) none),(1,true,.int .i64 x),(7,true,.int .i64 l.length),(8,true,.int .i64 i)] []
 |0,i,hn,hi=>by
  refine⟨-1,?_,fI LU (AA (fun a=> ?_) fun _=>rfl)⟩
  ·rw[List.drop_of_length_le (by omega)];rfl
  ·simp at a;omega
 |n+1,i,hn,hi=>by
  have BC:i<l.length:=by omega
  by_cases hx:l[i]=x
  ·refine⟨i,?_,fI LU (AA (fun a=>AD ?_ ⟨l[i],Ds _ l BC,AA (fun _=>rfl) fun b=> ?_⟩) fun a=> ?_)⟩
   ·rw[Hj _ _ BC,decide_eq_true (by omega)];simp[hx]
   ·rw[List.length_map,CF BC];rfl
   ·simp[hx] at b
   ·simp at a;omega
  ·obtain⟨z,hz,hr⟩:=Uk l x hl n (i+1) (by omega) (by omega)
   refine⟨z,?_,fI LU (AA (fun a=>AD ?_ ⟨l[i],Ds _ l BC,AA (fun b=> ?_) fun b=> ?_⟩) fun a=> ?_)⟩
   ·rw[hz,Hj _ _ BC];simp[hx]
   ·rw[List.length_map,CF BC];rfl
   ·simp at b;exact absurd b.symm hx
   ·rw[SW (by omega)];exact hr
   ·simp at a;omega
theorem yV :CQ AU 126 Sp.iD:=by
 refine Ax nu fun vs h K ht=> ?_
 obtain⟨l,x,rfl,hl,hk⟩:=ht
 obtain⟨z,hz,hr⟩:=Qv l x hl l.length 0 (by omega) (by omega)
 refine⟨_,hk z hz,t88 LU ?_⟩;rw[List.length_map];exact hr
theorem yX :CQ AU 124 mM:=by
 refine Ax nv fun vs h K ht=> ?_
 obtain⟨l,x,rfl,hl,hk⟩:=ht
 obtain⟨z,hz,hr⟩:=Uk l x hl l.length 0 (by omega) (by omega)
 refine⟨_,hk z hz,t86 LU ?_⟩;rw[List.length_map];exact hr
theorem rl (l:List (List UInt8)):AP.BJ (l.map fun n=>[AV.str n])=true:=by
 induction l with
 |nil=>rfl
 |cons a r ih=>simp only[List.map_cons,AP.BJ,AP.Ad,AP,ih,Bool.true_and]
theorem vZ (l:List Int):AP.BJ (l.map fun n=>[AV.int .i64 n])=true:=by
 induction l with
 |nil=>rfl
 |cons a r ih=>simp only[List.map_cons,AP.BJ,AP.Ad,AP,ih,Bool.true_and]
theorem yY :CQ AU 101 Sp.oR:=by
 refine Ax nw fun vs h K ht=> ?_
 obtain⟨l,x,rfl,hl,hk⟩:=ht
 exact⟨_,hk,t72 (AY (AH yV AM)) ⟨l,x,by rw[As 0 [] _ (rl l)],hl,fun z hz=>by rw[hz]⟩⟩
theorem yb :CQ AU 98 oQ:=by
 refine Ax nx fun vs h K ht=> ?_
 obtain⟨l,x,rfl,hl,hk⟩:=ht
 exact⟨_,hk,t69 (AY (AH yX AM)) ⟨l,x,by rw[As 0 [] _ (vZ l)],hl,fun z hz=>by rw[hz]⟩⟩
theorem Em {rows:List Row}{r:Hp}(hw:Am.okW rows r){g:Nat}{pl e:Int}{n:Nat}(G:Hp)(hn:n=8+r.length):
  List.map (AO n G) (List.take n (hP g rows pl e++r))=hP g rows pl e++r:=by
 have hl:(hP g rows pl e++r).length=n:=by rw[hn];simp[hP];omega
 obtain⟨h1,h2⟩:=hw n G (by omega)
 rw[<-hl,List.take_length,hl,List.map_append,h2]
 congr 1
 obtain⟨m,rfl⟩:∃m,n=m+8:=⟨r.length,by omega⟩
 have b:∀i,i<8->Nat.blt i (m+8)=true:=fun i h=>Nat.ble_eq_true_of_le (by omega)
 simp only[hP,List.map_cons,List.map_nil,AO,AQ,strip,AE,Ct,h1,b 0 (by omega),b 1 (by omega),b 5 (by omega),cond_true]
theorem Cm {g:Nat}{rows:List Row}{pl e:Int}{r:Hp}:(hP g rows pl e++r).length=8+r.length:=by simp[hP];omega
theorem Eb {K:AV->Hp->Prop}{v:AV}{h h':Hp}(e:h'=h)(hk:K v h):K v h':=e▸hk
theorem KQ {rows:List Row}{r own:Hp}(hw:Am.okW rows r){g:Nat}{pl e:Int}{n:Nat}{G:Hp}(hn:n=8+r.length):
  List.map (AO n G) (List.take n ((hP g rows pl e++r)++own))=hP g rows pl e++r:=by
 rw[List.take_append_of_le_length (by rw[hn,Cm];exact Nat.le_refl _)]
 exact Em hw G hn
theorem tb :CQ AU 62 LC:=by
 refine BD xd fun vs h K ht=> ?_
 obtain⟨g,row,rows,pl,e,r,hw,hl,rfl,rfl,hk⟩:=ht
 have sM:IntKind.wrap IntKind.i64 (((row::rows).length:Int)-1)=((row::rows).length:Int)-1:=by
  unfold Bt at hl
  rw[BH]<;>simp at hl⊢<;>omega
 refine t43 LU (AD ?_ ⟨AD ?_ ⟨?_,rfl⟩,?_⟩)
 ·rw[decide_eq_true sM];rfl
 ·rw[decide_eq_true sM];rfl
 ·repeat' (first|exact rfl|exact trivial|constructor)
 ·exact Eb (Em hw _ Cm) hk
theorem j7 :CQ AU 65 Cp:=by
 refine BD xc fun vs h K ht=> ?_
 obtain⟨p,x,g,rows,pl,e,r,hw,rfl,rfl,hk⟩:=ht
 refine t46 LU (AA (fun a=> ?_) fun a=> ?_)
 ·simp only[fE,a,cond_true] at hk;exact Eb (Em hw _ Cm) hk
 ·simp only[fE,a,cond_false] at hk;exact Eb (Em hw _ Cm) hk
theorem Vf :AL AU (Ac [(62,LC)]):=AY (AH tb AM)
theorem gr {es:List (List AV)}{x:List AV}{n:Nat}(hn:es.length=n+1)(hx:CH es (n:Int)=x):es.getLast? =some x:=by
 have h:n<es.length:=by omega
 have:CH es (n:Int)=es[n]:=by unfold CH;simp[h]
 rw[this] at hx;rw[List.getLast?_eq_getElem?,hn,Nat.add_sub_cancel,List.getElem?_eq_getElem h,hx]
theorem zo :CQ AU 69 Wq:=by
 refine BD xY fun vs h K ht=> ?_
 obtain⟨g,v0,v1,v2,v3,es,rows,pl,e,r,hw,hl,⟨ZG,Lo⟩,rfl,rfl,hk⟩:=ht
 refine t50 Vf ⟨g,_,_,pl,e,r,hw,hl,rfl,rfl,AD (by simp) (AA (fun a=> ?_) fun a=> ?_)⟩
 ·have:es=[]:=by cases es with
   |nil=>rfl
   |cons=>simp at a;omega
  subst this;exact Eb (Em hw _ Cm) hk
 ·obtain⟨n,hn⟩:∃n,es.length=n+1:=⟨es.length-1,by cases es with
   |nil=>simp at a
   |cons x l=>simp⟩
  have sM:IntKind.wrap .i64 ((es.length:Int)-1)=(n:Int):=by rw[hn];exact qh (by omega)
  rw[sM]
  have iT:CH es (n:Int)∈es:=by
   have h:n<es.length:=by omega
   have:CH es (n:Int)=es[n]:=by unfold CH;simp[h]
   rw[this];exact List.getElem_mem h
  obtain⟨k,w1,w2,w3,w4,hx⟩:=Lo _ iT
  refine AD (by rw[CF (by omega)];rfl) ⟨k,w1,w2,w3,w4,hx,?_⟩
  have so:FH es=k:=by unfold FH;rw[gr hn hx]
  rw[so] at hk;exact Eb (Em hw _ Cm) hk
theorem qt :AL AU (Ac [(62,LC),(69,Wq),(98,oQ)]):=AY (AH tb (AH zo (AH yb AM)))
theorem zp :CQ AU 67 gS:=by
 refine BD xb fun vs h K ht=> ?_
 obtain⟨g,k,x,v1,v2,v3,es,rows,pl,e,r,hw,hl,eK,rfl,rfl,hk⟩:=ht
 have fin:∀{b:Bool} {G:Hp},b=CV k (FH es) x->K (.bool b) (List.map (AO (hP g (BP (.int .i64 k) v1 v2 v3 es::rows) pl e++r).length G) (List.take (hP g (BP (.int .i64 k) v1 v2 v3 es::rows) pl e++r).length (hP g (BP (.int .i64 k) v1 v2 v3 es::rows) pl e++r))):=fun e1=>e1▸Eb (Em hw _ Cm) hk
 refine t48 qt ⟨g,_,_,pl,e,r,hw,hl,rfl,rfl,AD (by simp) (AA (fun a=>AA (fun b=> ?_) fun b=> ?_) fun a=>AA (fun a2=>AA (fun b=> ?_) fun b=> ?_) fun a2=> ?_)⟩
 ·refine⟨g,_,_,_,_,es,rows,pl,e,r,hw,hl,eK,rfl,rfl,AA (fun c=>fin ?_) fun c=>AA (fun d=> ?_) fun d=>fin ?_⟩
  ·simp[CV,a,b,c]
  ·refine⟨g,_,_,_,_,es,rows,pl,e,r,hw,hl,eK,rfl,rfl,fin ?_⟩;simp[CV,a,b,c,d]
  ·simp[CV,a,b,c,d]
 ·refine AA (fun d=> ?_) fun d=>fin ?_
  ·refine⟨g,_,_,_,_,es,rows,pl,e,r,hw,hl,eK,rfl,rfl,fin ?_⟩;simp[CV,a,b,d]
  ·simp[CV,a,b,d]
 ·refine⟨g,_,_,_,_,es,rows,pl,e,r,hw,hl,eK,rfl,rfl,AA (fun c=>fin ?_) fun c=>AA (fun d=> ?_) fun d=>fin ?_⟩
  ·simp[CV,a,a2,b,c]
  ·refine⟨g,_,_,_,_,es,rows,pl,e,r,hw,hl,eK,rfl,rfl,fin ?_⟩;simp[CV,a,a2,b,c,d]
  ·simp[CV,a,a2,b,c,d]
 ·refine AA (fun d=> ?_) fun d=>fin ?_
  ·refine⟨g,_,_,_,_,es,rows,pl,e,r,hw,hl,eK,rfl,rfl,fin ?_⟩;simp[CV,a,a2,b,d]
  ·simp[CV,a,a2,b,d]
 ·refine⟨[8,9,11,12],x,rfl,by simp,?_⟩
  refine Eb ?_ ((show(!([8,9,11,12]:List Int).any (·==x))=CV k (FH es) x from ?_)▸hk)
  ·exact KQ hw Cm
  ·have h (z:Int):(z==x)=(x==z):=BEq.comm;simp[CV,a,a2,h,Bool.and_assoc]
theorem pF :BW AU 63 Tryz.f63:=(by refine⟨?_,?_,?_,?_,?_,?_⟩<;>kernel_rfl)
theorem Ia {rows:List Row}{r:Hp}{x:List AV}(ty:TypeId)(h:Am.okW rows r)(hs:∀n g,8+r.length<=n->AQ n g x=x):Am.okW rows (r++[.mem ty x]):=by
 intro n g hn;rw[List.length_append] at hn
 obtain⟨h1,h2⟩:=h n g (by omega)
 exact⟨h1,by rw[List.map_append,h2,List.map_cons,List.map_nil,AO,hs n g (by omega)]⟩
theorem Ud {v0 v1 v2 v3:AV}{es:List (List AV)}{x:List AV}{rows:List Row}{r:Hp}(h:Am.okW (BP v0 v1 v2 v3 es::rows) r)(he:∀n g,8+r.length<=n->AQ n g x=x):Am.okW (BP v0 v1 v2 v3 (es++[x])::rows) r:=by
 intro n g hn;obtain⟨h1,h2⟩:=h n g hn;refine⟨?_,h2⟩;simp only[BP,List.map_cons,List.cons.injEq,Prod.mk.injEq,AQ,strip,true_and,AV.sl.injEq,and_true] at h1⊢;obtain⟨⟨e0,e1,e2,e3,e4⟩,e5⟩:=h1;refine⟨⟨e0,e1,e2,e3,?_⟩,e5⟩;rw[Dd,List.map_append,<-Dd,e4,List.map_cons,List.map_nil,he n g hn]
theorem jI {K:AV->Hp->Prop}{g:Nat}{v0 v1 v2 v3:AV}{es:List (List AV)}{rows:List Row}{pl e:Int}{r:Hp}{x:List AV}(hw:Am.okW (BP v0 v1 v2 v3 (es++[x])::rows) r)
  (hk:K (.tup []) (hP g (BP v0 v1 v2 v3 (es++[x])::rows) pl e++r)) {n:Nat} {G own:Hp} (hn:n=8+r.length):
  K (.tup []) (List.map (AO n G) (List.take n ((hP g ((es.length+1,[v0,v1,v2,v3,.sl 5 (es++[x]) none])::rows) pl e++r)++own))):=by
 rw[show es.length+1=(es++[x]).length by simp]
 exact Eb (KQ hw hn) hk
theorem ta :CQ AU 63 (VU 5):=by
 refine BD pF fun vs h K ht=> ?_
 obtain⟨g,v0,v1,v2,v3,es,rows,pl,e,r,nk,na,nt,aa,oa,ks,ow,hw,hl,he,ha,hr,rfl,rfl,hk⟩:=ht
 obtain⟨b0,b1,b2,b3,b4,rfl⟩:∃b0 b1 b2 b3 b4,r=[b0,b1,b2,b3,b4]:=by
  match r,hr with
  |[b0,b1,b2,b3,b4],_=>exact⟨b0,b1,b2,b3,b4,rfl⟩
 have sO:=Ia 26 hw ha;have oV:=Ud hw ha
 have g1:Nat.beq g g=true:=by simp
 have g2:(Nat.beq g g&&true&&true&&true&&Nat.beq es.length es.length&&true&&true&&decide ((es.length+1)*80<=140737488355328)&&true&&true)=true:=by
  unfold Bt at he;simp;omega
 have g3:(Nat.beq g g&&true&&Nat.beq g g&&true&&Nat.beq (es++[CZ nk na nt aa oa ks ow]).length (es.length+1)&&true&&true)=true:=by simp
 refine rG Vf ?_
 repeat' (first
  |exact rfl
  |exact trivial
  |exact g1
  |exact g2
  |exact g3
  |refine⟨g,_,_,pl,e,_,sO,hl,rfl,rfl,?_⟩
  |refine AD ?_ ?_
  |exact jI oV hk (own:=[_]) Cm
  |refine⟨?_,?_⟩)
theorem tZ :CQ AU 63 (VU 6):=by
 refine BD pF fun vs h K ht=> ?_
 obtain⟨g,v0,v1,v2,v3,es,rows,pl,e,r,nk,na,nt,aa,oa,ks,ow,hw,hl,he,ha,hr,rfl,rfl,hk⟩:=ht
 obtain⟨b0,b1,b2,b3,b4,b5,rfl⟩:∃b0 b1 b2 b3 b4 b5,r=[b0,b1,b2,b3,b4,b5]:=by
  match r,hr with
  |[b0,b1,b2,b3,b4,b5],_=>exact⟨b0,b1,b2,b3,b4,b5,rfl⟩
 have sO:=Ia 26 hw ha;have oV:=Ud hw ha
 have g1:Nat.beq g g=true:=by simp
 have g2:(Nat.beq g g&&true&&true&&true&&Nat.beq es.length es.length&&true&&true&&decide ((es.length+1)*80<=140737488355328)&&true&&true)=true:=by
  unfold Bt at he;simp;omega
 have g3:(Nat.beq g g&&true&&Nat.beq g g&&true&&Nat.beq (es++[CZ nk na nt aa oa ks ow]).length (es.length+1)&&true&&true)=true:=by simp
 refine rF Vf ?_
 repeat' (first
  |exact rfl
  |exact trivial
  |exact g1
  |exact g2
  |exact g3
  |refine⟨g,_,_,pl,e,_,sO,hl,rfl,rfl,?_⟩
  |refine AD ?_ ?_
  |exact jI oV hk (own:=[_]) Cm
  |refine⟨?_,?_⟩)
theorem pn :CQ AU 63 (VU 10):=by
 refine BD pF fun vs h K ht=> ?_
 obtain⟨g,v0,v1,v2,v3,es,rows,pl,e,r,nk,na,nt,aa,oa,ks,ow,hw,hl,he,ha,hr,rfl,rfl,hk⟩:=ht
 obtain⟨b0,b1,b2,b3,b4,b5,b6,b7,b8,b9,rfl⟩:∃b0 b1 b2 b3 b4 b5 b6 b7 b8 b9,r=[b0,b1,b2,b3,b4,b5,b6,b7,b8,b9]:=by
  match r,hr with
  |[b0,b1,b2,b3,b4,b5,b6,b7,b8,b9],_=>exact⟨b0,b1,b2,b3,b4,b5,b6,b7,b8,b9,rfl⟩
 have sO:=Ia 26 hw ha;have oV:=Ud hw ha
 have g1:Nat.beq g g=true:=by simp
 have g2:(Nat.beq g g&&true&&true&&true&&Nat.beq es.length es.length&&true&&true&&decide ((es.length+1)*80<=140737488355328)&&true&&true)=true:=by
  unfold Bt at he;simp;omega
 have g3:(Nat.beq g g&&true&&Nat.beq g g&&true&&Nat.beq (es++[CZ nk na nt aa oa ks ow]).length (es.length+1)&&true&&true)=true:=by simp
 refine nM Vf ?_
 repeat' (first
  |exact rfl
  |exact trivial
  |exact g1
  |exact g2
  |exact g3
  |refine⟨g,_,_,pl,e,_,sO,hl,rfl,rfl,?_⟩
  |refine AD ?_ ?_
  |exact jI oV hk (own:=[_]) Cm
  |refine⟨?_,?_⟩)
end Go.Proofs.YtopjpnhgnopbiaaGreatDoor
end
section
namespace Go.Proofs.YtopjpnhgnopbiaaGreatDoor
open Go.Ai Go Go.Ai.Sp
open Go.Ai.Ex (encAs encT blB limE)
set_option maxRecDepth 100000
theorem xQ :BW AU 100 Tryz.f100:=(by refine⟨?_,?_,?_,?_,?_,?_⟩<;>kernel_rfl)
theorem pC :BW AU 125 Tryz.f125:=(by refine⟨?_,?_,?_,?_,?_,?_⟩<;>kernel_rfl)
theorem pD :BW AU 99 Tryz.f99:=(by refine⟨?_,?_,?_,?_,?_,?_⟩<;>kernel_rfl)
theorem xZ :BW AU 68 Tryz.f68:=(by refine⟨?_,?_,?_,?_,?_,?_⟩<;>kernel_rfl)
theorem c71 :CQ AU 100 bS:=by
 refine BD xQ fun vs h K ht=> ?_
 obtain⟨g,rows,pl,e,b0,b1,b2,b3,b4,b5,b6,wd,an,av,ap,hw,rfl,rfl,hk⟩:=ht;refine t71 LU ?_;exact Eb (KQ hw (own:=[_]) Cm) hk
theorem ez :AL AU (Ac [(100,bS)]):=AY (AH c71 AM)
section
variable {g:Nat}{rows:List Row}{pl e:Int}{b0 b1 b2 b3 b4 b5 b6:Blk}{wd:List UInt8}{l:List Ex.Aj}
theorem Qw {K:AV->Hp->Prop}(hw:Am.okW rows [b0,b1,b2,b3,b4,b5,b6,.mem 9 [.str wd]])(hl:l.length<=Bt)(hk:∀z:Int,decide (z>=0)=(l.any fun a=>a.name==wd)->K (.int .i64 z) (hP g rows pl e++[b0,b1,b2,b3,b4,b5,b6,.mem 9 [.str wd]])):
  ∀(n i:Nat),l.length-i=n->i<=l.length->(l.take i).any (fun a=>a.name==wd)=false->
  AF AU 125 (AB Tryz.f125) (AX Tryz.prog Tryz.f125 ((hP g rows pl e++[b0,b1,b2,b3,b4,b5,b6,.mem 9 [.str wd]]).length) K) [.code [0,1,0,1],.block 0,.code [1,1]] .normal [(0,true,.sl 3 (encAs l) none),(1,true,.fn (.func 100) [] [.ptr 15 0]),(7,true,.int .i64 l.length),(8,true,.int .i64 i)] (hP g rows pl e++[b0,b1,b2,b3,b4,b5,b6,.mem 9 [.str wd]])
 |0,i,hn,hi,hp=>by
  refine fH ez (AA (fun a=> ?_) fun _=> ?_)
  ·simp at a;omega
  ·refine Eb (Em hw _ Cm) (hk _ ?_)
   rw[List.take_of_length_le (by omega)] at hp
   rw[hp];rfl
 |n+1,i,hn,hi,hp=>by
  have BC:i<l.length:=by omega
  have hlen:(encAs l).length=l.length:=by simp[encAs]
  refine fH ez (AA (fun a=>AD ?_ ⟨_,_,_,Ds _ l BC,g,rows,pl,e,b0,b1,b2,b3,b4,b5,b6,wd,_,_,_,hw,rfl,rfl,AA (fun b=> ?_) fun b=> ?_⟩) fun a=> ?_)
  ·rw[hlen,CF BC];rfl
  ·refine Eb (Em hw _ Cm) (hk _ ?_)
   rw[decide_eq_true (by omega)]
   symm;rw[List.any_eq_true];exact⟨_,List.getElem_mem BC,b⟩
  ·rw[SW (by omega)]
   refine Qw hw hl hk n (i+1) (by omega) (by omega) ?_
   rw[List.take_succ_eq_append_getElem BC,List.any_append,hp];simpa using b
  ·simp at a;omega
end
theorem yW :CQ AU 125 mg:=by
 refine BD pC fun vs h K ht=> ?_
 obtain⟨g,rows,pl,e,b0,b1,b2,b3,b4,b5,b6,wd,l,hw,hl,rfl,rfl,hk⟩:=ht;refine t87 ez ?_
 have hlen:(encAs l).length=l.length:=by simp[encAs]
 rw[hlen]
 exact Qw hw hl hk l.length 0 (by omega) (by omega) rfl
theorem yZ :CQ AU 99 iz:=by
 refine BD pD fun vs h K ht=> ?_
 obtain⟨g,rows,pl,e,b0,b1,b2,b3,b4,b5,b6,wd,l,hw,hl,rfl,rfl,hk⟩:=ht
 refine t70 (AY (AH yW AM)) ⟨g,rows,pl,e,b0,b1,b2,b3,b4,b5,b6,wd,l,hw,hl,rfl,rfl,fun z hz=> ?_⟩
 rw[hz];exact Eb (Em hw _ Cm) hk
end Go.Proofs.YtopjpnhgnopbiaaGreatDoor
end
section
namespace Go.Proofs.YtopjpnhgnopbiaaGreatDoor
open Go.Ai Go Go.Ai.Sp
open Go.Ai.Ex (encAs encT blB limE)
set_option maxRecDepth 100000
theorem Hg {C:Bm}{k:Nat}{t t':Ce}(h:CQ C k t)(w:∀vs h K,t' vs h K->t vs h K):CQ C k t':=fun l g K ht=>h l g K (w _ _ _ ht)
theorem Qm {rows:List Row}(h:Am.km rows)(n:Nat)(g:Hp)(hn:4<=n):rows.map (fun x=>(x.1,AQ n g x.2))=rows:=by
 conv=>rhs;rw[<-List.map_id rows]
 exact List.map_congr_left fun r hr=>by rw[DC n g _ (h r hr n hn)];rfl
theorem Ue {rows:List Row}(h:Am.km rows)(n:Nat)(hn:4<=n):(rows.all fun r=>CB n r.2)=true:=List.all_eq_true.2 fun r hr=>h r hr n hn
def Jm :Blk->Bool
 |.mem _ cs=>AP.Ad cs
 |.Bh .. =>false
 |_=>true
theorem OR {b:Blk}(h:Jm b=true)(n:Nat)(g:Hp):AO n g b=b:=by
 cases b with
 |mem t cs=>rw[AO,Aw n g cs h]
 |Bh=>cases h
 |_=>rfl
theorem HS {rows:List Row}{r:Hp}(h:Am.km rows)(hr:r.all Jm=true):Am.okW rows r:=fun n g hn=>⟨Qm h n g (by omega),by
 conv=>rhs;rw[<-List.map_id r]
 exact List.map_congr_left fun b hb=>OR (List.all_eq_true.1 hr b hb) n g⟩
theorem IX (l:List (List UInt8)):AP.BJ (l.map fun n=>[AV.str n])=true:=rl l
theorem Jn (l:List Ex.Aj):AP.BJ (encAs l)=true:=by
 unfold encAs
 induction l with
 |nil=>rfl
 |cons a r ih=>simp only[List.map_cons,Ex.Ao,AP.BJ,AP.Ad,AP,ih,Bool.true_and]
theorem UK {tk fr to:Int}{nm tx:List UInt8}(l:List Ex.Aj):AP.Ad (LG tk fr to nm tx (encAs l))=true:=by
 have:=Jn l;simp[LG,AP.Ad,AP,this]
theorem YZ (x:El):AP.Ad (Jg x)=true:=by
 have:=IX x.names;simp[Jg,AP.Ad,AP,this]
theorem IW {tk fr to:Int}{nm tx:List UInt8}(l:List Ex.Aj)(x:El):(Gl (LG tk fr to nm tx (encAs l)) x).all Jm=true:=by
 simp[Gl,Jm,UK,YZ]
def Xf (x:El)(l:List Ex.Aj)(s:Int×Int):Int×Int:=l.foldl (fun s a=>bif !(x.names.any (·==a.name))|| !M8 a.name a.value then fE a.at' 12 s.1 s.2 else s) s
def lp (fr:Int)(l:List Ex.Aj)(ns:List (List UInt8))(s:Int×Int):Int×Int:=ns.foldl (fun s nm=>bif !(l.any fun a=>a.name==nm) then fE fr 12 s.1 s.2 else s) s
section
variable {g:Nat}{rows:List Row}{x:El}{tk fr to:Int}{nm tx:List UInt8}{l:List Ex.Aj}{K:AV->Hp->Prop}
theorem fA (hr:Am.km rows):AL AU (Ac [(101,Sp.oR),(102,nE),(65,mi g rows (Blk.grow 0 3 80) (Blk.mem 50 (LG tk fr to nm tx (encAs l))) (Blk.mem 50 (LG tk fr to nm tx (encAs l))) (Blk.grow 0 1 9) (Blk.mem 114 (Jg x)) (Blk.mem 114 (Jg x)) (Blk.mem 50 (LG tk fr to nm tx (encAs l))))]):=
 AY (AH yY (AH c73 (AH (Hg j7 fun vs h K ht=>by
  obtain⟨p,y,pl,e,w,v,q,rfl,rfl,hk⟩:=ht
  exact⟨p,y,g,rows,pl,e,_,HS hr (by simp[Jm,UK,YZ,AP.Ad,AP]),rfl,rfl,hk⟩) AM)))
theorem mK :AJ 15 (encAs l)=true:=DE 15 _ (Jn l)
theorem gZ :AJ 15 (x.names.map fun n=>[AV.str n])=true:=DE 15 _ (IX _)
theorem Pe (hr:Am.km rows)(hx:x.names.length<=Bt)(hl:l.length<=Bt):∀(n i:Nat) (pl e:Int),l.length-i=n->i<=l.length->K (.tup []) (hP g rows (Xf x (l.drop i) (pl,e)).1 (Xf x (l.drop i) (pl,e)).2++Gl (LG tk fr to nm tx (encAs l)) x)->
  AF AU 68 (AB Tryz.f68) (AX Tryz.prog Tryz.f68 ((hP g rows pl e++Gl (LG tk fr to nm tx (encAs l)) x).length) K) ([.code [0,1,1,1],.block 2]) .normal [(0,true,.ptr 7 0),(4,true,.ptr 13 0),(31,true,.sl 3 (encAs l) none),(32,true,.int .i64 l.length),(33,true,.int .i64 i)]
   (hP g rows pl e++Gl (LG tk fr to nm tx (encAs l)) x++[.mem 114 (Jg x),.mem 50 (LG tk fr to nm tx (encAs l))])
 |0,i,pl,e,hn,hi,hk=>by
  refine rD (fA hr) (AA (fun a=> ?_) fun _=> ?_)
  ·simp at a;omega
  ·rw[List.drop_of_length_le (by omega)] at hk
   exact Eb (KQ (HS hr (IW l x)) (own:=[_,_]) Cm) hk
 |n+1,i,pl,e,hn,hi,hk=>by
  have BC:i<l.length:=by omega
  have hlen:(encAs l).length=l.length:=by simp[encAs]
  rw[List.drop_eq_getElem_cons BC] at hk
  have SI:(AJ 15 (encAs l)&&true&&true&&((List.all rows fun(r:Nat×List AV)↦CB 15 (Prod.snd r))&&(AJ 15 (encAs l)&&true&&true&&(AJ 15 (encAs l)&&true&&true&&(AJ 15 (x.names.map fun n=>[AV.str n])&&true&&true&&(AJ 15 (x.names.map fun n=>[AV.str n])&&true&&true&&(AJ 15 (encAs l)&&true&&true&&true)))))))=true:=by
   rw[mK,gZ,Ue hr 15 (by decide)];rfl
  have go:∀kW e',(kW,e')=(bif !(x.names.any (·==l[i].name))|| !M8 l[i].name l[i].value then fE l[i].at' 12 pl e else(pl,e))->K (.tup []) (hP g rows (Xf x (l.drop (i+1)) (kW,e')).1 (Xf x (l.drop (i+1)) (kW,e')).2++Gl (LG tk fr to nm tx (encAs l)) x):=fun kW e' he=>by
   rw[he];exact hk
  have wr:IntKind.wrap .i64 ((i:Int)+1)=((i+1:Nat):Int):=SW (by omega)
  refine rD (fA hr) (AA (fun a=>AD ?_ ⟨_,_,_,Ds _ l BC,x.names,_,by rw[As 0 [] _ (IX _)],hx,AA (fun b=> ?_) fun b=>⟨_,_,rfl,AA (fun c=> ?_) fun c=> ?_⟩⟩) fun a=> ?_)
  ·rw[hlen,CF BC];rfl
  ·refine⟨_,_,pl,e,_,_,_,rfl,rfl,AD SI ?_⟩;rw[wr]
   exact Pe hr hx hl n (i+1) _ _ (by omega) (by omega) (go _ _ (by rw[b];rfl))
  ·refine⟨_,_,pl,e,_,_,_,rfl,rfl,AD SI ?_⟩;rw[wr]
   exact Pe hr hx hl n (i+1) _ _ (by omega) (by omega) (go _ _ (by rw[b,c];rfl))
  ·refine AD SI ?_;rw[wr]
   exact Pe hr hx hl n (i+1) _ _ (by omega) (by omega) (go _ _ (by rw[b,c];rfl))
  ·simp at a;omega
theorem fB (hr:Am.km rows):AL AU (Ac [(99,iz),(65,mh g rows (Blk.grow 0 3 80) (Blk.mem 50 (LG tk fr to nm tx (encAs l))) (Blk.mem 50 (LG tk fr to nm tx (encAs l))) (Blk.grow 0 1 9) (Blk.mem 114 (Jg x)) (Blk.mem 114 (Jg x)) (Blk.mem 50 (LG tk fr to nm tx (encAs l))))]):=
 AY (AH yZ (AH (Hg j7 fun vs h K ht=>by
  obtain⟨p,y,pl,e,w,rfl,rfl,hk⟩:=ht
  exact⟨p,y,g,rows,pl,e,_,HS hr (by simp[Jm,UK,YZ,AP.Ad,AP]),rfl,rfl,hk⟩) AM))
theorem Ul (hr:Am.km rows)(hx:x.names.length<=Bt)(hl:l.length<=Bt)(ns:List (List UInt8))(Rz:ns.length<=Bt):∀(n i:Nat) (pl e:Int),ns.length-i=n->i<=ns.length->K (.tup []) (hP g rows (Xf x l (lp fr l (ns.drop i) (pl,e))).1 (Xf x l (lp fr l (ns.drop i) (pl,e))).2++Gl (LG tk fr to nm tx (encAs l)) x)->
  AF AU 68 (AB Tryz.f68) (AX Tryz.prog Tryz.f68 ((hP g rows pl e++Gl (LG tk fr to nm tx (encAs l)) x).length) K) ([.code [0,1,0,1],.block 0,.code [1,1]]) .normal [(0,true,.ptr 7 0),(4,true,.ptr 13 0),(5,true,.ptr 14 0),(14,true,.sl 1 (ns.map fun n=>[.str n]) none),(15,true,.int .i64 ns.length),(16,true,.int .i64 i)]
   (hP g rows pl e++Gl (LG tk fr to nm tx (encAs l)) x++[.mem 114 (Jg x),.mem 50 (LG tk fr to nm tx (encAs l))])
 |0,i,pl,e,hn,hi,hk=>by
  refine rE (fB hr) (AA (fun a=> ?_) fun _=> ?_)
  ·simp at a;omega
  ·rw[List.drop_of_length_le (by omega)] at hk
   have hlen:(encAs l).length=l.length:=by simp[encAs]
   have:=Pe (g:=g) (K:=K) (x:=x) (tk:=tk) (fr:=fr) (to:=to) (nm:=nm) (tx:=tx) hr hx hl l.length 0 pl e (by omega) (by omega) hk
   rw[<-hlen] at this;exact this
 |n+1,i,pl,e,hn,hi,hk=>by
  have BC:i<ns.length:=by omega
  have hlen:(ns.map fun n=>[AV.str n]).length=ns.length:=by simp
  rw[List.drop_eq_getElem_cons BC] at hk
  have SI:(AJ 15 (ns.map fun n=>[AV.str n])&&true&&true&&((List.all rows fun(r:Nat×List AV)↦CB 15 (Prod.snd r))&&(AJ 15 (encAs l)&&true&&true&&(AJ 15 (encAs l)&&true&&true&&(AJ 15 (x.names.map fun n=>[AV.str n])&&true&&true&&(AJ 15 (x.names.map fun n=>[AV.str n])&&true&&true&&(AJ 15 (encAs l)&&true&&true&&true)))))))=true:=by
   rw[mK,gZ,Ue hr 15 (by decide),DE 15 _ (IX ns)];rfl
  have go:∀kW e',(kW,e')=(bif !(l.any fun a=>a.name==ns[i]) then fE fr 12 pl e else(pl,e))->K (.tup []) (hP g rows (Xf x l (lp fr l (ns.drop (i+1)) (kW,e'))).1 (Xf x l (lp fr l (ns.drop (i+1)) (kW,e'))).2++Gl (LG tk fr to nm tx (encAs l)) x):=fun kW e' he=>by
   rw[he];exact hk
  have wr:IntKind.wrap .i64 ((i:Int)+1)=((i+1:Nat):Int):=SW (by omega)
  refine rE (fB hr) (AA (fun a=>AD ?_ ⟨_,Ds _ ns BC,g,rows,pl,e,_,_,_,_,_,_,_,_,l,HS hr ?_,hl,rfl,rfl,AA (fun b=> ?_) fun b=> ?_⟩) fun a=> ?_)
  ·rw[hlen,CF BC];rfl
  ·have h1:=Jn l;have h2:=IX x.names;simp[Jm,AP.Ad,AP,h1,h2]
  ·refine⟨_,_,pl,e,_,rfl,rfl,AD SI ?_⟩;rw[wr]
   exact Ul hr hx hl ns Rz n (i+1) _ _ (by omega) (by omega) (go _ _ (by rw[b];rfl))
  ·refine AD SI ?_;rw[wr]
   exact Ul hr hx hl ns Rz n (i+1) _ _ (by omega) (by omega) (go _ _ (by rw[b];rfl))
  ·simp at a;omega
end
theorem c49 :CQ AU 68 pw:=by
 refine BD xZ fun vs h K ht=> ?_
 obtain⟨g,rows,pl,e,x,tk,fr,to,nm,tx,l,hr,hm,hx,hl,rfl,rfl,hk⟩:=ht
 have hc:Dj (x.names.map fun n=>[AV.str n]) none (some ((x.Ch:Nat):Int))=(x.names.take x.Ch).map fun n=>[AV.str n]:=by
  simp[Dj]
 refine t49 LU (AD ?_ ?_)
 ·simp only[CK,List.length_map]
  rw[decide_eq_true (by omega),decide_eq_true (by omega)];rfl
 ·rw[hc,List.length_map]
  exact Ul hr hx hl (x.names.take x.Ch) (by rw[List.length_take];omega) _ 0 pl e rfl (by omega) hk
end Go.Proofs.YtopjpnhgnopbiaaGreatDoor
end
section
namespace Go.Proofs.YtopjpnhgnopbiaaGreatDoor
open Go.Ai Go Go.Ai.Sp
open Go.Ai.Ex (encAs encT)
set_option maxRecDepth 100000
theorem xl :BW AU 40 Tryz.f40:=(by refine⟨?_,?_,?_,?_,?_,?_⟩<;>kernel_rfl)
theorem xj :BW AU 41 Tryz.f41:=(by refine⟨?_,?_,?_,?_,?_,?_⟩<;>kernel_rfl)
theorem th (c:UInt8):Ex.blB c=([32,9,10,13]:List UInt8).contains c:=by
 simp only[Ex.blB,List.contains_cons,List.contains_nil,Bool.or_false,Bool.or_assoc]
theorem c45 :CQ AU 64 eW:=by
 refine Fp (g:=KU) (by kernel_rfl) (by kernel_rfl) (by kernel_rfl) (by kernel_rfl) fun vs h K ht=> ?_
 obtain⟨s,hs,rfl,hk⟩:=ht;refine⟨.str (Dp s),hk,?_⟩
 have e:Dp s=Lib.trimLeftS s [32,9,10,13]:=by
  unfold Dp Lib.trimLeftS
  congr 1
  funext c
  exact th c
 rw[e];rfl
theorem MK (r:List Nd){n:Nat}(h:4<=n):Ct n (NT r)=NT r/\(match NT r with|some id=>Nat.blt id n|none=>true)=true:=by
 cases r with
 |nil=>
  have:Nat.blt 3 n=true:=Nat.ble_eq_true_of_le h
  exact⟨by simp only[NT,Ct,this,cond_true],this⟩
 |cons a l=>exact⟨rfl,rfl⟩
theorem gX {o:Option Nat}{n:Nat}(ho:(match o with|some id=>Nat.blt id n|none=>true)=true)(m:Nd):CB n (YV o m).2=true:=by
 have h1:=FF n m.attrs;have h2:=HG n m.kids;unfold YV BP;simp only[CB,Eh,h1,h2,Bool.true_and,Bool.and_true];exact ho
theorem Cv :∀l:List Nd,Am.km (AZ l)
 |[],r,hr=>by cases hr
 |n::l,r,hr=>by
  rcases List.mem_cons.1 hr with rfl|hr
  ·exact fun m hm=>gX (MK l hm).2 n
  ·exact Cv l r hr
theorem B6 :∀l:List Nd,(AZ l).length=l.length
 |[]=>rfl
 |n::l=>by simp[AZ,B6 l]
theorem FD (t:Ex.Tok):AP.Ad (encT t)=true:=by
 have:=Jn t.attrs;simp[Ex.encT,AP.Ad,AP,this]
theorem Sq (t:Ex.Tok):(CR t).all Jm=true:=by simp[CR,Jm,FD]
theorem Uc (l:List Nd)(t:Ex.Tok):Am.okW (AZ l) (CR t):=HS (Cv l) (Sq t)
theorem Nk {l:List Nd}(h:l.length<=Bt):Nl (Ag l):=by
 refine⟨by rw[BK];exact h,fun x hx=> ?_⟩
 rw[FJ] at hx;obtain⟨n,_,rfl⟩:=List.mem_map.1 hx;exact⟨_,_,_,_,_,BL n⟩
theorem MQ (l:List Nd):FH (Ag l)=BA l:=by
 unfold FH BA;rw[FJ,List.getLast?_map]
 cases l.getLast? with
 |none=>rfl
 |some n=>simp only[Option.map_some,BL]
theorem EP {rows:List Row}{r own:Hp}{g:Nat}{pl e:Int}{n:Nat}{G:Hp}(hn:n=8+r.length):
  List.map (AO n G) (List.take n (hP g rows pl e++(r++own)))=hP g (rows.map fun x=>(x.1,AQ n G x.2)) pl e++r.map (AO n G):=by
 have hl:(hP g rows pl e++r).length=n:=by rw[hn];simp[hP];omega
 rw[<-List.append_assoc,<-hl,List.take_left' rfl,hl,List.map_append]
 congr 1
 obtain⟨m,rfl⟩:∃m,n=m+8:=⟨r.length,by omega⟩
 have b:∀i,i<8->Nat.blt i (m+8)=true:=fun i h=>Nat.ble_eq_true_of_le (by omega)
 simp only[hP,List.map_cons,List.map_nil,AO,AQ,strip,AE,Ct,b 0 (by omega),b 1 (by omega),b 5 (by omega),cond_true,List.length_map]
theorem Ix {o:Option Nat}{nk np:Int}{nt:List UInt8}{na:List Go.Ai.Aj}{Ba:List Nd}{k p:Int}{t:List UInt8}{al:List Go.Ai.Aj}{ks:List Nd}{G:Hp}{oa ow:Option Nat}{m:Nat}(ho:Ct m o=o)(ha:Ct m oa=none)(hw:Ct m ow=none):
  ((BP (.int .i64 nk) (.int .i64 np) (.str nt) (.sl 3 (na.map Go.Ai.Ao) o) (Ag Ba++[CZ k p t (al.map Go.Ai.Ao) oa (Ag ks) ow])).1,
   AQ m G (BP (.int .i64 nk) (.int .i64 np) (.str nt) (.sl 3 (na.map Go.Ai.Ao) o) (Ag Ba++[CZ k p t (al.map Go.Ai.Ao) oa (Ag ks) ow])).2)=YV o (Dy (.mk nk np nt na Ba) (.mk k p t al ks)):=by
 have h1:∀l:List Nd,AE m G (Ag l)=Ag l:=fun l=>As _ _ _ (E8 l)
 have h2:∀l:List Go.Ai.Aj,AE m G (l.map Go.Ai.Ao)=l.map Go.Ai.Ao:=fun l=>As _ _ _ (Dh l)
 have h3:AQ m G (CZ k p t (al.map Go.Ai.Ao) oa (Ag ks) ow)=Dt (.mk k p t al ks):=by
  unfold CZ;rw[AQ,AQ,AQ,AQ,AQ,AQ,Cj,Cj,h1,h2,ha,hw];rfl
 have h4:AE m G (Ag Ba++[CZ k p t (al.map Go.Ai.Ao) oa (Ag ks) ow])=Ag (Ba++[.mk k p t al ks]):=by
  rw[Dd,List.map_append,<-Dd,h1,List.map_cons,List.map_nil,h3,FJ,FJ,List.map_append];rfl
 unfold BP;simp only;rw[AQ,AQ,AQ,AQ,AQ,AQ,Cj,Cj,h4,h2,ho];show(_,[AV.int .i64 nk,AV.int .i64 np,AV.str nt,AV.sl 3 (na.map Go.Ai.Ao) o,AV.sl 5 (Ag (Ba++[.mk k p t al ks])) none])=((Ag (Ba++[.mk k p t al ks])).length,_);rw[BK,List.length_append,List.length_append,BK];rfl
theorem Dg (l:List Nd)(m:Nat)(G:Hp)(hm:4<=m):(AZ l).map (fun x=>(x.1,AQ m G x.2))=AZ l:=Qm (Cv l) m G hm
theorem EO (t:Ex.Tok)(m:Nat)(G:Hp):(CR t).map (AO m G)=CR t:=by
 conv=>rhs;rw[<-List.map_id (CR t)]
 exact List.map_congr_left fun b hb=>OR (List.all_eq_true.1 (Sq t) b hb) m G
theorem c27 :CQ AU 41 (JK LO Hw):=by
 refine BD xj fun vs h K ht=> ?_
 obtain⟨g,s,t,BO,⟨Hk,Ky⟩,y8,-,rfl,rfl,hk⟩:=ht;obtain⟨rows,pl,e⟩:=s
 cases rows with
 |nil=>exact absurd rfl BO
 |cons n r=>
  obtain⟨nk,np,nt,na,Ba⟩:=n
  have hw:=Ia 50 (Uc (.mk nk np nt na Ba::r) t) (x:=encT t) fun m G _=>Aw m G _ (FD t)
  have hl:(AZ (Nd.mk nk np nt na Ba::r)).length<=Bt:=by rw[B6];exact Nat.le_of_lt Hk
  have g1:(Nat.beq g g&&true&&true&&true)=true:=by simp
  refine t27 Vf ?_
  repeat' (first
   |exact rfl
   |exact trivial
   |exact g1
   |refine⟨g,_,_,pl,e,_,hw,hl,rfl,rfl,?_⟩
   |refine AD ?_ ?_
   |exact Eb ((EP (own:=[_]) (r:=CR t) (rows:=AZ (Nd.mk nk np t.text na Ba::r)) Cm).trans (by rw[Dg,EO]<;>first|rfl|(rw[Cm];omega))) (hk g)
   |refine⟨?_,?_⟩)
theorem qw :AL AU (Ac [(62,LC),(63,VU 5),(64,eW),(65,Cp)]):=AY (AH tb (AH ta (AH c45 (AH j7 AM))))
theorem GQ (g:Nat):Nat.beq g g=true:=by simp
theorem OV {k p:Int}{t:List UInt8}{al:List Go.Ai.Aj}{oa ow:Option Nat}{n:Nat}{G:Hp}(h1:Ct n oa=oa)(h2:Ct n ow=ow):AQ n G (CZ k p t (al.map Go.Ai.Ao) oa [] ow)=CZ k p t (al.map Go.Ai.Ao) oa [] ow:=by
 have h:AE n G (al.map Go.Ai.Ao)=al.map Go.Ai.Ao:=As _ _ _ (Dh al);unfold CZ;rw[AQ,AQ,AQ,AQ,AQ,AQ,Cj,Cj,h,h1,h2];rfl
theorem Pf {n id:Nat}(h:id<n):Ct n (some id)=some id:=by
 simp only[Ct,Nat.blt,Nat.ble_eq_true_of_le (show id+1<=n from h),cond_true]
theorem Pg {n id:Nat}(h:n<=id):Ct n (some id)=none:=by
 have:Nat.blt id n=false:=by
  rw[Bool.eq_false_iff];intro e;have:=Nat.le_of_ble_eq_true e;omega
 simp only[Ct,this,cond_false]
theorem eV (s:List UInt8):(Dp s).length<=s.length:=(List.dropWhile_suffix _).length_le
theorem c26 :CQ AU 40 (JK ED Hw):=by
 refine BD xl fun vs h K ht=> ?_
 obtain⟨g,s,t,BO,⟨Hk,Ky⟩,⟨sT,sS,wh,sR,wg⟩,-,rfl,rfl,hk⟩:=ht;obtain⟨rows,pl,e⟩:=s
 cases rows with
 |nil=>exact absurd rfl BO
 |cons n r=>
  obtain⟨nk,np,nt,na,Ba⟩:=n;have sN:=Uc (.mk nk np nt na Ba::r) t
  have hw:=Ia 50 sN (x:=encT t) fun m G _=>Aw m G _ (FD t)
  have hw5:Am.okW (BP (.int .i64 nk) (.int .i64 np) (.str nt) (.sl 3 (na.map Go.Ai.Ao) (NT r)) (Ag Ba)::AZ r) (CR t++[.mem 50 (encT t)]++[.grow 0 3 80,.grow 0 5 26]):=HS (Cv (.mk nk np nt na Ba::r)) (by simp[CR,Jm,FD])
  have hl:(AZ (Nd.mk nk np nt na Ba::r)).length<=Bt:=by rw[B6];exact Nat.le_of_lt Hk
  have SJ:(Ag Ba).length<Bt:=by rw[BK];exact Ky _ List.mem_cons_self
  have wr:IntKind.wrap .i64 ((t.to:Int)-((Dp t.text).length:Nat))=(t.to:Int)-((Dp t.text).length:Nat):=by
   have:=eV t.text;unfold Bt at sS
   rw[BH]<;>omega
  have trimmed:(nk==7||nk==10)=true->∃(tq:List UInt8),List.length tq<=1000000000000/\[AV.str t.text,AV.str [32,9,10,13]]=[AV.str tq,AV.str [32,9,10,13]]/\Ap (!Dp tq==[]) (∃(rq:Int),∃(qf:Int),∃(yO:Nat),∃(UA:List Row),∃(fu:Int),∃(tO:Int),∃(tr:Hp),Am.okW UA tr/\[AV.ptr 7 0,AV.int IntKind.i64 (IntKind.wrap IntKind.i64 ((t.to:Int)-(↑(List.length (Dp tq)):Int))),AV.int IntKind.i64 13]=[AV.ptr 7 0,AV.int IntKind.i64 rq,AV.int IntKind.i64 qf]/\
    hP g (AZ (Nd.mk nk np nt na Ba::r)) pl e++(CR t++[.mem 50 (encT t)])=hP yO UA fu tO++tr/\
    K (.tup []) (List.map (AO (hP g (AZ (Nd.mk nk np nt na Ba::r)) pl e++CR t).length (hP yO UA (fE rq qf fu tO).1 (fE rq qf fu tO).2++tr)) (List.take (hP g (AZ (Nd.mk nk np nt na Ba::r)) pl e++CR t).length (hP yO UA (fE rq qf fu tO).1 (fE rq qf fu tO).2++tr))))
    (K (.tup []) (List.map (AO (hP g (AZ (Nd.mk nk np nt na Ba::r)) pl e++CR t).length (hP g (AZ (Nd.mk nk np nt na Ba::r)) pl e++(CR t++[.mem 50 (encT t)]))) (List.take (hP g (AZ (Nd.mk nk np nt na Ba::r)) pl e++CR t).length (hP g (AZ (Nd.mk nk np nt na Ba::r)) pl e++(CR t++[.mem 50 (encT t)]))))):=fun RD=>by
   have hp:ED t ⟨.mk nk np nt na Ba::r,pl,e⟩=bif (Dp t.text).isEmpty then⟨.mk nk np nt na Ba::r,pl,e⟩ else F8 ((t.to:Int)-(Dp t.text).length) 13 ⟨.mk nk np nt na Ba::r,pl,e⟩:=by
    show(bif nk==7||nk==10 then _ else _)=_;rw[RD];rfl
   refine⟨t.text,sT,rfl,AA (fun a=> ?_) fun a=> ?_⟩
   ·have he:(Dp t.text).isEmpty=false:=by
     cases h:Dp t.text with
     |nil=>rw[h] at a;cases a
     |cons=>rfl
    rw[hp,he] at hk;refine⟨_,_,g,_,pl,e,_,hw,rfl,rfl,?_⟩;rw[wr]
    exact Eb ((EP (own:=[_]) Cm).trans (by rw[Dg,EO]<;>first|rfl|(rw[Cm];omega))) (hk g)
   ·have he:(Dp t.text).isEmpty=true:=by
     cases h:Dp t.text with
     |nil=>rfl
     |cons=>rw[h] at a;cases a
    rw[hp,he] at hk
    exact Eb ((EP (own:=[_]) Cm).trans (by rw[Dg,EO]<;>first|rfl|(rw[Cm];omega))) (hk g)
  refine t26 qw ⟨g,_,_,pl,e,_,hw,hl,rfl,rfl,AD (GQ g) (AA (fun a=>AA (fun b=> ?_) fun b=> ?_) fun a=> ?_)⟩
  ·have RD:(nk==7||nk==10)=false:=by
    simp only[bne_iff_ne,ne_eq] at a b;have a1:¬nk=7:=a;have b1:¬nk=10:=b;simp[a1,b1]
   have hp:ED t ⟨.mk nk np nt na Ba::r,pl,e⟩=⟨Dy (.mk nk np nt na Ba) (.mk 2 t.fr t.text [] [])::r,pl,e⟩:=by
    show(bif nk==7||nk==10 then _ else _)=_;rw[RD];rfl
   rw[hp] at hk
   refine⟨g,_,_,_,_,Ag Ba,AZ r,pl,e,CR t++[.mem 50 (encT t)]++[.grow 0 3 80,.grow 0 5 26],2,t.fr,t.text,[],some 11,[],some 12,hw5,hl,SJ,fun n G hn=> ?_,rfl,rfl,rfl,?_⟩
   ·exact OV (al:=[]) (Pf (by omega)) (Pf (by omega))
   ·refine Eb ((EP (n:=10) (r:=CR t) (own:=[_,_,_]) (rows:=BP (.int .i64 nk) (.int .i64 np) (.str nt) (.sl 3 (na.map Go.Ai.Ao) (NT r)) (Ag Ba++[CZ 2 t.fr t.text (([]:List Go.Ai.Aj).map Go.Ai.Ao) (some 11) (Ag []) (some 12)])::AZ r) rfl).trans ?_) (hk g)
    rw[List.map_cons,Ix (MK r (by decide)).1 (Pg (show 10<=11 by decide)) (Pg (show 10<=12 by decide)),Dg _ _ _ (by decide),EO]
    rfl
  ·refine trimmed ?_;simp only[bne_eq_false_iff_eq] at b;have b1:nk=10:=b;simp[b1]
  ·refine trimmed ?_;simp only[bne_eq_false_iff_eq] at a;have a1:nk=7:=a;simp[a1]
theorem pH :BW AU 44 Tryz.f44:=(by refine⟨?_,?_,?_,?_,?_,?_⟩<;>kernel_rfl)
theorem nL :AL AU (Ac [(62,LC),(65,Cp),(69,Wq)]):=AY (AH tb (AH j7 (AH zo AM)))
theorem nK :AL AU (Ac [(62,LC),(63,VU 6)]):=AY (AH tb (AH tZ AM))
abbrev hT (g:Nat)(l:List Nd)(pl e:Int)(t:Ex.Tok):Hp:=hP g (AZ l) pl e++(CR t++[.mem 50 (encT t)])
theorem af (l:List Nd)(t:Ex.Tok):Am.okW (AZ l) (CR t++[.mem 50 (encT t)]):=Ia 50 (Uc l t) (x:=encT t) fun m G _=>Aw m G _ (FD t)
theorem tL {K:AV->Hp->Prop}{g:Nat}{l:List Nd}{pl e:Int}{t:Ex.Tok}{G:Hp}{n:Nat}(hn:n=8+(CR t).length)(hk:K (.tup []) (hP g (AZ l) pl e++CR t)):
  K (.tup []) (List.map (AO n G) (List.take n (hT g l pl e t))):=
 Eb ((EP (own:=[_]) hn).trans (by rw[Dg _ _ _ (by omega),EO])) hk
theorem jk {a b:Int}(h:(a !=b)=true):(a==b)=false:=by simpa[bne] using h
theorem Xa {a b:Int}(h:(a !=b)=false):(a==b)=true:=by simpa[bne] using h
theorem nX {K:AV->Hp->Prop}{g:Nat}{nk np:Int}{nt:List UInt8}{na:List Go.Ai.Aj}{Ba:List Nd}{r:List Nd}{pl e:Int}{t:Ex.Tok}{kk:Int}(hs:Iy (.mk nk np nt na Ba::r)){bad:Bool}(hb:bad=(!(nk==kk)||((kk==7&& !(BA Ba==9))||(kk==10&&BA Ba==0))))
  (hf:bad=true->K (.tup []) (hP g (AZ (Nd.mk nk np nt na Ba::r)) (fE t.fr 13 pl e).1 (fE t.fr 13 pl e).2++CR t))
  (hg:bad=false->AF AU 44 (AB Tryz.f44) (AX Tryz.prog Tryz.f44 (hP g (AZ (Nd.mk nk np nt na Ba::r)) pl e++CR t).length K) [.code [1,1,1,1]] .normal [(0,true,.ptr 7 0)] (hT g (.mk nk np nt na Ba::r) pl e t)):
  AF AU 44 (AB Tryz.f44) (AX Tryz.prog Tryz.f44 (hP g (AZ (Nd.mk nk np nt na Ba::r)) pl e++CR t).length K) [.code [1,1,1]] .normal [(0,true,.ptr 7 0),(3,true,.ptr 10 0),(4,true,.int .i64 kk)] (hT g (.mk nk np nt na Ba::r) pl e t):=by
 obtain⟨Hk,Ky⟩:=hs;have hw:=af (.mk nk np nt na Ba::r) t
 have hl:(AZ (Nd.mk nk np nt na Ba::r)).length<=Bt:=by rw[B6];exact Nat.le_of_lt Hk
 have SJ:Nl (Ag Ba):=Nk (Nat.le_of_lt (Ky _ List.mem_cons_self));have Xp:=MQ Ba
 have fail:bad=true->∃(p7:Int),∃(x8:Int),∃(g9:Nat),∃(UB:List Row),∃(fv:Int),∃(tP:Int),∃(tu:Hp),Am.okW UB tu/\[AV.ptr 7 0,.int .i64 t.fr,.int .i64 13]=[.ptr 7 0,.int .i64 p7,.int .i64 x8]/\hT g (.mk nk np nt na Ba::r) pl e t=hP g9 UB fv tP++tu/\
   K (.tup []) (List.map (AO (hP g (AZ (Nd.mk nk np nt na Ba::r)) pl e++CR t).length (hP g9 UB (fE p7 x8 fv tP).1 (fE p7 x8 fv tP).2++tu)) (List.take (hP g (AZ (Nd.mk nk np nt na Ba::r)) pl e++CR t).length (hP g9 UB (fE p7 x8 fv tP).1 (fE p7 x8 fv tP).2++tu))):=fun lP=>
  ⟨_,_,g,_,pl,e,_,hw,rfl,rfl,tL Cm (hf lP)⟩
 refine vB nL ⟨g,_,_,pl,e,_,hw,hl,rfl,rfl,AD (GQ g) (AA (fun a=> ?_) fun a=> ?_)⟩
 ·have a':(nk==kk)=false:=jk a
  exact fail (by rw[hb,a'];rfl)
 ·have a':(nk==kk)=true:=Xa a
  refine AA (fun b=> ?_) fun b=> ?_
  ·refine⟨g,_,_,_,_,Ag Ba,_,pl,e,_,hw,hl,SJ,rfl,rfl,AA (fun c=> ?_) fun c=> ?_⟩
   ·rw[Xp] at c
    exact fail (by rw[hb,a',b,jk c];rfl)
   ·rw[Xp] at c
    refine AA (fun d=> ?_) fun d=> ?_
    ·refine⟨g,_,_,_,_,Ag Ba,_,pl,e,_,hw,hl,SJ,rfl,rfl,AA (fun f=> ?_) fun f=> ?_⟩
     ·rw[Xp] at f
      exact fail (by rw[hb,a',b,d,f,Xa c];rfl)
     ·rw[Xp] at f
      exact hg (by rw[hb,a',b,d,f,Xa c];rfl)
    ·exact hg (by rw[hb,a',b,d,Xa c];rfl)
  ·refine AA (fun d=> ?_) fun d=> ?_
   ·refine⟨g,_,_,_,_,Ag Ba,_,pl,e,_,hw,hl,SJ,rfl,rfl,AA (fun f=> ?_) fun f=> ?_⟩
    ·rw[Xp] at f
     exact fail (by rw[hb,a',b,d,f];rfl)
    ·rw[Xp] at f
     exact hg (by rw[hb,a',b,d,f];rfl)
   ·exact hg (by rw[hb,a',b,d];rfl)
theorem mz {α:Type}{a b:α}{l:List α}(h:l.length+2<=Bt)(g:Nat):(decide (IntKind.wrap .i64 ((((a::b::l).length:Nat):Int)-1)=(((a::b::l).length:Nat):Int)-1)&&true&&true&&true&&Nat.beq g g)=true:=by
 have e:IntKind.wrap .i64 ((((a::b::l).length:Nat):Int)-1)=(((a::b::l).length:Nat):Int)-1:=by
  have:(a::b::l).length=l.length+2:=rfl;unfold Bt at h
  rw[BH]<;>omega
 rw[decide_eq_true e,GQ g];rfl
theorem nW {K:AV->Hp->Prop}{g:Nat}{nk np:Int}{nt:List UInt8}{na:List Go.Ai.Aj}{Ba:List Nd}{mk mp:Int}{mt:List UInt8}{ma:List Go.Ai.Aj}{Ug:List Nd}{r:List Nd}{pl e:Int}{t:Ex.Tok}(hs:Iy (.mk nk np nt na Ba:: .mk mk mp mt ma Ug::r))
  (hk:K (.tup []) (hP (g+1) (AZ (Dy (.mk mk mp mt ma Ug) (.mk nk np nt na Ba)::r)) pl e++CR t)):
  AF AU 44 (AB Tryz.f44) (AX Tryz.prog Tryz.f44 (hP g (AZ (Nd.mk nk np nt na Ba:: .mk mk mp mt ma Ug::r)) pl e++CR t).length K) [.code [1,1,1,1]] .normal [(0,true,.ptr 7 0)] (hT g (.mk nk np nt na Ba:: .mk mk mp mt ma Ug::r) pl e t):=by
 obtain⟨Hk,Ky⟩:=hs;have hw:=af (.mk nk np nt na Ba:: .mk mk mp mt ma Ug::r) t
 have hl:(AZ (Nd.mk nk np nt na Ba:: .mk mk mp mt ma Ug::r)).length<=Bt:=by rw[B6];exact Nat.le_of_lt Hk
 have dN:(AZ (Nd.mk mk mp mt ma Ug::r)).length<=Bt:=by
  rw[B6];have:(Nd.mk nk np nt na Ba:: .mk mk mp mt ma Ug::r).length=(Nd.mk mk mp mt ma Ug::r).length+1:=rfl;have Hk:=Hk;omega
 have hm:(Ag Ug).length<Bt:=by rw[BK];exact Ky (.mk mk mp mt ma Ug) (List.mem_cons_of_mem _ List.mem_cons_self)
 have o8:(AZ r).length+2<=Bt:=hl;have hp:AP.Ad [AV.int .i64 nk,.int .i64 np,.str nt,.sl 3 (na.map Go.Ai.Ao) none,.sl 5 (Ag Ba) none]=true:=HF (.mk nk np nt na Ba)
 have hw6:Am.okW (BP (.int .i64 mk) (.int .i64 mp) (.str mt) (.sl 3 (ma.map Go.Ai.Ao) (NT r)) (Ag Ug)::AZ r) (CR t++[.mem 50 (encT t)]++[.grow 0 3 80,.grow 0 5 26,.mem 26 [.int .i64 nk,.int .i64 np,.str nt,.sl 3 (na.map Go.Ai.Ao) none,.sl 5 (Ag Ba) none]]):=
  HS (Cv (.mk mk mp mt ma Ug::r)) (by simp[CR,Jm,FD];exact hp)
 have hn:∀(n:Nat) (G:Hp),14<=n->AQ n G (CZ nk np nt (na.map Go.Ai.Ao) none (Ag Ba) none)=CZ nk np nt (na.map Go.Ai.Ao) none (Ag Ba) none:=fun n G _=>Aw n G _ hp
 refine vA nK ⟨g,_,_,pl,e,_,hw,hl,rfl,rfl,AD (GQ g) ?_⟩
 repeat' (first
  |exact rfl
  |exact trivial
  |exact mz o8 g
  |refine AD ?_ ?_
  |refine And.intro ?_ ?_)
 refine⟨g+1,_,_,_,_,Ag Ug,AZ r,pl,e,CR t++[.mem 50 (encT t)]++[.grow 0 3 80,.grow 0 5 26,.mem 26 [.int .i64 nk,.int .i64 np,.str nt,.sl 3 (na.map Go.Ai.Ao) none,.sl 5 (Ag Ba) none]],nk,np,nt,na.map Go.Ai.Ao,none,Ag Ba,none,hw6,dN,hm,hn,rfl,rfl,rfl,?_⟩;refine Eb ?_ hk;show List.map (AO 10 (hP (g+1) (BP (.int .i64 mk) (.int .i64 mp) (.str mt) (.sl 3 (ma.map Go.Ai.Ao) (NT r)) (Ag Ug++[CZ nk np nt (na.map Go.Ai.Ao) none (Ag Ba) none])::AZ r) pl e++(CR t++[.mem 50 (encT t),.grow 0 3 80,.grow 0 5 26,.mem 26 [.int .i64 nk,.int .i64 np,.str nt,.sl 3 (na.map Go.Ai.Ao) none,.sl 5 (Ag Ba) none]]))) (List.take 10 (hP (g+1) (BP (.int .i64 mk) (.int .i64 mp) (.str mt) (.sl 3 (ma.map Go.Ai.Ao) (NT r)) (Ag Ug++[CZ nk np nt (na.map Go.Ai.Ao) none (Ag Ba) none])::AZ r) pl e++(CR t++[.mem 50 (encT t),.grow 0 3 80,.grow 0 5 26,.mem 26 [.int .i64 nk,.int .i64 np,.str nt,.sl 3 (na.map Go.Ai.Ao) none,.sl 5 (Ag Ba) none]])))=_;rw[EP (n:=10) rfl]
 rw[List.map_cons,Ix (MK r (by decide)).1 rfl rfl,Dg _ _ _ (by decide),EO]
 rfl
theorem jO (s:List UInt8):3<=(Br s).kind/\(Br s).kind<=13:=by
 unfold Br
 repeat' (first|(constructor<;>simp only[]<;>decide)|(rw[Bool.cond_eq_ite];split))
theorem zs :CQ AU 44 (JK Es Yq):=by
 refine BD pH fun vs h K ht=> ?_
 obtain⟨g,s,t,BO,hs,y8,PN,rfl,rfl,hk⟩:=ht;obtain⟨rows,pl,e⟩:=s
 cases rows with
 |nil=>exact absurd rfl BO
 |cons n r=>
  obtain⟨nk,np,nt,na,Ba⟩:=n;have kJ:AL AU (Ac [(66,wE)]):=AY (AH zq AM);have lP:Ei t (.mk nk np nt na Ba)=(!(nk==Et t)||((Et t==7&& !(BA Ba==9))||(Et t==10&&BA Ba==0))):=rfl
  have key:=nX (K:=K) (g:=g) (np:=np) (nt:=nt) (na:=na) (r:=r) (pl:=pl) (e:=e) (t:=t) (kk:=Et t) (bad:=Ei t (.mk nk np nt na Ba)) hs lP
   (fun hb=>by
    have hp:Es t ⟨.mk nk np nt na Ba::r,pl,e⟩=F8 t.fr 13 ⟨.mk nk np nt na Ba::r,pl,e⟩:=by
     show(bif Ei t _ then _ else _)=_;rw[hb];rfl
    rw[hp] at hk
    exact hk g)
   (fun hb=>by
    cases r with
    |nil=>
     have h1:nk=1:=PN _ rfl;exfalso;rw[lP,h1] at hb
     have:((1:Int)==Et t)=false:=by
      rw[beq_eq_false_iff_ne];unfold Et;have:=jO t.name
      cases t.kind==4<;>simp only[cond_true,cond_false]<;>omega
     rw[this] at hb;cases hb
    |cons m q=>
     obtain⟨mk,mp,mt,ma,Ug⟩:=m
     have hp:Es t ⟨.mk nk np nt na Ba:: .mk mk mp mt ma Ug::q,pl,e⟩=⟨Dy (.mk mk mp mt ma Ug) (.mk nk np nt na Ba)::q,pl,e⟩:=by
      show(bif Ei t _ then _ else _)=_;rw[hb];rfl
     rw[hp] at hk
     exact nW hs (hk (g+1)))
  refine t30 kJ (AA (fun a=>⟨_,rfl,?_⟩) fun a=> ?_)
  ·have:Et t=(Br t.name).kind:=by unfold Et;rw[a];rfl
   rw[this] at key;exact key
  ·have:Et t=14:=by unfold Et;rw[a];rfl
   rw[this] at key;exact key
end Go.Proofs.YtopjpnhgnopbiaaGreatDoor
end
section
namespace Go.Proofs.YtopjpnhgnopbiaaGreatDoor
open Go.Ai Go Go.Ai.Sp
open Go.Ai.Ex (encAs encT)
set_option maxRecDepth 100000
theorem kI {C:Bm}{k:Nat}{t:Ce}(h:AL C (Ac [(k,t)])):∀p∈[(k,t)],CQ C p.1 p.2:=fun p hp=>by
 rw[List.mem_singleton] at hp;subst hp
 exact fun l g K ht=>h k t (by simp[Ac,HW]) l g K ht
theorem pI :BW AU 43 Tryz.f43:=(by refine⟨?_,?_,?_,?_,?_,?_⟩<;>kernel_rfl)
theorem xi :BW AU 42 Tryz.f42:=(by refine⟨?_,?_,?_,?_,?_,?_⟩<;>kernel_rfl)
theorem UI {α:Type}{a:α}{l:List α}(h:l.length+1<=Bt)(g:Nat):(Nat.beq g g&&true&&true&&true&&true&&true&&decide (((a::l).length+1)*80<=140737488355328)&&true&&true)=true:=by
 have:(a::l).length=l.length+1:=rfl;unfold Bt at h
 rw[GQ g,decide_eq_true (by omega)];rfl
theorem UH {α:Type}{l:List α}:(decide (((l.length:Nat):Int)=((l.length+1:Nat):Int)-1)&&true&&true&&true)=true:=by
 rw[decide_eq_true (by omega)];rfl
theorem UG (g:Nat):(Nat.beq g g&&true&&true&&true)=true:=by rw[GQ g];rfl
theorem QA {k p:Int}{t:List UInt8}{al:List Go.Ai.Aj}{oa:Option Nat}{m:Nat}{G:Hp}(h:Ct m oa=none):(0,AQ m G [AV.int .i64 k,.int .i64 p,.str t,.sl 3 (al.map Go.Ai.Ao) oa,.sl 5 [] none])=YV none (.mk k p t al []):=by
 have h2:AE m G (al.map Go.Ai.Ao)=al.map Go.Ai.Ao:=As _ _ _ (Dh al);rw[AQ,AQ,AQ,AQ,AQ,AQ,Cj,Cj,h2,h];rfl
section
variable {K:AV->Hp->Prop}{g:Nat}{nk np:Int}{nt:List UInt8}{na:List Go.Ai.Aj}{Ba:List Nd}{r:List Nd}{pl e:Int}{t:Ex.Tok}
theorem fY (hs:Iy (.mk nk np nt na Ba::r))(hk:K (.tup []) (hP (g+1) (AZ (.mk 14 t.fr [] [] []:: .mk nk np nt na Ba::r)) pl e++CR t)):
  AF AU 43 (AB Tryz.f43) (AX Tryz.prog Tryz.f43 10 K) [.code [1,1,1]] .normal [(0,true,.ptr 7 0),(3,true,.ptr 10 0)] (hT g (.mk nk np nt na Ba::r) pl e t):=by
 obtain⟨Hk,Ky⟩:=hs
 have o8:(AZ r).length+1<=Bt:=by rw[B6];exact Nat.le_of_lt Hk
 refine vC (k:=nk) (b0:=.grow 0 3 80) (b1:=.mem 50 (encT t)) LU ?_;refine AD (UI o8 g) (AD UH (AD (UG _) ⟨?_,?_⟩))
 ·repeat' (first
   |exact rfl
   |exact trivial
   |exact UI o8 g
   |exact UH
   |exact UG _
   |refine AD ?_ ?_
   |refine And.intro ?_ ?_)
 ·refine Eb ?_ hk;show List.map (AO 10 (hP (g+1) ((0,[.int .i64 14,.int .i64 t.fr,.str [],.sl 3 (([]:List Go.Ai.Aj).map Go.Ai.Ao) (some 11),.sl 5 [] none])::AZ (Nd.mk nk np nt na Ba::r)) pl e++(CR t++[.mem 50 (encT t),.grow 0 3 80,.dead]))) (List.take 10 (hP (g+1) ((0,[.int .i64 14,.int .i64 t.fr,.str [],.sl 3 (([]:List Go.Ai.Aj).map Go.Ai.Ao) (some 11),.sl 5 [] none])::AZ (Nd.mk nk np nt na Ba::r)) pl e++(CR t++[.mem 50 (encT t),.grow 0 3 80,.dead])))=_;rw[EP (n:=10) rfl]
  rw[List.map_cons,QA (Pg (show 10<=11 by decide)),Dg _ _ _ (by decide),EO]
  rfl
theorem VH {α:Type}{a:α}{l:List Nd}{m:List α}(hm:m.length=l.length):decide ((((a::m).length:Nat):Int)>16)=decide (16<l.length+1):=by
 have:(a::m).length=l.length+1:=by rw[List.length_cons,hm]
 rw[this]
 by_cases h:16<l.length+1
 ·rw[decide_eq_true h,decide_eq_true (by omega)]
 ·rw[decide_eq_false h,decide_eq_false (by omega)]
def FK (fr:Int)(n:Nat)(s:Int×Int):Int×Int:=bif decide (16<n+1) then fE fr 3 s.1 s.2 else s
theorem fG :AL AU (Ac [(65,Oi g (AZ (Nd.mk nk np nt na Ba::r)) (CR t++[.mem 50 (encT t)]))]):=AY (AH (Hg j7 fun vs h K ht=>by
  obtain⟨p,y,pl,e,rfl,rfl,hk⟩:=ht
  exact⟨p,y,g,_,pl,e,_,af _ t,rfl,rfl,hk⟩) AM)
theorem fZ (hs:Iy (.mk nk np nt na Ba::r))(hk:K (.tup []) (hP (g+1) (AZ (.mk 14 t.fr [] [] []:: .mk nk np nt na Ba::r)) (FK t.fr r.length (pl,e)).1 (FK t.fr r.length (pl,e)).2++CR t)):
  AF AU 43 (AB Tryz.f43) (AX Tryz.prog Tryz.f43 10 K) [.code [1,1]] .normal [(0,true,.ptr 7 0),(3,true,.ptr 10 0)] (hT g (.mk nk np nt na Ba::r) pl e t):=by
 refine vD (k:=nk) (b0:=.grow 0 3 80) (b1:=.mem 50 (encT t)) fG (AA (fun a=> ?_) fun a=> ?_)
 ·rw[VH (B6 _)] at a;unfold FK at hk;rw[a] at hk;exact⟨_,_,pl,e,rfl,rfl,fY hs hk⟩
 ·rw[VH (B6 _)] at a;unfold FK at hk;rw[a] at hk;exact fY hs hk
end
theorem c29 :CQ AU 43 (JK Ff Hw):=by
 refine BD pI fun vs h K ht=> ?_
 obtain⟨g,s,t,BO,hs,y8,-,rfl,rfl,hk⟩:=ht;obtain⟨rows,pl,e⟩:=s
 cases rows with
 |nil=>exact absurd rfl BO
 |cons n r=>
  obtain⟨nk,np,nt,na,Ba⟩:=n;have kJ:AL AU (Ac [(67,gS),(65,Oi g (AZ (Nd.mk nk np nt na Ba::r)) (CR t++[.mem 50 (encT t)]))]):=AY (AH zp (kI fG))
  have hl:(AZ (Nd.mk nk np nt na Ba::r)).length<=Bt:=by rw[B6];exact Nat.le_of_lt hs.1
  have SJ:Nl (Ag Ba):=Nk (Nat.le_of_lt (hs.2 _ List.mem_cons_self))
  have hp:∀b,CV nk (BA Ba) 14=b->(Ff t ⟨.mk nk np nt na Ba::r,pl,e⟩)=⟨.mk 14 t.fr [] [] []:: .mk nk np nt na Ba::r,(FK t.fr r.length (bif !b then fE t.fr 13 pl e else(pl,e))).1,(FK t.fr r.length (bif !b then fE t.fr 13 pl e else(pl,e))).2⟩:=fun b hb=>by
   show(⟨_,(bif decide (16<r.length+1) then F8 t.fr 3 (bif !CV nk (BA Ba) 14 then _ else _) else(bif !CV nk (BA Ba) 14 then _ else _):Ps).pl,(bif decide (16<r.length+1) then F8 t.fr 3 (bif !CV nk (BA Ba) 14 then _ else _) else(bif !CV nk (BA Ba) 14 then _ else _):Ps).e⟩:Ps)=_;rw[hb];unfold FK
   cases b<;>cases decide (16<r.length+1)<;>rfl
  refine t29 (k:=nk) (b0:=.grow 0 3 80) (b1:=.mem 50 (encT t)) kJ ⟨g,_,_,_,_,_,Ag Ba,_,pl,e,_,af (.mk nk np nt na Ba::r) t,hl,SJ,rfl,rfl,AA (fun a=> ?_) fun a=> ?_⟩
  ·rw[MQ] at a;have a1:(!CV nk (BA Ba) 14)=true:=a
   rw[hp false (by simpa using a1)] at hk
   exact⟨_,_,pl,e,rfl,rfl,fZ hs (hk (g+1))⟩
  ·rw[MQ] at a;have a1:(!CV nk (BA Ba) 14)=false:=a
   rw[hp true (by simpa using a1)] at hk
   exact fZ hs (hk (g+1))
end Go.Proofs.YtopjpnhgnopbiaaGreatDoor
end
section
namespace Go.Proofs.YtopjpnhgnopbiaaGreatDoor
open Go.Ai Go Go.Ai.Sp
open Go.Ai.Ex (encAs encT)
set_option maxRecDepth 100000
theorem N8 (l:List Ex.Aj):encAs l=(l.map JW).map Go.Ai.Ao:=by
 unfold encAs;rw[List.map_map];rfl
theorem TY (s:List UInt8):(Br s).Ch<=(Br s).names.length/\(Br s).names.length<=3:=by
 unfold Br
 repeat' (first|(constructor<;>simp only[]<;>decide)|(rw[Bool.cond_eq_ite];split))
theorem Vj {k p:Int}{l:List Ex.Aj}{m:Nat}{G:Hp}:(0,AQ m G [AV.int .i64 k,.int .i64 p,.str [],.sl 3 (encAs l) none,.sl 5 [] none])=YV none (.mk k p [] (l.map JW) []):=by
 rw[N8];exact QA rfl
theorem YI {o:Option Nat}{nk np:Int}{nt:List UInt8}{na:List Go.Ai.Aj}{Ba:List Nd}{k p:Int}{l:List Ex.Aj}{G:Hp}{ow:Option Nat}{m:Nat}(ho:Ct m o=o)(hw:Ct m ow=none):
  ((BP (.int .i64 nk) (.int .i64 np) (.str nt) (.sl 3 (na.map Go.Ai.Ao) o) (Ag Ba++[CZ k p [] (encAs l) none [] ow])).1,
   AQ m G (BP (.int .i64 nk) (.int .i64 np) (.str nt) (.sl 3 (na.map Go.Ai.Ao) o) (Ag Ba++[CZ k p [] (encAs l) none [] ow])).2)=YV o (Dy (.mk nk np nt na Ba) (.mk k p [] (l.map JW) [])):=by
 rw[N8];exact Ix (oa:=none) (ks:=[]) ho rfl hw
def Lj (k f:Int)(al:List (List AV)):Hp:=[.grow 0 3 80,.grow 0 5 26,.grow 0 3 80,.grow 0 5 26,.mem 26 [.int .i64 k,.int .i64 f,.str [],.sl 3 al none,.sl 5 [] (some 14)]]
section
variable {K:AV->Hp->Prop}{g:Nat}{nk np:Int}{nt:List UInt8}{na:List Go.Ai.Aj}{Ba:List Nd}{r:List Nd}{pl e:Int}{t:Ex.Tok}{x:El}
theorem nY (hs:Iy (.mk nk np nt na Ba::r))(hk:K (.tup []) (hP (g+1) (AZ (.mk x.kind t.fr [] (t.attrs.map JW) []:: .mk nk np nt na Ba::r)) pl e++CR t)):
  AF AU 42 (AB Tryz.f42) (AX Tryz.prog Tryz.f42 10 K) [.code [1,1,1,1,1,1,1,1,1]] .normal [(0,true,.ptr 7 0),(6,true,.ptr 17 0)] (hP g (AZ (Nd.mk nk np nt na Ba::r)) pl e++(Gl (encT t) x++Lj x.kind t.fr (encAs t.attrs))):=by
 obtain⟨Hk,Ky⟩:=hs
 have o8:(AZ r).length+1<=Bt:=by rw[B6];exact Nat.le_of_lt Hk
 refine vE (k:=nk) (tk:=t.kind) (fr:=t.fr) (to:=t.to) (nm:=t.name) (tx:=t.text) (l:=t.attrs) LU ?_;refine AD (UI o8 g) (AD UH (AD (UG _) ⟨?_,?_⟩))
 ·repeat' (first
   |exact rfl
   |exact trivial
   |exact UI o8 g
   |exact UH
   |exact UG _
   |refine AD ?_ ?_
   |refine And.intro ?_ ?_)
 ·refine Eb ?_ hk
  show List.map (AO 10 (hP (g+1) ((0,[.int .i64 x.kind,.int .i64 t.fr,.str [],.sl 3 (encAs t.attrs) none,.sl 5 [] none])::AZ (Nd.mk nk np nt na Ba::r)) pl e++(CR t++[.mem 50 (encT t),.grow 0 1 9,.mem 114 (Jg x),.grow 0 3 80,.dead,.grow 0 3 80,.grow 0 5 26,.mem 26 [.int .i64 x.kind,.int .i64 t.fr,.str [],.sl 3 (encAs t.attrs) none,.sl 5 [] (some 14)]])))
   (List.take 10 (hP (g+1) ((0,[.int .i64 x.kind,.int .i64 t.fr,.str [],.sl 3 (encAs t.attrs) none,.sl 5 [] none])::AZ (Nd.mk nk np nt na Ba::r)) pl e++(CR t++[.mem 50 (encT t),.grow 0 1 9,.mem 114 (Jg x),.grow 0 3 80,.dead,.grow 0 3 80,.grow 0 5 26,.mem 26 [.int .i64 x.kind,.int .i64 t.fr,.str [],.sl 3 (encAs t.attrs) none,.sl 5 [] (some 14)]])))=_
  rw[EP (n:=10) rfl]
  rw[List.map_cons,Vj,Dg _ _ _ (by decide),EO]
  rfl
theorem fb (hs:Iy (.mk nk np nt na Ba::r))(ha:t.attrs.length<=Bt)(hx:x.Ch<=x.names.length/\x.names.length<=Bt){b:Bool}
  (ZG:b=true->K (.tup []) (hP g (AZ (Dy (.mk nk np nt na Ba) (.mk x.kind t.fr [] (t.attrs.map JW) [])::r)) (Sp.A8 x t.fr t.attrs (pl,e)).1 (Sp.A8 x t.fr t.attrs (pl,e)).2++CR t))
  (Lo:b=false->K (.tup []) (hP (g+1) (AZ (.mk x.kind t.fr [] (t.attrs.map JW) []:: .mk nk np nt na Ba::r)) (Sp.A8 x t.fr t.attrs (pl,e)).1 (Sp.A8 x t.fr t.attrs (pl,e)).2++CR t)):
  AF AU 42 (AB Tryz.f42) (AX Tryz.prog Tryz.f42 10 K) [.code [1,1,1,1,1]] .normal [(0,true,.ptr 7 0),(3,true,.ptr 10 0),(4,true,.ptr 12 0),(5,true,.bool b)] (hP g (AZ (Nd.mk nk np nt na Ba::r)) pl e++Gl (encT t) x):=by
 have kJ:AL AU (Ac [(68,jm g (AZ (Nd.mk nk np nt na Ba::r)) x t.kind t.fr t.to t.name t.text t.attrs),(63,VU 10)]):=
  AY (AH (Hg c49 fun vs h K ht=>by
   obtain⟨pl,e,rfl,rfl,hk⟩:=ht
   exact⟨g,_,pl,e,x,_,_,_,_,_,_,Cv _,hx.1,hx.2,ha,rfl,rfl,hk⟩) (AH pn AM))
 have hl:(AZ (Nd.mk nk np nt na Ba::r)).length<=Bt:=by rw[B6];exact Nat.le_of_lt hs.1
 have SJ:(Ag Ba).length<Bt:=by rw[BK];exact hs.2 _ List.mem_cons_self
 refine vF (k:=nk) (tk:=t.kind) (fr:=t.fr) (to:=t.to) (nm:=t.name) (tx:=t.text) (l:=t.attrs) (x:=x) kJ ⟨pl,e,rfl,rfl,AA (fun a=> ?_) fun a=> ?_⟩
 ·have hw:Am.okW (BP (.int .i64 nk) (.int .i64 np) (.str nt) (.sl 3 (na.map Go.Ai.Ao) (NT r)) (Ag Ba)::AZ r) (Gl (encT t) x++Lj x.kind t.fr (encAs t.attrs)):=by
   intro n G hn
   refine⟨Qm (Cv (.mk nk np nt na Ba::r)) n G (by omega),?_⟩
   rw[List.map_append]
   congr 1
   ·exact((HS (Cv []) (IW t.attrs x):Am.okW _ (Gl (encT t) x)) n G (by
     rw[List.length_append] at hn
     omega)).2
   ·have h1:AE n G (encAs t.attrs)=encAs t.attrs:=As _ _ _ (Jn _)
    have h2:Ct n (some 14)=some 14:=Pf (by
     have:(Gl (encT t) x++Lj x.kind t.fr (encAs t.attrs)).length=10:=rfl
     omega)
    unfold Lj;simp only[List.map_cons,List.map_nil,AO];rw[AQ,AQ,AQ,AQ,AQ,AQ,Cj,Cj,h1,h2];rfl
  refine⟨g,_,_,_,_,Ag Ba,AZ r,_,_,Gl (encT t) x++Lj x.kind t.fr (encAs t.attrs),x.kind,t.fr,[],encAs t.attrs,none,[],some 14,hw,hl,SJ,fun n G hn=> ?_,rfl,rfl,rfl,?_⟩
  ·rw[N8]
   exact OV (n:=n) (G:=G) (oa:=none) (ow:=some 14) rfl (Pf (by omega))
  ·refine Eb ?_ (ZG a)
   show List.map (AO 10 (hP g (BP (.int .i64 nk) (.int .i64 np) (.str nt) (.sl 3 (na.map Go.Ai.Ao) (NT r)) (Ag Ba++[CZ x.kind t.fr [] (encAs t.attrs) none [] (some 14)])::AZ r) (Sp.A8 x t.fr t.attrs (pl,e)).1 (Sp.A8 x t.fr t.attrs (pl,e)).2++(CR t++(.mem 50 (encT t):: .grow 0 1 9:: .mem 114 (Jg x)::Lj x.kind t.fr (encAs t.attrs)))))
    (List.take 10 (hP g (BP (.int .i64 nk) (.int .i64 np) (.str nt) (.sl 3 (na.map Go.Ai.Ao) (NT r)) (Ag Ba++[CZ x.kind t.fr [] (encAs t.attrs) none [] (some 14)])::AZ r) (Sp.A8 x t.fr t.attrs (pl,e)).1 (Sp.A8 x t.fr t.attrs (pl,e)).2++(CR t++(.mem 50 (encT t):: .grow 0 1 9:: .mem 114 (Jg x)::Lj x.kind t.fr (encAs t.attrs)))))=_
   rw[EP (n:=10) rfl]
   rw[List.map_cons,YI (MK r (by decide)).1 (Pg (show 10<=14 by decide)),Dg _ _ _ (by decide),EO]
   rfl
 ·exact nY hs (Lo a)
theorem nZ (hs:Iy (.mk nk np nt na Ba::r))(ha:t.attrs.length<=Bt)(hx:x.Ch<=x.names.length/\x.names.length<=Bt){b:Bool}
  (ZG:b=true->K (.tup []) (hP g (AZ (Dy (.mk nk np nt na Ba) (.mk x.kind t.fr [] (t.attrs.map JW) [])::r)) (Sp.A8 x t.fr t.attrs (FK t.fr r.length (pl,e))).1 (Sp.A8 x t.fr t.attrs (FK t.fr r.length (pl,e))).2++CR t))
  (Lo:b=false->K (.tup []) (hP (g+1) (AZ (.mk x.kind t.fr [] (t.attrs.map JW) []:: .mk nk np nt na Ba::r)) (Sp.A8 x t.fr t.attrs (FK t.fr r.length (pl,e))).1 (Sp.A8 x t.fr t.attrs (FK t.fr r.length (pl,e))).2++CR t)):
  AF AU 42 (AB Tryz.f42) (AX Tryz.prog Tryz.f42 10 K) [.code [1,1,1,1]] .normal [(0,true,.ptr 7 0),(3,true,.ptr 10 0),(4,true,.ptr 12 0),(5,true,.bool b)] (hP g (AZ (Nd.mk nk np nt na Ba::r)) pl e++Gl (encT t) x):=by
 have kJ:AL AU (Ac [(65,Oi g (AZ (Nd.mk nk np nt na Ba::r)) (Gl (encT t) x))]):=AY (AH (Hg j7 fun vs h K ht=>by
  obtain⟨p,y,pl,e,rfl,rfl,hk⟩:=ht
  exact⟨p,y,g,_,pl,e,_,HS (Cv _) (IW t.attrs x),rfl,rfl,hk⟩) AM)
 refine vG (k:=nk) (b0:=.grow 0 3 80) (b1:=.mem 50 (encT t)) (ek:=x.kind) (em:=(x.Ch:Nat)) (en:=x.names.map fun n=>[.str n]) kJ (AA (fun a=> ?_) fun a=> ?_)
 ·rw[VH (B6 _)] at a;unfold FK at ZG Lo;rw[a] at ZG Lo;exact⟨_,_,pl,e,rfl,rfl,fb hs ha hx ZG Lo⟩
 ·rw[VH (B6 _)] at a;unfold FK at ZG Lo;rw[a] at ZG Lo;exact fb hs ha hx ZG Lo
end
theorem zt :CQ AU 42 (JK EY Hw):=by
 refine BD xi fun vs h K ht=> ?_
 obtain⟨g,s,t,BO,hs,⟨sT,sS,wh,sR,wg⟩,-,rfl,rfl,hk⟩:=ht;obtain⟨rows,pl,e⟩:=s
 cases rows with
 |nil=>exact absurd rfl BO
 |cons n r=>
  obtain⟨nk,np,nt,na,Ba⟩:=n
  have kJ:AL AU (Ac [(65,Oi g (AZ (Nd.mk nk np nt na Ba::r)) (tj (.grow 0 3 80) (.mem 50 (encT t)) (encT t) (Br t.name))),(66,yv t.name),(67,gS)]):=
   AY (AH (Hg j7 fun vs h K ht=>by
    obtain⟨p,y,pl,e,rfl,rfl,hk⟩:=ht
    exact⟨p,y,g,_,pl,e,_,HS (Cv _) (IW t.attrs (Br t.name)),rfl,rfl,hk⟩)
   (AH (Hg zq fun vs h K ht=>by
    obtain⟨rfl,hk⟩:=ht
    exact⟨_,rfl,hk⟩) (AH zp AM)))
  have hl:(AZ (Nd.mk nk np nt na Ba::r)).length<=Bt:=by rw[B6];exact Nat.le_of_lt hs.1
  have SJ:Nl (Ag Ba):=Nk (Nat.le_of_lt (hs.2 _ List.mem_cons_self));have Xp:=MQ Ba;have hw:Am.okW (AZ (Nd.mk nk np nt na Ba::r)) (Gl (encT t) (Br t.name)):=HS (Cv _) (IW t.attrs (Br t.name))
  have hx:(Br t.name).Ch<=(Br t.name).names.length/\(Br t.name).names.length<=Bt:=⟨(TY _).1,Nat.le_trans (TY _).2 (by decide)⟩
  have go:∀(b:Bool) (s1:Int×Int),Bj (Br t.name)=b->s1=(bif (b !=(t.kind==3))|| !CV nk (BA Ba) (Br t.name).kind then fE t.fr 13 pl e else(pl,e))->
    AF AU 42 (AB Tryz.f42) (AX Tryz.prog Tryz.f42 10 K) [.code [1,1,1,1]] .normal [(0,true,.ptr 7 0),(3,true,.ptr 10 0),(4,true,.ptr 12 0),(5,true,.bool b)] (hP g (AZ (Nd.mk nk np nt na Ba::r)) s1.1 s1.2++Gl (encT t) (Br t.name)):=by
   intro b s1 hb Hk
   have hp:EY t ⟨.mk nk np nt na Ba::r,pl,e⟩=bif b then⟨Dy (.mk nk np nt na Ba) (.mk (Br t.name).kind t.fr [] (t.attrs.map JW) [])::r,(Sp.A8 (Br t.name) t.fr t.attrs (FK t.fr r.length s1)).1,(Sp.A8 (Br t.name) t.fr t.attrs (FK t.fr r.length s1)).2⟩
     else⟨.mk (Br t.name).kind t.fr [] (t.attrs.map JW) []:: .mk nk np nt na Ba::r,(Sp.A8 (Br t.name) t.fr t.attrs (FK t.fr r.length s1)).1,(Sp.A8 (Br t.name) t.fr t.attrs (FK t.fr r.length s1)).2⟩:=by
    have h2:Ko (Br t.name) t (.mk nk np nt na Ba) r ⟨.mk nk np nt na Ba::r,pl,e⟩=⟨.mk nk np nt na Ba::r,(Sp.A8 (Br t.name) t.fr t.attrs (FK t.fr r.length s1)).1,(Sp.A8 (Br t.name) t.fr t.attrs (FK t.fr r.length s1)).2⟩:=by
     unfold Ko FK;rw[hb,Hk];show(⟨_,_,_⟩:Ps)=_;have e1:(Nd.mk nk np nt na Ba).kind=nk:=rfl;have e2:(Nd.mk nk np nt na Ba).kids=Ba:=rfl;rw[e1,e2]
     cases (b !=(t.kind==3))|| !CV nk (BA Ba) (Br t.name).kind<;>cases decide (16<r.length+1)<;>rfl
    show(bif Bj (Br t.name) then _ else _)=_;rw[hb];simp only[h2]
   rw[hp] at hk
   exact nZ hs sR hx (fun h=>by rw[h] at hk;exact hk g) fun h=>by rw[h] at hk;exact hk (g+1)
  refine t28 (k:=nk) (b0:=.grow 0 3 80) (b1:=.mem 50 (encT t)) kJ ⟨rfl,AA (fun a=>AA (fun b=> ?_) fun b=> ?_) fun a=>AA (fun b=> ?_) fun b=> ?_⟩
  ·exact⟨_,_,pl,e,rfl,rfl,go true _ (by unfold Bj;rw[a];rfl) (by rw[show(true !=(t.kind==3))=true from b];rfl)⟩
  ·refine⟨g,_,_,_,_,_,Ag Ba,_,pl,e,_,hw,hl,SJ,rfl,rfl,AA (fun c=> ?_) fun c=> ?_⟩
   ·rw[Xp] at c
    exact⟨_,_,pl,e,rfl,rfl,go true _ (by unfold Bj;rw[a];rfl) (by rw[show(true !=(t.kind==3))=false from b,show(!CV nk (BA Ba) (Br t.name).kind)=true from c];rfl)⟩
   ·rw[Xp] at c
    exact go true (pl,e) (by unfold Bj;rw[a];rfl) (by rw[show(true !=(t.kind==3))=false from b,show(!CV nk (BA Ba) (Br t.name).kind)=false from c];rfl)
  ·exact⟨_,_,pl,e,rfl,rfl,go ((Br t.name).kind==6) _ (by unfold Bj;rw[a];rfl) (by rw[show(((Br t.name).kind==6) !=(t.kind==3))=true from b];rfl)⟩
  ·refine⟨g,_,_,_,_,_,Ag Ba,_,pl,e,_,hw,hl,SJ,rfl,rfl,AA (fun c=> ?_) fun c=> ?_⟩
   ·rw[Xp] at c
    exact⟨_,_,pl,e,rfl,rfl,go ((Br t.name).kind==6) _ (by unfold Bj;rw[a];rfl) (by rw[show(((Br t.name).kind==6) !=(t.kind==3))=false from b,show(!CV nk (BA Ba) (Br t.name).kind)=true from c];rfl)⟩
   ·rw[Xp] at c
    exact go ((Br t.name).kind==6) (pl,e) (by unfold Bj;rw[a];rfl) (by rw[show(((Br t.name).kind==6) !=(t.kind==3))=false from b,show(!CV nk (BA Ba) (Br t.name).kind)=false from c];rfl)
end Go.Proofs.YtopjpnhgnopbiaaGreatDoor
end
section
namespace Go.Proofs.YtopjpnhgnopbiaaGreatDoor
open Go.Ai Go Go.RowKit Go.Ai.Sp
set_option maxRecDepth 100000
def zg (k:Int)(f:Nat)(c:Nat):MapEntry:={key:=.int .i64 k,val:=.agg #[.func (.func f) #[] #[]],born:=c}
def RY (ks:List (Int×Nat)):List MapEntry:=ks.zipIdx.map fun x=>zg x.1.1 x.1.2 x.2
theorem bc {ks:List (Int×Nat)}{x:MapEntry}(h:x∈RY ks):∃p∈ks,x.key=.int .i64 p.1:=by
 obtain⟨y,hy,rfl⟩:=List.mem_map.1 h;refine⟨y.1,?_,rfl⟩;obtain⟨a,b⟩:=y;exact List.mem_of_getElem? (List.mem_zipIdx_iff_getElem?.1 hy)
theorem DB {w0 w:World}{r:Nat}{ks:List (Int×Nat)}(hr:w0.heap.size<=r)(hw:Below w0.heap.size w0 w)(hb:w.heap[r]?=some (.map (RY ks).toArray ks.length)){k:Int}{f:Nat}(hn:(ks.all fun p=>!(p.1==k))=true):
  ∃w',(Instr.mapUpdate 47 (.map (some r)) (.int .i64 k) (.agg #[.func (.func f) #[] #[]])).run Tryz.prog w=.ok () w'/\w'.heap[r]?=some (.map (RY (ks++[(k,f)])).toArray (ks++[(k,f)]).length)/\Below w0.heap.size w0 w':=by
 have hm:Tryz.prog.underlying 47=some (.map 3 53):=by kernel_rfl
 have hd:Tryz.prog.underlying 3=some (.int .i64):=by kernel_rfl
 have hk:MapKept.IsKey (.int .i64) (.int .i64 k):=rfl
 have eK:∀x∈(RY ks).toArray.toList,MapKept.IsKey (.int .i64) x.key:=fun x hx=>by
  obtain⟨p,_,e⟩:=bc hx;rw[e];rfl
 rcases MapKept.findNow_spec hk (RY ks).toArray.toList 0 eK with ⟨h1,h2⟩|⟨j,e,h1,h2,h3⟩
 ·refine⟨_,by simp only[Instr.mapUpdate,run_underlying hm,MapKept.run_getObj_map hb,MapKept.run_checkKey hd hk,MapKept.run_findKey hd h1,MapKept.run_setObj_map _ hb,Result.andThen,Sem.run_bind];rfl,?_,?_⟩
  ·have h:=(MapKept.heap_set (o':=.map ((RY ks).toArray.push {key:=.int .i64 k,val:=.agg #[.func (.func f) #[] #[]],born:=ks.length}) (ks.length+1)) hb).1;rw[h]
   congr 1
   have e1:(RY (ks++[(k,f)])).toArray=(RY ks).toArray.push {key:=.int .i64 k,val:=.agg #[.func (.func f) #[] #[]],born:=ks.length}:=by
    unfold RY;rw[List.zipIdx_append];simp[zg]
   rw[e1];simp
  ·exact⟨hw.os,hw.tape,hw.output,by simpa using hw.size,fun i hi=>((MapKept.heap_set hb).2 i (by omega)).trans (hw.block i hi)⟩
 ·obtain⟨p,hp,e2⟩:=bc (List.mem_of_getElem? h2);rw[e2] at h3
  injection h3 with _ h3
  have:=List.all_eq_true.1 hn p hp;rw[h3] at this;simp at this
def fL :List (Int×Nat):=[(1,40),(7,41),(2,42),(3,42),(5,43),(4,44),(6,44)]
theorem cF (w:World):Calls Tryz.prog 18 #[] w fun e w'=>e=.returned (.map (some w.heap.size))/\Below w.heap.size w w'/\w'.heap[w.heap.size]?=some (.map (RY fL).toArray fL.length):=by
 go_enter Tryz.func18,Tryz.f18
 go_wp
 rw[Go.run_makeMap_plain];simp only[Result.andThen];have lQ:Below w.heap.size w (w.alloc (.map #[] 0)):=(Below.refl _ w).alloc (Nat.le_refl _) _;have j4:(w.alloc (.map #[] 0)).heap[w.heap.size]?=some (.map (RY []).toArray ([]:List (Int×Nat)).length):=(MapKept.heap_alloc w _).1;generalize w.alloc (.map #[] 0)=w0 at lQ j4⊢
 go_wp
 obtain⟨w1,TF,uJ,XB⟩:=DB (Nat.le_refl _) lQ j4 (k:=1) (f:=40) rfl;rw[TF];simp only[Result.andThen]
 go_wp
 obtain⟨w2,OZ,xB,iy⟩:=DB (Nat.le_refl _) XB uJ (k:=7) (f:=41) rfl;rw[OZ];simp only[Result.andThen]
 go_wp
 obtain⟨w3,hr3,hm3,hb3⟩:=DB (Nat.le_refl _) iy xB (k:=2) (f:=42) rfl;rw[hr3];simp only[Result.andThen]
 go_wp
 obtain⟨w4,hr4,hm4,hb4⟩:=DB (Nat.le_refl _) hb3 hm3 (k:=3) (f:=42) rfl;rw[hr4];simp only[Result.andThen]
 go_wp
 obtain⟨w5,hr5,hm5,hb5⟩:=DB (Nat.le_refl _) hb4 hm4 (k:=5) (f:=43) rfl;rw[hr5];simp only[Result.andThen]
 go_wp
 obtain⟨w6,hr6,hm6,hb6⟩:=DB (Nat.le_refl _) hb5 hm5 (k:=4) (f:=44) rfl;rw[hr6];simp only[Result.andThen]
 go_wp
 obtain⟨w7,hr7,hm7,hb7⟩:=DB (Nat.le_refl _) hb6 hm6 (k:=6) (f:=44) rfl;rw[hr7];simp only[Result.andThen]
 go_wp
 refine⟨rfl,.map (some w.heap.size),?_,rfl,hb7,hm7⟩;simp[go_sem,results]
def YK :List AV->Option (Bool×AV):=fun vs=>match vs with|[]=>some (true,Ew)|_=>none
theorem cG {G:Nat->Option (List AV)}{I:World->Prop}{B0:Nat}:Ev Tryz.prog G I B0 18 YK:=by
 intro vs v hv E args hE hB H hr;unfold YK at hv;split at hv
 ·simp only[Option.some.injEq,Prod.mk.injEq,true_and] at hv;subst hv;simp only[BU] at hr;subst hr
  refine(cF E.w).mono fun e w' ⟨h1,h2,h3⟩=>⟨_,h1,h2,?_⟩
  refine⟨E.w.heap.size,_,_,rfl,h3,rfl,?_⟩
  have fn:∀f:Nat,Ae {E with w:=w'} [.fn (.func f) [] []] [.func (.func f) #[] #[]]:=fun f=>⟨_,[],rfl,rfl,⟨#[],#[],rfl,rfl,rfl⟩,rfl⟩
  exact⟨_,_,rfl,fn 40,_,_,rfl,fn 41,_,_,rfl,fn 42,_,_,rfl,fn 42,_,_,rfl,fn 43,_,_,rfl,fn 44,_,_,rfl,fn 44,rfl⟩
 ·cases hv
end Go.Proofs.YtopjpnhgnopbiaaGreatDoor
end
section
namespace Go.Proofs.YtopjpnhgnopbiaaGreatDoor
open Go.Ai Go Go.Ai.Sp
open Go.Ai.Ex (encAs encT encTs lexM tokC limE)
set_option maxRecDepth 100000
theorem pf8 :BN AU 8 Tryz.f8:=(by refine⟨?_,?_,?_,?_,?_,?_⟩<;>kernel_rfl)
theorem c15 :CQ AU 17 tokC:=by
 refine Fp (g:=Lx.Yy) (by kernel_rfl) (by kernel_rfl) (by kernel_rfl) (by kernel_rfl) fun vs h K ht=> ?_
 obtain⟨s,hs,rfl,h1,h2⟩:=ht
 refine⟨Ex.Wm (lexM s),?_,by show some (Nat.ble s.length 1000000,Ex.Wm (lexM s))=_;rw[show Nat.ble s.length 1000000=true from Nat.ble_eq_true_of_le hs]⟩
 cases hl:lexM s with
 |error x=>
  obtain⟨p,e⟩:=x;exact h1 p e hl
 |ok l=>
  show K (AV.tup [.sl 6 (AE 0 [] (encTs l)) none,.int .i64 0,.int .i64 0]) h;rw[EF 0 [] _ (Ex.gW 0 l)];exact h2 l hl
theorem c16 :CQ AU 18 YL:=by
 refine Fp (g:=YK) (by kernel_rfl) (by kernel_rfl) (by kernel_rfl) (by kernel_rfl) fun vs h K ht=> ?_
 obtain⟨hv,hk⟩:=ht
 match vs,hv with
 |[],_=>exact⟨Ew,hk,rfl⟩
def NV (z1 z2:Nat):Except (Int×Int) Nd->AV
 |.ok n=>.tup [.agg (Dt n),.int .i64 0,.int .i64 0]
 |.error (p,e)=>.tup [.agg [.int .i64 0,.int .i64 0,.str [],.sl z1 [] none,.sl z2 [] none],.int .i64 p,.int .i64 e]
theorem jD {l:List Ex.Tok}{i:Nat}(h:i<l.length):CH (encTs l) (i:Int)=encT l[i]:=by
 unfold encTs CH;simp[h]
theorem dC (l:List Nd):(List.all (AZ l) fun r=>CB 8 r.2)=true:=Ue (Cv l) 8 (by decide)
theorem nf {v:AV}{s:List UInt8}{l:List Ex.Tok}{i:Nat}{g:Nat}{st:Ps}(hi:i<l.length)(hl:l.length<=131074)(ht:eZ l[i])(hk:l[i].kind=1\/l[i].kind=2\/l[i].kind=3\/l[i].kind=4\/l[i].kind=5\/l[i].kind=6\/l[i].kind=7)(hinv:Inv i st.rows)
  (h1:((Aq l[i] st).e !=0)=true->v=NV 0 0 (.error ((Aq l[i] st).pl,(Aq l[i] st).e)))
  (h2:((Aq l[i] st).e !=0)=false->∀g',AF AU 8 (AB Tryz.f8) (AK Tryz.prog Tryz.f8 v) [.code [0,1,0,1,1,1,1,1,1],.block 0,.code [1,1,1,1,1,1,1]] .normal [(0,true,.str s),(2,true,.ptr 2 0),(6,true,.ptr 7 0),(7,true,Ew),(30,true,.sl 6 (encTs l) none),(31,true,.int .i64 l.length),(32,true,.int .i64 ((i+1:Nat):Int))] (hP g' (AZ (Aq l[i] st).rows) (Aq l[i] st).pl (Aq l[i] st).e)):
  AF AU 8 (AB Tryz.f8) (AK Tryz.prog Tryz.f8 v) [.code [1,0,0,1,1,0,0,1,0,1,1,1,1,1,1],.block 1,.code [1,1,1,0,0,1,0,1,1,1,1,1,1],.loop [0,1,0,1,1,1,1,1,1] 8,.block 0,.code [1,1,1,1,1,1,1]] .normal [(0,true,.str s),(2,true,.ptr 2 0),(6,true,.ptr 7 0),(7,true,Ew),(9,true,.ptr 9 0),(30,true,.sl 6 (encTs l) none),(31,true,.int .i64 l.length),(32,true,.int .i64 i)]
   (hP g (AZ st.rows) st.pl st.e++CR l[i]):=by
 have iO:Iy st.rows:=by
  have:=hinv.len
  refine⟨by unfold Bt;omega,fun n hn=> ?_⟩
  have:=hinv.kids n hn;unfold Bt;omega
 have wr:IntKind.wrap .i64 ((i:Int)+1)=((i+1:Nat):Int):=SW (by unfold Bt;omega)
 have wH:(AJ 8 (encTs l)&&true&&true&&((List.all (AZ (Aq l[i] st).rows) fun(r:Nat×List AV)↦CB 8 (Prod.snd r))&&true))=true:=by
  rw[Ex.gW,dC];rfl
 have PN:aZ st:=fun n hn=>by
  have:=hinv.bot;rw[hn] at this;exact this
 generalize hT:l[i]=t at *;obtain⟨k,nm,al,tx,fr,to⟩:=t
 have fin:∀(w:Ps),w=Aq ⟨k,nm,al,tx,fr,to⟩ st->∀g',Ap (w.e !=0) (AV.tup [.agg [.int .i64 0,.int .i64 0,.str [],.sl 0 [] none,.sl 0 [] none],.int .i64 w.pl,.int .i64 w.e]=v)
   (AS (AJ 8 (encTs l)&&true&&true&&((List.all (AZ w.rows) fun(r:Nat×List AV)↦CB 8 (Prod.snd r))&&true)) (AF AU 8 (AB Tryz.f8) (AK Tryz.prog Tryz.f8 v) [.code [0,1,0,1,1,1,1,1,1],.block 0,.code [1,1,1,1,1,1,1]] .normal [(0,true,.str s),(2,true,.ptr 2 0),(6,true,.ptr 7 0),(7,true,Ew),(30,true,.sl 6 (encTs l) none),(31,true,.int .i64 l.length),(32,true,.int .i64 (IntKind.wrap .i64 ((i:Int)+1)))] (hP g' (AZ w.rows) w.pl w.e))):=by
  rintro w rfl g'
  refine AA (fun a=>(h1 a).symm) fun a=>AD wH ?_
  rw[wr];exact h2 a g'
 have hk:k=1\/k=2\/k=3\/k=4\/k=5\/k=6\/k=7:=hk
 rcases hk with rfl|rfl|rfl|rfl|rfl|rfl|rfl
 ·exact uu (AY (AH c26 AM)) ⟨g,st,_,hinv.bot.ne,iO,ht,trivial,rfl,rfl,fun g'=>fin _ rfl g'⟩
 ·exact ur (AY (AH zt AM)) ⟨g,st,_,hinv.bot.ne,iO,ht,trivial,rfl,rfl,fun g'=>fin _ rfl g'⟩
 ·exact uq (AY (AH zt AM)) ⟨g,st,_,hinv.bot.ne,iO,ht,trivial,rfl,rfl,fun g'=>fin _ rfl g'⟩
 ·exact um (AY (AH zs AM)) ⟨g,st,_,hinv.bot.ne,iO,ht,PN,rfl,rfl,fun g'=>fin _ rfl g'⟩
 ·exact uk (AY (AH c29 AM)) ⟨g,st,_,hinv.bot.ne,iO,ht,trivial,rfl,rfl,fun g'=>fin _ rfl g'⟩
 ·exact uj (AY (AH zs AM)) ⟨g,st,_,hinv.bot.ne,iO,ht,PN,rfl,rfl,fun g'=>fin _ rfl g'⟩
 ·exact ui (AY (AH c27 AM)) ⟨g,st,_,hinv.bot.ne,iO,ht,trivial,rfl,rfl,fun g'=>fin _ rfl g'⟩
theorem mL {v:AV}{s:List UInt8}{l:List Ex.Tok}(hl:l.length<=131074)(VV:∀t∈l,eZ t/\(t.kind=1\/t.kind=2\/t.kind=3\/t.kind=4\/t.kind=5\/t.kind=6\/t.kind=7)):∀(m i:Nat) (g:Nat) (st:Ps),l.length-i=m->i<=l.length->Inv i st.rows->st.e=0->
  (∃z,v=NV z.1 z.2 (Ml s.length (A7 (l.drop i) st))/\((A7 (l.drop i) st).e=0->z=(3,5))/\((A7 (l.drop i) st).e≠0->z=(0,0)))->
  AF AU 8 (AB Tryz.f8) (AK Tryz.prog Tryz.f8 v) [.code [0,1,0,1,1,1,1,1,1],.block 0,.code [1,1,1,1,1,1,1]] .normal [(0,true,.str s),(2,true,.ptr 2 0),(6,true,.ptr 7 0),(7,true,Ew),(30,true,.sl 6 (encTs l) none),(31,true,.int .i64 l.length),(32,true,.int .i64 i)] (hP g (AZ st.rows) st.pl st.e)
 |0,i,g,st,hm,hi,hinv,he,⟨z,hv,hz,_⟩=>by
  rw[List.drop_of_length_le (by omega)] at hv hz
  have hz:=hz he;subst hz;have hp:A7 [] st=st:=rfl;rw[hp] at hv;unfold Ml at hv;rw[he] at hv
  refine yo (s:=s) LU (AA (fun a=> ?_) fun _=>AA (fun a=> ?_) fun a=> ?_)
  ·simp at a;omega
  ·rw[B6] at a;have a:=of_decide_eq_true a
   match hr:st.rows,a with
   |[],a=>simp at a
   |[_],a=>simp at a
   |n::m::r,_=>
    rw[hr] at hv;exact hv.symm
  ·rw[B6] at a;have a:=of_decide_eq_false a;have BO:=hinv.bot.ne
   match hr:st.rows,a with
   |[],_=>exact absurd hr BO
   |[n],_=>
    rw[hr] at hv;refine t8z LU (AD (GQ g) ?_);rw[hv,As 0 _ _ (Dh n.attrs),As 0 _ _ (E8 n.kids),<-BL];rfl
   |n::m::r,a=>simp at a;omega
 |m+1,i,g,st,hm,hi,hinv,he,⟨z,hv,hz,oT⟩=>by
  have BC:i<l.length:=by omega
  obtain⟨h1,h2⟩:=VV _ (List.getElem_mem BC)
  have hlen:(encTs l).length=l.length:=by simp[encTs]
  rw[List.drop_eq_getElem_cons BC] at hv hz oT
  refine yo (s:=s) LU (AA (fun a=>AD (by rw[hlen,CF BC];rfl) ⟨_,_,_,_,_,_,jD BC,nf BC hl h1 h2 hinv (fun b=> ?_) fun b g'=> ?_⟩) fun a=> ?_)
  ·have b':((Aq l[i] st).e==0)=false:=jk b
   have hp:A7 (l[i]::l.drop (i+1)) st=Aq l[i] st:=by
    rw[A7,b'];rfl
   rw[hp] at hv oT
   have oT:=oT (by simpa using b')
   subst oT;rw[hv];unfold Ml;rw[b'];rfl
  ·have b':((Aq l[i] st).e==0)=true:=Xa b
   have hp:A7 (l[i]::l.drop (i+1)) st=A7 (l.drop (i+1)) (Aq l[i] st):=by
    rw[A7,b'];rfl
   rw[hp] at hv hz oT
   exact mL hl VV m (i+1) g' _ (by omega) (by omega) (iB hinv _) (by simpa using b') ⟨z,hv,hz,oT⟩
  ·simp at a;omega
theorem nJ :AL AU (Ac [(17,tokC),(18,YL)]):=AY (AH c15 (AH c16 AM))
theorem c8 :CQ AU 8 nz:=by
 refine Ax pf8 fun vs h K ht=> ?_
 obtain⟨s,rfl,ZG,Lo⟩:=ht
 have done:∀z1 z2:Nat,(z1=3/\z2=5)\/(z1=0/\z2=0)->K (NV z1 z2 (Bi s)) h:=fun z1 z2 hz=>by
  cases hp:Bi s with
  |ok n=>exact ZG n hp
  |error x=>exact Lo x.1 x.2 hp z1 z2 hz
 by_cases hs:65536<s.length
 ·refine⟨_,done 3 5 (.inl ⟨rfl,rfl⟩),t8 nJ (AA (fun _=> ?_) fun a=> ?_)⟩
  ·unfold Bi;rw[if_pos hs];rfl
  ·simp at a;omega
 ·cases hl:lexM s with
  |error x=>
   obtain⟨p,e⟩:=x
   have hp:Bi s=.error ((p:Nat),e):=by
    unfold Bi;rw[if_neg hs,hl]
   have he:(e !=0)=true:=by
    have:=Ex.gm hl;simp[bne,this]
   refine⟨_,done 3 5 (.inl ⟨rfl,rfl⟩),t8 nJ (AA (fun a=> ?_) fun a=>⟨s,by omega,rfl,fun p' e' h'=> ?_,fun l' h'=> ?_⟩)⟩
   ·simp at a;omega
   ·rw[hl] at h'
    injection h' with h'
    injection h' with e1 e2
    subst e1;subst e2
    refine AA (fun _=> ?_) fun b=> ?_
    ·rw[hp];rfl
    ·rw[he] at b;cases b
   ·rw[hl] at h';cases h'
  |ok l=>
   obtain⟨Xq,dN⟩:=kt (by omega) hl
   have hp:Bi s=Ml s.length (A7 l DX):=by
    unfold Bi;rw[if_neg hs,hl];rfl
   have hz:∃z:Nat×Nat,((z.1=3/\z.2=5)\/(z.1=0/\z.2=0))/\((A7 l DX).e=0->z=(3,5))/\((A7 l DX).e≠0->z=(0,0)):=by
    by_cases h0:(A7 l DX).e=0
    ·exact⟨(3,5),.inl ⟨rfl,rfl⟩,fun _=>rfl,fun h=>absurd h0 h⟩
    ·exact⟨(0,0),.inr ⟨rfl,rfl⟩,fun h=>absurd h h0,fun _=>rfl⟩
   obtain⟨z,z0,z1,z2⟩:=hz
   refine⟨_,done z.1 z.2 z0,t8 nJ (AA (fun a=> ?_) fun a=>⟨s,by omega,rfl,fun p' e' h'=> ?_,fun l' h'=>⟨rfl,?_⟩⟩)⟩
   ·simp at a;omega
   ·rw[hl] at h';cases h'
   ·rw[hl] at h'
    injection h' with h'
    subst h'
    have hlen:(encTs l).length=l.length:=by simp[encTs]
    rw[hlen]
    exact mL Xq dN l.length 0 0 DX rfl (Nat.zero_le _) wP rfl ⟨z,by rw[hp];rfl,z1,z2⟩
end Go.Proofs.YtopjpnhgnopbiaaGreatDoor
end
section
namespace Go.Ai
open Go.RowKit
section
variable {C:Bm}{I:World->Prop}{B0:Nat}
theorem aV (S0:Sound C I B0){k:Nat}{vs:List AV}{u v:AV}(hr:K8 C false k vs [] u [])(hu:AP u=true)(hv:∀(E:Env) c,Rel E u c->Rel E v c)(E:Env)(args:List Value)(hE:E.h=[])(hB:E.B=E.w.heap.size)(H:Good C.G I B0 E)(ha:BU E vs args):
  Calls C.P k args.toArray E.w (fun e w'=>∃c,e=.returned c/\Below E.w.heap.size E.w w'/\Rel {E with w:=w'} v c):=by
 obtain⟨n0,hn⟩:=hr;obtain⟨_,RL⟩:=(Mp S0 false n0).2 k vs [] u [] (hn n0 (Nat.le_refl _))
 refine(RL E args hE H ha).mono fun e w' hp=> ?_
 obtain⟨c,E',rfl,rfl,S,Hl,IG⟩:=hp
 refine⟨c,rfl,by have:=S.below;rwa [hB] at this,hv _ _ ?_⟩
 have hA:∀g,E.A g=none:=fun g=>by
  cases hg:E.A g with
  |none=>rfl
  |some x=>
   obtain⟨o,i,m⟩:=x;have:=H.ar g o i m hg;omega
 have K:Cut 0 [] E' {E with w:=E'.w}:=
  ⟨rfl,fun _ h=>absurd h (Nat.not_lt_zero _),fun b o w _ hs=>⟨⟨fun hu=>hs.1.1 (by rw[S.U];exact hu),fun id i m h=>(by have h:E.A b=_:=h;rw[hA] at h;cases h)⟩,fun id x hx=>(by have hx:E.h[id]?=_:=hx;rw[hE] at hx;simp at hx)⟩,
   fun _ _ _ h=>absurd h (Nat.not_lt_zero _),fun _ h=>absurd h (Nat.not_lt_zero _),Nat.zero_le _,fun _ _ _ _ h=>absurd h (Nat.not_lt_zero _),fun _ _ _ h=>absurd h (Nat.not_lt_zero _),fun _ _ _ _ _ _ _ _ h=>absurd h (Nat.not_lt_zero _),fun _ h=>absurd h (Nat.not_lt_zero _),fun b t cs _ h=>by simp at h⟩
 have:=Rel.cut K u c IG
 rwa [Iw 0 [] u hu] at this
end
theorem aU {E:Env}{z z':Nat}{c:Value}(h:Rel E (.sl z [] none) c):Rel E (.sl z' [] none) c:=by
 obtain⟨⟨A,cap,h1,h2,h3,_,h5⟩,_⟩:=h
 exact⟨⟨A,cap,h1,h2,h3,fun e he=>(by cases he),fun hn=>absurd rfl hn⟩,trivial⟩
end Go.Ai
namespace Go.Proofs.YtopjpnhgnopbiaaGreatDoor
open Go.Ai Go Go.Ai.Sp
set_option maxRecDepth 100000
theorem NO (r:Except (Int×Int) Nd):AP (NV 3 5 r)=true/\AP (NV 0 0 r)=true:=by
 cases r with
 |ok n=>
  have h:=HF n
  constructor<;>simp[NV,AP,AP.Ad,h]
 |error x=>exact⟨rfl,rfl⟩
theorem kT {E:Env}{r:Except (Int×Int) Nd}{c:Value}(h:Rel E (NV 0 0 r) c):Rel E (NV 3 5 r) c:=by
 cases r with
 |ok n=>exact h
 |error x=>
  obtain⟨p,e⟩:=x;obtain⟨a,h1,⟨v1,r1,h2,h3,h4⟩⟩:=h;refine⟨a,h1,⟨v1,r1,h2,?_,h4⟩⟩;obtain⟨b,g1,g2⟩:=h3;refine⟨b,g1,?_⟩;obtain⟨x1,q1,e1,o1,l1,x2,q2,e2,o2,l2,x3,q3,e3,o3,l3,x4,q4,e4,o4,l4,x5,q5,e5,o5,l5,l6⟩:=g2;exact⟨x1,q1,e1,o1,l1,x2,q2,e2,o2,l2,x3,q3,e3,o3,l3,x4,q4,e4,o4,aU l4,x5,q5,e5,o5,aU l5,l6⟩
def Qa :List AV->Option (Bool×AV)
 |[.str s]=>some (true,NV 3 5 (Bi s))
 |_=>none
theorem cZ {I:World->Prop}{B0:Nat}(S0:Sound AU I B0):Ev Tryz.prog AU.G I B0 8 Qa:=by
 intro vs v hv E args hE hB H hr;unfold Qa at hv;split at hv
 ·rename_i s;simp only[Option.some.injEq,Prod.mk.injEq,true_and] at hv;subst hv
  obtain⟨u,h',hc,hh,hu⟩:=c8 [.str s] [] (fun u h=>h=[]/\(u=NV 3 5 (Bi s)\/u=NV 0 0 (Bi s))) ⟨s,rfl,fun n hn=>⟨rfl,.inl (by rw[hn];rfl)⟩,fun p e he z1 z2 hz=>⟨rfl,by
   rw[he]
   rcases hz with ⟨rfl,rfl⟩|⟨rfl,rfl⟩
   ·exact .inl rfl
   ·exact .inr rfl⟩⟩
  subst hh
  rcases hu with rfl|rfl
  ·exact aV S0 hc (NO _).1 (fun _ _ h=>h) E args hE hB H hr
  ·exact aV S0 hc (NO _).2 (fun _ _ h=>kT h) E args hE hB H hr
 ·cases hv
noncomputable def AI:Bm:={cfg with FP:=fun f=>HW f (OS++[(17,Lx.Yy),(8,Qa)])}
end Go.Proofs.YtopjpnhgnopbiaaGreatDoor
end
