/-
  The parser's small functions: contracts.
  A child more: contracts.
  A tag's attributes: contracts.
  A tag's attributes as a whole: its contract.
  What is done with a text, with a raw text: contracts.
  What is done with what closes: its contract.
  What is done with what opens a hidden part, with a tag: contracts.
  What is done with a tag that opens, or is empty: its contract.
  What is done with the kinds of tokens, a map that stands: as a primitive.
  The parser as a whole: its contract.
  The parser as a primitive: out of its contract.
-/
import Derived.Test.YtopjpnhgnopbiaaGreatDoorAJE
import Derived.Test.YtopjpnhgnopbiaaGreatDoorAJA
import Derived.Test.YtopjpnhgnopbiaaGreatDoorAJT
import Derived.Test.YtopjpnhgnopbiaaGreatDoorAAiPrims
import Derived.Test.YtopjpnhgnopbiaaGreatDoorAJF
import Derived.WalkKit
import Derived.ProofKit
import Derived.MapKept
import Derived.WideMake
set_option linter.unusedVariables false
set_option linter.unusedSimpArgs false
set_option linter.unnecessarySimpa false
section
namespace Go.Proofs.YtopjpnhgnopbiaaGreatDoor
open Go.Ai Go Go.Ai.Sp
open Go.Ai.Ex (encAs encT blB limE)
set_option maxRecDepth 100000
theorem LP :AL AU (Ac []):=AY AM
theorem vW :BL AU 66 Tryz.f66:=(by refine⟨?_,?_,?_,?_,?_,?_⟩<;>kernel_rfl)
theorem vP :BL AU 102 Tryz.f102:=(by refine⟨?_,?_,?_,?_,?_,?_⟩<;>kernel_rfl)
theorem nX :BL AU 98 Tryz.f98:=(by refine⟨?_,?_,?_,?_,?_,?_⟩<;>kernel_rfl)
theorem nV :BL AU 124 Tryz.f124:=(by refine⟨?_,?_,?_,?_,?_,?_⟩<;>kernel_rfl)
theorem nW :BL AU 101 Tryz.f101:=(by refine⟨?_,?_,?_,?_,?_,?_⟩<;>kernel_rfl)
theorem nU :BL AU 126 Tryz.f126:=(by refine⟨?_,?_,?_,?_,?_,?_⟩<;>kernel_rfl)
theorem xN :BV AU 62 Tryz.f62:=(by refine⟨?_,?_,?_,?_,?_,?_⟩<;>kernel_rfl)
theorem xM :BV AU 65 Tryz.f65:=(by refine⟨?_,?_,?_,?_,?_,?_⟩<;>kernel_rfl)
theorem xL :BV AU 67 Tryz.f67:=(by refine⟨?_,?_,?_,?_,?_,?_⟩<;>kernel_rfl)
theorem xJ :BV AU 69 Tryz.f69:=(by refine⟨?_,?_,?_,?_,?_,?_⟩<;>kernel_rfl)
theorem zb :CR AU 66 vo:=by
 refine Ax vW fun vs h K ht=> ?_
 obtain⟨s,rfl,hk⟩:=ht;refine⟨_,hk,t47 LP ?_⟩;unfold Bq
 repeat' (refine AA (fun a=> ?_) fun a=> ?_)
 all_goals simp only[*,cond_true,cond_false]
 all_goals rfl
theorem c73 :CR AU 102 mj:=by
 refine Ax vP fun vs h K ht=> ?_
 obtain⟨x,y,rfl,hk⟩:=ht;refine⟨_,hk,t73 LP ?_⟩;unfold Mx
 repeat' (refine AA (fun a=> ?_) fun a=> ?_)
 all_goals simp[*]
theorem SU {n:Nat}(h:n<=2*Bs):IntKind.wrap .i64 ((n:Int)+1)=((n+1:Nat):Int):=by
 unfold Bs at h;rw[BG]<;>omega
theorem qT {n:Nat}(h:n+1<=2*Bs):IntKind.wrap .i64 (((n+1:Nat):Int)-1)=(n:Int):=by
 unfold Bs at h;rw[BG]<;>omega
theorem Dq {α:Type}(f:α->List AV)(l:List α){i:Nat}(h:i<l.length):CH (l.map f) (i:Int)=f l[i]:=by
 unfold CH;simp[h]
theorem CF {i n:Nat}(h:i<n):Dk (i:Int) n=true:=by
 unfold Dk
 rw[decide_eq_true (by omega),decide_eq_true (by omega)];rfl
theorem He {α:Type}(p:α->Bool)(l:List α){i:Nat}(h:i<l.length):(l.drop i).any p=(p l[i]||(l.drop (i+1)).any p):=by
 rw[List.drop_eq_getElem_cons h,List.any_cons]
theorem Qs (l:List (List UInt8))(x:List UInt8)(hl:l.length<=Bs):∀(n i:Nat),l.length-i=n->i<=l.length->∃z:Int,decide (z>=0)=(l.drop i).any (·==x)/\
  AF AU 126 (AB Tryz.f126) (AK Tryz.prog Tryz.f126 (.int .i64 z)) [.code [0,1,0,1],.block 0,.code [1,1]] .normal [(0,true,.sl 1 (l.map fun n=>[.str n]) none),(1,true,.str x),(7,true,.int .i64 l.length),(8,true,.int .i64 i)] []
 |0,i,hn,hi=>by
  refine⟨-1,?_,YA LP (AA (fun a=> ?_) fun _=>rfl)⟩
  ·rw[List.drop_of_length_le (by omega)];rfl
  ·simp at a;omega
 |n+1,i,hn,hi=>by
  have BC:i<l.length:=by omega
  by_cases hx:l[i]=x
  ·refine⟨i,?_,YA LP (AA (fun a=>AD ?_ ⟨l[i],Dq _ l BC,AA (fun _=>rfl) fun b=> ?_⟩) fun a=> ?_)⟩
   ·rw[He _ _ BC,decide_eq_true (by omega)];simp[hx]
   ·rw[List.length_map,CF BC];rfl
   ·simp[hx] at b
   ·simp at a;omega
  ·obtain⟨z,hz,hr⟩:=Qs l x hl n (i+1) (by omega) (by omega)
   refine⟨z,?_,YA LP (AA (fun a=>AD ?_ ⟨l[i],Dq _ l BC,AA (fun b=> ?_) fun b=> ?_⟩) fun a=> ?_)⟩
   ·rw[hz,He _ _ BC];simp[hx]
   ·rw[List.length_map,CF BC];rfl
   ·simp at b;exact absurd b.symm hx
   ·rw[SU (by omega)];exact hr
   ·simp at a;omega
theorem Uj (l:List Int)(x:Int)(hl:l.length<=Bs):∀(n i:Nat),l.length-i=n->i<=l.length->∃z:Int,decide (z>=0)=(l.drop i).any (·==x)/\
  AF AU 124 (AB Tryz.f124) (AK Tryz.prog Tryz.f124 (.int .i64 z)) [.code [0,1,0,1],.block 0,.code [1,1]] .normal [(0,true,.sl 1 (l.map fun n=>[.int .i64 n]) none),(1,true,.int .i64 x),(7,true,.int .i64 l.length),(8,true,.int .i64 i)] []
 |0,i,hn,hi=>by
  refine⟨-1,?_,eu LP (AA (fun a=> ?_) fun _=>rfl)⟩
  ·rw[List.drop_of_length_le (by omega)];rfl
  ·simp at a;omega
 |n+1,i,hn,hi=>by
  have BC:i<l.length:=by omega
  by_cases hx:l[i]=x
  ·refine⟨i,?_,eu LP (AA (fun a=>AD ?_ ⟨l[i],Dq _ l BC,AA (fun _=>rfl) fun b=> ?_⟩) fun a=> ?_)⟩
   ·rw[He _ _ BC,decide_eq_true (by omega)];simp[hx]
   ·rw[List.length_map,CF BC];rfl
   ·simp[hx] at b
   ·simp at a;omega
  ·obtain⟨z,hz,hr⟩:=Uj l x hl n (i+1) (by omega) (by omega)
   refine⟨z,?_,eu LP (AA (fun a=>AD ?_ ⟨l[i],Dq _ l BC,AA (fun b=> ?_) fun b=> ?_⟩) fun a=> ?_)⟩
   ·rw[hz,He _ _ BC];simp[hx]
   ·rw[List.length_map,CF BC];rfl
   ·simp at b;exact absurd b.symm hx
   ·rw[SU (by omega)];exact hr
   ·simp at a;omega
theorem yG :CR AU 126 Sp.gr:=by
 refine Ax nU fun vs h K ht=> ?_
 obtain⟨l,x,rfl,hl,hk⟩:=ht
 obtain⟨z,hz,hr⟩:=Qs l x hl l.length 0 (by omega) (by omega)
 refine⟨_,hk z hz,t88 LP ?_⟩;rw[List.length_map];exact hr
theorem yI :CR AU 124 ly:=by
 refine Ax nV fun vs h K ht=> ?_
 obtain⟨l,x,rfl,hl,hk⟩:=ht
 obtain⟨z,hz,hr⟩:=Uj l x hl l.length 0 (by omega) (by omega)
 refine⟨_,hk z hz,t86 LP ?_⟩;rw[List.length_map];exact hr
theorem rU (l:List (List UInt8)):AO.BJ (l.map fun n=>[AV.str n])=true:=by
 induction l with
 |nil=>rfl
 |cons a r ih=>simp only[List.map_cons,AO.BJ,AO.Ad,AO,ih,Bool.true_and]
theorem vK (l:List Int):AO.BJ (l.map fun n=>[AV.int .i64 n])=true:=by
 induction l with
 |nil=>rfl
 |cons a r ih=>simp only[List.map_cons,AO.BJ,AO.Ad,AO,ih,Bool.true_and]
theorem yJ :CR AU 101 Sp.oC:=by
 refine Ax nW fun vs h K ht=> ?_
 obtain⟨l,x,rfl,hl,hk⟩:=ht
 exact⟨_,hk,t72 (AY (AH yG AM)) ⟨l,x,by rw[As 0 [] _ (rU l)],hl,fun z hz=>by rw[hz]⟩⟩
theorem yL :CR AU 98 oB:=by
 refine Ax nX fun vs h K ht=> ?_
 obtain⟨l,x,rfl,hl,hk⟩:=ht
 exact⟨_,hk,t69 (AY (AH yI AM)) ⟨l,x,by rw[As 0 [] _ (vK l)],hl,fun z hz=>by rw[hz]⟩⟩
theorem Eh {rows:List Row}{r:Hp}(hw:Am.okW rows r){g:Nat}{pl e:Int}{n:Nat}(G:Hp)(hn:n=8+r.length):
  List.map (AN n G) (List.take n (hP g rows pl e++r))=hP g rows pl e++r:=by
 have hl:(hP g rows pl e++r).length=n:=by rw[hn];simp[hP];omega
 obtain⟨h1,h2⟩:=hw n G (by omega)
 rw[<-hl,List.take_length,hl,List.map_append,h2]
 congr 1
 obtain⟨m,rfl⟩:∃m,n=m+8:=⟨r.length,by omega⟩
 have b:∀i,i<8->Nat.blt i (m+8)=true:=fun i h=>Nat.ble_eq_true_of_le (by omega)
 simp only[hP,List.map_cons,List.map_nil,AN,AQ,strip,AE,Ct,h1,b 0 (by omega),b 1 (by omega),b 5 (by omega),cond_true]
theorem Cn {g:Nat}{rows:List Row}{pl e:Int}{r:Hp}:(hP g rows pl e++r).length=8+r.length:=by simp[hP];omega
theorem EX {K:AV->Hp->Prop}{v:AV}{h h':Hp}(e:h'=h)(hk:K v h):K v h':=e▸hk
theorem KL {rows:List Row}{r own:Hp}(hw:Am.okW rows r){g:Nat}{pl e:Int}{n:Nat}{G:Hp}(hn:n=8+r.length):
  List.map (AN n G) (List.take n ((hP g rows pl e++r)++own))=hP g rows pl e++r:=by
 rw[List.take_append_of_le_length (by rw[hn,Cn];exact Nat.le_refl _)]
 exact Eh hw G hn
theorem tN :CR AU 62 K8:=by
 refine BD xN fun vs h K ht=> ?_
 obtain⟨g,row,rows,pl,e,r,hw,hl,rfl,rfl,hk⟩:=ht
 have r9:IntKind.wrap IntKind.i64 (((row::rows).length:Int)-1)=((row::rows).length:Int)-1:=by
  unfold Bs at hl
  rw[BG]<;>simp at hl⊢<;>omega
 refine t43 LP (AD ?_ ⟨AD ?_ ⟨?_,rfl⟩,?_⟩)
 ·rw[decide_eq_true r9];rfl
 ·rw[decide_eq_true r9];rfl
 ·repeat' (first|exact rfl|exact trivial|constructor)
 ·exact EX (Eh hw _ Cn) hk
theorem jr :CR AU 65 Cq:=by
 refine BD xM fun vs h K ht=> ?_
 obtain⟨p,x,g,rows,pl,e,r,hw,rfl,rfl,hk⟩:=ht
 refine t46 LP (AA (fun a=> ?_) fun a=> ?_)
 ·simp only[fE,a,cond_true] at hk;exact EX (Eh hw _ Cn) hk
 ·simp only[fE,a,cond_false] at hk;exact EX (Eh hw _ Cn) hk
theorem Vd :AL AU (Ac [(62,K8)]):=AY (AH tN AM)
theorem gZ {es:List (List AV)}{x:List AV}{n:Nat}(hn:es.length=n+1)(hx:CH es (n:Int)=x):es.getLast? =some x:=by
 have h:n<es.length:=by omega
 have:CH es (n:Int)=es[n]:=by unfold CH;simp[h]
 rw[this] at hx;rw[List.getLast?_eq_getElem?,hn,Nat.add_sub_cancel,List.getElem?_eq_getElem h,hx]
theorem zZ :CR AU 69 Wo:=by
 refine BD xJ fun vs h K ht=> ?_
 obtain⟨g,v0,v1,v2,v3,es,rows,pl,e,r,hw,hl,⟨ZA,Lk⟩,rfl,rfl,hk⟩:=ht
 refine t50 Vd ⟨g,_,_,pl,e,r,hw,hl,rfl,rfl,AD (by simp) (AA (fun a=> ?_) fun a=> ?_)⟩
 ·have:es=[]:=by cases es with
   |nil=>rfl
   |cons=>simp at a;omega
  subst this;exact EX (Eh hw _ Cn) hk
 ·obtain⟨n,hn⟩:∃n,es.length=n+1:=⟨es.length-1,by cases es with
   |nil=>simp at a
   |cons x l=>simp⟩
  have r9:IntKind.wrap .i64 ((es.length:Int)-1)=(n:Int):=by rw[hn];exact qT (by omega)
  rw[r9]
  have iD:CH es (n:Int)∈es:=by
   have h:n<es.length:=by omega
   have:CH es (n:Int)=es[n]:=by unfold CH;simp[h]
   rw[this];exact List.getElem_mem h
  obtain⟨k,w1,w2,w3,w4,hx⟩:=Lk _ iD
  refine AD (by rw[CF (by omega)];rfl) ⟨k,w1,w2,w3,w4,hx,?_⟩
  have sZ:FE es=k:=by unfold FE;rw[gZ hn hx]
  rw[sZ] at hk;exact EX (Eh hw _ Cn) hk
theorem qc :AL AU (Ac [(62,K8),(69,Wo),(98,oB)]):=AY (AH tN (AH zZ (AH yL AM)))
theorem za :CR AU 67 gG:=by
 refine BD xL fun vs h K ht=> ?_
 obtain⟨g,k,x,v1,v2,v3,es,rows,pl,e,r,hw,hl,eD,rfl,rfl,hk⟩:=ht
 have fin:∀{b:Bool} {G:Hp},b=CW k (FE es) x->K (.bool b) (List.map (AN (hP g (BN (.int .i64 k) v1 v2 v3 es::rows) pl e++r).length G) (List.take (hP g (BN (.int .i64 k) v1 v2 v3 es::rows) pl e++r).length (hP g (BN (.int .i64 k) v1 v2 v3 es::rows) pl e++r))):=fun e1=>e1▸EX (Eh hw _ Cn) hk
 refine t48 qc ⟨g,_,_,pl,e,r,hw,hl,rfl,rfl,AD (by simp) (AA (fun a=>AA (fun b=> ?_) fun b=> ?_) fun a=>AA (fun a2=>AA (fun b=> ?_) fun b=> ?_) fun a2=> ?_)⟩
 ·refine⟨g,_,_,_,_,es,rows,pl,e,r,hw,hl,eD,rfl,rfl,AA (fun c=>fin ?_) fun c=>AA (fun d=> ?_) fun d=>fin ?_⟩
  ·simp[CW,a,b,c]
  ·refine⟨g,_,_,_,_,es,rows,pl,e,r,hw,hl,eD,rfl,rfl,fin ?_⟩;simp[CW,a,b,c,d]
  ·simp[CW,a,b,c,d]
 ·refine AA (fun d=> ?_) fun d=>fin ?_
  ·refine⟨g,_,_,_,_,es,rows,pl,e,r,hw,hl,eD,rfl,rfl,fin ?_⟩;simp[CW,a,b,d]
  ·simp[CW,a,b,d]
 ·refine⟨g,_,_,_,_,es,rows,pl,e,r,hw,hl,eD,rfl,rfl,AA (fun c=>fin ?_) fun c=>AA (fun d=> ?_) fun d=>fin ?_⟩
  ·simp[CW,a,a2,b,c]
  ·refine⟨g,_,_,_,_,es,rows,pl,e,r,hw,hl,eD,rfl,rfl,fin ?_⟩;simp[CW,a,a2,b,c,d]
  ·simp[CW,a,a2,b,c,d]
 ·refine AA (fun d=> ?_) fun d=>fin ?_
  ·refine⟨g,_,_,_,_,es,rows,pl,e,r,hw,hl,eD,rfl,rfl,fin ?_⟩;simp[CW,a,a2,b,d]
  ·simp[CW,a,a2,b,d]
 ·refine⟨[8,9,11,12],x,rfl,by simp,?_⟩
  refine EX ?_ ((show(!([8,9,11,12]:List Int).any (·==x))=CW k (FE es) x from ?_)▸hk)
  ·exact KL hw Cn
  ·have h (z:Int):(z==x)=(x==z):=BEq.comm;simp[CW,a,a2,h,Bool.and_assoc]
theorem oq :BV AU 63 Tryz.f63:=(by refine⟨?_,?_,?_,?_,?_,?_⟩<;>kernel_rfl)
theorem IY {rows:List Row}{r:Hp}{x:List AV}(ty:TypeId)(h:Am.okW rows r)(hs:∀n g,8+r.length<=n->AQ n g x=x):Am.okW rows (r++[.mem ty x]):=by
 intro n g hn;rw[List.length_append] at hn
 obtain⟨h1,h2⟩:=h n g (by omega)
 exact⟨h1,by rw[List.map_append,h2,List.map_cons,List.map_nil,AN,hs n g (by omega)]⟩
theorem Uc {v0 v1 v2 v3:AV}{es:List (List AV)}{x:List AV}{rows:List Row}{r:Hp}(h:Am.okW (BN v0 v1 v2 v3 es::rows) r)(he:∀n g,8+r.length<=n->AQ n g x=x):Am.okW (BN v0 v1 v2 v3 (es++[x])::rows) r:=by
 intro n g hn;obtain⟨h1,h2⟩:=h n g hn;refine⟨?_,h2⟩;simp only[BN,List.map_cons,List.cons.injEq,Prod.mk.injEq,AQ,strip,true_and,AV.sl.injEq,and_true] at h1⊢;obtain⟨⟨e0,e1,e2,e3,e4⟩,e5⟩:=h1;refine⟨⟨e0,e1,e2,e3,?_⟩,e5⟩;rw[Db,List.map_append,<-Db,e4,List.map_cons,List.map_nil,he n g hn]
theorem ir {K:AV->Hp->Prop}{g:Nat}{v0 v1 v2 v3:AV}{es:List (List AV)}{rows:List Row}{pl e:Int}{r:Hp}{x:List AV}(hw:Am.okW (BN v0 v1 v2 v3 (es++[x])::rows) r)
  (hk:K (.tup []) (hP g (BN v0 v1 v2 v3 (es++[x])::rows) pl e++r)) {n:Nat} {G own:Hp} (hn:n=8+r.length):
  K (.tup []) (List.map (AN n G) (List.take n ((hP g ((es.length+1,[v0,v1,v2,v3,.sl 5 (es++[x]) none])::rows) pl e++r)++own))):=by
 rw[show es.length+1=(es++[x]).length by simp]
 exact EX (KL hw hn) hk
theorem tM :CR AU 63 (VT 5):=by
 refine BD oq fun vs h K ht=> ?_
 obtain⟨g,v0,v1,v2,v3,es,rows,pl,e,r,nk,na,nt,aa,oa,ks,ow,hw,hl,he,ha,hr,rfl,rfl,hk⟩:=ht
 obtain⟨b0,b1,b2,b3,b4,rfl⟩:∃b0 b1 b2 b3 b4,r=[b0,b1,b2,b3,b4]:=by
  match r,hr with
  |[b0,b1,b2,b3,b4],_=>exact⟨b0,b1,b2,b3,b4,rfl⟩
 have sB:=IY 26 hw ha;have oG:=Uc hw ha
 have g1:Nat.beq g g=true:=by simp
 have g2:(Nat.beq g g&&true&&true&&true&&Nat.beq es.length es.length&&true&&true&&decide ((es.length+1)*80<=140737488355328)&&true&&true)=true:=by
  unfold Bs at he;simp;omega
 have g3:(Nat.beq g g&&true&&Nat.beq g g&&true&&Nat.beq (es++[CZ nk na nt aa oa ks ow]).length (es.length+1)&&true&&true)=true:=by simp
 refine qw Vd ?_
 repeat' (first
  |exact rfl
  |exact trivial
  |exact g1
  |exact g2
  |exact g3
  |refine⟨g,_,_,pl,e,_,sB,hl,rfl,rfl,?_⟩
  |refine AD ?_ ?_
  |exact ir oG hk (own:=[_]) Cn
  |refine⟨?_,?_⟩)
theorem tL :CR AU 63 (VT 6):=by
 refine BD oq fun vs h K ht=> ?_
 obtain⟨g,v0,v1,v2,v3,es,rows,pl,e,r,nk,na,nt,aa,oa,ks,ow,hw,hl,he,ha,hr,rfl,rfl,hk⟩:=ht
 obtain⟨b0,b1,b2,b3,b4,b5,rfl⟩:∃b0 b1 b2 b3 b4 b5,r=[b0,b1,b2,b3,b4,b5]:=by
  match r,hr with
  |[b0,b1,b2,b3,b4,b5],_=>exact⟨b0,b1,b2,b3,b4,b5,rfl⟩
 have sB:=IY 26 hw ha;have oG:=Uc hw ha
 have g1:Nat.beq g g=true:=by simp
 have g2:(Nat.beq g g&&true&&true&&true&&Nat.beq es.length es.length&&true&&true&&decide ((es.length+1)*80<=140737488355328)&&true&&true)=true:=by
  unfold Bs at he;simp;omega
 have g3:(Nat.beq g g&&true&&Nat.beq g g&&true&&Nat.beq (es++[CZ nk na nt aa oa ks ow]).length (es.length+1)&&true&&true)=true:=by simp
 refine qv Vd ?_
 repeat' (first
  |exact rfl
  |exact trivial
  |exact g1
  |exact g2
  |exact g3
  |refine⟨g,_,_,pl,e,_,sB,hl,rfl,rfl,?_⟩
  |refine AD ?_ ?_
  |exact ir oG hk (own:=[_]) Cn
  |refine⟨?_,?_⟩)
theorem pU :CR AU 63 (VT 10):=by
 refine BD oq fun vs h K ht=> ?_
 obtain⟨g,v0,v1,v2,v3,es,rows,pl,e,r,nk,na,nt,aa,oa,ks,ow,hw,hl,he,ha,hr,rfl,rfl,hk⟩:=ht
 obtain⟨b0,b1,b2,b3,b4,b5,b6,b7,b8,b9,rfl⟩:∃b0 b1 b2 b3 b4 b5 b6 b7 b8 b9,r=[b0,b1,b2,b3,b4,b5,b6,b7,b8,b9]:=by
  match r,hr with
  |[b0,b1,b2,b3,b4,b5,b6,b7,b8,b9],_=>exact⟨b0,b1,b2,b3,b4,b5,b6,b7,b8,b9,rfl⟩
 have sB:=IY 26 hw ha;have oG:=Uc hw ha
 have g1:Nat.beq g g=true:=by simp
 have g2:(Nat.beq g g&&true&&true&&true&&Nat.beq es.length es.length&&true&&true&&decide ((es.length+1)*80<=140737488355328)&&true&&true)=true:=by
  unfold Bs at he;simp;omega
 have g3:(Nat.beq g g&&true&&Nat.beq g g&&true&&Nat.beq (es++[CZ nk na nt aa oa ks ow]).length (es.length+1)&&true&&true)=true:=by simp
 refine mw Vd ?_
 repeat' (first
  |exact rfl
  |exact trivial
  |exact g1
  |exact g2
  |exact g3
  |refine⟨g,_,_,pl,e,_,sB,hl,rfl,rfl,?_⟩
  |refine AD ?_ ?_
  |exact ir oG hk (own:=[_]) Cn
  |refine⟨?_,?_⟩)
end Go.Proofs.YtopjpnhgnopbiaaGreatDoor
end
section
namespace Go.Proofs.YtopjpnhgnopbiaaGreatDoor
open Go.Ai Go Go.Ai.Sp
open Go.Ai.Ex (encAs encT blB limE)
set_option maxRecDepth 100000
theorem xB :BV AU 100 Tryz.f100:=(by refine⟨?_,?_,?_,?_,?_,?_⟩<;>kernel_rfl)
theorem oi :BV AU 125 Tryz.f125:=(by refine⟨?_,?_,?_,?_,?_,?_⟩<;>kernel_rfl)
theorem oo :BV AU 99 Tryz.f99:=(by refine⟨?_,?_,?_,?_,?_,?_⟩<;>kernel_rfl)
theorem xK :BV AU 68 Tryz.f68:=(by refine⟨?_,?_,?_,?_,?_,?_⟩<;>kernel_rfl)
theorem c71 :CR AU 100 bM:=by
 refine BD xB fun vs h K ht=> ?_
 obtain⟨g,rows,pl,e,b0,b1,b2,b3,b4,b5,b6,wd,an,av,ap,hw,rfl,rfl,hk⟩:=ht;refine t71 LP ?_;exact EX (KL hw (own:=[_]) Cn) hk
theorem eY :AL AU (Ac [(100,bM)]):=AY (AH c71 AM)
section
variable {g:Nat}{rows:List Row}{pl e:Int}{b0 b1 b2 b3 b4 b5 b6:Blk}{wd:List UInt8}{l:List Ex.Ak}
theorem Qt {K:AV->Hp->Prop}(hw:Am.okW rows [b0,b1,b2,b3,b4,b5,b6,.mem 9 [.str wd]])(hl:l.length<=Bs)(hk:∀z:Int,decide (z>=0)=(l.any fun a=>a.name==wd)->K (.int .i64 z) (hP g rows pl e++[b0,b1,b2,b3,b4,b5,b6,.mem 9 [.str wd]])):
  ∀(n i:Nat),l.length-i=n->i<=l.length->(l.take i).any (fun a=>a.name==wd)=false->
  AF AU 125 (AB Tryz.f125) (AX Tryz.prog Tryz.f125 ((hP g rows pl e++[b0,b1,b2,b3,b4,b5,b6,.mem 9 [.str wd]]).length) K) [.code [0,1,0,1],.block 0,.code [1,1]] .normal [(0,true,.sl 3 (encAs l) none),(1,true,.fn (.func 100) [] [.ptr 15 0]),(7,true,.int .i64 l.length),(8,true,.int .i64 i)] (hP g rows pl e++[b0,b1,b2,b3,b4,b5,b6,.mem 9 [.str wd]])
 |0,i,hn,hi,hp=>by
  refine er eY (AA (fun a=> ?_) fun _=> ?_)
  ·simp at a;omega
  ·refine EX (Eh hw _ Cn) (hk _ ?_)
   rw[List.take_of_length_le (by omega)] at hp
   rw[hp];rfl
 |n+1,i,hn,hi,hp=>by
  have BC:i<l.length:=by omega
  have hlen:(encAs l).length=l.length:=by simp[encAs]
  refine er eY (AA (fun a=>AD ?_ ⟨_,_,_,Dq _ l BC,g,rows,pl,e,b0,b1,b2,b3,b4,b5,b6,wd,_,_,_,hw,rfl,rfl,AA (fun b=> ?_) fun b=> ?_⟩) fun a=> ?_)
  ·rw[hlen,CF BC];rfl
  ·refine EX (Eh hw _ Cn) (hk _ ?_)
   rw[decide_eq_true (by omega)]
   symm;rw[List.any_eq_true];exact⟨_,List.getElem_mem BC,b⟩
  ·rw[SU (by omega)]
   refine Qt hw hl hk n (i+1) (by omega) (by omega) ?_
   rw[List.take_succ_eq_append_getElem BC,List.any_append,hp];simpa using b
  ·simp at a;omega
end
theorem yH :CR AU 125 mO:=by
 refine BD oi fun vs h K ht=> ?_
 obtain⟨g,rows,pl,e,b0,b1,b2,b3,b4,b5,b6,wd,l,hw,hl,rfl,rfl,hk⟩:=ht;refine t87 eY ?_
 have hlen:(encAs l).length=l.length:=by simp[encAs]
 rw[hlen]
 exact Qt hw hl hk l.length 0 (by omega) (by omega) rfl
theorem yK :CR AU 99 ia:=by
 refine BD oo fun vs h K ht=> ?_
 obtain⟨g,rows,pl,e,b0,b1,b2,b3,b4,b5,b6,wd,l,hw,hl,rfl,rfl,hk⟩:=ht
 refine t70 (AY (AH yH AM)) ⟨g,rows,pl,e,b0,b1,b2,b3,b4,b5,b6,wd,l,hw,hl,rfl,rfl,fun z hz=> ?_⟩
 rw[hz];exact EX (Eh hw _ Cn) hk
end Go.Proofs.YtopjpnhgnopbiaaGreatDoor
end
section
namespace Go.Proofs.YtopjpnhgnopbiaaGreatDoor
open Go.Ai Go Go.Ai.Sp
open Go.Ai.Ex (encAs encT blB limE)
set_option maxRecDepth 100000
theorem Hb {C:Bm}{k:Nat}{t t':Ce}(h:CR C k t)(w:∀vs h K,t' vs h K->t vs h K):CR C k t':=fun l g K ht=>h l g K (w _ _ _ ht)
theorem Qj {rows:List Row}(h:Am.kQ rows)(n:Nat)(g:Hp)(hn:4<=n):rows.map (fun x=>(x.1,AQ n g x.2))=rows:=by
 conv=>rhs;rw[<-List.map_id rows]
 exact List.map_congr_left fun r hr=>by rw[DB n g _ (h r hr n hn)];rfl
theorem Ud {rows:List Row}(h:Am.kQ rows)(n:Nat)(hn:4<=n):(rows.all fun r=>CB n r.2)=true:=List.all_eq_true.2 fun r hr=>h r hr n hn
def Jj :Blk->Bool
 |.mem _ cs=>AO.Ad cs
 |.Bi .. =>false
 |_=>true
theorem OO {b:Blk}(h:Jj b=true)(n:Nat)(g:Hp):AN n g b=b:=by
 cases b with
 |mem t cs=>rw[AN,Aw n g cs h]
 |Bi=>cases h
 |_=>rfl
theorem HN {rows:List Row}{r:Hp}(h:Am.kQ rows)(hr:r.all Jj=true):Am.okW rows r:=fun n g hn=>⟨Qj h n g (by omega),by
 conv=>rhs;rw[<-List.map_id r]
 exact List.map_congr_left fun b hb=>OO (List.all_eq_true.1 hr b hb) n g⟩
theorem IV (l:List (List UInt8)):AO.BJ (l.map fun n=>[AV.str n])=true:=rU l
theorem Jk (l:List Ex.Ak):AO.BJ (encAs l)=true:=by
 unfold encAs
 induction l with
 |nil=>rfl
 |cons a r ih=>simp only[List.map_cons,Ex.Ao,AO.BJ,AO.Ad,AO,ih,Bool.true_and]
theorem UJ {tk fr to:Int}{nm tx:List UInt8}(l:List Ex.Ak):AO.Ad (LB tk fr to nm tx (encAs l))=true:=by
 have:=Jk l;simp[LB,AO.Ad,AO,this]
theorem YT (x:El):AO.Ad (Jd x)=true:=by
 have:=IV x.names;simp[Jd,AO.Ad,AO,this]
theorem IU {tk fr to:Int}{nm tx:List UInt8}(l:List Ex.Ak)(x:El):(Gi (LB tk fr to nm tx (encAs l)) x).all Jj=true:=by
 simp[Gi,Jj,UJ,YT]
def Xd (x:El)(l:List Ex.Ak)(s:Int×Int):Int×Int:=l.foldl (fun s a=>bif !(x.names.any (·==a.name))|| !Mx a.name a.value then fE a.at' 12 s.1 s.2 else s) s
def lT (fr:Int)(l:List Ex.Ak)(ns:List (List UInt8))(s:Int×Int):Int×Int:=ns.foldl (fun s nm=>bif !(l.any fun a=>a.name==nm) then fE fr 12 s.1 s.2 else s) s
section
variable {g:Nat}{rows:List Row}{x:El}{tk fr to:Int}{nm tx:List UInt8}{l:List Ex.Ak}{K:AV->Hp->Prop}
theorem eZ (hr:Am.kQ rows):AL AU (Ac [(101,Sp.oC),(102,mj),(65,mQ g rows (Blk.grow 0 3 80) (Blk.mem 50 (LB tk fr to nm tx (encAs l))) (Blk.mem 50 (LB tk fr to nm tx (encAs l))) (Blk.grow 0 1 9) (Blk.mem 114 (Jd x)) (Blk.mem 114 (Jd x)) (Blk.mem 50 (LB tk fr to nm tx (encAs l))))]):=
 AY (AH yJ (AH c73 (AH (Hb jr fun vs h K ht=>by
  obtain⟨p,y,pl,e,w,v,q,rfl,rfl,hk⟩:=ht
  exact⟨p,y,g,rows,pl,e,_,HN hr (by simp[Jj,UJ,YT,AO.Ad,AO]),rfl,rfl,hk⟩) AM)))
theorem lv :AJ 15 (encAs l)=true:=DD 15 _ (Jk l)
theorem gN :AJ 15 (x.names.map fun n=>[AV.str n])=true:=DD 15 _ (IV _)
theorem Pa (hr:Am.kQ rows)(hx:x.names.length<=Bs)(hl:l.length<=Bs):∀(n i:Nat) (pl e:Int),l.length-i=n->i<=l.length->K (.tup []) (hP g rows (Xd x (l.drop i) (pl,e)).1 (Xd x (l.drop i) (pl,e)).2++Gi (LB tk fr to nm tx (encAs l)) x)->
  AF AU 68 (AB Tryz.f68) (AX Tryz.prog Tryz.f68 ((hP g rows pl e++Gi (LB tk fr to nm tx (encAs l)) x).length) K) ([.code [0,1,1,1],.block 2]) .normal [(0,true,.ptr 7 0),(4,true,.ptr 13 0),(31,true,.sl 3 (encAs l) none),(32,true,.int .i64 l.length),(33,true,.int .i64 i)]
   (hP g rows pl e++Gi (LB tk fr to nm tx (encAs l)) x++[.mem 114 (Jd x),.mem 50 (LB tk fr to nm tx (encAs l))])
 |0,i,pl,e,hn,hi,hk=>by
  refine qt (eZ hr) (AA (fun a=> ?_) fun _=> ?_)
  ·simp at a;omega
  ·rw[List.drop_of_length_le (by omega)] at hk
   exact EX (KL (HN hr (IU l x)) (own:=[_,_]) Cn) hk
 |n+1,i,pl,e,hn,hi,hk=>by
  have BC:i<l.length:=by omega
  have hlen:(encAs l).length=l.length:=by simp[encAs]
  rw[List.drop_eq_getElem_cons BC] at hk
  have SG:(AJ 15 (encAs l)&&true&&true&&((List.all rows fun(r:Nat×List AV)↦CB 15 (Prod.snd r))&&(AJ 15 (encAs l)&&true&&true&&(AJ 15 (encAs l)&&true&&true&&(AJ 15 (x.names.map fun n=>[AV.str n])&&true&&true&&(AJ 15 (x.names.map fun n=>[AV.str n])&&true&&true&&(AJ 15 (encAs l)&&true&&true&&true)))))))=true:=by
   rw[lv,gN,Ud hr 15 (by decide)];rfl
  have go:∀kE e',(kE,e')=(bif !(x.names.any (·==l[i].name))|| !Mx l[i].name l[i].value then fE l[i].at' 12 pl e else(pl,e))->K (.tup []) (hP g rows (Xd x (l.drop (i+1)) (kE,e')).1 (Xd x (l.drop (i+1)) (kE,e')).2++Gi (LB tk fr to nm tx (encAs l)) x):=fun kE e' he=>by
   rw[he];exact hk
  have wr:IntKind.wrap .i64 ((i:Int)+1)=((i+1:Nat):Int):=SU (by omega)
  refine qt (eZ hr) (AA (fun a=>AD ?_ ⟨_,_,_,Dq _ l BC,x.names,_,by rw[As 0 [] _ (IV _)],hx,AA (fun b=> ?_) fun b=>⟨_,_,rfl,AA (fun c=> ?_) fun c=> ?_⟩⟩) fun a=> ?_)
  ·rw[hlen,CF BC];rfl
  ·refine⟨_,_,pl,e,_,_,_,rfl,rfl,AD SG ?_⟩;rw[wr]
   exact Pa hr hx hl n (i+1) _ _ (by omega) (by omega) (go _ _ (by rw[b];rfl))
  ·refine⟨_,_,pl,e,_,_,_,rfl,rfl,AD SG ?_⟩;rw[wr]
   exact Pa hr hx hl n (i+1) _ _ (by omega) (by omega) (go _ _ (by rw[b,c];rfl))
  ·refine AD SG ?_;rw[wr]
   exact Pa hr hx hl n (i+1) _ _ (by omega) (by omega) (go _ _ (by rw[b,c];rfl))
  ·simp at a;omega
theorem ec (hr:Am.kQ rows):AL AU (Ac [(99,ia),(65,mP g rows (Blk.grow 0 3 80) (Blk.mem 50 (LB tk fr to nm tx (encAs l))) (Blk.mem 50 (LB tk fr to nm tx (encAs l))) (Blk.grow 0 1 9) (Blk.mem 114 (Jd x)) (Blk.mem 114 (Jd x)) (Blk.mem 50 (LB tk fr to nm tx (encAs l))))]):=
 AY (AH yK (AH (Hb jr fun vs h K ht=>by
  obtain⟨p,y,pl,e,w,rfl,rfl,hk⟩:=ht
  exact⟨p,y,g,rows,pl,e,_,HN hr (by simp[Jj,UJ,YT,AO.Ad,AO]),rfl,rfl,hk⟩) AM))
theorem Uk (hr:Am.kQ rows)(hx:x.names.length<=Bs)(hl:l.length<=Bs)(ns:List (List UInt8))(Rx:ns.length<=Bs):∀(n i:Nat) (pl e:Int),ns.length-i=n->i<=ns.length->K (.tup []) (hP g rows (Xd x l (lT fr l (ns.drop i) (pl,e))).1 (Xd x l (lT fr l (ns.drop i) (pl,e))).2++Gi (LB tk fr to nm tx (encAs l)) x)->
  AF AU 68 (AB Tryz.f68) (AX Tryz.prog Tryz.f68 ((hP g rows pl e++Gi (LB tk fr to nm tx (encAs l)) x).length) K) ([.code [0,1,0,1],.block 0,.code [1,1]]) .normal [(0,true,.ptr 7 0),(4,true,.ptr 13 0),(5,true,.ptr 14 0),(14,true,.sl 1 (ns.map fun n=>[.str n]) none),(15,true,.int .i64 ns.length),(16,true,.int .i64 i)]
   (hP g rows pl e++Gi (LB tk fr to nm tx (encAs l)) x++[.mem 114 (Jd x),.mem 50 (LB tk fr to nm tx (encAs l))])
 |0,i,pl,e,hn,hi,hk=>by
  refine qu (ec hr) (AA (fun a=> ?_) fun _=> ?_)
  ·simp at a;omega
  ·rw[List.drop_of_length_le (by omega)] at hk
   have hlen:(encAs l).length=l.length:=by simp[encAs]
   have:=Pa (g:=g) (K:=K) (x:=x) (tk:=tk) (fr:=fr) (to:=to) (nm:=nm) (tx:=tx) hr hx hl l.length 0 pl e (by omega) (by omega) hk
   rw[<-hlen] at this;exact this
 |n+1,i,pl,e,hn,hi,hk=>by
  have BC:i<ns.length:=by omega
  have hlen:(ns.map fun n=>[AV.str n]).length=ns.length:=by simp
  rw[List.drop_eq_getElem_cons BC] at hk
  have SG:(AJ 15 (ns.map fun n=>[AV.str n])&&true&&true&&((List.all rows fun(r:Nat×List AV)↦CB 15 (Prod.snd r))&&(AJ 15 (encAs l)&&true&&true&&(AJ 15 (encAs l)&&true&&true&&(AJ 15 (x.names.map fun n=>[AV.str n])&&true&&true&&(AJ 15 (x.names.map fun n=>[AV.str n])&&true&&true&&(AJ 15 (encAs l)&&true&&true&&true)))))))=true:=by
   rw[lv,gN,Ud hr 15 (by decide),DD 15 _ (IV ns)];rfl
  have go:∀kE e',(kE,e')=(bif !(l.any fun a=>a.name==ns[i]) then fE fr 12 pl e else(pl,e))->K (.tup []) (hP g rows (Xd x l (lT fr l (ns.drop (i+1)) (kE,e'))).1 (Xd x l (lT fr l (ns.drop (i+1)) (kE,e'))).2++Gi (LB tk fr to nm tx (encAs l)) x):=fun kE e' he=>by
   rw[he];exact hk
  have wr:IntKind.wrap .i64 ((i:Int)+1)=((i+1:Nat):Int):=SU (by omega)
  refine qu (ec hr) (AA (fun a=>AD ?_ ⟨_,Dq _ ns BC,g,rows,pl,e,_,_,_,_,_,_,_,_,l,HN hr ?_,hl,rfl,rfl,AA (fun b=> ?_) fun b=> ?_⟩) fun a=> ?_)
  ·rw[hlen,CF BC];rfl
  ·have h1:=Jk l;have h2:=IV x.names;simp[Jj,AO.Ad,AO,h1,h2]
  ·refine⟨_,_,pl,e,_,rfl,rfl,AD SG ?_⟩;rw[wr]
   exact Uk hr hx hl ns Rx n (i+1) _ _ (by omega) (by omega) (go _ _ (by rw[b];rfl))
  ·refine AD SG ?_;rw[wr]
   exact Uk hr hx hl ns Rx n (i+1) _ _ (by omega) (by omega) (go _ _ (by rw[b];rfl))
  ·simp at a;omega
end
theorem c49 :CR AU 68 pZ:=by
 refine BD xK fun vs h K ht=> ?_
 obtain⟨g,rows,pl,e,x,tk,fr,to,nm,tx,l,hr,hm,hx,hl,rfl,rfl,hk⟩:=ht
 have hc:Dh (x.names.map fun n=>[AV.str n]) none (some ((x.Ci:Nat):Int))=(x.names.take x.Ci).map fun n=>[AV.str n]:=by
  simp[Dh]
 refine t49 LP (AD ?_ ?_)
 ·simp only[CL,List.length_map]
  rw[decide_eq_true (by omega),decide_eq_true (by omega)];rfl
 ·rw[hc,List.length_map]
  exact Uk hr hx hl (x.names.take x.Ci) (by rw[List.length_take];omega) _ 0 pl e rfl (by omega) hk
end Go.Proofs.YtopjpnhgnopbiaaGreatDoor
end
section
namespace Go.Proofs.YtopjpnhgnopbiaaGreatDoor
open Go.Ai Go Go.Ai.Sp
open Go.Ai.Ex (encAs encT)
set_option maxRecDepth 100000
theorem xU :BV AU 40 Tryz.f40:=(by refine⟨?_,?_,?_,?_,?_,?_⟩<;>kernel_rfl)
theorem xT :BV AU 41 Tryz.f41:=(by refine⟨?_,?_,?_,?_,?_,?_⟩<;>kernel_rfl)
theorem tS (c:UInt8):Ex.blB c=([32,9,10,13]:List UInt8).contains c:=by
 simp only[Ex.blB,List.contains_cons,List.contains_nil,Bool.or_false,Bool.or_assoc]
theorem c45 :CR AU 64 eP:=by
 refine Fj (g:=KQ) (by kernel_rfl) (by kernel_rfl) (by kernel_rfl) (by kernel_rfl) fun vs h K ht=> ?_
 obtain⟨s,hs,rfl,hk⟩:=ht;refine⟨.str (Dm s),hk,?_⟩
 have e:Dm s=Lib.trimLeftS s [32,9,10,13]:=by
  unfold Dm Lib.trimLeftS
  congr 1
  funext c
  exact tS c
 rw[e];rfl
theorem MF (r:List Nd){n:Nat}(h:4<=n):Ct n (NP r)=NP r/\(match NP r with|some id=>Nat.blt id n|none=>true)=true:=by
 cases r with
 |nil=>
  have:Nat.blt 3 n=true:=Nat.ble_eq_true_of_le h
  exact⟨by simp only[NP,Ct,this,cond_true],this⟩
 |cons a l=>exact⟨rfl,rfl⟩
theorem gL {o:Option Nat}{n:Nat}(ho:(match o with|some id=>Nat.blt id n|none=>true)=true)(m:Nd):CB n (YP o m).2=true:=by
 have h1:=FC n m.attrs;have h2:=HB n m.kids;unfold YP BN;simp only[CB,Ed,h1,h2,Bool.true_and,Bool.and_true];exact ho
theorem Cv :∀l:List Nd,Am.kQ (AZ l)
 |[],r,hr=>by cases hr
 |n::l,r,hr=>by
  rcases List.mem_cons.1 hr with rfl|hr
  ·exact fun m hm=>gL (MF l hm).2 n
  ·exact Cv l r hr
theorem Bz :∀l:List Nd,(AZ l).length=l.length
 |[]=>rfl
 |n::l=>by simp[AZ,Bz l]
theorem E9 (t:Ex.Tok):AO.Ad (encT t)=true:=by
 have:=Jk t.attrs;simp[Ex.encT,AO.Ad,AO,this]
theorem Sn (t:Ex.Tok):(CS t).all Jj=true:=by simp[CS,Jj,E9]
theorem Ub (l:List Nd)(t:Ex.Tok):Am.okW (AZ l) (CS t):=HN (Cv l) (Sn t)
theorem Ng {l:List Nd}(h:l.length<=Bs):Nh (Ag l):=by
 refine⟨by rw[BK];exact h,fun x hx=> ?_⟩
 rw[FG] at hx;obtain⟨n,_,rfl⟩:=List.mem_map.1 hx;exact⟨_,_,_,_,_,BW n⟩
theorem ML (l:List Nd):FE (Ag l)=BA l:=by
 unfold FE BA;rw[FG,List.getLast?_map]
 cases l.getLast? with
 |none=>rfl
 |some n=>simp only[Option.map_some,BW]
theorem EL {rows:List Row}{r own:Hp}{g:Nat}{pl e:Int}{n:Nat}{G:Hp}(hn:n=8+r.length):
  List.map (AN n G) (List.take n (hP g rows pl e++(r++own)))=hP g (rows.map fun x=>(x.1,AQ n G x.2)) pl e++r.map (AN n G):=by
 have hl:(hP g rows pl e++r).length=n:=by rw[hn];simp[hP];omega
 rw[<-List.append_assoc,<-hl,List.take_left' rfl,hl,List.map_append]
 congr 1
 obtain⟨m,rfl⟩:∃m,n=m+8:=⟨r.length,by omega⟩
 have b:∀i,i<8->Nat.blt i (m+8)=true:=fun i h=>Nat.ble_eq_true_of_le (by omega)
 simp only[hP,List.map_cons,List.map_nil,AN,AQ,strip,AE,Ct,b 0 (by omega),b 1 (by omega),b 5 (by omega),cond_true,List.length_map]
theorem Iu {o:Option Nat}{nk np:Int}{nt:List UInt8}{na:List Go.Ai.Ak}{Ba:List Nd}{k p:Int}{t:List UInt8}{al:List Go.Ai.Ak}{ks:List Nd}{G:Hp}{oa ow:Option Nat}{m:Nat}(ho:Ct m o=o)(ha:Ct m oa=none)(hw:Ct m ow=none):
  ((BN (.int .i64 nk) (.int .i64 np) (.str nt) (.sl 3 (na.map Go.Ai.Ao) o) (Ag Ba++[CZ k p t (al.map Go.Ai.Ao) oa (Ag ks) ow])).1,
   AQ m G (BN (.int .i64 nk) (.int .i64 np) (.str nt) (.sl 3 (na.map Go.Ai.Ao) o) (Ag Ba++[CZ k p t (al.map Go.Ai.Ao) oa (Ag ks) ow])).2)=YP o (Dv (.mk nk np nt na Ba) (.mk k p t al ks)):=by
 have h1:∀l:List Nd,AE m G (Ag l)=Ag l:=fun l=>As _ _ _ (Ey l)
 have h2:∀l:List Go.Ai.Ak,AE m G (l.map Go.Ai.Ao)=l.map Go.Ai.Ao:=fun l=>As _ _ _ (Df l)
 have h3:AQ m G (CZ k p t (al.map Go.Ai.Ao) oa (Ag ks) ow)=ES (.mk k p t al ks):=by
  unfold CZ;rw[AQ,AQ,AQ,AQ,AQ,AQ,Ck,Ck,h1,h2,ha,hw];rfl
 have h4:AE m G (Ag Ba++[CZ k p t (al.map Go.Ai.Ao) oa (Ag ks) ow])=Ag (Ba++[.mk k p t al ks]):=by
  rw[Db,List.map_append,<-Db,h1,List.map_cons,List.map_nil,h3,FG,FG,List.map_append];rfl
 unfold BN;simp only;rw[AQ,AQ,AQ,AQ,AQ,AQ,Ck,Ck,h4,h2,ho];show(_,[AV.int .i64 nk,AV.int .i64 np,AV.str nt,AV.sl 3 (na.map Go.Ai.Ao) o,AV.sl 5 (Ag (Ba++[.mk k p t al ks])) none])=((Ag (Ba++[.mk k p t al ks])).length,_);rw[BK,List.length_append,List.length_append,BK];rfl
theorem De (l:List Nd)(m:Nat)(G:Hp)(hm:4<=m):(AZ l).map (fun x=>(x.1,AQ m G x.2))=AZ l:=Qj (Cv l) m G hm
theorem EK (t:Ex.Tok)(m:Nat)(G:Hp):(CS t).map (AN m G)=CS t:=by
 conv=>rhs;rw[<-List.map_id (CS t)]
 exact List.map_congr_left fun b hb=>OO (List.all_eq_true.1 (Sn t) b hb) m G
theorem c27 :CR AU 41 (JH LK Ht):=by
 refine BD xT fun vs h K ht=> ?_
 obtain⟨g,s,t,BM,⟨Hf,Ku⟩,yj,-,rfl,rfl,hk⟩:=ht;obtain⟨rows,pl,e⟩:=s
 cases rows with
 |nil=>exact absurd rfl BM
 |cons n r=>
  obtain⟨nk,np,nt,na,Ba⟩:=n
  have hw:=IY 50 (Ub (.mk nk np nt na Ba::r) t) (x:=encT t) fun m G _=>Aw m G _ (E9 t)
  have hl:(AZ (Nd.mk nk np nt na Ba::r)).length<=Bs:=by rw[Bz];exact Nat.le_of_lt Hf
  have g1:(Nat.beq g g&&true&&true&&true)=true:=by simp
  refine t27 Vd ?_
  repeat' (first
   |exact rfl
   |exact trivial
   |exact g1
   |refine⟨g,_,_,pl,e,_,hw,hl,rfl,rfl,?_⟩
   |refine AD ?_ ?_
   |exact EX ((EL (own:=[_]) (r:=CS t) (rows:=AZ (Nd.mk nk np t.text na Ba::r)) Cn).trans (by rw[De,EK]<;>first|rfl|(rw[Cn];omega))) (hk g)
   |refine⟨?_,?_⟩)
theorem qg :AL AU (Ac [(62,K8),(63,VT 5),(64,eP),(65,Cq)]):=AY (AH tN (AH tM (AH c45 (AH jr AM))))
theorem GM (g:Nat):Nat.beq g g=true:=by simp
theorem OR {k p:Int}{t:List UInt8}{al:List Go.Ai.Ak}{oa ow:Option Nat}{n:Nat}{G:Hp}(h1:Ct n oa=oa)(h2:Ct n ow=ow):AQ n G (CZ k p t (al.map Go.Ai.Ao) oa [] ow)=CZ k p t (al.map Go.Ai.Ao) oa [] ow:=by
 have h:AE n G (al.map Go.Ai.Ao)=al.map Go.Ai.Ao:=As _ _ _ (Df al);unfold CZ;rw[AQ,AQ,AQ,AQ,AQ,AQ,Ck,Ck,h,h1,h2];rfl
theorem Pb {n id:Nat}(h:id<n):Ct n (some id)=some id:=by
 simp only[Ct,Nat.blt,Nat.ble_eq_true_of_le (show id+1<=n from h),cond_true]
theorem Pc {n id:Nat}(h:n<=id):Ct n (some id)=none:=by
 have:Nat.blt id n=false:=by
  rw[Bool.eq_false_iff];intro e;have:=Nat.le_of_ble_eq_true e;omega
 simp only[Ct,this,cond_false]
theorem eO (s:List UInt8):(Dm s).length<=s.length:=(List.dropWhile_suffix _).length_le
theorem c26 :CR AU 40 (JH EA Ht):=by
 refine BD xU fun vs h K ht=> ?_
 obtain⟨g,s,t,BM,⟨Hf,Ku⟩,⟨sG,sF,wP,sE,wO⟩,-,rfl,rfl,hk⟩:=ht;obtain⟨rows,pl,e⟩:=s
 cases rows with
 |nil=>exact absurd rfl BM
 |cons n r=>
  obtain⟨nk,np,nt,na,Ba⟩:=n;have sA:=Ub (.mk nk np nt na Ba::r) t
  have hw:=IY 50 sA (x:=encT t) fun m G _=>Aw m G _ (E9 t)
  have hw5:Am.okW (BN (.int .i64 nk) (.int .i64 np) (.str nt) (.sl 3 (na.map Go.Ai.Ao) (NP r)) (Ag Ba)::AZ r) (CS t++[.mem 50 (encT t)]++[.grow 0 3 80,.grow 0 5 26]):=HN (Cv (.mk nk np nt na Ba::r)) (by simp[CS,Jj,E9])
  have hl:(AZ (Nd.mk nk np nt na Ba::r)).length<=Bs:=by rw[Bz];exact Nat.le_of_lt Hf
  have SH:(Ag Ba).length<Bs:=by rw[BK];exact Ku _ List.mem_cons_self
  have wr:IntKind.wrap .i64 ((t.to:Int)-((Dm t.text).length:Nat))=(t.to:Int)-((Dm t.text).length:Nat):=by
   have:=eO t.text;unfold Bs at sF
   rw[BG]<;>omega
  have trimmed:(nk==7||nk==10)=true->∃(tX:List UInt8),List.length tX<=1000000000000/\[AV.str t.text,AV.str [32,9,10,13]]=[AV.str tX,AV.str [32,9,10,13]]/\Ap (!Dm tX==[]) (∃(rY:Int),∃(qR:Int),∃(xz:Nat),∃(T9:List Row),∃(fh:Int),∃(tB:Int),∃(tY:Hp),Am.okW T9 tY/\[AV.ptr 7 0,AV.int IntKind.i64 (IntKind.wrap IntKind.i64 ((t.to:Int)-(↑(List.length (Dm tX)):Int))),AV.int IntKind.i64 13]=[AV.ptr 7 0,AV.int IntKind.i64 rY,AV.int IntKind.i64 qR]/\
    hP g (AZ (Nd.mk nk np nt na Ba::r)) pl e++(CS t++[.mem 50 (encT t)])=hP xz T9 fh tB++tY/\
    K (.tup []) (List.map (AN (hP g (AZ (Nd.mk nk np nt na Ba::r)) pl e++CS t).length (hP xz T9 (fE rY qR fh tB).1 (fE rY qR fh tB).2++tY)) (List.take (hP g (AZ (Nd.mk nk np nt na Ba::r)) pl e++CS t).length (hP xz T9 (fE rY qR fh tB).1 (fE rY qR fh tB).2++tY))))
    (K (.tup []) (List.map (AN (hP g (AZ (Nd.mk nk np nt na Ba::r)) pl e++CS t).length (hP g (AZ (Nd.mk nk np nt na Ba::r)) pl e++(CS t++[.mem 50 (encT t)]))) (List.take (hP g (AZ (Nd.mk nk np nt na Ba::r)) pl e++CS t).length (hP g (AZ (Nd.mk nk np nt na Ba::r)) pl e++(CS t++[.mem 50 (encT t)]))))):=fun RB=>by
   have hp:EA t ⟨.mk nk np nt na Ba::r,pl,e⟩=bif (Dm t.text).isEmpty then⟨.mk nk np nt na Ba::r,pl,e⟩ else Fz ((t.to:Int)-(Dm t.text).length) 13 ⟨.mk nk np nt na Ba::r,pl,e⟩:=by
    show(bif nk==7||nk==10 then _ else _)=_;rw[RB];rfl
   refine⟨t.text,sG,rfl,AA (fun a=> ?_) fun a=> ?_⟩
   ·have he:(Dm t.text).isEmpty=false:=by
     cases h:Dm t.text with
     |nil=>rw[h] at a;cases a
     |cons=>rfl
    rw[hp,he] at hk;refine⟨_,_,g,_,pl,e,_,hw,rfl,rfl,?_⟩;rw[wr]
    exact EX ((EL (own:=[_]) Cn).trans (by rw[De,EK]<;>first|rfl|(rw[Cn];omega))) (hk g)
   ·have he:(Dm t.text).isEmpty=true:=by
     cases h:Dm t.text with
     |nil=>rfl
     |cons=>rw[h] at a;cases a
    rw[hp,he] at hk
    exact EX ((EL (own:=[_]) Cn).trans (by rw[De,EK]<;>first|rfl|(rw[Cn];omega))) (hk g)
  refine t26 qg ⟨g,_,_,pl,e,_,hw,hl,rfl,rfl,AD (GM g) (AA (fun a=>AA (fun b=> ?_) fun b=> ?_) fun a=> ?_)⟩
  ·have RB:(nk==7||nk==10)=false:=by
    simp only[bne_iff_ne,ne_eq] at a b;have a1:¬nk=7:=a;have b1:¬nk=10:=b;simp[a1,b1]
   have hp:EA t ⟨.mk nk np nt na Ba::r,pl,e⟩=⟨Dv (.mk nk np nt na Ba) (.mk 2 t.fr t.text [] [])::r,pl,e⟩:=by
    show(bif nk==7||nk==10 then _ else _)=_;rw[RB];rfl
   rw[hp] at hk
   refine⟨g,_,_,_,_,Ag Ba,AZ r,pl,e,CS t++[.mem 50 (encT t)]++[.grow 0 3 80,.grow 0 5 26],2,t.fr,t.text,[],some 11,[],some 12,hw5,hl,SH,fun n G hn=> ?_,rfl,rfl,rfl,?_⟩
   ·exact OR (al:=[]) (Pb (by omega)) (Pb (by omega))
   ·refine EX ((EL (n:=10) (r:=CS t) (own:=[_,_,_]) (rows:=BN (.int .i64 nk) (.int .i64 np) (.str nt) (.sl 3 (na.map Go.Ai.Ao) (NP r)) (Ag Ba++[CZ 2 t.fr t.text (([]:List Go.Ai.Ak).map Go.Ai.Ao) (some 11) (Ag []) (some 12)])::AZ r) rfl).trans ?_) (hk g)
    rw[List.map_cons,Iu (MF r (by decide)).1 (Pc (show 10<=11 by decide)) (Pc (show 10<=12 by decide)),De _ _ _ (by decide),EK]
    rfl
  ·refine trimmed ?_;simp only[bne_eq_false_iff_eq] at b;have b1:nk=10:=b;simp[b1]
  ·refine trimmed ?_;simp only[bne_eq_false_iff_eq] at a;have a1:nk=7:=a;simp[a1]
theorem ou :BV AU 44 Tryz.f44:=(by refine⟨?_,?_,?_,?_,?_,?_⟩<;>kernel_rfl)
theorem mu :AL AU (Ac [(62,K8),(65,Cq),(69,Wo)]):=AY (AH tN (AH jr (AH zZ AM)))
theorem mr :AL AU (Ac [(62,K8),(63,VT 6)]):=AY (AH tN (AH tL AM))
abbrev hT (g:Nat)(l:List Nd)(pl e:Int)(t:Ex.Tok):Hp:=hP g (AZ l) pl e++(CS t++[.mem 50 (encT t)])
theorem aV (l:List Nd)(t:Ex.Tok):Am.okW (AZ l) (CS t++[.mem 50 (encT t)]):=IY 50 (Ub l t) (x:=encT t) fun m G _=>Aw m G _ (E9 t)
theorem sx {K:AV->Hp->Prop}{g:Nat}{l:List Nd}{pl e:Int}{t:Ex.Tok}{G:Hp}{n:Nat}(hn:n=8+(CS t).length)(hk:K (.tup []) (hP g (AZ l) pl e++CS t)):
  K (.tup []) (List.map (AN n G) (List.take n (hT g l pl e t))):=
 EX ((EL (own:=[_]) hn).trans (by rw[De _ _ _ (by omega),EK])) hk
theorem jW {a b:Int}(h:(a !=b)=true):(a==b)=false:=by simpa[bne] using h
theorem XY {a b:Int}(h:(a !=b)=false):(a==b)=true:=by simpa[bne] using h
theorem nI {K:AV->Hp->Prop}{g:Nat}{nk np:Int}{nt:List UInt8}{na:List Go.Ai.Ak}{Ba:List Nd}{r:List Nd}{pl e:Int}{t:Ex.Tok}{kk:Int}(hs:Iv (.mk nk np nt na Ba::r)){bad:Bool}(hb:bad=(!(nk==kk)||((kk==7&& !(BA Ba==9))||(kk==10&&BA Ba==0))))
  (hf:bad=true->K (.tup []) (hP g (AZ (Nd.mk nk np nt na Ba::r)) (fE t.fr 13 pl e).1 (fE t.fr 13 pl e).2++CS t))
  (hg:bad=false->AF AU 44 (AB Tryz.f44) (AX Tryz.prog Tryz.f44 (hP g (AZ (Nd.mk nk np nt na Ba::r)) pl e++CS t).length K) [.code [1,1,1,1]] .normal [(0,true,.ptr 7 0)] (hT g (.mk nk np nt na Ba::r) pl e t)):
  AF AU 44 (AB Tryz.f44) (AX Tryz.prog Tryz.f44 (hP g (AZ (Nd.mk nk np nt na Ba::r)) pl e++CS t).length K) [.code [1,1,1]] .normal [(0,true,.ptr 7 0),(3,true,.ptr 10 0),(4,true,.int .i64 kk)] (hT g (.mk nk np nt na Ba::r) pl e t):=by
 obtain⟨Hf,Ku⟩:=hs;have hw:=aV (.mk nk np nt na Ba::r) t
 have hl:(AZ (Nd.mk nk np nt na Ba::r)).length<=Bs:=by rw[Bz];exact Nat.le_of_lt Hf
 have SH:Nh (Ag Ba):=Ng (Nat.le_of_lt (Ku _ List.mem_cons_self));have Xn:=ML Ba
 have fail:bad=true->∃(p7:Int),∃(x8:Int),∃(g9:Nat),∃(UA:List Row),∃(fi:Int),∃(tC:Int),∃(tZ:Hp),Am.okW UA tZ/\[AV.ptr 7 0,.int .i64 t.fr,.int .i64 13]=[.ptr 7 0,.int .i64 p7,.int .i64 x8]/\hT g (.mk nk np nt na Ba::r) pl e t=hP g9 UA fi tC++tZ/\
   K (.tup []) (List.map (AN (hP g (AZ (Nd.mk nk np nt na Ba::r)) pl e++CS t).length (hP g9 UA (fE p7 x8 fi tC).1 (fE p7 x8 fi tC).2++tZ)) (List.take (hP g (AZ (Nd.mk nk np nt na Ba::r)) pl e++CS t).length (hP g9 UA (fE p7 x8 fi tC).1 (fE p7 x8 fi tC).2++tZ))):=fun kz=>
  ⟨_,_,g,_,pl,e,_,hw,rfl,rfl,sx Cn (hf kz)⟩
 refine ui mu ⟨g,_,_,pl,e,_,hw,hl,rfl,rfl,AD (GM g) (AA (fun a=> ?_) fun a=> ?_)⟩
 ·have a':(nk==kk)=false:=jW a
  exact fail (by rw[hb,a'];rfl)
 ·have a':(nk==kk)=true:=XY a
  refine AA (fun b=> ?_) fun b=> ?_
  ·refine⟨g,_,_,_,_,Ag Ba,_,pl,e,_,hw,hl,SH,rfl,rfl,AA (fun c=> ?_) fun c=> ?_⟩
   ·rw[Xn] at c
    exact fail (by rw[hb,a',b,jW c];rfl)
   ·rw[Xn] at c
    refine AA (fun d=> ?_) fun d=> ?_
    ·refine⟨g,_,_,_,_,Ag Ba,_,pl,e,_,hw,hl,SH,rfl,rfl,AA (fun f=> ?_) fun f=> ?_⟩
     ·rw[Xn] at f
      exact fail (by rw[hb,a',b,d,f,XY c];rfl)
     ·rw[Xn] at f
      exact hg (by rw[hb,a',b,d,f,XY c];rfl)
    ·exact hg (by rw[hb,a',b,d,XY c];rfl)
  ·refine AA (fun d=> ?_) fun d=> ?_
   ·refine⟨g,_,_,_,_,Ag Ba,_,pl,e,_,hw,hl,SH,rfl,rfl,AA (fun f=> ?_) fun f=> ?_⟩
    ·rw[Xn] at f
     exact fail (by rw[hb,a',b,d,f];rfl)
    ·rw[Xn] at f
     exact hg (by rw[hb,a',b,d,f];rfl)
   ·exact hg (by rw[hb,a',b,d];rfl)
theorem mc {α:Type}{a b:α}{l:List α}(h:l.length+2<=Bs)(g:Nat):(decide (IntKind.wrap .i64 ((((a::b::l).length:Nat):Int)-1)=(((a::b::l).length:Nat):Int)-1)&&true&&true&&true&&Nat.beq g g)=true:=by
 have e:IntKind.wrap .i64 ((((a::b::l).length:Nat):Int)-1)=(((a::b::l).length:Nat):Int)-1:=by
  have:(a::b::l).length=l.length+2:=rfl;unfold Bs at h
  rw[BG]<;>omega
 rw[decide_eq_true e,GM g];rfl
theorem nH {K:AV->Hp->Prop}{g:Nat}{nk np:Int}{nt:List UInt8}{na:List Go.Ai.Ak}{Ba:List Nd}{mk mp:Int}{mt:List UInt8}{ma:List Go.Ai.Ak}{Uf:List Nd}{r:List Nd}{pl e:Int}{t:Ex.Tok}(hs:Iv (.mk nk np nt na Ba:: .mk mk mp mt ma Uf::r))
  (hk:K (.tup []) (hP (g+1) (AZ (Dv (.mk mk mp mt ma Uf) (.mk nk np nt na Ba)::r)) pl e++CS t)):
  AF AU 44 (AB Tryz.f44) (AX Tryz.prog Tryz.f44 (hP g (AZ (Nd.mk nk np nt na Ba:: .mk mk mp mt ma Uf::r)) pl e++CS t).length K) [.code [1,1,1,1]] .normal [(0,true,.ptr 7 0)] (hT g (.mk nk np nt na Ba:: .mk mk mp mt ma Uf::r) pl e t):=by
 obtain⟨Hf,Ku⟩:=hs;have hw:=aV (.mk nk np nt na Ba:: .mk mk mp mt ma Uf::r) t
 have hl:(AZ (Nd.mk nk np nt na Ba:: .mk mk mp mt ma Uf::r)).length<=Bs:=by rw[Bz];exact Nat.le_of_lt Hf
 have dH:(AZ (Nd.mk mk mp mt ma Uf::r)).length<=Bs:=by
  rw[Bz];have:(Nd.mk nk np nt na Ba:: .mk mk mp mt ma Uf::r).length=(Nd.mk mk mp mt ma Uf::r).length+1:=rfl;have Hf:=Hf;omega
 have hm:(Ag Uf).length<Bs:=by rw[BK];exact Ku (.mk mk mp mt ma Uf) (List.mem_cons_of_mem _ List.mem_cons_self)
 have oZ:(AZ r).length+2<=Bs:=hl;have hp:AO.Ad [AV.int .i64 nk,.int .i64 np,.str nt,.sl 3 (na.map Go.Ai.Ao) none,.sl 5 (Ag Ba) none]=true:=HA (.mk nk np nt na Ba)
 have hw6:Am.okW (BN (.int .i64 mk) (.int .i64 mp) (.str mt) (.sl 3 (ma.map Go.Ai.Ao) (NP r)) (Ag Uf)::AZ r) (CS t++[.mem 50 (encT t)]++[.grow 0 3 80,.grow 0 5 26,.mem 26 [.int .i64 nk,.int .i64 np,.str nt,.sl 3 (na.map Go.Ai.Ao) none,.sl 5 (Ag Ba) none]]):=
  HN (Cv (.mk mk mp mt ma Uf::r)) (by simp[CS,Jj,E9];exact hp)
 have hn:∀(n:Nat) (G:Hp),14<=n->AQ n G (CZ nk np nt (na.map Go.Ai.Ao) none (Ag Ba) none)=CZ nk np nt (na.map Go.Ai.Ao) none (Ag Ba) none:=fun n G _=>Aw n G _ hp
 refine uh mr ⟨g,_,_,pl,e,_,hw,hl,rfl,rfl,AD (GM g) ?_⟩
 repeat' (first
  |exact rfl
  |exact trivial
  |exact mc oZ g
  |refine AD ?_ ?_
  |refine And.intro ?_ ?_)
 refine⟨g+1,_,_,_,_,Ag Uf,AZ r,pl,e,CS t++[.mem 50 (encT t)]++[.grow 0 3 80,.grow 0 5 26,.mem 26 [.int .i64 nk,.int .i64 np,.str nt,.sl 3 (na.map Go.Ai.Ao) none,.sl 5 (Ag Ba) none]],nk,np,nt,na.map Go.Ai.Ao,none,Ag Ba,none,hw6,dH,hm,hn,rfl,rfl,rfl,?_⟩;refine EX ?_ hk;show List.map (AN 10 (hP (g+1) (BN (.int .i64 mk) (.int .i64 mp) (.str mt) (.sl 3 (ma.map Go.Ai.Ao) (NP r)) (Ag Uf++[CZ nk np nt (na.map Go.Ai.Ao) none (Ag Ba) none])::AZ r) pl e++(CS t++[.mem 50 (encT t),.grow 0 3 80,.grow 0 5 26,.mem 26 [.int .i64 nk,.int .i64 np,.str nt,.sl 3 (na.map Go.Ai.Ao) none,.sl 5 (Ag Ba) none]]))) (List.take 10 (hP (g+1) (BN (.int .i64 mk) (.int .i64 mp) (.str mt) (.sl 3 (ma.map Go.Ai.Ao) (NP r)) (Ag Uf++[CZ nk np nt (na.map Go.Ai.Ao) none (Ag Ba) none])::AZ r) pl e++(CS t++[.mem 50 (encT t),.grow 0 3 80,.grow 0 5 26,.mem 26 [.int .i64 nk,.int .i64 np,.str nt,.sl 3 (na.map Go.Ai.Ao) none,.sl 5 (Ag Ba) none]])))=_;rw[EL (n:=10) rfl]
 rw[List.map_cons,Iu (MF r (by decide)).1 rfl rfl,De _ _ _ (by decide),EK]
 rfl
theorem jA (s:List UInt8):3<=(Bq s).kind/\(Bq s).kind<=13:=by
 unfold Bq
 repeat' (first|(constructor<;>simp only[]<;>decide)|(rw[Bool.cond_eq_ite];split))
theorem zd :CR AU 44 (JH En Yk):=by
 refine BD ou fun vs h K ht=> ?_
 obtain⟨g,s,t,BM,hs,yj,PI,rfl,rfl,hk⟩:=ht;obtain⟨rows,pl,e⟩:=s
 cases rows with
 |nil=>exact absurd rfl BM
 |cons n r=>
  obtain⟨nk,np,nt,na,Ba⟩:=n;have j1:AL AU (Ac [(66,vo)]):=AY (AH zb AM);have kz:Ee t (.mk nk np nt na Ba)=(!(nk==Eo t)||((Eo t==7&& !(BA Ba==9))||(Eo t==10&&BA Ba==0))):=rfl
  have key:=nI (K:=K) (g:=g) (np:=np) (nt:=nt) (na:=na) (r:=r) (pl:=pl) (e:=e) (t:=t) (kk:=Eo t) (bad:=Ee t (.mk nk np nt na Ba)) hs kz
   (fun hb=>by
    have hp:En t ⟨.mk nk np nt na Ba::r,pl,e⟩=Fz t.fr 13 ⟨.mk nk np nt na Ba::r,pl,e⟩:=by
     show(bif Ee t _ then _ else _)=_;rw[hb];rfl
    rw[hp] at hk
    exact hk g)
   (fun hb=>by
    cases r with
    |nil=>
     have h1:nk=1:=PI _ rfl;exfalso;rw[kz,h1] at hb
     have:((1:Int)==Eo t)=false:=by
      rw[beq_eq_false_iff_ne];unfold Eo;have:=jA t.name
      cases t.kind==4<;>simp only[cond_true,cond_false]<;>omega
     rw[this] at hb;cases hb
    |cons m q=>
     obtain⟨mk,mp,mt,ma,Uf⟩:=m
     have hp:En t ⟨.mk nk np nt na Ba:: .mk mk mp mt ma Uf::q,pl,e⟩=⟨Dv (.mk mk mp mt ma Uf) (.mk nk np nt na Ba)::q,pl,e⟩:=by
      show(bif Ee t _ then _ else _)=_;rw[hb];rfl
     rw[hp] at hk
     exact nH hs (hk (g+1)))
  refine t30 j1 (AA (fun a=>⟨_,rfl,?_⟩) fun a=> ?_)
  ·have:Eo t=(Bq t.name).kind:=by unfold Eo;rw[a];rfl
   rw[this] at key;exact key
  ·have:Eo t=14:=by unfold Eo;rw[a];rfl
   rw[this] at key;exact key
end Go.Proofs.YtopjpnhgnopbiaaGreatDoor
end
section
namespace Go.Proofs.YtopjpnhgnopbiaaGreatDoor
open Go.Ai Go Go.Ai.Sp
open Go.Ai.Ex (encAs encT)
set_option maxRecDepth 100000
theorem j0 {C:Bm}{k:Nat}{t:Ce}(h:AL C (Ac [(k,t)])):∀p∈[(k,t)],CR C p.1 p.2:=fun p hp=>by
 rw[List.mem_singleton] at hp;subst hp
 exact fun l g K ht=>h k t (by simp[Ac,HR]) l g K ht
theorem ov :BV AU 43 Tryz.f43:=(by refine⟨?_,?_,?_,?_,?_,?_⟩<;>kernel_rfl)
theorem xS :BV AU 42 Tryz.f42:=(by refine⟨?_,?_,?_,?_,?_,?_⟩<;>kernel_rfl)
theorem UH {α:Type}{a:α}{l:List α}(h:l.length+1<=Bs)(g:Nat):(Nat.beq g g&&true&&true&&true&&true&&true&&decide (((a::l).length+1)*80<=140737488355328)&&true&&true)=true:=by
 have:(a::l).length=l.length+1:=rfl;unfold Bs at h
 rw[GM g,decide_eq_true (by omega)];rfl
theorem UG {α:Type}{l:List α}:(decide (((l.length:Nat):Int)=((l.length+1:Nat):Int)-1)&&true&&true&&true)=true:=by
 rw[decide_eq_true (by omega)];rfl
theorem UF (g:Nat):(Nat.beq g g&&true&&true&&true)=true:=by rw[GM g];rfl
theorem P7 {k p:Int}{t:List UInt8}{al:List Go.Ai.Ak}{oa:Option Nat}{m:Nat}{G:Hp}(h:Ct m oa=none):(0,AQ m G [AV.int .i64 k,.int .i64 p,.str t,.sl 3 (al.map Go.Ai.Ao) oa,.sl 5 [] none])=YP none (.mk k p t al []):=by
 have h2:AE m G (al.map Go.Ai.Ao)=al.map Go.Ai.Ao:=As _ _ _ (Df al);rw[AQ,AQ,AQ,AQ,AQ,AQ,Ck,Ck,h2,h];rfl
section
variable {K:AV->Hp->Prop}{g:Nat}{nk np:Int}{nt:List UInt8}{na:List Go.Ai.Ak}{Ba:List Nd}{r:List Nd}{pl e:Int}{t:Ex.Tok}
theorem fP (hs:Iv (.mk nk np nt na Ba::r))(hk:K (.tup []) (hP (g+1) (AZ (.mk 14 t.fr [] [] []:: .mk nk np nt na Ba::r)) pl e++CS t)):
  AF AU 43 (AB Tryz.f43) (AX Tryz.prog Tryz.f43 10 K) [.code [1,1,1]] .normal [(0,true,.ptr 7 0),(3,true,.ptr 10 0)] (hT g (.mk nk np nt na Ba::r) pl e t):=by
 obtain⟨Hf,Ku⟩:=hs
 have oZ:(AZ r).length+1<=Bs:=by rw[Bz];exact Nat.le_of_lt Hf
 refine uj (k:=nk) (b0:=.grow 0 3 80) (b1:=.mem 50 (encT t)) LP ?_;refine AD (UH oZ g) (AD UG (AD (UF _) ⟨?_,?_⟩))
 ·repeat' (first
   |exact rfl
   |exact trivial
   |exact UH oZ g
   |exact UG
   |exact UF _
   |refine AD ?_ ?_
   |refine And.intro ?_ ?_)
 ·refine EX ?_ hk;show List.map (AN 10 (hP (g+1) ((0,[.int .i64 14,.int .i64 t.fr,.str [],.sl 3 (([]:List Go.Ai.Ak).map Go.Ai.Ao) (some 11),.sl 5 [] none])::AZ (Nd.mk nk np nt na Ba::r)) pl e++(CS t++[.mem 50 (encT t),.grow 0 3 80,.dead]))) (List.take 10 (hP (g+1) ((0,[.int .i64 14,.int .i64 t.fr,.str [],.sl 3 (([]:List Go.Ai.Ak).map Go.Ai.Ao) (some 11),.sl 5 [] none])::AZ (Nd.mk nk np nt na Ba::r)) pl e++(CS t++[.mem 50 (encT t),.grow 0 3 80,.dead])))=_;rw[EL (n:=10) rfl]
  rw[List.map_cons,P7 (Pc (show 10<=11 by decide)),De _ _ _ (by decide),EK]
  rfl
theorem VF {α:Type}{a:α}{l:List Nd}{m:List α}(hm:m.length=l.length):decide ((((a::m).length:Nat):Int)>16)=decide (16<l.length+1):=by
 have:(a::m).length=l.length+1:=by rw[List.length_cons,hm]
 rw[this]
 by_cases h:16<l.length+1
 ·rw[decide_eq_true h,decide_eq_true (by omega)]
 ·rw[decide_eq_false h,decide_eq_false (by omega)]
def FH (fr:Int)(n:Nat)(s:Int×Int):Int×Int:=bif decide (16<n+1) then fE fr 3 s.1 s.2 else s
theorem eo :AL AU (Ac [(65,Oe g (AZ (Nd.mk nk np nt na Ba::r)) (CS t++[.mem 50 (encT t)]))]):=AY (AH (Hb jr fun vs h K ht=>by
  obtain⟨p,y,pl,e,rfl,rfl,hk⟩:=ht
  exact⟨p,y,g,_,pl,e,_,aV _ t,rfl,rfl,hk⟩) AM)
theorem fQ (hs:Iv (.mk nk np nt na Ba::r))(hk:K (.tup []) (hP (g+1) (AZ (.mk 14 t.fr [] [] []:: .mk nk np nt na Ba::r)) (FH t.fr r.length (pl,e)).1 (FH t.fr r.length (pl,e)).2++CS t)):
  AF AU 43 (AB Tryz.f43) (AX Tryz.prog Tryz.f43 10 K) [.code [1,1]] .normal [(0,true,.ptr 7 0),(3,true,.ptr 10 0)] (hT g (.mk nk np nt na Ba::r) pl e t):=by
 refine uk (k:=nk) (b0:=.grow 0 3 80) (b1:=.mem 50 (encT t)) eo (AA (fun a=> ?_) fun a=> ?_)
 ·rw[VF (Bz _)] at a;unfold FH at hk;rw[a] at hk;exact⟨_,_,pl,e,rfl,rfl,fP hs hk⟩
 ·rw[VF (Bz _)] at a;unfold FH at hk;rw[a] at hk;exact fP hs hk
end
theorem c29 :CR AU 43 (JH Fa Ht):=by
 refine BD ov fun vs h K ht=> ?_
 obtain⟨g,s,t,BM,hs,yj,-,rfl,rfl,hk⟩:=ht;obtain⟨rows,pl,e⟩:=s
 cases rows with
 |nil=>exact absurd rfl BM
 |cons n r=>
  obtain⟨nk,np,nt,na,Ba⟩:=n;have j1:AL AU (Ac [(67,gG),(65,Oe g (AZ (Nd.mk nk np nt na Ba::r)) (CS t++[.mem 50 (encT t)]))]):=AY (AH za (j0 eo))
  have hl:(AZ (Nd.mk nk np nt na Ba::r)).length<=Bs:=by rw[Bz];exact Nat.le_of_lt hs.1
  have SH:Nh (Ag Ba):=Ng (Nat.le_of_lt (hs.2 _ List.mem_cons_self))
  have hp:∀b,CW nk (BA Ba) 14=b->(Fa t ⟨.mk nk np nt na Ba::r,pl,e⟩)=⟨.mk 14 t.fr [] [] []:: .mk nk np nt na Ba::r,(FH t.fr r.length (bif !b then fE t.fr 13 pl e else(pl,e))).1,(FH t.fr r.length (bif !b then fE t.fr 13 pl e else(pl,e))).2⟩:=fun b hb=>by
   show(⟨_,(bif decide (16<r.length+1) then Fz t.fr 3 (bif !CW nk (BA Ba) 14 then _ else _) else(bif !CW nk (BA Ba) 14 then _ else _):Ps).pl,(bif decide (16<r.length+1) then Fz t.fr 3 (bif !CW nk (BA Ba) 14 then _ else _) else(bif !CW nk (BA Ba) 14 then _ else _):Ps).e⟩:Ps)=_;rw[hb];unfold FH
   cases b<;>cases decide (16<r.length+1)<;>rfl
  refine t29 (k:=nk) (b0:=.grow 0 3 80) (b1:=.mem 50 (encT t)) j1 ⟨g,_,_,_,_,_,Ag Ba,_,pl,e,_,aV (.mk nk np nt na Ba::r) t,hl,SH,rfl,rfl,AA (fun a=> ?_) fun a=> ?_⟩
  ·rw[ML] at a;have a1:(!CW nk (BA Ba) 14)=true:=a
   rw[hp false (by simpa using a1)] at hk
   exact⟨_,_,pl,e,rfl,rfl,fQ hs (hk (g+1))⟩
  ·rw[ML] at a;have a1:(!CW nk (BA Ba) 14)=false:=a
   rw[hp true (by simpa using a1)] at hk
   exact fQ hs (hk (g+1))
end Go.Proofs.YtopjpnhgnopbiaaGreatDoor
end
section
namespace Go.Proofs.YtopjpnhgnopbiaaGreatDoor
open Go.Ai Go Go.Ai.Sp
open Go.Ai.Ex (encAs encT)
set_option maxRecDepth 100000
theorem Ny (l:List Ex.Ak):encAs l=(l.map JU).map Go.Ai.Ao:=by
 unfold encAs;rw[List.map_map];rfl
theorem TX (s:List UInt8):(Bq s).Ci<=(Bq s).names.length/\(Bq s).names.length<=3:=by
 unfold Bq
 repeat' (first|(constructor<;>simp only[]<;>decide)|(rw[Bool.cond_eq_ite];split))
theorem Vh {k p:Int}{l:List Ex.Ak}{m:Nat}{G:Hp}:(0,AQ m G [AV.int .i64 k,.int .i64 p,.str [],.sl 3 (encAs l) none,.sl 5 [] none])=YP none (.mk k p [] (l.map JU) []):=by
 rw[Ny];exact P7 rfl
theorem YC {o:Option Nat}{nk np:Int}{nt:List UInt8}{na:List Go.Ai.Ak}{Ba:List Nd}{k p:Int}{l:List Ex.Ak}{G:Hp}{ow:Option Nat}{m:Nat}(ho:Ct m o=o)(hw:Ct m ow=none):
  ((BN (.int .i64 nk) (.int .i64 np) (.str nt) (.sl 3 (na.map Go.Ai.Ao) o) (Ag Ba++[CZ k p [] (encAs l) none [] ow])).1,
   AQ m G (BN (.int .i64 nk) (.int .i64 np) (.str nt) (.sl 3 (na.map Go.Ai.Ao) o) (Ag Ba++[CZ k p [] (encAs l) none [] ow])).2)=YP o (Dv (.mk nk np nt na Ba) (.mk k p [] (l.map JU) [])):=by
 rw[Ny];exact Iu (oa:=none) (ks:=[]) ho rfl hw
def Lf (k f:Int)(al:List (List AV)):Hp:=[.grow 0 3 80,.grow 0 5 26,.grow 0 3 80,.grow 0 5 26,.mem 26 [.int .i64 k,.int .i64 f,.str [],.sl 3 al none,.sl 5 [] (some 14)]]
section
variable {K:AV->Hp->Prop}{g:Nat}{nk np:Int}{nt:List UInt8}{na:List Go.Ai.Ak}{Ba:List Nd}{r:List Nd}{pl e:Int}{t:Ex.Tok}{x:El}
theorem nJ (hs:Iv (.mk nk np nt na Ba::r))(hk:K (.tup []) (hP (g+1) (AZ (.mk x.kind t.fr [] (t.attrs.map JU) []:: .mk nk np nt na Ba::r)) pl e++CS t)):
  AF AU 42 (AB Tryz.f42) (AX Tryz.prog Tryz.f42 10 K) [.code [1,1,1,1,1,1,1,1,1]] .normal [(0,true,.ptr 7 0),(6,true,.ptr 17 0)] (hP g (AZ (Nd.mk nk np nt na Ba::r)) pl e++(Gi (encT t) x++Lf x.kind t.fr (encAs t.attrs))):=by
 obtain⟨Hf,Ku⟩:=hs
 have oZ:(AZ r).length+1<=Bs:=by rw[Bz];exact Nat.le_of_lt Hf
 refine um (k:=nk) (tk:=t.kind) (fr:=t.fr) (to:=t.to) (nm:=t.name) (tx:=t.text) (l:=t.attrs) LP ?_;refine AD (UH oZ g) (AD UG (AD (UF _) ⟨?_,?_⟩))
 ·repeat' (first
   |exact rfl
   |exact trivial
   |exact UH oZ g
   |exact UG
   |exact UF _
   |refine AD ?_ ?_
   |refine And.intro ?_ ?_)
 ·refine EX ?_ hk
  show List.map (AN 10 (hP (g+1) ((0,[.int .i64 x.kind,.int .i64 t.fr,.str [],.sl 3 (encAs t.attrs) none,.sl 5 [] none])::AZ (Nd.mk nk np nt na Ba::r)) pl e++(CS t++[.mem 50 (encT t),.grow 0 1 9,.mem 114 (Jd x),.grow 0 3 80,.dead,.grow 0 3 80,.grow 0 5 26,.mem 26 [.int .i64 x.kind,.int .i64 t.fr,.str [],.sl 3 (encAs t.attrs) none,.sl 5 [] (some 14)]])))
   (List.take 10 (hP (g+1) ((0,[.int .i64 x.kind,.int .i64 t.fr,.str [],.sl 3 (encAs t.attrs) none,.sl 5 [] none])::AZ (Nd.mk nk np nt na Ba::r)) pl e++(CS t++[.mem 50 (encT t),.grow 0 1 9,.mem 114 (Jd x),.grow 0 3 80,.dead,.grow 0 3 80,.grow 0 5 26,.mem 26 [.int .i64 x.kind,.int .i64 t.fr,.str [],.sl 3 (encAs t.attrs) none,.sl 5 [] (some 14)]])))=_
  rw[EL (n:=10) rfl]
  rw[List.map_cons,Vh,De _ _ _ (by decide),EK]
  rfl
theorem fR (hs:Iv (.mk nk np nt na Ba::r))(ha:t.attrs.length<=Bs)(hx:x.Ci<=x.names.length/\x.names.length<=Bs){b:Bool}
  (ZA:b=true->K (.tup []) (hP g (AZ (Dv (.mk nk np nt na Ba) (.mk x.kind t.fr [] (t.attrs.map JU) [])::r)) (Sp.A8 x t.fr t.attrs (pl,e)).1 (Sp.A8 x t.fr t.attrs (pl,e)).2++CS t))
  (Lk:b=false->K (.tup []) (hP (g+1) (AZ (.mk x.kind t.fr [] (t.attrs.map JU) []:: .mk nk np nt na Ba::r)) (Sp.A8 x t.fr t.attrs (pl,e)).1 (Sp.A8 x t.fr t.attrs (pl,e)).2++CS t)):
  AF AU 42 (AB Tryz.f42) (AX Tryz.prog Tryz.f42 10 K) [.code [1,1,1,1,1]] .normal [(0,true,.ptr 7 0),(3,true,.ptr 10 0),(4,true,.ptr 12 0),(5,true,.bool b)] (hP g (AZ (Nd.mk nk np nt na Ba::r)) pl e++Gi (encT t) x):=by
 have j1:AL AU (Ac [(68,jY g (AZ (Nd.mk nk np nt na Ba::r)) x t.kind t.fr t.to t.name t.text t.attrs),(63,VT 10)]):=
  AY (AH (Hb c49 fun vs h K ht=>by
   obtain⟨pl,e,rfl,rfl,hk⟩:=ht
   exact⟨g,_,pl,e,x,_,_,_,_,_,_,Cv _,hx.1,hx.2,ha,rfl,rfl,hk⟩) (AH pU AM))
 have hl:(AZ (Nd.mk nk np nt na Ba::r)).length<=Bs:=by rw[Bz];exact Nat.le_of_lt hs.1
 have SH:(Ag Ba).length<Bs:=by rw[BK];exact hs.2 _ List.mem_cons_self
 refine uq (k:=nk) (tk:=t.kind) (fr:=t.fr) (to:=t.to) (nm:=t.name) (tx:=t.text) (l:=t.attrs) (x:=x) j1 ⟨pl,e,rfl,rfl,AA (fun a=> ?_) fun a=> ?_⟩
 ·have hw:Am.okW (BN (.int .i64 nk) (.int .i64 np) (.str nt) (.sl 3 (na.map Go.Ai.Ao) (NP r)) (Ag Ba)::AZ r) (Gi (encT t) x++Lf x.kind t.fr (encAs t.attrs)):=by
   intro n G hn
   refine⟨Qj (Cv (.mk nk np nt na Ba::r)) n G (by omega),?_⟩
   rw[List.map_append]
   congr 1
   ·exact((HN (Cv []) (IU t.attrs x):Am.okW _ (Gi (encT t) x)) n G (by
     rw[List.length_append] at hn
     omega)).2
   ·have h1:AE n G (encAs t.attrs)=encAs t.attrs:=As _ _ _ (Jk _)
    have h2:Ct n (some 14)=some 14:=Pb (by
     have:(Gi (encT t) x++Lf x.kind t.fr (encAs t.attrs)).length=10:=rfl
     omega)
    unfold Lf;simp only[List.map_cons,List.map_nil,AN];rw[AQ,AQ,AQ,AQ,AQ,AQ,Ck,Ck,h1,h2];rfl
  refine⟨g,_,_,_,_,Ag Ba,AZ r,_,_,Gi (encT t) x++Lf x.kind t.fr (encAs t.attrs),x.kind,t.fr,[],encAs t.attrs,none,[],some 14,hw,hl,SH,fun n G hn=> ?_,rfl,rfl,rfl,?_⟩
  ·rw[Ny]
   exact OR (n:=n) (G:=G) (oa:=none) (ow:=some 14) rfl (Pb (by omega))
  ·refine EX ?_ (ZA a)
   show List.map (AN 10 (hP g (BN (.int .i64 nk) (.int .i64 np) (.str nt) (.sl 3 (na.map Go.Ai.Ao) (NP r)) (Ag Ba++[CZ x.kind t.fr [] (encAs t.attrs) none [] (some 14)])::AZ r) (Sp.A8 x t.fr t.attrs (pl,e)).1 (Sp.A8 x t.fr t.attrs (pl,e)).2++(CS t++(.mem 50 (encT t):: .grow 0 1 9:: .mem 114 (Jd x)::Lf x.kind t.fr (encAs t.attrs)))))
    (List.take 10 (hP g (BN (.int .i64 nk) (.int .i64 np) (.str nt) (.sl 3 (na.map Go.Ai.Ao) (NP r)) (Ag Ba++[CZ x.kind t.fr [] (encAs t.attrs) none [] (some 14)])::AZ r) (Sp.A8 x t.fr t.attrs (pl,e)).1 (Sp.A8 x t.fr t.attrs (pl,e)).2++(CS t++(.mem 50 (encT t):: .grow 0 1 9:: .mem 114 (Jd x)::Lf x.kind t.fr (encAs t.attrs)))))=_
   rw[EL (n:=10) rfl]
   rw[List.map_cons,YC (MF r (by decide)).1 (Pc (show 10<=14 by decide)),De _ _ _ (by decide),EK]
   rfl
 ·exact nJ hs (Lk a)
theorem nK (hs:Iv (.mk nk np nt na Ba::r))(ha:t.attrs.length<=Bs)(hx:x.Ci<=x.names.length/\x.names.length<=Bs){b:Bool}
  (ZA:b=true->K (.tup []) (hP g (AZ (Dv (.mk nk np nt na Ba) (.mk x.kind t.fr [] (t.attrs.map JU) [])::r)) (Sp.A8 x t.fr t.attrs (FH t.fr r.length (pl,e))).1 (Sp.A8 x t.fr t.attrs (FH t.fr r.length (pl,e))).2++CS t))
  (Lk:b=false->K (.tup []) (hP (g+1) (AZ (.mk x.kind t.fr [] (t.attrs.map JU) []:: .mk nk np nt na Ba::r)) (Sp.A8 x t.fr t.attrs (FH t.fr r.length (pl,e))).1 (Sp.A8 x t.fr t.attrs (FH t.fr r.length (pl,e))).2++CS t)):
  AF AU 42 (AB Tryz.f42) (AX Tryz.prog Tryz.f42 10 K) [.code [1,1,1,1]] .normal [(0,true,.ptr 7 0),(3,true,.ptr 10 0),(4,true,.ptr 12 0),(5,true,.bool b)] (hP g (AZ (Nd.mk nk np nt na Ba::r)) pl e++Gi (encT t) x):=by
 have j1:AL AU (Ac [(65,Oe g (AZ (Nd.mk nk np nt na Ba::r)) (Gi (encT t) x))]):=AY (AH (Hb jr fun vs h K ht=>by
  obtain⟨p,y,pl,e,rfl,rfl,hk⟩:=ht
  exact⟨p,y,g,_,pl,e,_,HN (Cv _) (IU t.attrs x),rfl,rfl,hk⟩) AM)
 refine ur (k:=nk) (b0:=.grow 0 3 80) (b1:=.mem 50 (encT t)) (ek:=x.kind) (em:=(x.Ci:Nat)) (en:=x.names.map fun n=>[.str n]) j1 (AA (fun a=> ?_) fun a=> ?_)
 ·rw[VF (Bz _)] at a;unfold FH at ZA Lk;rw[a] at ZA Lk;exact⟨_,_,pl,e,rfl,rfl,fR hs ha hx ZA Lk⟩
 ·rw[VF (Bz _)] at a;unfold FH at ZA Lk;rw[a] at ZA Lk;exact fR hs ha hx ZA Lk
end
theorem ze :CR AU 42 (JH EV Ht):=by
 refine BD xS fun vs h K ht=> ?_
 obtain⟨g,s,t,BM,hs,⟨sG,sF,wP,sE,wO⟩,-,rfl,rfl,hk⟩:=ht;obtain⟨rows,pl,e⟩:=s
 cases rows with
 |nil=>exact absurd rfl BM
 |cons n r=>
  obtain⟨nk,np,nt,na,Ba⟩:=n
  have j1:AL AU (Ac [(65,Oe g (AZ (Nd.mk nk np nt na Ba::r)) (tT (.grow 0 3 80) (.mem 50 (encT t)) (encT t) (Bq t.name))),(66,yc t.name),(67,gG)]):=
   AY (AH (Hb jr fun vs h K ht=>by
    obtain⟨p,y,pl,e,rfl,rfl,hk⟩:=ht
    exact⟨p,y,g,_,pl,e,_,HN (Cv _) (IU t.attrs (Bq t.name)),rfl,rfl,hk⟩)
   (AH (Hb zb fun vs h K ht=>by
    obtain⟨rfl,hk⟩:=ht
    exact⟨_,rfl,hk⟩) (AH za AM)))
  have hl:(AZ (Nd.mk nk np nt na Ba::r)).length<=Bs:=by rw[Bz];exact Nat.le_of_lt hs.1
  have SH:Nh (Ag Ba):=Ng (Nat.le_of_lt (hs.2 _ List.mem_cons_self));have Xn:=ML Ba;have hw:Am.okW (AZ (Nd.mk nk np nt na Ba::r)) (Gi (encT t) (Bq t.name)):=HN (Cv _) (IU t.attrs (Bq t.name))
  have hx:(Bq t.name).Ci<=(Bq t.name).names.length/\(Bq t.name).names.length<=Bs:=⟨(TX _).1,Nat.le_trans (TX _).2 (by decide)⟩
  have go:∀(b:Bool) (s1:Int×Int),Bj (Bq t.name)=b->s1=(bif (b !=(t.kind==3))|| !CW nk (BA Ba) (Bq t.name).kind then fE t.fr 13 pl e else(pl,e))->
    AF AU 42 (AB Tryz.f42) (AX Tryz.prog Tryz.f42 10 K) [.code [1,1,1,1]] .normal [(0,true,.ptr 7 0),(3,true,.ptr 10 0),(4,true,.ptr 12 0),(5,true,.bool b)] (hP g (AZ (Nd.mk nk np nt na Ba::r)) s1.1 s1.2++Gi (encT t) (Bq t.name)):=by
   intro b s1 hb Hf
   have hp:EV t ⟨.mk nk np nt na Ba::r,pl,e⟩=bif b then⟨Dv (.mk nk np nt na Ba) (.mk (Bq t.name).kind t.fr [] (t.attrs.map JU) [])::r,(Sp.A8 (Bq t.name) t.fr t.attrs (FH t.fr r.length s1)).1,(Sp.A8 (Bq t.name) t.fr t.attrs (FH t.fr r.length s1)).2⟩
     else⟨.mk (Bq t.name).kind t.fr [] (t.attrs.map JU) []:: .mk nk np nt na Ba::r,(Sp.A8 (Bq t.name) t.fr t.attrs (FH t.fr r.length s1)).1,(Sp.A8 (Bq t.name) t.fr t.attrs (FH t.fr r.length s1)).2⟩:=by
    have h2:Kj (Bq t.name) t (.mk nk np nt na Ba) r ⟨.mk nk np nt na Ba::r,pl,e⟩=⟨.mk nk np nt na Ba::r,(Sp.A8 (Bq t.name) t.fr t.attrs (FH t.fr r.length s1)).1,(Sp.A8 (Bq t.name) t.fr t.attrs (FH t.fr r.length s1)).2⟩:=by
     unfold Kj FH;rw[hb,Hf];show(⟨_,_,_⟩:Ps)=_;have e1:(Nd.mk nk np nt na Ba).kind=nk:=rfl;have e2:(Nd.mk nk np nt na Ba).kids=Ba:=rfl;rw[e1,e2]
     cases (b !=(t.kind==3))|| !CW nk (BA Ba) (Bq t.name).kind<;>cases decide (16<r.length+1)<;>rfl
    show(bif Bj (Bq t.name) then _ else _)=_;rw[hb];simp only[h2]
   rw[hp] at hk
   exact nK hs sE hx (fun h=>by rw[h] at hk;exact hk g) fun h=>by rw[h] at hk;exact hk (g+1)
  refine t28 (k:=nk) (b0:=.grow 0 3 80) (b1:=.mem 50 (encT t)) j1 ⟨rfl,AA (fun a=>AA (fun b=> ?_) fun b=> ?_) fun a=>AA (fun b=> ?_) fun b=> ?_⟩
  ·exact⟨_,_,pl,e,rfl,rfl,go true _ (by unfold Bj;rw[a];rfl) (by rw[show(true !=(t.kind==3))=true from b];rfl)⟩
  ·refine⟨g,_,_,_,_,_,Ag Ba,_,pl,e,_,hw,hl,SH,rfl,rfl,AA (fun c=> ?_) fun c=> ?_⟩
   ·rw[Xn] at c
    exact⟨_,_,pl,e,rfl,rfl,go true _ (by unfold Bj;rw[a];rfl) (by rw[show(true !=(t.kind==3))=false from b,show(!CW nk (BA Ba) (Bq t.name).kind)=true from c];rfl)⟩
   ·rw[Xn] at c
    exact go true (pl,e) (by unfold Bj;rw[a];rfl) (by rw[show(true !=(t.kind==3))=false from b,show(!CW nk (BA Ba) (Bq t.name).kind)=false from c];rfl)
  ·exact⟨_,_,pl,e,rfl,rfl,go ((Bq t.name).kind==6) _ (by unfold Bj;rw[a];rfl) (by rw[show(((Bq t.name).kind==6) !=(t.kind==3))=true from b];rfl)⟩
  ·refine⟨g,_,_,_,_,_,Ag Ba,_,pl,e,_,hw,hl,SH,rfl,rfl,AA (fun c=> ?_) fun c=> ?_⟩
   ·rw[Xn] at c
    exact⟨_,_,pl,e,rfl,rfl,go ((Bq t.name).kind==6) _ (by unfold Bj;rw[a];rfl) (by rw[show(((Bq t.name).kind==6) !=(t.kind==3))=false from b,show(!CW nk (BA Ba) (Bq t.name).kind)=true from c];rfl)⟩
   ·rw[Xn] at c
    exact go ((Bq t.name).kind==6) (pl,e) (by unfold Bj;rw[a];rfl) (by rw[show(((Bq t.name).kind==6) !=(t.kind==3))=false from b,show(!CW nk (BA Ba) (Bq t.name).kind)=false from c];rfl)
end Go.Proofs.YtopjpnhgnopbiaaGreatDoor
end
section
namespace Go.Proofs.YtopjpnhgnopbiaaGreatDoor
open Go.Ai Go Go.RowKit Go.Ai.Sp
set_option maxRecDepth 100000
def zR (k:Int)(f:Nat)(c:Nat):MapEntry:={key:=.int .i64 k,val:=.agg #[.func (.func f) #[] #[]],born:=c}
def RW (ks:List (Int×Nat)):List MapEntry:=ks.zipIdx.map fun x=>zR x.1.1 x.1.2 x.2
theorem bT {ks:List (Int×Nat)}{x:MapEntry}(h:x∈RW ks):∃p∈ks,x.key=.int .i64 p.1:=by
 obtain⟨y,hy,rfl⟩:=List.mem_map.1 h;refine⟨y.1,?_,rfl⟩;obtain⟨a,b⟩:=y;exact List.mem_of_getElem? (List.mem_zipIdx_iff_getElem?.1 hy)
theorem DA {w0 w:World}{r:Nat}{ks:List (Int×Nat)}(hr:w0.heap.size<=r)(hw:Below w0.heap.size w0 w)(hb:w.heap[r]?=some (.map (RW ks).toArray ks.length)){k:Int}{f:Nat}(hn:(ks.all fun p=>!(p.1==k))=true):
  ∃w',(Instr.mapUpdate 47 (.map (some r)) (.int .i64 k) (.agg #[.func (.func f) #[] #[]])).run Tryz.prog w=.ok () w'/\w'.heap[r]?=some (.map (RW (ks++[(k,f)])).toArray (ks++[(k,f)]).length)/\Below w0.heap.size w0 w':=by
 have hm:Tryz.prog.underlying 47=some (.map 3 53):=by kernel_rfl
 have hd:Tryz.prog.underlying 3=some (.int .i64):=by kernel_rfl
 have hk:MapKept.IsKey (.int .i64) (.int .i64 k):=rfl
 have eD:∀x∈(RW ks).toArray.toList,MapKept.IsKey (.int .i64) x.key:=fun x hx=>by
  obtain⟨p,_,e⟩:=bT hx;rw[e];rfl
 rcases MapKept.findNow_spec hk (RW ks).toArray.toList 0 eD with ⟨h1,h2⟩|⟨j,e,h1,h2,h3⟩
 ·refine⟨_,by simp only[Instr.mapUpdate,run_underlying hm,MapKept.run_getObj_map hb,MapKept.run_checkKey hd hk,MapKept.run_findKey hd h1,MapKept.run_setObj_map _ hb,Result.andThen,Sem.run_bind];rfl,?_,?_⟩
  ·have h:=(MapKept.heap_set (o':=.map ((RW ks).toArray.push {key:=.int .i64 k,val:=.agg #[.func (.func f) #[] #[]],born:=ks.length}) (ks.length+1)) hb).1;rw[h]
   congr 1
   have e1:(RW (ks++[(k,f)])).toArray=(RW ks).toArray.push {key:=.int .i64 k,val:=.agg #[.func (.func f) #[] #[]],born:=ks.length}:=by
    unfold RW;rw[List.zipIdx_append];simp[zR]
   rw[e1];simp
  ·exact⟨hw.os,hw.tape,hw.output,by simpa using hw.size,fun i hi=>((MapKept.heap_set hb).2 i (by omega)).trans (hw.block i hi)⟩
 ·obtain⟨p,hp,e2⟩:=bT (List.mem_of_getElem? h2);rw[e2] at h3
  injection h3 with _ h3
  have:=List.all_eq_true.1 hn p hp;rw[h3] at this;simp at this
def fB :List (Int×Nat):=[(1,40),(7,41),(2,42),(3,42),(5,43),(4,44),(6,44)]
theorem bz (w:World):Calls Tryz.prog 18 #[] w fun e w'=>e=.returned (.map (some w.heap.size))/\Below w.heap.size w w'/\w'.heap[w.heap.size]?=some (.map (RW fB).toArray fB.length):=by
 go_enter Tryz.func18,Tryz.f18
 go_wp
 rw[Go.run_makeMap_plain];simp only[Result.andThen];have k9:Below w.heap.size w (w.alloc (.map #[] 0)):=(Below.refl _ w).alloc (Nat.le_refl _) _;have jn:(w.alloc (.map #[] 0)).heap[w.heap.size]?=some (.map (RW []).toArray ([]:List (Int×Nat)).length):=(MapKept.heap_alloc w _).1;generalize w.alloc (.map #[] 0)=w0 at k9 jn⊢
 go_wp
 obtain⟨w1,TE,tq,W9⟩:=DA (Nat.le_refl _) k9 jn (k:=1) (f:=40) rfl;rw[TE];simp only[Result.andThen]
 go_wp
 obtain⟨w2,OV,wh,iZ⟩:=DA (Nat.le_refl _) W9 tq (k:=7) (f:=41) rfl;rw[OV];simp only[Result.andThen]
 go_wp
 obtain⟨w3,hr3,hm3,hb3⟩:=DA (Nat.le_refl _) iZ wh (k:=2) (f:=42) rfl;rw[hr3];simp only[Result.andThen]
 go_wp
 obtain⟨w4,hr4,hm4,hb4⟩:=DA (Nat.le_refl _) hb3 hm3 (k:=3) (f:=42) rfl;rw[hr4];simp only[Result.andThen]
 go_wp
 obtain⟨w5,hr5,hm5,hb5⟩:=DA (Nat.le_refl _) hb4 hm4 (k:=5) (f:=43) rfl;rw[hr5];simp only[Result.andThen]
 go_wp
 obtain⟨w6,hr6,hm6,hb6⟩:=DA (Nat.le_refl _) hb5 hm5 (k:=4) (f:=44) rfl;rw[hr6];simp only[Result.andThen]
 go_wp
 obtain⟨w7,hr7,hm7,hb7⟩:=DA (Nat.le_refl _) hb6 hm6 (k:=6) (f:=44) rfl;rw[hr7];simp only[Result.andThen]
 go_wp
 refine⟨rfl,.map (some w.heap.size),?_,rfl,hb7,hm7⟩;simp[go_sem,results]
def YE :List AV->Option (Bool×AV):=fun vs=>match vs with|[]=>some (true,Es)|_=>none
theorem cA {G:Nat->Option (List AV)}{I:World->Prop}{B0:Nat}:Er Tryz.prog G I B0 18 YE:=by
 intro vs v hv E args hE hB H hr;unfold YE at hv;split at hv
 ·simp only[Option.some.injEq,Prod.mk.injEq,true_and] at hv;subst hv;simp only[BT] at hr;subst hr
  refine(bz E.w).mono fun e w' ⟨h1,h2,h3⟩=>⟨_,h1,h2,?_⟩
  refine⟨E.w.heap.size,_,_,rfl,h3,rfl,?_⟩
  have fn:∀f:Nat,Ae {E with w:=w'} [.fn (.func f) [] []] [.func (.func f) #[] #[]]:=fun f=>⟨_,[],rfl,rfl,⟨#[],#[],rfl,rfl,rfl⟩,rfl⟩
  exact⟨_,_,rfl,fn 40,_,_,rfl,fn 41,_,_,rfl,fn 42,_,_,rfl,fn 42,_,_,rfl,fn 43,_,_,rfl,fn 44,_,_,rfl,fn 44,rfl⟩
 ·cases hv
end Go.Proofs.YtopjpnhgnopbiaaGreatDoor
end
section
namespace Go.Proofs.YtopjpnhgnopbiaaGreatDoor
open Go.Ai Go Go.Ai.Sp
open Go.Ai.Ex (encAs encT encTs lexM tokC limE)
set_option maxRecDepth 100000
theorem zv :BL AU 8 Tryz.f8:=(by refine⟨?_,?_,?_,?_,?_,?_⟩<;>kernel_rfl)
theorem c15 :CR AU 17 tokC:=by
 refine Fj (g:=Lx.Ys) (by kernel_rfl) (by kernel_rfl) (by kernel_rfl) (by kernel_rfl) fun vs h K ht=> ?_
 obtain⟨s,hs,rfl,h1,h2⟩:=ht
 refine⟨Ex.Wk (lexM s),?_,by show some (Nat.ble s.length 1000000,Ex.Wk (lexM s))=_;rw[show Nat.ble s.length 1000000=true from Nat.ble_eq_true_of_le hs]⟩
 cases hl:lexM s with
 |error x=>
  obtain⟨p,e⟩:=x;exact h1 p e hl
 |ok l=>
  show K (AV.tup [.sl 6 (AE 0 [] (encTs l)) none,.int .i64 0,.int .i64 0]) h;rw[EC 0 [] _ (Ex.gK 0 l)];exact h2 l hl
theorem c16 :CR AU 18 YF:=by
 refine Fj (g:=YE) (by kernel_rfl) (by kernel_rfl) (by kernel_rfl) (by kernel_rfl) fun vs h K ht=> ?_
 obtain⟨hv,hk⟩:=ht
 match vs,hv with
 |[],_=>exact⟨Es,hk,rfl⟩
def NR (z1 z2:Nat):Except (Int×Int) Nd->AV
 |.ok n=>.tup [.agg (ES n),.int .i64 0,.int .i64 0]
 |.error (p,e)=>.tup [.agg [.int .i64 0,.int .i64 0,.str [],.sl z1 [] none,.sl z2 [] none],.int .i64 p,.int .i64 e]
theorem ig {l:List Ex.Tok}{i:Nat}(h:i<l.length):CH (encTs l) (i:Int)=encT l[i]:=by
 unfold encTs CH;simp[h]
theorem ct (l:List Nd):(List.all (AZ l) fun r=>CB 8 r.2)=true:=Ud (Cv l) 8 (by decide)
theorem nM {v:AV}{s:List UInt8}{l:List Ex.Tok}{i:Nat}{g:Nat}{st:Ps}(hi:i<l.length)(hl:l.length<=131074)(ht:eS l[i])(hk:l[i].kind=1\/l[i].kind=2\/l[i].kind=3\/l[i].kind=4\/l[i].kind=5\/l[i].kind=6\/l[i].kind=7)(hinv:Inv i st.rows)
  (h1:((Aq l[i] st).e !=0)=true->v=NR 0 0 (.error ((Aq l[i] st).pl,(Aq l[i] st).e)))
  (h2:((Aq l[i] st).e !=0)=false->∀g',AF AU 8 (AB Tryz.f8) (AK Tryz.prog Tryz.f8 v) [.code [0,1,0,1,1,1,1,1,1],.block 0,.code [1,1,1,1,1,1,1]] .normal [(0,true,.str s),(2,true,.ptr 2 0),(6,true,.ptr 7 0),(7,true,Es),(30,true,.sl 6 (encTs l) none),(31,true,.int .i64 l.length),(32,true,.int .i64 ((i+1:Nat):Int))] (hP g' (AZ (Aq l[i] st).rows) (Aq l[i] st).pl (Aq l[i] st).e)):
  AF AU 8 (AB Tryz.f8) (AK Tryz.prog Tryz.f8 v) [.code [1,0,0,1,1,0,0,1,0,1,1,1,1,1,1],.block 1,.code [1,1,1,0,0,1,0,1,1,1,1,1,1],.loop [0,1,0,1,1,1,1,1,1] 8,.block 0,.code [1,1,1,1,1,1,1]] .normal [(0,true,.str s),(2,true,.ptr 2 0),(6,true,.ptr 7 0),(7,true,Es),(9,true,.ptr 9 0),(30,true,.sl 6 (encTs l) none),(31,true,.int .i64 l.length),(32,true,.int .i64 i)]
   (hP g (AZ st.rows) st.pl st.e++CS l[i]):=by
 have hY:Iv st.rows:=by
  have:=hinv.len
  refine⟨by unfold Bs;omega,fun n hn=> ?_⟩
  have:=hinv.kids n hn;unfold Bs;omega
 have wr:IntKind.wrap .i64 ((i:Int)+1)=((i+1:Nat):Int):=SU (by unfold Bs;omega)
 have vr:(AJ 8 (encTs l)&&true&&true&&((List.all (AZ (Aq l[i] st).rows) fun(r:Nat×List AV)↦CB 8 (Prod.snd r))&&true))=true:=by
  rw[Ex.gK,ct];rfl
 have PI:aS st:=fun n hn=>by
  have:=hinv.bot;rw[hn] at this;exact this
 generalize hT:l[i]=t at *;obtain⟨k,nm,al,tx,fr,to⟩:=t
 have fin:∀(w:Ps),w=Aq ⟨k,nm,al,tx,fr,to⟩ st->∀g',Ap (w.e !=0) (AV.tup [.agg [.int .i64 0,.int .i64 0,.str [],.sl 0 [] none,.sl 0 [] none],.int .i64 w.pl,.int .i64 w.e]=v)
   (AS (AJ 8 (encTs l)&&true&&true&&((List.all (AZ w.rows) fun(r:Nat×List AV)↦CB 8 (Prod.snd r))&&true)) (AF AU 8 (AB Tryz.f8) (AK Tryz.prog Tryz.f8 v) [.code [0,1,0,1,1,1,1,1,1],.block 0,.code [1,1,1,1,1,1,1]] .normal [(0,true,.str s),(2,true,.ptr 2 0),(6,true,.ptr 7 0),(7,true,Es),(30,true,.sl 6 (encTs l) none),(31,true,.int .i64 l.length),(32,true,.int .i64 (IntKind.wrap .i64 ((i:Int)+1)))] (hP g' (AZ w.rows) w.pl w.e))):=by
  rintro w rfl g'
  refine AA (fun a=>(h1 a).symm) fun a=>AD vr ?_
  rw[wr];exact h2 a g'
 have hk:k=1\/k=2\/k=3\/k=4\/k=5\/k=6\/k=7:=hk
 rcases hk with rfl|rfl|rfl|rfl|rfl|rfl|rfl
 ·exact uZ (AY (AH c26 AM)) ⟨g,st,_,hinv.bot.ne,hY,ht,trivial,rfl,rfl,fun g'=>fin _ rfl g'⟩
 ·exact uY (AY (AH ze AM)) ⟨g,st,_,hinv.bot.ne,hY,ht,trivial,rfl,rfl,fun g'=>fin _ rfl g'⟩
 ·exact uX (AY (AH ze AM)) ⟨g,st,_,hinv.bot.ne,hY,ht,trivial,rfl,rfl,fun g'=>fin _ rfl g'⟩
 ·exact uW (AY (AH zd AM)) ⟨g,st,_,hinv.bot.ne,hY,ht,PI,rfl,rfl,fun g'=>fin _ rfl g'⟩
 ·exact uV (AY (AH c29 AM)) ⟨g,st,_,hinv.bot.ne,hY,ht,trivial,rfl,rfl,fun g'=>fin _ rfl g'⟩
 ·exact uU (AY (AH zd AM)) ⟨g,st,_,hinv.bot.ne,hY,ht,PI,rfl,rfl,fun g'=>fin _ rfl g'⟩
 ·exact uT (AY (AH c27 AM)) ⟨g,st,_,hinv.bot.ne,hY,ht,trivial,rfl,rfl,fun g'=>fin _ rfl g'⟩
theorem lx {v:AV}{s:List UInt8}{l:List Ex.Tok}(hl:l.length<=131074)(VU:∀t∈l,eS t/\(t.kind=1\/t.kind=2\/t.kind=3\/t.kind=4\/t.kind=5\/t.kind=6\/t.kind=7)):∀(m i:Nat) (g:Nat) (st:Ps),l.length-i=m->i<=l.length->Inv i st.rows->st.e=0->
  (∃z,v=NR z.1 z.2 (Mg s.length (A7 (l.drop i) st))/\((A7 (l.drop i) st).e=0->z=(3,5))/\((A7 (l.drop i) st).e≠0->z=(0,0)))->
  AF AU 8 (AB Tryz.f8) (AK Tryz.prog Tryz.f8 v) [.code [0,1,0,1,1,1,1,1,1],.block 0,.code [1,1,1,1,1,1,1]] .normal [(0,true,.str s),(2,true,.ptr 2 0),(6,true,.ptr 7 0),(7,true,Es),(30,true,.sl 6 (encTs l) none),(31,true,.int .i64 l.length),(32,true,.int .i64 i)] (hP g (AZ st.rows) st.pl st.e)
 |0,i,g,st,hm,hi,hinv,he,⟨z,hv,hz,_⟩=>by
  rw[List.drop_of_length_le (by omega)] at hv hz
  have hz:=hz he;subst hz;have hp:A7 [] st=st:=rfl;rw[hp] at hv;unfold Mg at hv;rw[he] at hv
  refine yX (s:=s) LP (AA (fun a=> ?_) fun _=>AA (fun a=> ?_) fun a=> ?_)
  ·simp at a;omega
  ·rw[Bz] at a;have a:=of_decide_eq_true a
   match hr:st.rows,a with
   |[],a=>simp at a
   |[_],a=>simp at a
   |n::m::r,_=>
    rw[hr] at hv;exact hv.symm
  ·rw[Bz] at a;have a:=of_decide_eq_false a;have BM:=hinv.bot.ne
   match hr:st.rows,a with
   |[],_=>exact absurd hr BM
   |[n],_=>
    rw[hr] at hv;refine zp LP (AD (GM g) ?_);rw[hv,As 0 _ _ (Df n.attrs),As 0 _ _ (Ey n.kids),<-BW];rfl
   |n::m::r,a=>simp at a;omega
 |m+1,i,g,st,hm,hi,hinv,he,⟨z,hv,hz,oE⟩=>by
  have BC:i<l.length:=by omega
  obtain⟨h1,h2⟩:=VU _ (List.getElem_mem BC)
  have hlen:(encTs l).length=l.length:=by simp[encTs]
  rw[List.drop_eq_getElem_cons BC] at hv hz oE
  refine yX (s:=s) LP (AA (fun a=>AD (by rw[hlen,CF BC];rfl) ⟨_,_,_,_,_,_,ig BC,nM BC hl h1 h2 hinv (fun b=> ?_) fun b g'=> ?_⟩) fun a=> ?_)
  ·have b':((Aq l[i] st).e==0)=false:=jW b
   have hp:A7 (l[i]::l.drop (i+1)) st=Aq l[i] st:=by
    rw[A7,b'];rfl
   rw[hp] at hv oE
   have oE:=oE (by simpa using b')
   subst oE;rw[hv];unfold Mg;rw[b'];rfl
  ·have b':((Aq l[i] st).e==0)=true:=XY b
   have hp:A7 (l[i]::l.drop (i+1)) st=A7 (l.drop (i+1)) (Aq l[i] st):=by
    rw[A7,b'];rfl
   rw[hp] at hv hz oE
   exact lx hl VU m (i+1) g' _ (by omega) (by omega) (gp hinv _) (by simpa using b') ⟨z,hv,hz,oE⟩
  ·simp at a;omega
theorem mq :AL AU (Ac [(17,tokC),(18,YF)]):=AY (AH c15 (AH c16 AM))
theorem c8 :CR AU 8 nZ:=by
 refine Ax zv fun vs h K ht=> ?_
 obtain⟨s,rfl,ZA,Lk⟩:=ht
 have done:∀z1 z2:Nat,(z1=3/\z2=5)\/(z1=0/\z2=0)->K (NR z1 z2 (Bg s)) h:=fun z1 z2 hz=>by
  cases hp:Bg s with
  |ok n=>exact ZA n hp
  |error x=>exact Lk x.1 x.2 hp z1 z2 hz
 by_cases hs:65536<s.length
 ·refine⟨_,done 3 5 (.inl ⟨rfl,rfl⟩),t8 mq (AA (fun _=> ?_) fun a=> ?_)⟩
  ·unfold Bg;rw[if_pos hs];rfl
  ·simp at a;omega
 ·cases hl:lexM s with
  |error x=>
   obtain⟨p,e⟩:=x
   have hp:Bg s=.error ((p:Nat),e):=by
    unfold Bg;rw[if_neg hs,hl]
   have he:(e !=0)=true:=by
    have:=Ex.gW hl;simp[bne,this]
   refine⟨_,done 3 5 (.inl ⟨rfl,rfl⟩),t8 mq (AA (fun a=> ?_) fun a=>⟨s,by omega,rfl,fun p' e' h'=> ?_,fun l' h'=> ?_⟩)⟩
   ·simp at a;omega
   ·rw[hl] at h'
    injection h' with h'
    injection h' with e1 e2
    subst e1;subst e2
    refine AA (fun _=> ?_) fun b=> ?_
    ·rw[hp];rfl
    ·rw[he] at b;cases b
   ·rw[hl] at h';cases h'
  |ok l=>
   obtain⟨Xo,dH⟩:=kW (by omega) hl
   have hp:Bg s=Mg s.length (A7 l DV):=by
    unfold Bg;rw[if_neg hs,hl];rfl
   have hz:∃z:Nat×Nat,((z.1=3/\z.2=5)\/(z.1=0/\z.2=0))/\((A7 l DV).e=0->z=(3,5))/\((A7 l DV).e≠0->z=(0,0)):=by
    by_cases h0:(A7 l DV).e=0
    ·exact⟨(3,5),.inl ⟨rfl,rfl⟩,fun _=>rfl,fun h=>absurd h0 h⟩
    ·exact⟨(0,0),.inr ⟨rfl,rfl⟩,fun h=>absurd h h0,fun _=>rfl⟩
   obtain⟨z,z0,z1,z2⟩:=hz
   refine⟨_,done z.1 z.2 z0,t8 mq (AA (fun a=> ?_) fun a=>⟨s,by omega,rfl,fun p' e' h'=> ?_,fun l' h'=>⟨rfl,?_⟩⟩)⟩
   ·simp at a;omega
   ·rw[hl] at h';cases h'
   ·rw[hl] at h'
    injection h' with h'
    subst h'
    have hlen:(encTs l).length=l.length:=by simp[encTs]
    rw[hlen]
    exact lx Xo dH l.length 0 0 DV rfl (Nat.zero_le _) vy rfl ⟨z,by rw[hp];rfl,z1,z2⟩
end Go.Proofs.YtopjpnhgnopbiaaGreatDoor
end
section
namespace Go.Ai
open Go.RowKit
section
variable {C:Bm}{I:World->Prop}{B0:Nat}
theorem aO (S0:Sound C I B0){k:Nat}{vs:List AV}{u v:AV}(hr:K4 C false k vs [] u [])(hu:AO u=true)(hv:∀(E:Env) c,Rel E u c->Rel E v c)(E:Env)(args:List Value)(hE:E.h=[])(hB:E.B=E.w.heap.size)(H:Good C.G I B0 E)(ha:BT E vs args):
  Calls C.P k args.toArray E.w (fun e w'=>∃c,e=.returned c/\Below E.w.heap.size E.w w'/\Rel {E with w:=w'} v c):=by
 obtain⟨n0,hn⟩:=hr;obtain⟨_,RH⟩:=(Mk S0 false n0).2 k vs [] u [] (hn n0 (Nat.le_refl _))
 refine(RH E args hE H ha).mono fun e w' hp=> ?_
 obtain⟨c,E',rfl,rfl,S,Hg,ID⟩:=hp
 refine⟨c,rfl,by have:=S.below;rwa [hB] at this,hv _ _ ?_⟩
 have hA:∀g,E.A g=none:=fun g=>by
  cases hg:E.A g with
  |none=>rfl
  |some x=>
   obtain⟨o,i,m⟩:=x;have:=H.ar g o i m hg;omega
 have K:Cut 0 [] E' {E with w:=E'.w}:=
  ⟨rfl,fun _ h=>absurd h (Nat.not_lt_zero _),fun b o w _ hs=>⟨⟨fun hu=>hs.1.1 (by rw[S.U];exact hu),fun id i m h=>(by have h:E.A b=_:=h;rw[hA] at h;cases h)⟩,fun id x hx=>(by have hx:E.h[id]?=_:=hx;rw[hE] at hx;simp at hx)⟩,
   fun _ _ _ h=>absurd h (Nat.not_lt_zero _),fun _ h=>absurd h (Nat.not_lt_zero _),Nat.zero_le _,fun _ _ _ _ h=>absurd h (Nat.not_lt_zero _),fun _ _ _ h=>absurd h (Nat.not_lt_zero _),fun _ _ _ _ _ _ _ _ h=>absurd h (Nat.not_lt_zero _),fun _ h=>absurd h (Nat.not_lt_zero _),fun b t cs _ h=>by simp at h⟩
 have:=Rel.cut K u c ID
 rwa [It 0 [] u hu] at this
end
theorem aN {E:Env}{z z':Nat}{c:Value}(h:Rel E (.sl z [] none) c):Rel E (.sl z' [] none) c:=by
 obtain⟨⟨A,cap,h1,h2,h3,_,h5⟩,_⟩:=h
 exact⟨⟨A,cap,h1,h2,h3,fun e he=>(by cases he),fun hn=>absurd rfl hn⟩,trivial⟩
end Go.Ai
namespace Go.Proofs.YtopjpnhgnopbiaaGreatDoor
open Go.Ai Go Go.Ai.Sp
set_option maxRecDepth 100000
theorem NJ (r:Except (Int×Int) Nd):AO (NR 3 5 r)=true/\AO (NR 0 0 r)=true:=by
 cases r with
 |ok n=>
  have h:=HA n
  constructor<;>simp[NR,AO,AO.Ad,h]
 |error x=>exact⟨rfl,rfl⟩
theorem kB {E:Env}{r:Except (Int×Int) Nd}{c:Value}(h:Rel E (NR 0 0 r) c):Rel E (NR 3 5 r) c:=by
 cases r with
 |ok n=>exact h
 |error x=>
  obtain⟨p,e⟩:=x;obtain⟨a,h1,⟨v1,r1,h2,h3,h4⟩⟩:=h;refine⟨a,h1,⟨v1,r1,h2,?_,h4⟩⟩;obtain⟨b,g1,g2⟩:=h3;refine⟨b,g1,?_⟩;obtain⟨x1,q1,e1,o1,l1,x2,q2,e2,o2,l2,x3,q3,e3,o3,l3,x4,q4,e4,o4,l4,x5,q5,e5,o5,l5,l6⟩:=g2;exact⟨x1,q1,e1,o1,l1,x2,q2,e2,o2,l2,x3,q3,e3,o3,l3,x4,q4,e4,o4,aN l4,x5,q5,e5,o5,aN l5,l6⟩
def QX :List AV->Option (Bool×AV)
 |[.str s]=>some (true,NR 3 5 (Bg s))
 |_=>none
theorem cT {I:World->Prop}{B0:Nat}(S0:Sound AU I B0):Er Tryz.prog AU.G I B0 8 QX:=by
 intro vs v hv E args hE hB H hr;unfold QX at hv;split at hv
 ·rename_i s;simp only[Option.some.injEq,Prod.mk.injEq,true_and] at hv;subst hv
  obtain⟨u,h',hc,hh,hu⟩:=c8 [.str s] [] (fun u h=>h=[]/\(u=NR 3 5 (Bg s)\/u=NR 0 0 (Bg s))) ⟨s,rfl,fun n hn=>⟨rfl,.inl (by rw[hn];rfl)⟩,fun p e he z1 z2 hz=>⟨rfl,by
   rw[he]
   rcases hz with ⟨rfl,rfl⟩|⟨rfl,rfl⟩
   ·exact .inl rfl
   ·exact .inr rfl⟩⟩
  subst hh
  rcases hu with rfl|rfl
  ·exact aO S0 hc (NJ _).1 (fun _ _ h=>h) E args hE hB H hr
  ·exact aO S0 hc (NJ _).2 (fun _ _ h=>kB h) E args hE hB H hr
 ·cases hv
noncomputable def AI:Bm:={cfg with FM:=fun f=>HR f (OP++[(17,Lx.Ys),(8,QX)])}
end Go.Proofs.YtopjpnhgnopbiaaGreatDoor
end
