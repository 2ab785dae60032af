/-
  The parser's small functions: contracts.
  A child more: contracts.
  A tag's attributes: contracts.
  A tag's attributes as a whole: its contract.
  What is done with a text, with a raw text: contracts.
  What is done with what closes: its contract.
  What is done with what opens a hidden part, with a tag: contracts.
  What is done with a tag that opens, or is empty: its contract.
  What is done with the kinds of tokens, a map that stands: as a primitive.
  The parser as a whole: its contract.
  The parser as a primitive: out of its contract.
-/
import Derived.Test.YtopjpnhgnopbiaaGreatDoorTJE
import Derived.Test.YtopjpnhgnopbiaaGreatDoorTJA
import Derived.Test.YtopjpnhgnopbiaaGreatDoorTJT
import Derived.Test.YtopjpnhgnopbiaaGreatDoorTAiPrims
import Derived.Test.YtopjpnhgnopbiaaGreatDoorTJF
import Derived.WalkKit
import Derived.ProofKit
import Derived.MapKept
import Derived.WideMake
set_option linter.unusedVariables false
set_option linter.unusedSimpArgs false
set_option linter.unnecessarySimpa false
section
namespace Go.Proofs.YtopjpnhgnopbiaaGreatDoor
open Go.Ai Go Go.Ai.Sp
open Go.Ai.Ex (encAs encT blB limE)
set_option maxRecDepth 100000
theorem J7 :AK AS (Af []):=AX AN
theorem rN :BE AS 66 Tryz.f66:=(by refine⟨?_,?_,?_,?_,?_,?_⟩<;>kernel_rfl)
theorem rG :BE AS 102 Tryz.f102:=(by refine⟨?_,?_,?_,?_,?_,?_⟩<;>kernel_rfl)
theorem rH :BE AS 98 Tryz.f98:=(by refine⟨?_,?_,?_,?_,?_,?_⟩<;>kernel_rfl)
theorem rC :BE AS 124 Tryz.f124:=(by refine⟨?_,?_,?_,?_,?_,?_⟩<;>kernel_rfl)
theorem jz :BE AS 101 Tryz.f101:=(by refine⟨?_,?_,?_,?_,?_,?_⟩<;>kernel_rfl)
theorem jy :BE AS 126 Tryz.f126:=(by refine⟨?_,?_,?_,?_,?_,?_⟩<;>kernel_rfl)
theorem tO :Bl AS 62 Tryz.f62:=(by refine⟨?_,?_,?_,?_,?_,?_⟩<;>kernel_rfl)
theorem tN :Bl AS 65 Tryz.f65:=(by refine⟨?_,?_,?_,?_,?_,?_⟩<;>kernel_rfl)
theorem tM :Bl AS 67 Tryz.f67:=(by refine⟨?_,?_,?_,?_,?_,?_⟩<;>kernel_rfl)
theorem tK :Bl AS 69 Tryz.f69:=(by refine⟨?_,?_,?_,?_,?_,?_⟩<;>kernel_rfl)
theorem eZ :CP AS 66 rn:=by
 refine Ar rN fun vs h K ht=> ?_
 obtain⟨s,rfl,hk⟩:=ht;refine⟨_,hk,t47 J7 ?_⟩;unfold C6
 repeat' (refine AA (fun a=> ?_) fun a=> ?_)
 all_goals simp only[*,cond_true,cond_false]
 all_goals rfl
theorem yP :CP AS 102 jV:=by
 refine Ar rG fun vs h K ht=> ?_
 obtain⟨x,y,rfl,hk⟩:=ht;refine⟨_,hk,t73 J7 ?_⟩;unfold Jo
 repeat' (refine AA (fun a=> ?_) fun a=> ?_)
 all_goals simp[*]
theorem QM {n:Nat}(h:n<=2*Bp):IntKind.wrap .i64 ((n:Int)+1)=((n+1:Nat):Int):=by
 unfold Bp at h;rw[Bx]<;>omega
theorem mE {n:Nat}(h:n+1<=2*Bp):IntKind.wrap .i64 (((n+1:Nat):Int)-1)=(n:Int):=by
 unfold Bp at h;rw[Bx]<;>omega
theorem CF {α:Type}(f:α->List AV)(l:List α){i:Nat}(h:i<l.length):Bm (l.map f) (i:Int)=f l[i]:=by
 unfold Bm;simp[h]
theorem Au {i n:Nat}(h:i<n):C7 (i:Int) n=true:=by
 unfold C7
 rw[decide_eq_true (by omega),decide_eq_true (by omega)];rfl
theorem Fp {α:Type}(p:α->Bool)(l:List α){i:Nat}(h:i<l.length):(l.drop i).any p=(p l[i]||(l.drop (i+1)).any p):=by
 rw[List.drop_eq_getElem_cons h,List.any_cons]
theorem Om (l:List (List UInt8))(x:List UInt8)(hl:l.length<=Bp):∀(n i:Nat),l.length-i=n->i<=l.length->∃z:Int,decide (z>=0)=(l.drop i).any (·==x)/\
  AE AS 126 (AD Tryz.f126) (AR Tryz.prog Tryz.f126 (.int .i64 z)) [.code [0,1,0,1],.block 0,.code [1,1]] .normal [(0,true,.sl 1 (l.map fun n=>[.str n]) none),(1,true,.str x),(7,true,.int .i64 l.length),(8,true,.int .i64 i)] []
 |0,i,hn,hi=>by
  refine⟨-1,?_,Vb J7 (AA (fun a=> ?_) fun _=>rfl)⟩
  ·rw[List.drop_of_length_le (by omega)];rfl
  ·simp at a;omega
 |n+1,i,hn,hi=>by
  have As:i<l.length:=by omega
  by_cases hx:l[i]=x
  ·refine⟨i,?_,Vb J7 (AA (fun a=>AF ?_ ⟨l[i],CF _ l As,AA (fun _=>rfl) fun b=> ?_⟩) fun a=> ?_)⟩
   ·rw[Fp _ _ As,decide_eq_true (by omega)];simp[hx]
   ·rw[List.length_map,Au As];rfl
   ·simp[hx] at b
   ·simp at a;omega
  ·obtain⟨z,hz,hr⟩:=Om l x hl n (i+1) (by omega) (by omega)
   refine⟨z,?_,Vb J7 (AA (fun a=>AF ?_ ⟨l[i],CF _ l As,AA (fun b=> ?_) fun b=> ?_⟩) fun a=> ?_)⟩
   ·rw[hz,Fp _ _ As];simp[hx]
   ·rw[List.length_map,Au As];rfl
   ·simp at b;exact absurd b.symm hx
   ·rw[QM (by omega)];exact hr
   ·simp at a;omega
theorem cP (l:List Int)(x:Int)(hl:l.length<=Bp):∀(n i:Nat),l.length-i=n->i<=l.length->∃z:Int,decide (z>=0)=(l.drop i).any (·==x)/\
  AE AS 124 (AD Tryz.f124) (AR Tryz.prog Tryz.f124 (.int .i64 z)) [.code [0,1,0,1],.block 0,.code [1,1]] .normal [(0,true,.sl 1 (l.map fun n=>[.int .i64 n]) none),(1,true,.int .i64 x),(7,true,.int .i64 l.length),(8,true,.int .i64 i)] []
 |0,i,hn,hi=>by
  refine⟨-1,?_,jd J7 (AA (fun a=> ?_) fun _=>rfl)⟩
  ·rw[List.drop_of_length_le (by omega)];rfl
  ·simp at a;omega
 |n+1,i,hn,hi=>by
  have As:i<l.length:=by omega
  by_cases hx:l[i]=x
  ·refine⟨i,?_,jd J7 (AA (fun a=>AF ?_ ⟨l[i],CF _ l As,AA (fun _=>rfl) fun b=> ?_⟩) fun a=> ?_)⟩
   ·rw[Fp _ _ As,decide_eq_true (by omega)];simp[hx]
   ·rw[List.length_map,Au As];rfl
   ·simp[hx] at b
   ·simp at a;omega
  ·obtain⟨z,hz,hr⟩:=cP l x hl n (i+1) (by omega) (by omega)
   refine⟨z,?_,jd J7 (AA (fun a=>AF ?_ ⟨l[i],CF _ l As,AA (fun b=> ?_) fun b=> ?_⟩) fun a=> ?_)⟩
   ·rw[hz,Fp _ _ As];simp[hx]
   ·rw[List.length_map,Au As];rfl
   ·simp at b;exact absurd b.symm hx
   ·rw[QM (by omega)];exact hr
   ·simp at a;omega
theorem uF :CP AS 126 Sp.cw:=by
 refine Ar jy fun vs h K ht=> ?_
 obtain⟨l,x,rfl,hl,hk⟩:=ht
 obtain⟨z,hz,hr⟩:=Om l x hl l.length 0 (by omega) (by omega)
 refine⟨_,hk z hz,t88 J7 ?_⟩;rw[List.length_map];exact hr
theorem yK :CP AS 124 im:=by
 refine Ar rC fun vs h K ht=> ?_
 obtain⟨l,x,rfl,hl,hk⟩:=ht
 obtain⟨z,hz,hr⟩:=cP l x hl l.length 0 (by omega) (by omega)
 refine⟨_,hk z hz,t86 J7 ?_⟩;rw[List.length_map];exact hr
theorem nB (l:List (List UInt8)):AZ.BX (l.map fun n=>[AV.str n])=true:=by
 induction l with
 |nil=>rfl
 |cons a r ih=>simp only[List.map_cons,AZ.BX,AZ.Aw,AZ,ih,Bool.true_and]
theorem q7 (l:List Int):AZ.BX (l.map fun n=>[AV.int .i64 n])=true:=by
 induction l with
 |nil=>rfl
 |cons a r ih=>simp only[List.map_cons,AZ.BX,AZ.Aw,AZ,ih,Bool.true_and]
theorem uI :CP AS 101 Sp.kI:=by
 refine Ar jz fun vs h K ht=> ?_
 obtain⟨l,x,rfl,hl,hk⟩:=ht
 exact⟨_,hk,t72 (AX (AG uF AN)) ⟨l,x,by rw[A9 0 [] _ (nB l)],hl,fun z hz=>by rw[hz]⟩⟩
theorem yR :CP AS 98 kH:=by
 refine Ar rH fun vs h K ht=> ?_
 obtain⟨l,x,rfl,hl,hk⟩:=ht
 exact⟨_,hk,t69 (AX (AG yK AN)) ⟨l,x,by rw[A9 0 [] _ (q7 l)],hl,fun z hz=>by rw[hz]⟩⟩
theorem EF {rows:List Row}{r:Hp}(hw:Ak.okW rows r){g:Nat}{pl e:Int}{n:Nat}(G:Hp)(hn:n=8+r.length):
  List.map (AL n G) (List.take n (hP g rows pl e++r))=hP g rows pl e++r:=by
 have hl:(hP g rows pl e++r).length=n:=by rw[hn];simp[hP];omega
 obtain⟨h1,h2⟩:=hw n G (by omega)
 rw[<-hl,List.take_length,hl,List.map_append,h2]
 congr 1
 obtain⟨m,rfl⟩:∃m,n=m+8:=⟨r.length,by omega⟩
 have b:∀i,i<8->Nat.blt i (m+8)=true:=fun i h=>Nat.ble_eq_true_of_le (by omega)
 simp only[hP,List.map_cons,List.map_nil,AL,AP,strip,AB,Cj,h1,b 0 (by omega),b 1 (by omega),b 5 (by omega),cond_true]
theorem Cf {g:Nat}{rows:List Row}{pl e:Int}{r:Hp}:(hP g rows pl e++r).length=8+r.length:=by simp[hP];omega
theorem D7 {K:AV->Hp->Prop}{v:AV}{h h':Hp}(e:h'=h)(hk:K v h):K v h':=e▸hk
theorem JA {rows:List Row}{r own:Hp}(hw:Ak.okW rows r){g:Nat}{pl e:Int}{n:Nat}{G:Hp}(hn:n=8+r.length):
  List.map (AL n G) (List.take n ((hP g rows pl e++r)++own))=hP g rows pl e++r:=by
 rw[List.take_append_of_le_length (by rw[hn,Cf];exact Nat.le_refl _)]
 exact EF hw G hn
theorem iA :CP AS 62 Jr:=by
 refine BF tO fun vs h K ht=> ?_
 obtain⟨g,row,rows,pl,e,r,hw,hl,rfl,rfl,hk⟩:=ht
 have nc:IntKind.wrap IntKind.i64 (((row::rows).length:Int)-1)=((row::rows).length:Int)-1:=by
  unfold Bp at hl
  rw[Bx]<;>simp at hl⊢<;>omega
 refine t43 J7 (AF ?_ ⟨AF ?_ ⟨?_,rfl⟩,?_⟩)
 ·rw[decide_eq_true nc];rfl
 ·rw[decide_eq_true nc];rfl
 ·repeat' (first|exact rfl|exact trivial|constructor)
 ·exact D7 (EF hw _ Cf) hk
theorem hZ :CP AS 65 Ch:=by
 refine BF tN fun vs h K ht=> ?_
 obtain⟨p,x,g,rows,pl,e,r,hw,rfl,rfl,hk⟩:=ht
 refine t46 J7 (AA (fun a=> ?_) fun a=> ?_)
 ·simp only[fE,a,cond_true] at hk;exact D7 (EF hw _ Cf) hk
 ·simp only[fE,a,cond_false] at hk;exact D7 (EF hw _ Cf) hk
theorem KY :AK AS (Af [(62,Jr)]):=AX (AG iA AN)
theorem cc {es:List (List AV)}{x:List AV}{n:Nat}(hn:es.length=n+1)(hx:Bm es (n:Int)=x):es.getLast? =some x:=by
 have h:n<es.length:=by omega
 have:Bm es (n:Int)=es[n]:=by unfold Bm;simp[h]
 rw[this] at hx;rw[List.getLast?_eq_getElem?,hn,Nat.add_sub_cancel,List.getElem?_eq_getElem h,hx]
theorem ou :CP AS 69 UM:=by
 refine BF tK fun vs h K ht=> ?_
 obtain⟨g,v0,v1,v2,v3,es,rows,pl,e,r,hw,hl,⟨WY,Mo⟩,rfl,rfl,hk⟩:=ht
 refine t50 KY ⟨g,_,_,pl,e,r,hw,hl,rfl,rfl,AF (by simp) (AA (fun a=> ?_) fun a=> ?_)⟩
 ·have:es=[]:=by cases es with
   |nil=>rfl
   |cons=>simp at a;omega
  subst this;exact D7 (EF hw _ Cf) hk
 ·obtain⟨n,hn⟩:∃n,es.length=n+1:=⟨es.length-1,by cases es with
   |nil=>simp at a
   |cons x l=>simp⟩
  have nc:IntKind.wrap .i64 ((es.length:Int)-1)=(n:Int):=by rw[hn];exact mE (by omega)
  rw[nc]
  have dN:Bm es (n:Int)∈es:=by
   have h:n<es.length:=by omega
   have:Bm es (n:Int)=es[n]:=by unfold Bm;simp[h]
   rw[this];exact List.getElem_mem h
  obtain⟨k,w1,w2,w3,w4,hx⟩:=Mo _ dN
  refine AF (by rw[Au (by omega)];rfl) ⟨k,w1,w2,w3,w4,hx,?_⟩
  have n8:Ea es=k:=by unfold Ea;rw[cc hn hx]
  rw[n8] at hk;exact D7 (EF hw _ Cf) hk
theorem mK :AK AS (Af [(62,Jr),(69,UM),(98,kH)]):=AX (AG iA (AG ou (AG yR AN)))
theorem ov :CP AS 67 cI:=by
 refine BF tM fun vs h K ht=> ?_
 obtain⟨g,k,x,v1,v2,v3,es,rows,pl,e,r,hw,hl,VO,rfl,rfl,hk⟩:=ht
 have fin:∀{b:Bool} {G:Hp},b=Du k (Ea es) x->K (.bool b) (List.map (AL (hP g (BG (.int .i64 k) v1 v2 v3 es::rows) pl e++r).length G) (List.take (hP g (BG (.int .i64 k) v1 v2 v3 es::rows) pl e++r).length (hP g (BG (.int .i64 k) v1 v2 v3 es::rows) pl e++r))):=fun e1=>e1▸D7 (EF hw _ Cf) hk
 refine t48 mK ⟨g,_,_,pl,e,r,hw,hl,rfl,rfl,AF (by simp) (AA (fun a=>AA (fun b=> ?_) fun b=> ?_) fun a=>AA (fun a2=>AA (fun b=> ?_) fun b=> ?_) fun a2=> ?_)⟩
 ·refine⟨g,_,_,_,_,es,rows,pl,e,r,hw,hl,VO,rfl,rfl,AA (fun c=>fin ?_) fun c=>AA (fun d=> ?_) fun d=>fin ?_⟩
  ·simp[Du,a,b,c]
  ·refine⟨g,_,_,_,_,es,rows,pl,e,r,hw,hl,VO,rfl,rfl,fin ?_⟩;simp[Du,a,b,c,d]
  ·simp[Du,a,b,c,d]
 ·refine AA (fun d=> ?_) fun d=>fin ?_
  ·refine⟨g,_,_,_,_,es,rows,pl,e,r,hw,hl,VO,rfl,rfl,fin ?_⟩;simp[Du,a,b,d]
  ·simp[Du,a,b,d]
 ·refine⟨g,_,_,_,_,es,rows,pl,e,r,hw,hl,VO,rfl,rfl,AA (fun c=>fin ?_) fun c=>AA (fun d=> ?_) fun d=>fin ?_⟩
  ·simp[Du,a,a2,b,c]
  ·refine⟨g,_,_,_,_,es,rows,pl,e,r,hw,hl,VO,rfl,rfl,fin ?_⟩;simp[Du,a,a2,b,c,d]
  ·simp[Du,a,a2,b,c,d]
 ·refine AA (fun d=> ?_) fun d=>fin ?_
  ·refine⟨g,_,_,_,_,es,rows,pl,e,r,hw,hl,VO,rfl,rfl,fin ?_⟩;simp[Du,a,a2,b,d]
  ·simp[Du,a,a2,b,d]
 ·refine⟨[8,9,11,12],x,rfl,by simp,?_⟩
  refine D7 ?_ ((show(!([8,9,11,12]:List Int).any (·==x))=Du k (Ea es) x from ?_)▸hk)
  ·exact JA hw Cf
  ·have h (z:Int):(z==x)=(x==z):=BEq.comm;simp[Du,a,a2,h,Bool.and_assoc]
theorem kn :Bl AS 63 Tryz.f63:=(by refine⟨?_,?_,?_,?_,?_,?_⟩<;>kernel_rfl)
theorem HP {rows:List Row}{r:Hp}{x:List AV}(ty:TypeId)(h:Ak.okW rows r)(hs:∀n g,8+r.length<=n->AP n g x=x):Ak.okW rows (r++[.mem ty x]):=by
 intro n g hn;rw[List.length_append] at hn
 obtain⟨h1,h2⟩:=h n g (by omega)
 exact⟨h1,by rw[List.map_append,h2,List.map_cons,List.map_nil,AL,hs n g (by omega)]⟩
theorem SG {v0 v1 v2 v3:AV}{es:List (List AV)}{x:List AV}{rows:List Row}{r:Hp}(h:Ak.okW (BG v0 v1 v2 v3 es::rows) r)(he:∀n g,8+r.length<=n->AP n g x=x):Ak.okW (BG v0 v1 v2 v3 (es++[x])::rows) r:=by
 intro n g hn;obtain⟨h1,h2⟩:=h n g hn;refine⟨?_,h2⟩;simp only[BG,List.map_cons,List.cons.injEq,Prod.mk.injEq,AP,strip,true_and,AV.sl.injEq,and_true] at h1⊢;obtain⟨⟨e0,e1,e2,e3,e4⟩,e5⟩:=h1;refine⟨⟨e0,e1,e2,e3,?_⟩,e5⟩;rw[DL,List.map_append,<-DL,e4,List.map_cons,List.map_nil,he n g hn]
theorem eA {K:AV->Hp->Prop}{g:Nat}{v0 v1 v2 v3:AV}{es:List (List AV)}{rows:List Row}{pl e:Int}{r:Hp}{x:List AV}(hw:Ak.okW (BG v0 v1 v2 v3 (es++[x])::rows) r)
  (hk:K (.tup []) (hP g (BG v0 v1 v2 v3 (es++[x])::rows) pl e++r)) {n:Nat} {G own:Hp} (hn:n=8+r.length):
  K (.tup []) (List.map (AL n G) (List.take n ((hP g ((es.length+1,[v0,v1,v2,v3,.sl 5 (es++[x]) none])::rows) pl e++r)++own))):=by
 rw[show es.length+1=(es++[x]).length by simp]
 exact D7 (JA hw hn) hk
theorem oy :CP AS 63 (Sv 5):=by
 refine BF kn fun vs h K ht=> ?_
 obtain⟨g,v0,v1,v2,v3,es,rows,pl,e,r,nk,na,nt,aa,oa,ks,ow,hw,hl,he,ha,hr,rfl,rfl,hk⟩:=ht
 obtain⟨b0,b1,b2,b3,b4,rfl⟩:∃b0 b1 b2 b3 b4,r=[b0,b1,b2,b3,b4]:=by
  match r,hr with
  |[b0,b1,b2,b3,b4],_=>exact⟨b0,b1,b2,b3,b4,rfl⟩
 have nf:=HP 26 hw ha;have ZS:=SG hw ha
 have g1:Nat.beq g g=true:=by simp
 have g2:(Nat.beq g g&&true&&true&&true&&Nat.beq es.length es.length&&true&&true&&decide ((es.length+1)*80<=140737488355328)&&true&&true)=true:=by
  unfold Bp at he;simp;omega
 have g3:(Nat.beq g g&&true&&Nat.beq g g&&true&&Nat.beq (es++[CT nk na nt aa oa ks ow]).length (es.length+1)&&true&&true)=true:=by simp
 refine mf KY ?_
 repeat' (first
  |exact rfl
  |exact trivial
  |exact g1
  |exact g2
  |exact g3
  |refine⟨g,_,_,pl,e,_,nf,hl,rfl,rfl,?_⟩
  |refine AF ?_ ?_
  |exact eA ZS hk (own:=[_]) Cf
  |refine⟨?_,?_⟩)
theorem ox :CP AS 63 (Sv 6):=by
 refine BF kn fun vs h K ht=> ?_
 obtain⟨g,v0,v1,v2,v3,es,rows,pl,e,r,nk,na,nt,aa,oa,ks,ow,hw,hl,he,ha,hr,rfl,rfl,hk⟩:=ht
 obtain⟨b0,b1,b2,b3,b4,b5,rfl⟩:∃b0 b1 b2 b3 b4 b5,r=[b0,b1,b2,b3,b4,b5]:=by
  match r,hr with
  |[b0,b1,b2,b3,b4,b5],_=>exact⟨b0,b1,b2,b3,b4,b5,rfl⟩
 have nf:=HP 26 hw ha;have ZS:=SG hw ha
 have g1:Nat.beq g g=true:=by simp
 have g2:(Nat.beq g g&&true&&true&&true&&Nat.beq es.length es.length&&true&&true&&decide ((es.length+1)*80<=140737488355328)&&true&&true)=true:=by
  unfold Bp at he;simp;omega
 have g3:(Nat.beq g g&&true&&Nat.beq g g&&true&&Nat.beq (es++[CT nk na nt aa oa ks ow]).length (es.length+1)&&true&&true)=true:=by simp
 refine me KY ?_
 repeat' (first
  |exact rfl
  |exact trivial
  |exact g1
  |exact g2
  |exact g3
  |refine⟨g,_,_,pl,e,_,nf,hl,rfl,rfl,?_⟩
  |refine AF ?_ ?_
  |exact eA ZS hk (own:=[_]) Cf
  |refine⟨?_,?_⟩)
theorem lM :CP AS 63 (Sv 10):=by
 refine BF kn fun vs h K ht=> ?_
 obtain⟨g,v0,v1,v2,v3,es,rows,pl,e,r,nk,na,nt,aa,oa,ks,ow,hw,hl,he,ha,hr,rfl,rfl,hk⟩:=ht
 obtain⟨b0,b1,b2,b3,b4,b5,b6,b7,b8,b9,rfl⟩:∃b0 b1 b2 b3 b4 b5 b6 b7 b8 b9,r=[b0,b1,b2,b3,b4,b5,b6,b7,b8,b9]:=by
  match r,hr with
  |[b0,b1,b2,b3,b4,b5,b6,b7,b8,b9],_=>exact⟨b0,b1,b2,b3,b4,b5,b6,b7,b8,b9,rfl⟩
 have nf:=HP 26 hw ha;have ZS:=SG hw ha
 have g1:Nat.beq g g=true:=by simp
 have g2:(Nat.beq g g&&true&&true&&true&&Nat.beq es.length es.length&&true&&true&&decide ((es.length+1)*80<=140737488355328)&&true&&true)=true:=by
  unfold Bp at he;simp;omega
 have g3:(Nat.beq g g&&true&&Nat.beq g g&&true&&Nat.beq (es++[CT nk na nt aa oa ks ow]).length (es.length+1)&&true&&true)=true:=by simp
 refine je KY ?_
 repeat' (first
  |exact rfl
  |exact trivial
  |exact g1
  |exact g2
  |exact g3
  |refine⟨g,_,_,pl,e,_,nf,hl,rfl,rfl,?_⟩
  |refine AF ?_ ?_
  |exact eA ZS hk (own:=[_]) Cf
  |refine⟨?_,?_⟩)
end Go.Proofs.YtopjpnhgnopbiaaGreatDoor
end
section
namespace Go.Proofs.YtopjpnhgnopbiaaGreatDoor
open Go.Ai Go Go.Ai.Sp
open Go.Ai.Ex (encAs encT blB limE)
set_option maxRecDepth 100000
theorem tD :Bl AS 100 Tryz.f100:=(by refine⟨?_,?_,?_,?_,?_,?_⟩<;>kernel_rfl)
theorem kj :Bl AS 125 Tryz.f125:=(by refine⟨?_,?_,?_,?_,?_,?_⟩<;>kernel_rfl)
theorem km :Bl AS 99 Tryz.f99:=(by refine⟨?_,?_,?_,?_,?_,?_⟩<;>kernel_rfl)
theorem tL :Bl AS 68 Tryz.f68:=(by refine⟨?_,?_,?_,?_,?_,?_⟩<;>kernel_rfl)
theorem yQ :CP AS 100 YD:=by
 refine BF tD fun vs h K ht=> ?_
 obtain⟨g,rows,pl,e,b0,b1,b2,b3,b4,b5,b6,wd,an,av,ap,hw,rfl,rfl,hk⟩:=ht;refine t71 J7 ?_;exact D7 (JA hw (own:=[_]) Cf) hk
theorem aZ :AK AS (Af [(100,YD)]):=AX (AG yQ AN)
section
variable {g:Nat}{rows:List Row}{pl e:Int}{b0 b1 b2 b3 b4 b5 b6:Blk}{wd:List UInt8}{l:List Ex.A8}
theorem On {K:AV->Hp->Prop}(hw:Ak.okW rows [b0,b1,b2,b3,b4,b5,b6,.mem 9 [.str wd]])(hl:l.length<=Bp)(hk:∀z:Int,decide (z>=0)=(l.any fun a=>a.name==wd)->K (.int .i64 z) (hP g rows pl e++[b0,b1,b2,b3,b4,b5,b6,.mem 9 [.str wd]])):
  ∀(n i:Nat),l.length-i=n->i<=l.length->(l.take i).any (fun a=>a.name==wd)=false->
  AE AS 125 (AD Tryz.f125) (AQ Tryz.prog Tryz.f125 ((hP g rows pl e++[b0,b1,b2,b3,b4,b5,b6,.mem 9 [.str wd]]).length) K) [.code [0,1,0,1],.block 0,.code [1,1]] .normal [(0,true,.sl 3 (encAs l) none),(1,true,.fn (.func 100) [] [.ptr 15 0]),(7,true,.int .i64 l.length),(8,true,.int .i64 i)] (hP g rows pl e++[b0,b1,b2,b3,b4,b5,b6,.mem 9 [.str wd]])
 |0,i,hn,hi,hp=>by
  refine ax aZ (AA (fun a=> ?_) fun _=> ?_)
  ·simp at a;omega
  ·refine D7 (EF hw _ Cf) (hk _ ?_)
   rw[List.take_of_length_le (by omega)] at hp
   rw[hp];rfl
 |n+1,i,hn,hi,hp=>by
  have As:i<l.length:=by omega
  have hlen:(encAs l).length=l.length:=by simp[encAs]
  refine ax aZ (AA (fun a=>AF ?_ ⟨_,_,_,CF _ l As,g,rows,pl,e,b0,b1,b2,b3,b4,b5,b6,wd,_,_,_,hw,rfl,rfl,AA (fun b=> ?_) fun b=> ?_⟩) fun a=> ?_)
  ·rw[hlen,Au As];rfl
  ·refine D7 (EF hw _ Cf) (hk _ ?_)
   rw[decide_eq_true (by omega)]
   symm;rw[List.any_eq_true];exact⟨_,List.getElem_mem As,b⟩
  ·rw[QM (by omega)]
   refine On hw hl hk n (i+1) (by omega) (by omega) ?_
   rw[List.take_succ_eq_append_getElem As,List.any_append,hp];simpa using b
  ·simp at a;omega
end
theorem uG :CP AS 125 jK:=by
 refine BF kj fun vs h K ht=> ?_
 obtain⟨g,rows,pl,e,b0,b1,b2,b3,b4,b5,b6,wd,l,hw,hl,rfl,rfl,hk⟩:=ht;refine t87 aZ ?_
 have hlen:(encAs l).length=l.length:=by simp[encAs]
 rw[hlen]
 exact On hw hl hk l.length 0 (by omega) (by omega) rfl
theorem uJ :CP AS 99 dn:=by
 refine BF km fun vs h K ht=> ?_
 obtain⟨g,rows,pl,e,b0,b1,b2,b3,b4,b5,b6,wd,l,hw,hl,rfl,rfl,hk⟩:=ht
 refine t70 (AX (AG uG AN)) ⟨g,rows,pl,e,b0,b1,b2,b3,b4,b5,b6,wd,l,hw,hl,rfl,rfl,fun z hz=> ?_⟩
 rw[hz];exact D7 (EF hw _ Cf) hk
end Go.Proofs.YtopjpnhgnopbiaaGreatDoor
end
section
namespace Go.Proofs.YtopjpnhgnopbiaaGreatDoor
open Go.Ai Go Go.Ai.Sp
open Go.Ai.Ex (encAs encT blB limE)
set_option maxRecDepth 100000
theorem Gi {C:Bh}{k:Nat}{t t':Ci}(h:CP C k t)(w:∀vs h K,t' vs h K->t vs h K):CP C k t':=fun l g K ht=>h l g K (w _ _ _ ht)
theorem Oc {rows:List Row}(h:Ak.gG rows)(n:Nat)(g:Hp)(hn:4<=n):rows.map (fun x=>(x.1,AP n g x.2))=rows:=by
 conv=>rhs;rw[<-List.map_id rows]
 exact List.map_congr_left fun r hr=>by rw[Cu n g _ (h r hr n hn)];rfl
theorem SH {rows:List Row}(h:Ak.gG rows)(n:Nat)(hn:4<=n):(rows.all fun r=>CA n r.2)=true:=List.all_eq_true.2 fun r hr=>h r hr n hn
def IW :Blk->Bool
 |.mem _ cs=>AZ.Aw cs
 |.stk .. =>false
 |_=>true
theorem Mg {b:Blk}(h:IW b=true)(n:Nat)(g:Hp):AL n g b=b:=by
 cases b with
 |mem t cs=>rw[AL,BK n g cs h]
 |stk=>cases h
 |_=>rfl
theorem GU {rows:List Row}{r:Hp}(h:Ak.gG rows)(hr:r.all IW=true):Ak.okW rows r:=fun n g hn=>⟨Oc h n g (by omega),by
 conv=>rhs;rw[<-List.map_id r]
 exact List.map_congr_left fun b hb=>Mg (List.all_eq_true.1 hr b hb) n g⟩
theorem HM (l:List (List UInt8)):AZ.BX (l.map fun n=>[AV.str n])=true:=nB l
theorem IX (l:List Ex.A8):AZ.BX (encAs l)=true:=by
 unfold encAs
 induction l with
 |nil=>rfl
 |cons a r ih=>simp only[List.map_cons,Ex.Ao,AZ.BX,AZ.Aw,AZ,ih,Bool.true_and]
theorem Rq {tk fr to:Int}{nm tx:List UInt8}(l:List Ex.A8):AZ.Aw (Jt tk fr to nm tx (encAs l))=true:=by
 have:=IX l;simp[Jt,AZ.Aw,AZ,this]
theorem Vr (x:El):AZ.Aw (IQ x)=true:=by
 have:=HM x.names;simp[IQ,AZ.Aw,AZ,this]
theorem HL {tk fr to:Int}{nm tx:List UInt8}(l:List Ex.A8)(x:El):(Fl (Jt tk fr to nm tx (encAs l)) x).all IW=true:=by
 simp[Fl,IW,Rq,Vr]
def U9 (x:El)(l:List Ex.A8)(s:Int×Int):Int×Int:=l.foldl (fun s a=>bif !(x.names.any (·==a.name))|| !Jo a.name a.value then fE a.at' 12 s.1 s.2 else s) s
def iH (fr:Int)(l:List Ex.A8)(ns:List (List UInt8))(s:Int×Int):Int×Int:=ns.foldl (fun s nm=>bif !(l.any fun a=>a.name==nm) then fE fr 12 s.1 s.2 else s) s
section
variable {g:Nat}{rows:List Row}{x:El}{tk fr to:Int}{nm tx:List UInt8}{l:List Ex.A8}{K:AV->Hp->Prop}
theorem ae (hr:Ak.gG rows):AK AS (Af [(101,Sp.kI),(102,jV),(65,jM g rows (Blk.grow 0 3 80) (Blk.mem 50 (Jt tk fr to nm tx (encAs l))) (Blk.mem 50 (Jt tk fr to nm tx (encAs l))) (Blk.grow 0 1 9) (Blk.mem 114 (IQ x)) (Blk.mem 114 (IQ x)) (Blk.mem 50 (Jt tk fr to nm tx (encAs l))))]):=
 AX (AG uI (AG yP (AG (Gi hZ fun vs h K ht=>by
  obtain⟨p,y,pl,e,w,v,q,rfl,rfl,hk⟩:=ht
  exact⟨p,y,g,rows,pl,e,_,GU hr (by simp[IW,Rq,Vr,AZ.Aw,AZ]),rfl,rfl,hk⟩) AN)))
theorem ie :Aa 15 (encAs l)=true:=Di 15 _ (IX l)
theorem cN :Aa 15 (x.names.map fun n=>[AV.str n])=true:=Di 15 _ (HM _)
theorem Nc (hr:Ak.gG rows)(hx:x.names.length<=Bp)(hl:l.length<=Bp):∀(n i:Nat) (pl e:Int),l.length-i=n->i<=l.length->K (.tup []) (hP g rows (U9 x (l.drop i) (pl,e)).1 (U9 x (l.drop i) (pl,e)).2++Fl (Jt tk fr to nm tx (encAs l)) x)->
  AE AS 68 (AD Tryz.f68) (AQ Tryz.prog Tryz.f68 ((hP g rows pl e++Fl (Jt tk fr to nm tx (encAs l)) x).length) K) ([.code [0,1,1,1],.block 2]) .normal [(0,true,.ptr 7 0),(4,true,.ptr 13 0),(31,true,.sl 3 (encAs l) none),(32,true,.int .i64 l.length),(33,true,.int .i64 i)]
   (hP g rows pl e++Fl (Jt tk fr to nm tx (encAs l)) x++[.mem 114 (IQ x),.mem 50 (Jt tk fr to nm tx (encAs l))])
 |0,i,pl,e,hn,hi,hk=>by
  refine mX (ae hr) (AA (fun a=> ?_) fun _=> ?_)
  ·simp at a;omega
  ·rw[List.drop_of_length_le (by omega)] at hk
   exact D7 (JA (GU hr (HL l x)) (own:=[_,_]) Cf) hk
 |n+1,i,pl,e,hn,hi,hk=>by
  have As:i<l.length:=by omega
  have hlen:(encAs l).length=l.length:=by simp[encAs]
  rw[List.drop_eq_getElem_cons As] at hk
  have UX:(Aa 15 (encAs l)&&true&&true&&((List.all rows fun(r:Nat×List AV)↦CA 15 (Prod.snd r))&&(Aa 15 (encAs l)&&true&&true&&(Aa 15 (encAs l)&&true&&true&&(Aa 15 (x.names.map fun n=>[AV.str n])&&true&&true&&(Aa 15 (x.names.map fun n=>[AV.str n])&&true&&true&&(Aa 15 (encAs l)&&true&&true&&true)))))))=true:=by
   rw[ie,cN,SH hr 15 (by decide)];rfl
  have go:∀fP e',(fP,e')=(bif !(x.names.any (·==l[i].name))|| !Jo l[i].name l[i].value then fE l[i].at' 12 pl e else(pl,e))->K (.tup []) (hP g rows (U9 x (l.drop (i+1)) (fP,e')).1 (U9 x (l.drop (i+1)) (fP,e')).2++Fl (Jt tk fr to nm tx (encAs l)) x):=fun fP e' he=>by
   rw[he];exact hk
  have wr:IntKind.wrap .i64 ((i:Int)+1)=((i+1:Nat):Int):=QM (by omega)
  refine mX (ae hr) (AA (fun a=>AF ?_ ⟨_,_,_,CF _ l As,x.names,_,by rw[A9 0 [] _ (HM _)],hx,AA (fun b=> ?_) fun b=>⟨_,_,rfl,AA (fun c=> ?_) fun c=> ?_⟩⟩) fun a=> ?_)
  ·rw[hlen,Au As];rfl
  ·refine⟨_,_,pl,e,_,_,_,rfl,rfl,AF UX ?_⟩;rw[wr]
   exact Nc hr hx hl n (i+1) _ _ (by omega) (by omega) (go _ _ (by rw[b];rfl))
  ·refine⟨_,_,pl,e,_,_,_,rfl,rfl,AF UX ?_⟩;rw[wr]
   exact Nc hr hx hl n (i+1) _ _ (by omega) (by omega) (go _ _ (by rw[b,c];rfl))
  ·refine AF UX ?_;rw[wr]
   exact Nc hr hx hl n (i+1) _ _ (by omega) (by omega) (go _ _ (by rw[b,c];rfl))
  ·simp at a;omega
theorem af (hr:Ak.gG rows):AK AS (Af [(99,dn),(65,jL g rows (Blk.grow 0 3 80) (Blk.mem 50 (Jt tk fr to nm tx (encAs l))) (Blk.mem 50 (Jt tk fr to nm tx (encAs l))) (Blk.grow 0 1 9) (Blk.mem 114 (IQ x)) (Blk.mem 114 (IQ x)) (Blk.mem 50 (Jt tk fr to nm tx (encAs l))))]):=
 AX (AG uJ (AG (Gi hZ fun vs h K ht=>by
  obtain⟨p,y,pl,e,w,rfl,rfl,hk⟩:=ht
  exact⟨p,y,g,rows,pl,e,_,GU hr (by simp[IW,Rq,Vr,AZ.Aw,AZ]),rfl,rfl,hk⟩) AN))
theorem SM (hr:Ak.gG rows)(hx:x.names.length<=Bp)(hl:l.length<=Bp)(ns:List (List UInt8))(Nj:ns.length<=Bp):∀(n i:Nat) (pl e:Int),ns.length-i=n->i<=ns.length->K (.tup []) (hP g rows (U9 x l (iH fr l (ns.drop i) (pl,e))).1 (U9 x l (iH fr l (ns.drop i) (pl,e))).2++Fl (Jt tk fr to nm tx (encAs l)) x)->
  AE AS 68 (AD Tryz.f68) (AQ Tryz.prog Tryz.f68 ((hP g rows pl e++Fl (Jt tk fr to nm tx (encAs l)) x).length) K) ([.code [0,1,0,1],.block 0,.code [1,1]]) .normal [(0,true,.ptr 7 0),(4,true,.ptr 13 0),(5,true,.ptr 14 0),(14,true,.sl 1 (ns.map fun n=>[.str n]) none),(15,true,.int .i64 ns.length),(16,true,.int .i64 i)]
   (hP g rows pl e++Fl (Jt tk fr to nm tx (encAs l)) x++[.mem 114 (IQ x),.mem 50 (Jt tk fr to nm tx (encAs l))])
 |0,i,pl,e,hn,hi,hk=>by
  refine az (af hr) (AA (fun a=> ?_) fun _=> ?_)
  ·simp at a;omega
  ·rw[List.drop_of_length_le (by omega)] at hk
   have hlen:(encAs l).length=l.length:=by simp[encAs]
   have:=Nc (g:=g) (K:=K) (x:=x) (tk:=tk) (fr:=fr) (to:=to) (nm:=nm) (tx:=tx) hr hx hl l.length 0 pl e (by omega) (by omega) hk
   rw[<-hlen] at this;exact this
 |n+1,i,pl,e,hn,hi,hk=>by
  have As:i<ns.length:=by omega
  have hlen:(ns.map fun n=>[AV.str n]).length=ns.length:=by simp
  rw[List.drop_eq_getElem_cons As] at hk
  have UX:(Aa 15 (ns.map fun n=>[AV.str n])&&true&&true&&((List.all rows fun(r:Nat×List AV)↦CA 15 (Prod.snd r))&&(Aa 15 (encAs l)&&true&&true&&(Aa 15 (encAs l)&&true&&true&&(Aa 15 (x.names.map fun n=>[AV.str n])&&true&&true&&(Aa 15 (x.names.map fun n=>[AV.str n])&&true&&true&&(Aa 15 (encAs l)&&true&&true&&true)))))))=true:=by
   rw[ie,cN,SH hr 15 (by decide),Di 15 _ (HM ns)];rfl
  have go:∀fP e',(fP,e')=(bif !(l.any fun a=>a.name==ns[i]) then fE fr 12 pl e else(pl,e))->K (.tup []) (hP g rows (U9 x l (iH fr l (ns.drop (i+1)) (fP,e'))).1 (U9 x l (iH fr l (ns.drop (i+1)) (fP,e'))).2++Fl (Jt tk fr to nm tx (encAs l)) x):=fun fP e' he=>by
   rw[he];exact hk
  have wr:IntKind.wrap .i64 ((i:Int)+1)=((i+1:Nat):Int):=QM (by omega)
  refine az (af hr) (AA (fun a=>AF ?_ ⟨_,CF _ ns As,g,rows,pl,e,_,_,_,_,_,_,_,_,l,GU hr ?_,hl,rfl,rfl,AA (fun b=> ?_) fun b=> ?_⟩) fun a=> ?_)
  ·rw[hlen,Au As];rfl
  ·have h1:=IX l;have h2:=HM x.names;simp[IW,AZ.Aw,AZ,h1,h2]
  ·refine⟨_,_,pl,e,_,rfl,rfl,AF UX ?_⟩;rw[wr]
   exact SM hr hx hl ns Nj n (i+1) _ _ (by omega) (by omega) (go _ _ (by rw[b];rfl))
  ·refine AF UX ?_;rw[wr]
   exact SM hr hx hl ns Nj n (i+1) _ _ (by omega) (by omega) (go _ _ (by rw[b];rfl))
  ·simp at a;omega
end
theorem c49 :CP AS 68 lR:=by
 refine BF tL fun vs h K ht=> ?_
 obtain⟨g,rows,pl,e,x,tk,fr,to,nm,tx,l,hr,hm,hx,hl,rfl,rfl,hk⟩:=ht
 have hc:B6 (x.names.map fun n=>[AV.str n]) none (some ((x.JZ:Nat):Int))=(x.names.take x.JZ).map fun n=>[AV.str n]:=by
  simp[B6]
 refine t49 J7 (AF ?_ ?_)
 ·simp only[BB,List.length_map]
  rw[decide_eq_true (by omega),decide_eq_true (by omega)];rfl
 ·rw[hc,List.length_map]
  exact SM hr hx hl (x.names.take x.JZ) (by rw[List.length_take];omega) _ 0 pl e rfl (by omega) hk
end Go.Proofs.YtopjpnhgnopbiaaGreatDoor
end
section
namespace Go.Proofs.YtopjpnhgnopbiaaGreatDoor
open Go.Ai Go Go.Ai.Sp
open Go.Ai.Ex (encAs encT)
set_option maxRecDepth 100000
theorem tX :Bl AS 40 Tryz.f40:=(by refine⟨?_,?_,?_,?_,?_,?_⟩<;>kernel_rfl)
theorem tW :Bl AS 41 Tryz.f41:=(by refine⟨?_,?_,?_,?_,?_,?_⟩<;>kernel_rfl)
theorem pB (c:UInt8):Ex.blB c=([32,9,10,13]:List UInt8).contains c:=by
 simp only[Ex.blB,List.contains_cons,List.contains_nil,Bool.or_false,Bool.or_assoc]
theorem pj :CP AS 64 aO:=by
 refine Gj (g:=JG) (by kernel_rfl) (by kernel_rfl) (by kernel_rfl) (by kernel_rfl) fun vs h K ht=> ?_
 obtain⟨s,hs,rfl,hk⟩:=ht;refine⟨.str (BZ s),hk,?_⟩
 have e:BZ s=Lib.trimLeftS s [32,9,10,13]:=by
  unfold BZ Lib.trimLeftS
  congr 1
  funext c
  exact pB c
 rw[e];rfl
theorem Kp (r:List Nd){n:Nat}(h:4<=n):Cj n (Ln r)=Ln r/\(match Ln r with|some id=>Nat.blt id n|none=>true)=true:=by
 cases r with
 |nil=>
  have:Nat.blt 3 n=true:=Nat.ble_eq_true_of_le h
  exact⟨by simp only[Ln,Cj,this,cond_true],this⟩
 |cons a l=>exact⟨rfl,rfl⟩
theorem cL {o:Option Nat}{n:Nat}(ho:(match o with|some id=>Nat.blt id n|none=>true)=true)(m:Nd):CA n (Vn o m).2=true:=by
 have h1:=Qi n m.attrs;have h2:=Qh n m.kids;unfold Vn BG;simp only[CA,Dv,h1,h2,Bool.true_and,Bool.and_true];exact ho
theorem Cm :∀l:List Nd,Ak.gG (AY l)
 |[],r,hr=>by cases hr
 |n::l,r,hr=>by
  rcases List.mem_cons.1 hr with rfl|hr
  ·exact fun m hm=>cL (Kp l hm).2 n
  ·exact Cm l r hr
theorem Bv :∀l:List Nd,(AY l).length=l.length
 |[]=>rfl
 |n::l=>by simp[AY,Bv l]
theorem GF (t:Ex.Tok):AZ.Aw (encT t)=true:=by
 have:=IX t.attrs;simp[Ex.encT,AZ.Aw,AZ,this]
theorem Qe (t:Ex.Tok):(CO t).all IW=true:=by simp[CO,IW,GF]
theorem SF (l:List Nd)(t:Ex.Tok):Ak.okW (AY l) (CO t):=GU (Cm l) (Qe t)
theorem MC {l:List Nd}(h:l.length<=Bp):MD (Ac l):=by
 refine⟨by rw[Be];exact h,fun x hx=> ?_⟩
 rw[Dx] at hx;obtain⟨n,_,rfl⟩:=List.mem_map.1 hx;exact⟨_,_,_,_,_,Gt n⟩
theorem Kw (l:List Nd):Ea (Ac l)=DB l:=by
 unfold Ea DB;rw[Dx,List.getLast?_map]
 cases l.getLast? with
 |none=>rfl
 |some n=>simp only[Option.map_some,Gt]
theorem Dr {rows:List Row}{r own:Hp}{g:Nat}{pl e:Int}{n:Nat}{G:Hp}(hn:n=8+r.length):
  List.map (AL n G) (List.take n (hP g rows pl e++(r++own)))=hP g (rows.map fun x=>(x.1,AP n G x.2)) pl e++r.map (AL n G):=by
 have hl:(hP g rows pl e++r).length=n:=by rw[hn];simp[hP];omega
 rw[<-List.append_assoc,<-hl,List.take_left' rfl,hl,List.map_append]
 congr 1
 obtain⟨m,rfl⟩:∃m,n=m+8:=⟨r.length,by omega⟩
 have b:∀i,i<8->Nat.blt i (m+8)=true:=fun i h=>Nat.ble_eq_true_of_le (by omega)
 simp only[hP,List.map_cons,List.map_nil,AL,AP,strip,AB,Cj,b 0 (by omega),b 1 (by omega),b 5 (by omega),cond_true,List.length_map]
theorem Hj {o:Option Nat}{nk np:Int}{nt:List UInt8}{na:List Go.Ai.A8}{BP:List Nd}{k p:Int}{t:List UInt8}{al:List Go.Ai.A8}{ks:List Nd}{G:Hp}{oa ow:Option Nat}{m:Nat}(ho:Cj m o=o)(ha:Cj m oa=none)(hw:Cj m ow=none):
  ((BG (.int .i64 nk) (.int .i64 np) (.str nt) (.sl 3 (na.map Go.Ai.Ao) o) (Ac BP++[CT k p t (al.map Go.Ai.Ao) oa (Ac ks) ow])).1,
   AP m G (BG (.int .i64 nk) (.int .i64 np) (.str nt) (.sl 3 (na.map Go.Ai.Ao) o) (Ac BP++[CT k p t (al.map Go.Ai.Ao) oa (Ac ks) ow])).2)=Vn o (EJ (.mk nk np nt na BP) (.mk k p t al ks)):=by
 have h1:∀l:List Nd,AB m G (Ac l)=Ac l:=fun l=>A9 _ _ _ (FI l)
 have h2:∀l:List Go.Ai.A8,AB m G (l.map Go.Ai.Ao)=l.map Go.Ai.Ao:=fun l=>A9 _ _ _ (FJ l)
 have h3:AP m G (CT k p t (al.map Go.Ai.Ao) oa (Ac ks) ow)=PW (.mk k p t al ks):=by
  unfold CT;rw[AP,AP,AP,AP,AP,AP,Cd,Cd,h1,h2,ha,hw];rfl
 have h4:AB m G (Ac BP++[CT k p t (al.map Go.Ai.Ao) oa (Ac ks) ow])=Ac (BP++[.mk k p t al ks]):=by
  rw[DL,List.map_append,<-DL,h1,List.map_cons,List.map_nil,h3,Dx,Dx,List.map_append];rfl
 unfold BG;simp only;rw[AP,AP,AP,AP,AP,AP,Cd,Cd,h4,h2,ho];show(_,[AV.int .i64 nk,AV.int .i64 np,AV.str nt,AV.sl 3 (na.map Go.Ai.Ao) o,AV.sl 5 (Ac (BP++[.mk k p t al ks])) none])=((Ac (BP++[.mk k p t al ks])).length,_);rw[Be,List.length_append,List.length_append,Be];rfl
theorem DM (l:List Nd)(m:Nat)(G:Hp)(hm:4<=m):(AY l).map (fun x=>(x.1,AP m G x.2))=AY l:=Oc (Cm l) m G hm
theorem Dq (t:Ex.Tok)(m:Nat)(G:Hp):(CO t).map (AL m G)=CO t:=by
 conv=>rhs;rw[<-List.map_id (CO t)]
 exact List.map_congr_left fun b hb=>Mg (List.all_eq_true.1 (Qe t) b hb) m G
theorem ye :CP AS 41 (H9 OM Gr):=by
 refine BF tW fun vs h K ht=> ?_
 obtain⟨g,s,t,BT,⟨GI,JL⟩,sS,-,rfl,rfl,hk⟩:=ht;obtain⟨rows,pl,e⟩:=s
 cases rows with
 |nil=>exact absurd rfl BT
 |cons n r=>
  obtain⟨nk,np,nt,na,BP⟩:=n
  have hw:=HP 50 (SF (.mk nk np nt na BP::r) t) (x:=encT t) fun m G _=>BK m G _ (GF t)
  have hl:(AY (Nd.mk nk np nt na BP::r)).length<=Bp:=by rw[Bv];exact Nat.le_of_lt GI
  have g1:(Nat.beq g g&&true&&true&&true)=true:=by simp
  refine t27 KY ?_
  repeat' (first
   |exact rfl
   |exact trivial
   |exact g1
   |refine⟨g,_,_,pl,e,_,hw,hl,rfl,rfl,?_⟩
   |refine AF ?_ ?_
   |exact D7 ((Dr (own:=[_]) (r:=CO t) (rows:=AY (Nd.mk nk np t.text na BP::r)) Cf).trans (by rw[DM,Dq]<;>first|rfl|(rw[Cf];omega))) (hk g)
   |refine⟨?_,?_⟩)
theorem mP :AK AS (Af [(62,Jr),(63,Sv 5),(64,aO),(65,Ch)]):=AX (AG iA (AG oy (AG pj (AG hZ AN))))
theorem FT (g:Nat):Nat.beq g g=true:=by simp
theorem Mj {k p:Int}{t:List UInt8}{al:List Go.Ai.A8}{oa ow:Option Nat}{n:Nat}{G:Hp}(h1:Cj n oa=oa)(h2:Cj n ow=ow):AP n G (CT k p t (al.map Go.Ai.Ao) oa [] ow)=CT k p t (al.map Go.Ai.Ao) oa [] ow:=by
 have h:AB n G (al.map Go.Ai.Ao)=al.map Go.Ai.Ao:=A9 _ _ _ (FJ al);unfold CT;rw[AP,AP,AP,AP,AP,AP,Cd,Cd,h,h1,h2];rfl
theorem Nf {n id:Nat}(h:id<n):Cj n (some id)=some id:=by
 simp only[Cj,Nat.blt,Nat.ble_eq_true_of_le (show id+1<=n from h),cond_true]
theorem Ng {n id:Nat}(h:n<=id):Cj n (some id)=none:=by
 have:Nat.blt id n=false:=by
  rw[Bool.eq_false_iff];intro e;have:=Nat.le_of_ble_eq_true e;omega
 simp only[Cj,this,cond_false]
theorem aN (s:List UInt8):(BZ s).length<=s.length:=(List.dropWhile_suffix _).length_le
theorem yf :CP AS 40 (H9 FX Gr):=by
 refine BF tX fun vs h K ht=> ?_
 obtain⟨g,s,t,BT,⟨GI,JL⟩,⟨ni,nh,sR,ng,sQ⟩,-,rfl,rfl,hk⟩:=ht;obtain⟨rows,pl,e⟩:=s
 cases rows with
 |nil=>exact absurd rfl BT
 |cons n r=>
  obtain⟨nk,np,nt,na,BP⟩:=n;have nd:=SF (.mk nk np nt na BP::r) t
  have hw:=HP 50 nd (x:=encT t) fun m G _=>BK m G _ (GF t)
  have wE:Ak.okW (BG (.int .i64 nk) (.int .i64 np) (.str nt) (.sl 3 (na.map Go.Ai.Ao) (Ln r)) (Ac BP)::AY r) (CO t++[.mem 50 (encT t)]++[.grow 0 3 80,.grow 0 5 26]):=GU (Cm (.mk nk np nt na BP::r)) (by simp[CO,IW,GF])
  have hl:(AY (Nd.mk nk np nt na BP::r)).length<=Bp:=by rw[Bv];exact Nat.le_of_lt GI
  have O7:(Ac BP).length<Bp:=by rw[Be];exact JL _ List.mem_cons_self
  have wr:IntKind.wrap .i64 ((t.to:Int)-((BZ t.text).length:Nat))=(t.to:Int)-((BZ t.text).length:Nat):=by
   have:=aN t.text;unfold Bp at nh
   rw[Bx]<;>omega
  have trimmed:(nk==7||nk==10)=true->∃(pM:List UInt8),List.length pM<=1000000000000/\[AV.str t.text,AV.str [32,9,10,13]]=[AV.str pM,AV.str [32,9,10,13]]/\Ad (!BZ pM==[]) (∃(nK:Int),∃(mD:Int),∃(tw:Nat),∃(Rj:List Row),∃(bh:Int),∃(oe:Int),∃(pN:Hp),Ak.okW Rj pN/\[AV.ptr 7 0,AV.int IntKind.i64 (IntKind.wrap IntKind.i64 ((t.to:Int)-(↑(List.length (BZ pM)):Int))),AV.int IntKind.i64 13]=[AV.ptr 7 0,AV.int IntKind.i64 nK,AV.int IntKind.i64 mD]/\
    hP g (AY (Nd.mk nk np nt na BP::r)) pl e++(CO t++[.mem 50 (encT t)])=hP tw Rj bh oe++pN/\
    K (.tup []) (List.map (AL (hP g (AY (Nd.mk nk np nt na BP::r)) pl e++CO t).length (hP tw Rj (fE nK mD bh oe).1 (fE nK mD bh oe).2++pN)) (List.take (hP g (AY (Nd.mk nk np nt na BP::r)) pl e++CO t).length (hP tw Rj (fE nK mD bh oe).1 (fE nK mD bh oe).2++pN))))
    (K (.tup []) (List.map (AL (hP g (AY (Nd.mk nk np nt na BP::r)) pl e++CO t).length (hP g (AY (Nd.mk nk np nt na BP::r)) pl e++(CO t++[.mem 50 (encT t)]))) (List.take (hP g (AY (Nd.mk nk np nt na BP::r)) pl e++CO t).length (hP g (AY (Nd.mk nk np nt na BP::r)) pl e++(CO t++[.mem 50 (encT t)]))))):=fun YC=>by
   have hp:FX t ⟨.mk nk np nt na BP::r,pl,e⟩=bif (BZ t.text).isEmpty then⟨.mk nk np nt na BP::r,pl,e⟩ else Ir ((t.to:Int)-(BZ t.text).length) 13 ⟨.mk nk np nt na BP::r,pl,e⟩:=by
    show(bif nk==7||nk==10 then _ else _)=_;rw[YC];rfl
   refine⟨t.text,ni,rfl,AA (fun a=> ?_) fun a=> ?_⟩
   ·have he:(BZ t.text).isEmpty=false:=by
     cases h:BZ t.text with
     |nil=>rw[h] at a;cases a
     |cons=>rfl
    rw[hp,he] at hk;refine⟨_,_,g,_,pl,e,_,hw,rfl,rfl,?_⟩;rw[wr]
    exact D7 ((Dr (own:=[_]) Cf).trans (by rw[DM,Dq]<;>first|rfl|(rw[Cf];omega))) (hk g)
   ·have he:(BZ t.text).isEmpty=true:=by
     cases h:BZ t.text with
     |nil=>rfl
     |cons=>rw[h] at a;cases a
    rw[hp,he] at hk
    exact D7 ((Dr (own:=[_]) Cf).trans (by rw[DM,Dq]<;>first|rfl|(rw[Cf];omega))) (hk g)
  refine t26 mP ⟨g,_,_,pl,e,_,hw,hl,rfl,rfl,AF (FT g) (AA (fun a=>AA (fun b=> ?_) fun b=> ?_) fun a=> ?_)⟩
  ·have YC:(nk==7||nk==10)=false:=by
    simp only[bne_iff_ne,ne_eq] at a b;have a1:¬nk=7:=a;have b1:¬nk=10:=b;simp[a1,b1]
   have hp:FX t ⟨.mk nk np nt na BP::r,pl,e⟩=⟨EJ (.mk nk np nt na BP) (.mk 2 t.fr t.text [] [])::r,pl,e⟩:=by
    show(bif nk==7||nk==10 then _ else _)=_;rw[YC];rfl
   rw[hp] at hk
   refine⟨g,_,_,_,_,Ac BP,AY r,pl,e,CO t++[.mem 50 (encT t)]++[.grow 0 3 80,.grow 0 5 26],2,t.fr,t.text,[],some 11,[],some 12,wE,hl,O7,fun n G hn=> ?_,rfl,rfl,rfl,?_⟩
   ·exact Mj (al:=[]) (Nf (by omega)) (Nf (by omega))
   ·refine D7 ((Dr (n:=10) (r:=CO t) (own:=[_,_,_]) (rows:=BG (.int .i64 nk) (.int .i64 np) (.str nt) (.sl 3 (na.map Go.Ai.Ao) (Ln r)) (Ac BP++[CT 2 t.fr t.text (([]:List Go.Ai.A8).map Go.Ai.Ao) (some 11) (Ac []) (some 12)])::AY r) rfl).trans ?_) (hk g)
    rw[List.map_cons,Hj (Kp r (by decide)).1 (Ng (show 10<=11 by decide)) (Ng (show 10<=12 by decide)),DM _ _ _ (by decide),Dq]
    rfl
  ·refine trimmed ?_;simp only[bne_eq_false_iff_eq] at b;have b1:nk=10:=b;simp[b1]
  ·refine trimmed ?_;simp only[bne_eq_false_iff_eq] at a;have a1:nk=7:=a;simp[a1]
theorem tT :Bl AS 44 Tryz.f44:=(by refine⟨?_,?_,?_,?_,?_,?_⟩<;>kernel_rfl)
theorem jc :AK AS (Af [(62,Jr),(65,Ch),(69,UM)]):=AX (AG iA (AG hZ (AG ou AN)))
theorem jb :AK AS (Af [(62,Jr),(63,Sv 6)]):=AX (AG iA (AG ox AN))
abbrev hT (g:Nat)(l:List Nd)(pl e:Int)(t:Ex.Tok):Hp:=hP g (AY l) pl e++(CO t++[.mem 50 (encT t)])
theorem Xh (l:List Nd)(t:Ex.Tok):Ak.okW (AY l) (CO t++[.mem 50 (encT t)]):=HP 50 (SF l t) (x:=encT t) fun m G _=>BK m G _ (GF t)
theorem oX {K:AV->Hp->Prop}{g:Nat}{l:List Nd}{pl e:Int}{t:Ex.Tok}{G:Hp}{n:Nat}(hn:n=8+(CO t).length)(hk:K (.tup []) (hP g (AY l) pl e++CO t)):
  K (.tup []) (List.map (AL n G) (List.take n (hT g l pl e t))):=
 D7 ((Dr (own:=[_]) hn).trans (by rw[DM _ _ _ (by omega),Dq])) hk
theorem ee {a b:Int}(h:(a !=b)=true):(a==b)=false:=by simpa[bne] using h
theorem U6 {a b:Int}(h:(a !=b)=false):(a==b)=true:=by simpa[bne] using h
theorem jk {K:AV->Hp->Prop}{g:Nat}{nk np:Int}{nt:List UInt8}{na:List Go.Ai.A8}{BP:List Nd}{r:List Nd}{pl e:Int}{t:Ex.Tok}{kk:Int}(hs:Hl (.mk nk np nt na BP::r)){bad:Bool}(hb:bad=(!(nk==kk)||((kk==7&& !(DB BP==9))||(kk==10&&DB BP==0))))
  (hf:bad=true->K (.tup []) (hP g (AY (Nd.mk nk np nt na BP::r)) (fE t.fr 13 pl e).1 (fE t.fr 13 pl e).2++CO t))
  (hg:bad=false->AE AS 44 (AD Tryz.f44) (AQ Tryz.prog Tryz.f44 (hP g (AY (Nd.mk nk np nt na BP::r)) pl e++CO t).length K) [.code [1,1,1,1]] .normal [(0,true,.ptr 7 0)] (hT g (.mk nk np nt na BP::r) pl e t)):
  AE AS 44 (AD Tryz.f44) (AQ Tryz.prog Tryz.f44 (hP g (AY (Nd.mk nk np nt na BP::r)) pl e++CO t).length K) [.code [1,1,1]] .normal [(0,true,.ptr 7 0),(3,true,.ptr 10 0),(4,true,.int .i64 kk)] (hT g (.mk nk np nt na BP::r) pl e t):=by
 obtain⟨GI,JL⟩:=hs;have hw:=Xh (.mk nk np nt na BP::r) t
 have hl:(AY (Nd.mk nk np nt na BP::r)).length<=Bp:=by rw[Bv];exact Nat.le_of_lt GI
 have O7:MD (Ac BP):=MC (Nat.le_of_lt (JL _ List.mem_cons_self));have VL:=Kw BP
 have fail:bad=true->∃(p7:Int),∃(x8:Int),∃(g9:Nat),∃(Rk:List Row),∃(bj:Int),∃(og:Int),∃(pO:Hp),Ak.okW Rk pO/\[AV.ptr 7 0,.int .i64 t.fr,.int .i64 13]=[.ptr 7 0,.int .i64 p7,.int .i64 x8]/\hT g (.mk nk np nt na BP::r) pl e t=hP g9 Rk bj og++pO/\
   K (.tup []) (List.map (AL (hP g (AY (Nd.mk nk np nt na BP::r)) pl e++CO t).length (hP g9 Rk (fE p7 x8 bj og).1 (fE p7 x8 bj og).2++pO)) (List.take (hP g (AY (Nd.mk nk np nt na BP::r)) pl e++CO t).length (hP g9 Rk (fE p7 x8 bj og).1 (fE p7 x8 bj og).2++pO))):=fun gm=>
  ⟨_,_,g,_,pl,e,_,hw,rfl,rfl,oX Cf (hf gm)⟩
 refine jf jc ⟨g,_,_,pl,e,_,hw,hl,rfl,rfl,AF (FT g) (AA (fun a=> ?_) fun a=> ?_)⟩
 ·have a':(nk==kk)=false:=ee a
  exact fail (by rw[hb,a'];rfl)
 ·have a':(nk==kk)=true:=U6 a
  refine AA (fun b=> ?_) fun b=> ?_
  ·refine⟨g,_,_,_,_,Ac BP,_,pl,e,_,hw,hl,O7,rfl,rfl,AA (fun c=> ?_) fun c=> ?_⟩
   ·rw[VL] at c
    exact fail (by rw[hb,a',b,ee c];rfl)
   ·rw[VL] at c
    refine AA (fun d=> ?_) fun d=> ?_
    ·refine⟨g,_,_,_,_,Ac BP,_,pl,e,_,hw,hl,O7,rfl,rfl,AA (fun f=> ?_) fun f=> ?_⟩
     ·rw[VL] at f
      exact fail (by rw[hb,a',b,d,f,U6 c];rfl)
     ·rw[VL] at f
      exact hg (by rw[hb,a',b,d,f,U6 c];rfl)
    ·exact hg (by rw[hb,a',b,d,U6 c];rfl)
  ·refine AA (fun d=> ?_) fun d=> ?_
   ·refine⟨g,_,_,_,_,Ac BP,_,pl,e,_,hw,hl,O7,rfl,rfl,AA (fun f=> ?_) fun f=> ?_⟩
    ·rw[VL] at f
     exact fail (by rw[hb,a',b,d,f];rfl)
    ·rw[VL] at f
     exact hg (by rw[hb,a',b,d,f];rfl)
   ·exact hg (by rw[hb,a',b,d];rfl)
theorem jT {α:Type}{a b:α}{l:List α}(h:l.length+2<=Bp)(g:Nat):(decide (IntKind.wrap .i64 ((((a::b::l).length:Nat):Int)-1)=(((a::b::l).length:Nat):Int)-1)&&true&&true&&true&&Nat.beq g g)=true:=by
 have e:IntKind.wrap .i64 ((((a::b::l).length:Nat):Int)-1)=(((a::b::l).length:Nat):Int)-1:=by
  have:(a::b::l).length=l.length+2:=rfl;unfold Bp at h
  rw[Bx]<;>omega
 rw[decide_eq_true e,FT g];rfl
theorem jj {K:AV->Hp->Prop}{g:Nat}{nk np:Int}{nt:List UInt8}{na:List Go.Ai.A8}{BP:List Nd}{mk mp:Int}{mt:List UInt8}{ma:List Go.Ai.A8}{SJ:List Nd}{r:List Nd}{pl e:Int}{t:Ex.Tok}(hs:Hl (.mk nk np nt na BP:: .mk mk mp mt ma SJ::r))
  (hk:K (.tup []) (hP (g+1) (AY (EJ (.mk mk mp mt ma SJ) (.mk nk np nt na BP)::r)) pl e++CO t)):
  AE AS 44 (AD Tryz.f44) (AQ Tryz.prog Tryz.f44 (hP g (AY (Nd.mk nk np nt na BP:: .mk mk mp mt ma SJ::r)) pl e++CO t).length K) [.code [1,1,1,1]] .normal [(0,true,.ptr 7 0)] (hT g (.mk nk np nt na BP:: .mk mk mp mt ma SJ::r) pl e t):=by
 obtain⟨GI,JL⟩:=hs;have hw:=Xh (.mk nk np nt na BP:: .mk mk mp mt ma SJ::r) t
 have hl:(AY (Nd.mk nk np nt na BP:: .mk mk mp mt ma SJ::r)).length<=Bp:=by rw[Bv];exact Nat.le_of_lt GI
 have ZU:(AY (Nd.mk mk mp mt ma SJ::r)).length<=Bp:=by
  rw[Bv];have:(Nd.mk nk np nt na BP:: .mk mk mp mt ma SJ::r).length=(Nd.mk mk mp mt ma SJ::r).length+1:=rfl;have GI:=GI;omega
 have hm:(Ac SJ).length<Bp:=by rw[Be];exact JL (.mk mk mp mt ma SJ) (List.mem_cons_of_mem _ List.mem_cons_self)
 have kg:(AY r).length+2<=Bp:=hl;have hp:AZ.Aw [AV.int .i64 nk,.int .i64 np,.str nt,.sl 3 (na.map Go.Ai.Ao) none,.sl 5 (Ac BP) none]=true:=JD (.mk nk np nt na BP)
 have wD:Ak.okW (BG (.int .i64 mk) (.int .i64 mp) (.str mt) (.sl 3 (ma.map Go.Ai.Ao) (Ln r)) (Ac SJ)::AY r) (CO t++[.mem 50 (encT t)]++[.grow 0 3 80,.grow 0 5 26,.mem 26 [.int .i64 nk,.int .i64 np,.str nt,.sl 3 (na.map Go.Ai.Ao) none,.sl 5 (Ac BP) none]]):=
  GU (Cm (.mk mk mp mt ma SJ::r)) (by simp[CO,IW,GF];exact hp)
 have hn:∀(n:Nat) (G:Hp),14<=n->AP n G (CT nk np nt (na.map Go.Ai.Ao) none (Ac BP) none)=CT nk np nt (na.map Go.Ai.Ao) none (Ac BP) none:=fun n G _=>BK n G _ hp
 refine qi jb ⟨g,_,_,pl,e,_,hw,hl,rfl,rfl,AF (FT g) ?_⟩
 repeat' (first
  |exact rfl
  |exact trivial
  |exact jT kg g
  |refine AF ?_ ?_
  |refine And.intro ?_ ?_)
 refine⟨g+1,_,_,_,_,Ac SJ,AY r,pl,e,CO t++[.mem 50 (encT t)]++[.grow 0 3 80,.grow 0 5 26,.mem 26 [.int .i64 nk,.int .i64 np,.str nt,.sl 3 (na.map Go.Ai.Ao) none,.sl 5 (Ac BP) none]],nk,np,nt,na.map Go.Ai.Ao,none,Ac BP,none,wD,ZU,hm,hn,rfl,rfl,rfl,?_⟩;refine D7 ?_ hk;show List.map (AL 10 (hP (g+1) (BG (.int .i64 mk) (.int .i64 mp) (.str mt) (.sl 3 (ma.map Go.Ai.Ao) (Ln r)) (Ac SJ++[CT nk np nt (na.map Go.Ai.Ao) none (Ac BP) none])::AY r) pl e++(CO t++[.mem 50 (encT t),.grow 0 3 80,.grow 0 5 26,.mem 26 [.int .i64 nk,.int .i64 np,.str nt,.sl 3 (na.map Go.Ai.Ao) none,.sl 5 (Ac BP) none]]))) (List.take 10 (hP (g+1) (BG (.int .i64 mk) (.int .i64 mp) (.str mt) (.sl 3 (ma.map Go.Ai.Ao) (Ln r)) (Ac SJ++[CT nk np nt (na.map Go.Ai.Ao) none (Ac BP) none])::AY r) pl e++(CO t++[.mem 50 (encT t),.grow 0 3 80,.grow 0 5 26,.mem 26 [.int .i64 nk,.int .i64 np,.str nt,.sl 3 (na.map Go.Ai.Ao) none,.sl 5 (Ac BP) none]])))=_;rw[Dr (n:=10) rfl]
 rw[List.map_cons,Hj (Kp r (by decide)).1 rfl rfl,DM _ _ _ (by decide),Dq]
 rfl
theorem eH (s:List UInt8):3<=(C6 s).kind/\(C6 s).kind<=13:=by
 unfold C6
 repeat' (first|(constructor<;>simp only[]<;>decide)|(rw[Bool.cond_eq_ite];split))
theorem pk :CP AS 44 (H9 Et WD):=by
 refine BF tT fun vs h K ht=> ?_
 obtain⟨g,s,t,BT,hs,sS,NQ,rfl,rfl,hk⟩:=ht;obtain⟨rows,pl,e⟩:=s
 cases rows with
 |nil=>exact absurd rfl BT
 |cons n r=>
  obtain⟨nk,np,nt,na,BP⟩:=n;have ff:AK AS (Af [(66,rn)]):=AX (AG eZ AN);have gm:Hx t (.mk nk np nt na BP)=(!(nk==Ja t)||((Ja t==7&& !(DB BP==9))||(Ja t==10&&DB BP==0))):=rfl
  have key:=jk (K:=K) (g:=g) (np:=np) (nt:=nt) (na:=na) (r:=r) (pl:=pl) (e:=e) (t:=t) (kk:=Ja t) (bad:=Hx t (.mk nk np nt na BP)) hs gm
   (fun hb=>by
    have hp:Et t ⟨.mk nk np nt na BP::r,pl,e⟩=Ir t.fr 13 ⟨.mk nk np nt na BP::r,pl,e⟩:=by
     show(bif Hx t _ then _ else _)=_;rw[hb];rfl
    rw[hp] at hk
    exact hk g)
   (fun hb=>by
    cases r with
    |nil=>
     have h1:nk=1:=NQ _ rfl;exfalso;rw[gm,h1] at hb
     have:((1:Int)==Ja t)=false:=by
      rw[beq_eq_false_iff_ne];unfold Ja;have:=eH t.name
      cases t.kind==4<;>simp only[cond_true,cond_false]<;>omega
     rw[this] at hb;cases hb
    |cons m q=>
     obtain⟨mk,mp,mt,ma,SJ⟩:=m
     have hp:Et t ⟨.mk nk np nt na BP:: .mk mk mp mt ma SJ::q,pl,e⟩=⟨EJ (.mk mk mp mt ma SJ) (.mk nk np nt na BP)::q,pl,e⟩:=by
      show(bif Hx t _ then _ else _)=_;rw[hb];rfl
     rw[hp] at hk
     exact jj hs (hk (g+1)))
  refine t30 ff (AA (fun a=>⟨_,rfl,?_⟩) fun a=> ?_)
  ·have:Ja t=(C6 t.name).kind:=by unfold Ja;rw[a];rfl
   rw[this] at key;exact key
  ·have:Ja t=14:=by unfold Ja;rw[a];rfl
   rw[this] at key;exact key
end Go.Proofs.YtopjpnhgnopbiaaGreatDoor
end
section
namespace Go.Proofs.YtopjpnhgnopbiaaGreatDoor
open Go.Ai Go Go.Ai.Sp
open Go.Ai.Ex (encAs encT)
set_option maxRecDepth 100000
theorem fe {C:Bh}{k:Nat}{t:Ci}(h:AK C (Af [(k,t)])):∀p∈[(k,t)],CP C p.1 p.2:=fun p hp=>by
 rw[List.mem_singleton] at hp;subst hp
 exact fun l g K ht=>h k t (by simp[Af,GY]) l g K ht
theorem tU :Bl AS 43 Tryz.f43:=(by refine⟨?_,?_,?_,?_,?_,?_⟩<;>kernel_rfl)
theorem tV :Bl AS 42 Tryz.f42:=(by refine⟨?_,?_,?_,?_,?_,?_⟩<;>kernel_rfl)
theorem Rp {α:Type}{a:α}{l:List α}(h:l.length+1<=Bp)(g:Nat):(Nat.beq g g&&true&&true&&true&&true&&true&&decide (((a::l).length+1)*80<=140737488355328)&&true&&true)=true:=by
 have:(a::l).length=l.length+1:=rfl;unfold Bp at h
 rw[FT g,decide_eq_true (by omega)];rfl
theorem Ro {α:Type}{l:List α}:(decide (((l.length:Nat):Int)=((l.length+1:Nat):Int)-1)&&true&&true&&true)=true:=by
 rw[decide_eq_true (by omega)];rfl
theorem Rn (g:Nat):(Nat.beq g g&&true&&true&&true)=true:=by rw[FT g];rfl
theorem N7 {k p:Int}{t:List UInt8}{al:List Go.Ai.A8}{oa:Option Nat}{m:Nat}{G:Hp}(h:Cj m oa=none):(0,AP m G [AV.int .i64 k,.int .i64 p,.str t,.sl 3 (al.map Go.Ai.Ao) oa,.sl 5 [] none])=Vn none (.mk k p t al []):=by
 have h2:AB m G (al.map Go.Ai.Ao)=al.map Go.Ai.Ao:=A9 _ _ _ (FJ al);rw[AP,AP,AP,AP,AP,AP,Cd,Cd,h2,h];rfl
section
variable {K:AV->Hp->Prop}{g:Nat}{nk np:Int}{nt:List UInt8}{na:List Go.Ai.A8}{BP:List Nd}{r:List Nd}{pl e:Int}{t:Ex.Tok}
theorem bN (hs:Hl (.mk nk np nt na BP::r))(hk:K (.tup []) (hP (g+1) (AY (.mk 14 t.fr [] [] []:: .mk nk np nt na BP::r)) pl e++CO t)):
  AE AS 43 (AD Tryz.f43) (AQ Tryz.prog Tryz.f43 10 K) [.code [1,1,1]] .normal [(0,true,.ptr 7 0),(3,true,.ptr 10 0)] (hT g (.mk nk np nt na BP::r) pl e t):=by
 obtain⟨GI,JL⟩:=hs
 have kg:(AY r).length+1<=Bp:=by rw[Bv];exact Nat.le_of_lt GI
 refine qk (k:=nk) (b0:=.grow 0 3 80) (b1:=.mem 50 (encT t)) J7 ?_;refine AF (Rp kg g) (AF Ro (AF (Rn _) ⟨?_,?_⟩))
 ·repeat' (first
   |exact rfl
   |exact trivial
   |exact Rp kg g
   |exact Ro
   |exact Rn _
   |refine AF ?_ ?_
   |refine And.intro ?_ ?_)
 ·refine D7 ?_ hk;show List.map (AL 10 (hP (g+1) ((0,[.int .i64 14,.int .i64 t.fr,.str [],.sl 3 (([]:List Go.Ai.A8).map Go.Ai.Ao) (some 11),.sl 5 [] none])::AY (Nd.mk nk np nt na BP::r)) pl e++(CO t++[.mem 50 (encT t),.grow 0 3 80,.dead]))) (List.take 10 (hP (g+1) ((0,[.int .i64 14,.int .i64 t.fr,.str [],.sl 3 (([]:List Go.Ai.A8).map Go.Ai.Ao) (some 11),.sl 5 [] none])::AY (Nd.mk nk np nt na BP::r)) pl e++(CO t++[.mem 50 (encT t),.grow 0 3 80,.dead])))=_;rw[Dr (n:=10) rfl]
  rw[List.map_cons,N7 (Ng (show 10<=11 by decide)),DM _ _ _ (by decide),Dq]
  rfl
theorem Sk {α:Type}{a:α}{l:List Nd}{m:List α}(hm:m.length=l.length):decide ((((a::m).length:Nat):Int)>16)=decide (16<l.length+1):=by
 have:(a::m).length=l.length+1:=by rw[List.length_cons,hm]
 rw[this]
 by_cases h:16<l.length+1
 ·rw[decide_eq_true h,decide_eq_true (by omega)]
 ·rw[decide_eq_false h,decide_eq_false (by omega)]
def Eb (fr:Int)(n:Nat)(s:Int×Int):Int×Int:=bif decide (16<n+1) then fE fr 3 s.1 s.2 else s
theorem aw :AK AS (Af [(65,Mu g (AY (Nd.mk nk np nt na BP::r)) (CO t++[.mem 50 (encT t)]))]):=AX (AG (Gi hZ fun vs h K ht=>by
  obtain⟨p,y,pl,e,rfl,rfl,hk⟩:=ht
  exact⟨p,y,g,_,pl,e,_,Xh _ t,rfl,rfl,hk⟩) AN)
theorem bO (hs:Hl (.mk nk np nt na BP::r))(hk:K (.tup []) (hP (g+1) (AY (.mk 14 t.fr [] [] []:: .mk nk np nt na BP::r)) (Eb t.fr r.length (pl,e)).1 (Eb t.fr r.length (pl,e)).2++CO t)):
  AE AS 43 (AD Tryz.f43) (AQ Tryz.prog Tryz.f43 10 K) [.code [1,1]] .normal [(0,true,.ptr 7 0),(3,true,.ptr 10 0)] (hT g (.mk nk np nt na BP::r) pl e t):=by
 refine ql (k:=nk) (b0:=.grow 0 3 80) (b1:=.mem 50 (encT t)) aw (AA (fun a=> ?_) fun a=> ?_)
 ·rw[Sk (Bv _)] at a;unfold Eb at hk;rw[a] at hk;exact⟨_,_,pl,e,rfl,rfl,bN hs hk⟩
 ·rw[Sk (Bv _)] at a;unfold Eb at hk;rw[a] at hk;exact bN hs hk
end
theorem pn :CP AS 43 (H9 HX Gr):=by
 refine BF tU fun vs h K ht=> ?_
 obtain⟨g,s,t,BT,hs,sS,-,rfl,rfl,hk⟩:=ht;obtain⟨rows,pl,e⟩:=s
 cases rows with
 |nil=>exact absurd rfl BT
 |cons n r=>
  obtain⟨nk,np,nt,na,BP⟩:=n;have ff:AK AS (Af [(67,cI),(65,Mu g (AY (Nd.mk nk np nt na BP::r)) (CO t++[.mem 50 (encT t)]))]):=AX (AG ov (fe aw))
  have hl:(AY (Nd.mk nk np nt na BP::r)).length<=Bp:=by rw[Bv];exact Nat.le_of_lt hs.1
  have O7:MD (Ac BP):=MC (Nat.le_of_lt (hs.2 _ List.mem_cons_self))
  have hp:∀b,Du nk (DB BP) 14=b->(HX t ⟨.mk nk np nt na BP::r,pl,e⟩)=⟨.mk 14 t.fr [] [] []:: .mk nk np nt na BP::r,(Eb t.fr r.length (bif !b then fE t.fr 13 pl e else(pl,e))).1,(Eb t.fr r.length (bif !b then fE t.fr 13 pl e else(pl,e))).2⟩:=fun b hb=>by
   show(⟨_,(bif decide (16<r.length+1) then Ir t.fr 3 (bif !Du nk (DB BP) 14 then _ else _) else(bif !Du nk (DB BP) 14 then _ else _):Ps).pl,(bif decide (16<r.length+1) then Ir t.fr 3 (bif !Du nk (DB BP) 14 then _ else _) else(bif !Du nk (DB BP) 14 then _ else _):Ps).e⟩:Ps)=_;rw[hb];unfold Eb
   cases b<;>cases decide (16<r.length+1)<;>rfl
  refine t29 (k:=nk) (b0:=.grow 0 3 80) (b1:=.mem 50 (encT t)) ff ⟨g,_,_,_,_,_,Ac BP,_,pl,e,_,Xh (.mk nk np nt na BP::r) t,hl,O7,rfl,rfl,AA (fun a=> ?_) fun a=> ?_⟩
  ·rw[Kw] at a;have a1:(!Du nk (DB BP) 14)=true:=a
   rw[hp false (by simpa using a1)] at hk
   exact⟨_,_,pl,e,rfl,rfl,bO hs (hk (g+1))⟩
  ·rw[Kw] at a;have a1:(!Du nk (DB BP) 14)=false:=a
   rw[hp true (by simpa using a1)] at hk
   exact bO hs (hk (g+1))
end Go.Proofs.YtopjpnhgnopbiaaGreatDoor
end
section
namespace Go.Proofs.YtopjpnhgnopbiaaGreatDoor
open Go.Ai Go Go.Ai.Sp
open Go.Ai.Ex (encAs encT)
set_option maxRecDepth 100000
theorem Hb (l:List Ex.A8):encAs l=(l.map XQ).map Go.Ai.Ao:=by
 unfold encAs;rw[List.map_map];rfl
theorem RD (s:List UInt8):(C6 s).JZ<=(C6 s).names.length/\(C6 s).names.length<=3:=by
 unfold C6
 repeat' (first|(constructor<;>simp only[]<;>decide)|(rw[Bool.cond_eq_ite];split))
theorem TJ {k p:Int}{l:List Ex.A8}{m:Nat}{G:Hp}:(0,AP m G [AV.int .i64 k,.int .i64 p,.str [],.sl 3 (encAs l) none,.sl 5 [] none])=Vn none (.mk k p [] (l.map XQ) []):=by
 rw[Hb];exact N7 rfl
theorem Vc {o:Option Nat}{nk np:Int}{nt:List UInt8}{na:List Go.Ai.A8}{BP:List Nd}{k p:Int}{l:List Ex.A8}{G:Hp}{ow:Option Nat}{m:Nat}(ho:Cj m o=o)(hw:Cj m ow=none):
  ((BG (.int .i64 nk) (.int .i64 np) (.str nt) (.sl 3 (na.map Go.Ai.Ao) o) (Ac BP++[CT k p [] (encAs l) none [] ow])).1,
   AP m G (BG (.int .i64 nk) (.int .i64 np) (.str nt) (.sl 3 (na.map Go.Ai.Ao) o) (Ac BP++[CT k p [] (encAs l) none [] ow])).2)=Vn o (EJ (.mk nk np nt na BP) (.mk k p [] (l.map XQ) [])):=by
 rw[Hb];exact Hj (oa:=none) (ks:=[]) ho rfl hw
def KQ (k f:Int)(al:List (List AV)):Hp:=[.grow 0 3 80,.grow 0 5 26,.grow 0 3 80,.grow 0 5 26,.mem 26 [.int .i64 k,.int .i64 f,.str [],.sl 3 al none,.sl 5 [] (some 14)]]
section
variable {K:AV->Hp->Prop}{g:Nat}{nk np:Int}{nt:List UInt8}{na:List Go.Ai.A8}{BP:List Nd}{r:List Nd}{pl e:Int}{t:Ex.Tok}{x:El}
theorem jl (hs:Hl (.mk nk np nt na BP::r))(hk:K (.tup []) (hP (g+1) (AY (.mk x.kind t.fr [] (t.attrs.map XQ) []:: .mk nk np nt na BP::r)) pl e++CO t)):
  AE AS 42 (AD Tryz.f42) (AQ Tryz.prog Tryz.f42 10 K) [.code [1,1,1,1,1,1,1,1,1]] .normal [(0,true,.ptr 7 0),(6,true,.ptr 17 0)] (hP g (AY (Nd.mk nk np nt na BP::r)) pl e++(Fl (encT t) x++KQ x.kind t.fr (encAs t.attrs))):=by
 obtain⟨GI,JL⟩:=hs
 have kg:(AY r).length+1<=Bp:=by rw[Bv];exact Nat.le_of_lt GI
 refine qm (k:=nk) (tk:=t.kind) (fr:=t.fr) (to:=t.to) (nm:=t.name) (tx:=t.text) (l:=t.attrs) J7 ?_;refine AF (Rp kg g) (AF Ro (AF (Rn _) ⟨?_,?_⟩))
 ·repeat' (first
   |exact rfl
   |exact trivial
   |exact Rp kg g
   |exact Ro
   |exact Rn _
   |refine AF ?_ ?_
   |refine And.intro ?_ ?_)
 ·refine D7 ?_ hk
  show List.map (AL 10 (hP (g+1) ((0,[.int .i64 x.kind,.int .i64 t.fr,.str [],.sl 3 (encAs t.attrs) none,.sl 5 [] none])::AY (Nd.mk nk np nt na BP::r)) pl e++(CO t++[.mem 50 (encT t),.grow 0 1 9,.mem 114 (IQ x),.grow 0 3 80,.dead,.grow 0 3 80,.grow 0 5 26,.mem 26 [.int .i64 x.kind,.int .i64 t.fr,.str [],.sl 3 (encAs t.attrs) none,.sl 5 [] (some 14)]])))
   (List.take 10 (hP (g+1) ((0,[.int .i64 x.kind,.int .i64 t.fr,.str [],.sl 3 (encAs t.attrs) none,.sl 5 [] none])::AY (Nd.mk nk np nt na BP::r)) pl e++(CO t++[.mem 50 (encT t),.grow 0 1 9,.mem 114 (IQ x),.grow 0 3 80,.dead,.grow 0 3 80,.grow 0 5 26,.mem 26 [.int .i64 x.kind,.int .i64 t.fr,.str [],.sl 3 (encAs t.attrs) none,.sl 5 [] (some 14)]])))=_
  rw[Dr (n:=10) rfl]
  rw[List.map_cons,TJ,DM _ _ _ (by decide),Dq]
  rfl
theorem bP (hs:Hl (.mk nk np nt na BP::r))(ha:t.attrs.length<=Bp)(hx:x.JZ<=x.names.length/\x.names.length<=Bp){b:Bool}
  (WY:b=true->K (.tup []) (hP g (AY (EJ (.mk nk np nt na BP) (.mk x.kind t.fr [] (t.attrs.map XQ) [])::r)) (Sp.A7 x t.fr t.attrs (pl,e)).1 (Sp.A7 x t.fr t.attrs (pl,e)).2++CO t))
  (Mo:b=false->K (.tup []) (hP (g+1) (AY (.mk x.kind t.fr [] (t.attrs.map XQ) []:: .mk nk np nt na BP::r)) (Sp.A7 x t.fr t.attrs (pl,e)).1 (Sp.A7 x t.fr t.attrs (pl,e)).2++CO t)):
  AE AS 42 (AD Tryz.f42) (AQ Tryz.prog Tryz.f42 10 K) [.code [1,1,1,1,1]] .normal [(0,true,.ptr 7 0),(3,true,.ptr 10 0),(4,true,.ptr 12 0),(5,true,.bool b)] (hP g (AY (Nd.mk nk np nt na BP::r)) pl e++Fl (encT t) x):=by
 have ff:AK AS (Af [(68,ez g (AY (Nd.mk nk np nt na BP::r)) x t.kind t.fr t.to t.name t.text t.attrs),(63,Sv 10)]):=
  AX (AG (Gi c49 fun vs h K ht=>by
   obtain⟨pl,e,rfl,rfl,hk⟩:=ht
   exact⟨g,_,pl,e,x,_,_,_,_,_,_,Cm _,hx.1,hx.2,ha,rfl,rfl,hk⟩) (AG lM AN))
 have hl:(AY (Nd.mk nk np nt na BP::r)).length<=Bp:=by rw[Bv];exact Nat.le_of_lt hs.1
 have O7:(Ac BP).length<Bp:=by rw[Be];exact hs.2 _ List.mem_cons_self
 refine qn (k:=nk) (tk:=t.kind) (fr:=t.fr) (to:=t.to) (nm:=t.name) (tx:=t.text) (l:=t.attrs) (x:=x) ff ⟨pl,e,rfl,rfl,AA (fun a=> ?_) fun a=> ?_⟩
 ·have hw:Ak.okW (BG (.int .i64 nk) (.int .i64 np) (.str nt) (.sl 3 (na.map Go.Ai.Ao) (Ln r)) (Ac BP)::AY r) (Fl (encT t) x++KQ x.kind t.fr (encAs t.attrs)):=by
   intro n G hn
   refine⟨Oc (Cm (.mk nk np nt na BP::r)) n G (by omega),?_⟩
   rw[List.map_append]
   congr 1
   ·exact((GU (Cm []) (HL t.attrs x):Ak.okW _ (Fl (encT t) x)) n G (by
     rw[List.length_append] at hn
     omega)).2
   ·have h1:AB n G (encAs t.attrs)=encAs t.attrs:=A9 _ _ _ (IX _)
    have h2:Cj n (some 14)=some 14:=Nf (by
     have:(Fl (encT t) x++KQ x.kind t.fr (encAs t.attrs)).length=10:=rfl
     omega)
    unfold KQ;simp only[List.map_cons,List.map_nil,AL];rw[AP,AP,AP,AP,AP,AP,Cd,Cd,h1,h2];rfl
  refine⟨g,_,_,_,_,Ac BP,AY r,_,_,Fl (encT t) x++KQ x.kind t.fr (encAs t.attrs),x.kind,t.fr,[],encAs t.attrs,none,[],some 14,hw,hl,O7,fun n G hn=> ?_,rfl,rfl,rfl,?_⟩
  ·rw[Hb]
   exact Mj (n:=n) (G:=G) (oa:=none) (ow:=some 14) rfl (Nf (by omega))
  ·refine D7 ?_ (WY a)
   show List.map (AL 10 (hP g (BG (.int .i64 nk) (.int .i64 np) (.str nt) (.sl 3 (na.map Go.Ai.Ao) (Ln r)) (Ac BP++[CT x.kind t.fr [] (encAs t.attrs) none [] (some 14)])::AY r) (Sp.A7 x t.fr t.attrs (pl,e)).1 (Sp.A7 x t.fr t.attrs (pl,e)).2++(CO t++(.mem 50 (encT t):: .grow 0 1 9:: .mem 114 (IQ x)::KQ x.kind t.fr (encAs t.attrs)))))
    (List.take 10 (hP g (BG (.int .i64 nk) (.int .i64 np) (.str nt) (.sl 3 (na.map Go.Ai.Ao) (Ln r)) (Ac BP++[CT x.kind t.fr [] (encAs t.attrs) none [] (some 14)])::AY r) (Sp.A7 x t.fr t.attrs (pl,e)).1 (Sp.A7 x t.fr t.attrs (pl,e)).2++(CO t++(.mem 50 (encT t):: .grow 0 1 9:: .mem 114 (IQ x)::KQ x.kind t.fr (encAs t.attrs)))))=_
   rw[Dr (n:=10) rfl]
   rw[List.map_cons,Vc (Kp r (by decide)).1 (Ng (show 10<=14 by decide)),DM _ _ _ (by decide),Dq]
   rfl
 ·exact jl hs (Mo a)
theorem jm (hs:Hl (.mk nk np nt na BP::r))(ha:t.attrs.length<=Bp)(hx:x.JZ<=x.names.length/\x.names.length<=Bp){b:Bool}
  (WY:b=true->K (.tup []) (hP g (AY (EJ (.mk nk np nt na BP) (.mk x.kind t.fr [] (t.attrs.map XQ) [])::r)) (Sp.A7 x t.fr t.attrs (Eb t.fr r.length (pl,e))).1 (Sp.A7 x t.fr t.attrs (Eb t.fr r.length (pl,e))).2++CO t))
  (Mo:b=false->K (.tup []) (hP (g+1) (AY (.mk x.kind t.fr [] (t.attrs.map XQ) []:: .mk nk np nt na BP::r)) (Sp.A7 x t.fr t.attrs (Eb t.fr r.length (pl,e))).1 (Sp.A7 x t.fr t.attrs (Eb t.fr r.length (pl,e))).2++CO t)):
  AE AS 42 (AD Tryz.f42) (AQ Tryz.prog Tryz.f42 10 K) [.code [1,1,1,1]] .normal [(0,true,.ptr 7 0),(3,true,.ptr 10 0),(4,true,.ptr 12 0),(5,true,.bool b)] (hP g (AY (Nd.mk nk np nt na BP::r)) pl e++Fl (encT t) x):=by
 have ff:AK AS (Af [(65,Mu g (AY (Nd.mk nk np nt na BP::r)) (Fl (encT t) x))]):=AX (AG (Gi hZ fun vs h K ht=>by
  obtain⟨p,y,pl,e,rfl,rfl,hk⟩:=ht
  exact⟨p,y,g,_,pl,e,_,GU (Cm _) (HL t.attrs x),rfl,rfl,hk⟩) AN)
 refine qo (k:=nk) (b0:=.grow 0 3 80) (b1:=.mem 50 (encT t)) (ek:=x.kind) (em:=(x.JZ:Nat)) (en:=x.names.map fun n=>[.str n]) ff (AA (fun a=> ?_) fun a=> ?_)
 ·rw[Sk (Bv _)] at a;unfold Eb at WY Mo;rw[a] at WY Mo;exact⟨_,_,pl,e,rfl,rfl,bP hs ha hx WY Mo⟩
 ·rw[Sk (Bv _)] at a;unfold Eb at WY Mo;rw[a] at WY Mo;exact bP hs ha hx WY Mo
end
theorem lN :CP AS 42 (H9 GA Gr):=by
 refine BF tV fun vs h K ht=> ?_
 obtain⟨g,s,t,BT,hs,⟨ni,nh,sR,ng,sQ⟩,-,rfl,rfl,hk⟩:=ht;obtain⟨rows,pl,e⟩:=s
 cases rows with
 |nil=>exact absurd rfl BT
 |cons n r=>
  obtain⟨nk,np,nt,na,BP⟩:=n
  have ff:AK AS (Af [(65,Mu g (AY (Nd.mk nk np nt na BP::r)) (pC (.grow 0 3 80) (.mem 50 (encT t)) (encT t) (C6 t.name))),(66,ue t.name),(67,cI)]):=
   AX (AG (Gi hZ fun vs h K ht=>by
    obtain⟨p,y,pl,e,rfl,rfl,hk⟩:=ht
    exact⟨p,y,g,_,pl,e,_,GU (Cm _) (HL t.attrs (C6 t.name)),rfl,rfl,hk⟩)
   (AG (Gi eZ fun vs h K ht=>by
    obtain⟨rfl,hk⟩:=ht
    exact⟨_,rfl,hk⟩) (AG ov AN)))
  have hl:(AY (Nd.mk nk np nt na BP::r)).length<=Bp:=by rw[Bv];exact Nat.le_of_lt hs.1
  have O7:MD (Ac BP):=MC (Nat.le_of_lt (hs.2 _ List.mem_cons_self));have VL:=Kw BP;have hw:Ak.okW (AY (Nd.mk nk np nt na BP::r)) (Fl (encT t) (C6 t.name)):=GU (Cm _) (HL t.attrs (C6 t.name))
  have hx:(C6 t.name).JZ<=(C6 t.name).names.length/\(C6 t.name).names.length<=Bp:=⟨(RD _).1,Nat.le_trans (RD _).2 (by decide)⟩
  have go:∀(b:Bool) (s1:Int×Int),FR (C6 t.name)=b->s1=(bif (b !=(t.kind==3))|| !Du nk (DB BP) (C6 t.name).kind then fE t.fr 13 pl e else(pl,e))->
    AE AS 42 (AD Tryz.f42) (AQ Tryz.prog Tryz.f42 10 K) [.code [1,1,1,1]] .normal [(0,true,.ptr 7 0),(3,true,.ptr 10 0),(4,true,.ptr 12 0),(5,true,.bool b)] (hP g (AY (Nd.mk nk np nt na BP::r)) s1.1 s1.2++Fl (encT t) (C6 t.name)):=by
   intro b s1 hb GI
   have hp:GA t ⟨.mk nk np nt na BP::r,pl,e⟩=bif b then⟨EJ (.mk nk np nt na BP) (.mk (C6 t.name).kind t.fr [] (t.attrs.map XQ) [])::r,(Sp.A7 (C6 t.name) t.fr t.attrs (Eb t.fr r.length s1)).1,(Sp.A7 (C6 t.name) t.fr t.attrs (Eb t.fr r.length s1)).2⟩
     else⟨.mk (C6 t.name).kind t.fr [] (t.attrs.map XQ) []:: .mk nk np nt na BP::r,(Sp.A7 (C6 t.name) t.fr t.attrs (Eb t.fr r.length s1)).1,(Sp.A7 (C6 t.name) t.fr t.attrs (Eb t.fr r.length s1)).2⟩:=by
    have h2:Nt (C6 t.name) t (.mk nk np nt na BP) r ⟨.mk nk np nt na BP::r,pl,e⟩=⟨.mk nk np nt na BP::r,(Sp.A7 (C6 t.name) t.fr t.attrs (Eb t.fr r.length s1)).1,(Sp.A7 (C6 t.name) t.fr t.attrs (Eb t.fr r.length s1)).2⟩:=by
     unfold Nt Eb;rw[hb,GI];show(⟨_,_,_⟩:Ps)=_;have e1:(Nd.mk nk np nt na BP).kind=nk:=rfl;have e2:(Nd.mk nk np nt na BP).kids=BP:=rfl;rw[e1,e2]
     cases (b !=(t.kind==3))|| !Du nk (DB BP) (C6 t.name).kind<;>cases decide (16<r.length+1)<;>rfl
    show(bif FR (C6 t.name) then _ else _)=_;rw[hb];simp only[h2]
   rw[hp] at hk
   exact jm hs ng hx (fun h=>by rw[h] at hk;exact hk g) fun h=>by rw[h] at hk;exact hk (g+1)
  refine t28 (k:=nk) (b0:=.grow 0 3 80) (b1:=.mem 50 (encT t)) ff ⟨rfl,AA (fun a=>AA (fun b=> ?_) fun b=> ?_) fun a=>AA (fun b=> ?_) fun b=> ?_⟩
  ·exact⟨_,_,pl,e,rfl,rfl,go true _ (by unfold FR;rw[a];rfl) (by rw[show(true !=(t.kind==3))=true from b];rfl)⟩
  ·refine⟨g,_,_,_,_,_,Ac BP,_,pl,e,_,hw,hl,O7,rfl,rfl,AA (fun c=> ?_) fun c=> ?_⟩
   ·rw[VL] at c
    exact⟨_,_,pl,e,rfl,rfl,go true _ (by unfold FR;rw[a];rfl) (by rw[show(true !=(t.kind==3))=false from b,show(!Du nk (DB BP) (C6 t.name).kind)=true from c];rfl)⟩
   ·rw[VL] at c
    exact go true (pl,e) (by unfold FR;rw[a];rfl) (by rw[show(true !=(t.kind==3))=false from b,show(!Du nk (DB BP) (C6 t.name).kind)=false from c];rfl)
  ·exact⟨_,_,pl,e,rfl,rfl,go ((C6 t.name).kind==6) _ (by unfold FR;rw[a];rfl) (by rw[show(((C6 t.name).kind==6) !=(t.kind==3))=true from b];rfl)⟩
  ·refine⟨g,_,_,_,_,_,Ac BP,_,pl,e,_,hw,hl,O7,rfl,rfl,AA (fun c=> ?_) fun c=> ?_⟩
   ·rw[VL] at c
    exact⟨_,_,pl,e,rfl,rfl,go ((C6 t.name).kind==6) _ (by unfold FR;rw[a];rfl) (by rw[show(((C6 t.name).kind==6) !=(t.kind==3))=false from b,show(!Du nk (DB BP) (C6 t.name).kind)=true from c];rfl)⟩
   ·rw[VL] at c
    exact go ((C6 t.name).kind==6) (pl,e) (by unfold FR;rw[a];rfl) (by rw[show(((C6 t.name).kind==6) !=(t.kind==3))=false from b,show(!Du nk (DB BP) (C6 t.name).kind)=false from c];rfl)
end Go.Proofs.YtopjpnhgnopbiaaGreatDoor
end
section
namespace Go.Proofs.YtopjpnhgnopbiaaGreatDoor
open Go.Ai Go Go.RowKit Go.Ai.Sp
set_option maxRecDepth 100000
def vQ (k:Int)(f:Nat)(c:Nat):MapEntry:={key:=.int .i64 k,val:=.agg #[.func (.func f) #[] #[]],born:=c}
def PV (ks:List (Int×Nat)):List MapEntry:=ks.zipIdx.map fun x=>vQ x.1.1 x.1.2 x.2
theorem YL {ks:List (Int×Nat)}{x:MapEntry}(h:x∈PV ks):∃p∈ks,x.key=.int .i64 p.1:=by
 obtain⟨y,hy,rfl⟩:=List.mem_map.1 h;refine⟨y.1,?_,rfl⟩;obtain⟨a,b⟩:=y;exact List.mem_of_getElem? (List.mem_zipIdx_iff_getElem?.1 hy)
theorem Ct {w0 w:World}{r:Nat}{ks:List (Int×Nat)}(hr:w0.heap.size<=r)(hw:Below w0.heap.size w0 w)(hb:w.heap[r]?=some (.map (PV ks).toArray ks.length)){k:Int}{f:Nat}(hn:(ks.all fun p=>!(p.1==k))=true):
  ∃w',(Instr.mapUpdate 47 (.map (some r)) (.int .i64 k) (.agg #[.func (.func f) #[] #[]])).run Tryz.prog w=.ok () w'/\w'.heap[r]?=some (.map (PV (ks++[(k,f)])).toArray (ks++[(k,f)]).length)/\Below w0.heap.size w0 w':=by
 have hm:Tryz.prog.underlying 47=some (.map 3 53):=by kernel_rfl
 have hd:Tryz.prog.underlying 3=some (.int .i64):=by kernel_rfl
 have hk:MapKept.IsKey (.int .i64) (.int .i64 k):=rfl
 have VO:∀x∈(PV ks).toArray.toList,MapKept.IsKey (.int .i64) x.key:=fun x hx=>by
  obtain⟨p,_,e⟩:=YL hx;rw[e];rfl
 rcases MapKept.findNow_spec hk (PV ks).toArray.toList 0 VO with ⟨h1,h2⟩|⟨j,e,h1,h2,h3⟩
 ·refine⟨_,by simp only[Instr.mapUpdate,run_underlying hm,MapKept.run_getObj_map hb,MapKept.run_checkKey hd hk,MapKept.run_findKey hd h1,MapKept.run_setObj_map _ hb,Result.andThen,Sem.run_bind];rfl,?_,?_⟩
  ·have h:=(MapKept.heap_set (o':=.map ((PV ks).toArray.push {key:=.int .i64 k,val:=.agg #[.func (.func f) #[] #[]],born:=ks.length}) (ks.length+1)) hb).1;rw[h]
   congr 1
   have e1:(PV (ks++[(k,f)])).toArray=(PV ks).toArray.push {key:=.int .i64 k,val:=.agg #[.func (.func f) #[] #[]],born:=ks.length}:=by
    unfold PV;rw[List.zipIdx_append];simp[vQ]
   rw[e1];simp
  ·exact⟨hw.os,hw.tape,hw.output,by simpa using hw.size,fun i hi=>((MapKept.heap_set hb).2 i (by omega)).trans (hw.block i hi)⟩
 ·obtain⟨p,hp,e2⟩:=YL (List.mem_of_getElem? h2);rw[e2] at h3
  injection h3 with _ h3
  have:=List.all_eq_true.1 hn p hp;rw[h3] at this;simp at this
def bA :List (Int×Nat):=[(1,40),(7,41),(2,42),(3,42),(5,43),(4,44),(6,44)]
theorem Yg (w:World):Calls Tryz.prog 18 #[] w fun e w'=>e=.returned (.map (some w.heap.size))/\Below w.heap.size w w'/\w'.heap[w.heap.size]?=some (.map (PV bA).toArray bA.length):=by
 go_enter Tryz.func18,Tryz.f18
 go_wp
 rw[Go.run_makeMap_plain];simp only[Result.andThen];have gn:Below w.heap.size w (w.alloc (.map #[] 0)):=(Below.refl _ w).alloc (Nat.le_refl _) _;have fU:(w.alloc (.map #[] 0)).heap[w.heap.size]?=some (.map (PV []).toArray ([]:List (Int×Nat)).length):=(MapKept.heap_alloc w _).1;generalize w.alloc (.map #[] 0)=w0 at gn fU⊢
 go_wp
 obtain⟨w1,Qq,pY,Ue⟩:=Ct (Nat.le_refl _) gn fU (k:=1) (f:=40) rfl;rw[Qq];simp only[Result.andThen]
 go_wp
 obtain⟨w2,Mn,sj,pe⟩:=Ct (Nat.le_refl _) Ue pY (k:=7) (f:=41) rfl;rw[Mn];simp only[Result.andThen]
 go_wp
 obtain⟨w3,wW,wx,xh⟩:=Ct (Nat.le_refl _) pe sj (k:=2) (f:=42) rfl;rw[wW];simp only[Result.andThen]
 go_wp
 obtain⟨w4,wV,wv,xg⟩:=Ct (Nat.le_refl _) xh wx (k:=3) (f:=42) rfl;rw[wV];simp only[Result.andThen]
 go_wp
 obtain⟨w5,wU,wu,xf⟩:=Ct (Nat.le_refl _) xg wv (k:=5) (f:=43) rfl;rw[wU];simp only[Result.andThen]
 go_wp
 obtain⟨w6,wT,wq,xe⟩:=Ct (Nat.le_refl _) xf wu (k:=4) (f:=44) rfl;rw[wT];simp only[Result.andThen]
 go_wp
 obtain⟨w7,wS,wo,xd⟩:=Ct (Nat.le_refl _) xe wq (k:=6) (f:=44) rfl;rw[wS];simp only[Result.andThen]
 go_wp
 refine⟨rfl,.map (some w.heap.size),?_,rfl,xd,wo⟩;simp[go_sem,results]
def Ve :List AV->Option (Bool×AV):=fun vs=>match vs with|[]=>some (true,EM)|_=>none
theorem Yh {G:Nat->Option (List AV)}{I:World->Prop}{B0:Nat}:EK Tryz.prog G I B0 18 Ve:=by
 intro vs v hv E args hE hB H hr;unfold Ve at hv;split at hv
 ·simp only[Option.some.injEq,Prod.mk.injEq,true_and] at hv;subst hv;simp only[BJ] at hr;subst hr
  refine(Yg E.w).mono fun e w' ⟨h1,h2,h3⟩=>⟨_,h1,h2,?_⟩
  refine⟨E.w.heap.size,_,_,rfl,h3,rfl,?_⟩
  have fn:∀f:Nat,Ag {E with w:=w'} [.fn (.func f) [] []] [.func (.func f) #[] #[]]:=fun f=>⟨_,[],rfl,rfl,⟨#[],#[],rfl,rfl,rfl⟩,rfl⟩
  exact⟨_,_,rfl,fn 40,_,_,rfl,fn 41,_,_,rfl,fn 42,_,_,rfl,fn 42,_,_,rfl,fn 43,_,_,rfl,fn 44,_,_,rfl,fn 44,rfl⟩
 ·cases hv
end Go.Proofs.YtopjpnhgnopbiaaGreatDoor
end
section
namespace Go.Proofs.YtopjpnhgnopbiaaGreatDoor
open Go.Ai Go Go.Ai.Sp
open Go.Ai.Ex (encAs encT encTs lexM tokC limE)
set_option maxRecDepth 100000
theorem vo :BE AS 8 Tryz.f8:=(by refine⟨?_,?_,?_,?_,?_,?_⟩<;>kernel_rfl)
theorem yl :CP AS 17 tokC:=by
 refine Gj (g:=Lx.WK) (by kernel_rfl) (by kernel_rfl) (by kernel_rfl) (by kernel_rfl) fun vs h K ht=> ?_
 obtain⟨s,hs,rfl,h1,h2⟩:=ht
 refine⟨Ex.UL (lexM s),?_,by show some (Nat.ble s.length 1000000,Ex.UL (lexM s))=_;rw[show Nat.ble s.length 1000000=true from Nat.ble_eq_true_of_le hs]⟩
 cases hl:lexM s with
 |error x=>
  obtain⟨p,e⟩:=x;exact h1 p e hl
 |ok l=>
  show K (AV.tup [.sl 6 (AB 0 [] (encTs l)) none,.int .i64 0,.int .i64 0]) h;rw[Ba 0 [] _ (Ex.cK 0 l)];exact h2 l hl
theorem yk :CP AS 18 Vf:=by
 refine Gj (g:=Ve) (by kernel_rfl) (by kernel_rfl) (by kernel_rfl) (by kernel_rfl) fun vs h K ht=> ?_
 obtain⟨hv,hk⟩:=ht
 match vs,hv with
 |[],_=>exact⟨EM,hk,rfl⟩
def Lp (z1 z2:Nat):Except (Int×Int) Nd->AV
 |.ok n=>.tup [.agg (PW n),.int .i64 0,.int .i64 0]
 |.error (p,e)=>.tup [.agg [.int .i64 0,.int .i64 0,.str [],.sl z1 [] none,.sl z2 [] none],.int .i64 p,.int .i64 e]
theorem dv {l:List Ex.Tok}{i:Nat}(h:i<l.length):Bm (encTs l) (i:Int)=encT l[i]:=by
 unfold encTs Bm;simp[h]
theorem ZK (l:List Nd):(List.all (AY l) fun r=>CA 8 r.2)=true:=SH (Cm l) 8 (by decide)
theorem jo {v:AV}{s:List UInt8}{l:List Ex.Tok}{i:Nat}{g:Nat}{st:Ps}(hi:i<l.length)(hl:l.length<=131074)(ht:aR l[i])(hk:l[i].kind=1\/l[i].kind=2\/l[i].kind=3\/l[i].kind=4\/l[i].kind=5\/l[i].kind=6\/l[i].kind=7)(hinv:Inv i st.rows)
  (h1:((CS l[i] st).e !=0)=true->v=Lp 0 0 (.error ((CS l[i] st).pl,(CS l[i] st).e)))
  (h2:((CS l[i] st).e !=0)=false->∀g',AE AS 8 (AD Tryz.f8) (AR Tryz.prog Tryz.f8 v) [.code [0,1,0,1,1,1,1,1,1],.block 0,.code [1,1,1,1,1,1,1]] .normal [(0,true,.str s),(2,true,.ptr 2 0),(6,true,.ptr 7 0),(7,true,EM),(30,true,.sl 6 (encTs l) none),(31,true,.int .i64 l.length),(32,true,.int .i64 ((i+1:Nat):Int))] (hP g' (AY (CS l[i] st).rows) (CS l[i] st).pl (CS l[i] st).e)):
  AE AS 8 (AD Tryz.f8) (AR Tryz.prog Tryz.f8 v) [.code [1,0,0,1,1,0,0,1,0,1,1,1,1,1,1],.block 1,.code [1,1,1,0,0,1,0,1,1,1,1,1,1],.loop [0,1,0,1,1,1,1,1,1] 8,.block 0,.code [1,1,1,1,1,1,1]] .normal [(0,true,.str s),(2,true,.ptr 2 0),(6,true,.ptr 7 0),(7,true,EM),(9,true,.ptr 9 0),(30,true,.sl 6 (encTs l) none),(31,true,.int .i64 l.length),(32,true,.int .i64 i)]
   (hP g (AY st.rows) st.pl st.e++CO l[i]):=by
 have VI:Hl st.rows:=by
  have:=hinv.len
  refine⟨by unfold Bp;omega,fun n hn=> ?_⟩
  have:=hinv.kids n hn;unfold Bp;omega
 have wr:IntKind.wrap .i64 ((i:Int)+1)=((i+1:Nat):Int):=QM (by unfold Bp;omega)
 have rr:(Aa 8 (encTs l)&&true&&true&&((List.all (AY (CS l[i] st).rows) fun(r:Nat×List AV)↦CA 8 (Prod.snd r))&&true))=true:=by
  rw[Ex.cK,ZK];rfl
 have NQ:Xf st:=fun n hn=>by
  have:=hinv.bot;rw[hn] at this;exact this
 generalize hT:l[i]=t at *;obtain⟨k,nm,al,tx,fr,to⟩:=t
 have fin:∀(w:Ps),w=CS ⟨k,nm,al,tx,fr,to⟩ st->∀g',Ad (w.e !=0) (AV.tup [.agg [.int .i64 0,.int .i64 0,.str [],.sl 0 [] none,.sl 0 [] none],.int .i64 w.pl,.int .i64 w.e]=v)
   (AU (Aa 8 (encTs l)&&true&&true&&((List.all (AY w.rows) fun(r:Nat×List AV)↦CA 8 (Prod.snd r))&&true)) (AE AS 8 (AD Tryz.f8) (AR Tryz.prog Tryz.f8 v) [.code [0,1,0,1,1,1,1,1,1],.block 0,.code [1,1,1,1,1,1,1]] .normal [(0,true,.str s),(2,true,.ptr 2 0),(6,true,.ptr 7 0),(7,true,EM),(30,true,.sl 6 (encTs l) none),(31,true,.int .i64 l.length),(32,true,.int .i64 (IntKind.wrap .i64 ((i:Int)+1)))] (hP g' (AY w.rows) w.pl w.e))):=by
  rintro w rfl g'
  refine AA (fun a=>(h1 a).symm) fun a=>AF rr ?_
  rw[wr];exact h2 a g'
 have hk:k=1\/k=2\/k=3\/k=4\/k=5\/k=6\/k=7:=hk
 rcases hk with rfl|rfl|rfl|rfl|rfl|rfl|rfl
 ·exact qV (AX (AG yf AN)) ⟨g,st,_,hinv.bot.ne,VI,ht,trivial,rfl,rfl,fun g'=>fin _ rfl g'⟩
 ·exact qU (AX (AG lN AN)) ⟨g,st,_,hinv.bot.ne,VI,ht,trivial,rfl,rfl,fun g'=>fin _ rfl g'⟩
 ·exact qT (AX (AG lN AN)) ⟨g,st,_,hinv.bot.ne,VI,ht,trivial,rfl,rfl,fun g'=>fin _ rfl g'⟩
 ·exact qS (AX (AG pk AN)) ⟨g,st,_,hinv.bot.ne,VI,ht,NQ,rfl,rfl,fun g'=>fin _ rfl g'⟩
 ·exact qR (AX (AG pn AN)) ⟨g,st,_,hinv.bot.ne,VI,ht,trivial,rfl,rfl,fun g'=>fin _ rfl g'⟩
 ·exact qQ (AX (AG pk AN)) ⟨g,st,_,hinv.bot.ne,VI,ht,NQ,rfl,rfl,fun g'=>fin _ rfl g'⟩
 ·exact qP (AX (AG ye AN)) ⟨g,st,_,hinv.bot.ne,VI,ht,trivial,rfl,rfl,fun g'=>fin _ rfl g'⟩
theorem il {v:AV}{s:List UInt8}{l:List Ex.Tok}(hl:l.length<=131074)(Sw:∀t∈l,aR t/\(t.kind=1\/t.kind=2\/t.kind=3\/t.kind=4\/t.kind=5\/t.kind=6\/t.kind=7)):∀(m i:Nat) (g:Nat) (st:Ps),l.length-i=m->i<=l.length->Inv i st.rows->st.e=0->
  (∃z,v=Lp z.1 z.2 (Iv s.length (Bi (l.drop i) st))/\((Bi (l.drop i) st).e=0->z=(3,5))/\((Bi (l.drop i) st).e≠0->z=(0,0)))->
  AE AS 8 (AD Tryz.f8) (AR Tryz.prog Tryz.f8 v) [.code [0,1,0,1,1,1,1,1,1],.block 0,.code [1,1,1,1,1,1,1]] .normal [(0,true,.str s),(2,true,.ptr 2 0),(6,true,.ptr 7 0),(7,true,EM),(30,true,.sl 6 (encTs l) none),(31,true,.int .i64 l.length),(32,true,.int .i64 i)] (hP g (AY st.rows) st.pl st.e)
 |0,i,g,st,hm,hi,hinv,he,⟨z,hv,hz,_⟩=>by
  rw[List.drop_of_length_le (by omega)] at hv hz
  have hz:=hz he;subst hz;have hp:Bi [] st=st:=rfl;rw[hp] at hv;unfold Iv at hv;rw[he] at hv
  refine ua (s:=s) J7 (AA (fun a=> ?_) fun _=>AA (fun a=> ?_) fun a=> ?_)
  ·simp at a;omega
  ·rw[Bv] at a;have a:=of_decide_eq_true a
   match hr:st.rows,a with
   |[],a=>simp at a
   |[_],a=>simp at a
   |n::m::r,_=>
    rw[hr] at hv;exact hv.symm
  ·rw[Bv] at a;have a:=of_decide_eq_false a;have BT:=hinv.bot.ne
   match hr:st.rows,a with
   |[],_=>exact absurd hr BT
   |[n],_=>
    rw[hr] at hv;refine vj J7 (AF (FT g) ?_);rw[hv,A9 0 _ _ (FJ n.attrs),A9 0 _ _ (FI n.kids),<-Gt];rfl
   |n::m::r,a=>simp at a;omega
 |m+1,i,g,st,hm,hi,hinv,he,⟨z,hv,hz,kK⟩=>by
  have As:i<l.length:=by omega
  obtain⟨h1,h2⟩:=Sw _ (List.getElem_mem As)
  have hlen:(encTs l).length=l.length:=by simp[encTs]
  rw[List.drop_eq_getElem_cons As] at hv hz kK
  refine ua (s:=s) J7 (AA (fun a=>AF (by rw[hlen,Au As];rfl) ⟨_,_,_,_,_,_,dv As,jo As hl h1 h2 hinv (fun b=> ?_) fun b g'=> ?_⟩) fun a=> ?_)
  ·have b':((CS l[i] st).e==0)=false:=ee b
   have hp:Bi (l[i]::l.drop (i+1)) st=CS l[i] st:=by
    rw[Bi,b'];rfl
   rw[hp] at hv kK
   have kK:=kK (by simpa using b')
   subst kK;rw[hv];unfold Iv;rw[b'];rfl
  ·have b':((CS l[i] st).e==0)=true:=U6 b
   have hp:Bi (l[i]::l.drop (i+1)) st=Bi (l.drop (i+1)) (CS l[i] st):=by
    rw[Bi,b'];rfl
   rw[hp] at hv hz kK
   exact il hl Sw m (i+1) g' _ (by omega) (by omega) (cu hinv _) (by simpa using b') ⟨z,hv,hz,kK⟩
  ·simp at a;omega
theorem ja :AK AS (Af [(17,tokC),(18,Vf)]):=AX (AG yl (AG yk AN))
theorem c8 :CP AS 8 j0:=by
 refine Ar vo fun vs h K ht=> ?_
 obtain⟨s,rfl,WY,Mo⟩:=ht
 have done:∀z1 z2:Nat,(z1=3/\z2=5)\/(z1=0/\z2=0)->K (Lp z1 z2 (Bz s)) h:=fun z1 z2 hz=>by
  cases hp:Bz s with
  |ok n=>exact WY n hp
  |error x=>exact Mo x.1 x.2 hp z1 z2 hz
 by_cases hs:65536<s.length
 ·refine⟨_,done 3 5 (.inl ⟨rfl,rfl⟩),t8 ja (AA (fun _=> ?_) fun a=> ?_)⟩
  ·unfold Bz;rw[if_pos hs];rfl
  ·simp at a;omega
 ·cases hl:lexM s with
  |error x=>
   obtain⟨p,e⟩:=x
   have hp:Bz s=.error ((p:Nat),e):=by
    unfold Bz;rw[if_neg hs,hl]
   have he:(e !=0)=true:=by
    have:=Ex.cZ hl;simp[bne,this]
   refine⟨_,done 3 5 (.inl ⟨rfl,rfl⟩),t8 ja (AA (fun a=> ?_) fun a=>⟨s,by omega,rfl,fun p' e' h'=> ?_,fun l' h'=> ?_⟩)⟩
   ·simp at a;omega
   ·rw[hl] at h'
    injection h' with h'
    injection h' with e1 e2
    subst e1;subst e2
    refine AA (fun _=> ?_) fun b=> ?_
    ·rw[hp];rfl
    ·rw[he] at b;cases b
   ·rw[hl] at h';cases h'
  |ok l=>
   obtain⟨VM,ZU⟩:=gP (by omega) hl
   have hp:Bz s=Iv s.length (Bi l Je):=by
    unfold Bz;rw[if_neg hs,hl];rfl
   have hz:∃z:Nat×Nat,((z.1=3/\z.2=5)\/(z.1=0/\z.2=0))/\((Bi l Je).e=0->z=(3,5))/\((Bi l Je).e≠0->z=(0,0)):=by
    by_cases h0:(Bi l Je).e=0
    ·exact⟨(3,5),.inl ⟨rfl,rfl⟩,fun _=>rfl,fun h=>absurd h0 h⟩
    ·exact⟨(0,0),.inr ⟨rfl,rfl⟩,fun h=>absurd h h0,fun _=>rfl⟩
   obtain⟨z,z0,z1,z2⟩:=hz
   refine⟨_,done z.1 z.2 z0,t8 ja (AA (fun a=> ?_) fun a=>⟨s,by omega,rfl,fun p' e' h'=> ?_,fun l' h'=>⟨rfl,?_⟩⟩)⟩
   ·simp at a;omega
   ·rw[hl] at h';cases h'
   ·rw[hl] at h'
    injection h' with h'
    subst h'
    have hlen:(encTs l).length=l.length:=by simp[encTs]
    rw[hlen]
    exact il VM ZU l.length 0 0 Je rfl (Nat.zero_le _) rz rfl ⟨z,by rw[hp];rfl,z1,z2⟩
end Go.Proofs.YtopjpnhgnopbiaaGreatDoor
end
section
namespace Go.Ai
open Go.RowKit
section
variable {C:Bh}{I:World->Prop}{B0:Nat}
theorem Xa (S0:Sound C I B0){k:Nat}{vs:List AV}{u v:AV}(hr:Jn C false k vs [] u [])(hu:AZ u=true)(hv:∀(E:Env) c,Rel E u c->Rel E v c)(E:Env)(args:List Value)(hE:E.h=[])(hB:E.B=E.w.heap.size)(H:Good C.G I B0 E)(ha:BJ E vs args):
  Calls C.P k args.toArray E.w (fun e w'=>∃c,e=.returned c/\Below E.w.heap.size E.w w'/\Rel {E with w:=w'} v c):=by
 obtain⟨n0,hn⟩:=hr;obtain⟨_,PE⟩:=(LK S0 false n0).2 k vs [] u [] (hn n0 (Nat.le_refl _))
 refine(PE E args hE H ha).mono fun e w' hp=> ?_
 obtain⟨c,E',rfl,rfl,S,Gn,HB⟩:=hp
 refine⟨c,rfl,by have:=S.below;rwa [hB] at this,hv _ _ ?_⟩
 have hA:∀g,E.A g=none:=fun g=>by
  cases hg:E.A g with
  |none=>rfl
  |some x=>
   obtain⟨o,i,m⟩:=x;have:=H.ar g o i m hg;omega
 have K:Cut 0 [] E' {E with w:=E'.w}:=
  ⟨rfl,fun _ h=>absurd h (Nat.not_lt_zero _),fun b o w _ hs=>⟨⟨fun hu=>hs.1.1 (by rw[S.U];exact hu),fun id i m h=>(by have h:E.A b=_:=h;rw[hA] at h;cases h)⟩,fun id x hx=>(by have hx:E.h[id]?=_:=hx;rw[hE] at hx;simp at hx)⟩,
   fun _ _ _ h=>absurd h (Nat.not_lt_zero _),fun _ h=>absurd h (Nat.not_lt_zero _),Nat.zero_le _,fun _ _ _ _ h=>absurd h (Nat.not_lt_zero _),fun _ _ _ h=>absurd h (Nat.not_lt_zero _),fun _ _ _ _ _ _ _ _ h=>absurd h (Nat.not_lt_zero _),fun _ h=>absurd h (Nat.not_lt_zero _),fun b t cs _ h=>by simp at h⟩
 have:=Rel.cut K u c HB
 rwa [Hi 0 [] u hu] at this
end
theorem XZ {E:Env}{z z':Nat}{c:Value}(h:Rel E (.sl z [] none) c):Rel E (.sl z' [] none) c:=by
 obtain⟨⟨A,cap,h1,h2,h3,_,h5⟩,_⟩:=h
 exact⟨⟨A,cap,h1,h2,h3,fun e he=>(by cases he),fun hn=>absurd rfl hn⟩,trivial⟩
end Go.Ai
namespace Go.Proofs.YtopjpnhgnopbiaaGreatDoor
open Go.Ai Go Go.Ai.Sp
set_option maxRecDepth 100000
theorem Lj (r:Except (Int×Int) Nd):AZ (Lp 3 5 r)=true/\AZ (Lp 0 0 r)=true:=by
 cases r with
 |ok n=>
  have h:=JD n
  constructor<;>simp[Lp,AZ,AZ.Aw,h]
 |error x=>exact⟨rfl,rfl⟩
theorem ft {E:Env}{r:Except (Int×Int) Nd}{c:Value}(h:Rel E (Lp 0 0 r) c):Rel E (Lp 3 5 r) c:=by
 cases r with
 |ok n=>exact h
 |error x=>
  obtain⟨p,e⟩:=x;obtain⟨a,h1,⟨v1,r1,h2,h3,h4⟩⟩:=h;refine⟨a,h1,⟨v1,r1,h2,?_,h4⟩⟩;obtain⟨b,g1,g2⟩:=h3;refine⟨b,g1,?_⟩;obtain⟨x1,q1,e1,o1,l1,x2,q2,e2,o2,l2,x3,q3,e3,o3,l3,x4,q4,e4,o4,l4,x5,q5,e5,o5,l5,l6⟩:=g2;exact⟨x1,q1,e1,o1,l1,x2,q2,e2,o2,l2,x3,q3,e3,o3,l3,x4,q4,e4,o4,XZ l4,x5,q5,e5,o5,XZ l5,l6⟩
def OR :List AV->Option (Bool×AV)
 |[.str s]=>some (true,Lp 3 5 (Bz s))
 |_=>none
theorem Yz {I:World->Prop}{B0:Nat}(S0:Sound AS I B0):EK Tryz.prog AS.G I B0 8 OR:=by
 intro vs v hv E args hE hB H hr;unfold OR at hv;split at hv
 ·rename_i s;simp only[Option.some.injEq,Prod.mk.injEq,true_and] at hv;subst hv
  obtain⟨u,h',hc,hh,hu⟩:=c8 [.str s] [] (fun u h=>h=[]/\(u=Lp 3 5 (Bz s)\/u=Lp 0 0 (Bz s))) ⟨s,rfl,fun n hn=>⟨rfl,.inl (by rw[hn];rfl)⟩,fun p e he z1 z2 hz=>⟨rfl,by
   rw[he]
   rcases hz with ⟨rfl,rfl⟩|⟨rfl,rfl⟩
   ·exact .inl rfl
   ·exact .inr rfl⟩⟩
  subst hh
  rcases hu with rfl|rfl
  ·exact Xa S0 hc (Lj _).1 (fun _ _ h=>h) E args hE hB H hr
  ·exact Xa S0 hc (Lj _).2 (fun _ _ h=>ft h) E args hE hB H hr
 ·cases hv
noncomputable def AI:Bh:={cfg with E7:=fun f=>GY f (Mh++[(17,Lx.WK),(8,OR)])}
end Go.Proofs.YtopjpnhgnopbiaaGreatDoor
end
