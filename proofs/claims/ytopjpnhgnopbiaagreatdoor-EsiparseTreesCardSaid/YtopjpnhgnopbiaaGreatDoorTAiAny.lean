/-
  Drawn regions: whatever order is drawn.
-/
import Derived.Test.YtopjpnhgnopbiaaGreatDoorTAiDraw
set_option linter.unusedVariables false
set_option linter.unusedSimpArgs false
set_option linter.unnecessarySimpa false
namespace Go.Ai
open Go.RowKit
theorem Zb {α:Type}(n:Nat)(k:Nat->α):dw n k=k n:=by cases n<;>rfl
theorem XD {look:Nat->Nat}{o:Oper}{i:Nat}(h:(bitsOf look o).testBit i=true):∃e∈o.after,Region.binds .any e=true/\(i=e.on\/(look e.on).testBit i=true):=by
 have key:∀l:List Edge,(l.foldr (fun e s=>bif Region.binds .any e then Nat.lor (Nat.lor (2^e.on) (look e.on)) s else s) 0).testBit i=true->∃e∈l,Region.binds .any e=true/\(i=e.on\/(look e.on).testBit i=true):=by
  intro l
  induction l with
  |nil=>intro h;simp at h
  |cons e l ih=>
   intro h;rw[List.foldr_cons] at h
   cases hb:Region.binds .any e with
   |false=>
    rw[hb] at h;obtain⟨e',h1,h2⟩:=ih h
    exact⟨e',by simp[h1],h2⟩
   |true=>
    rw[hb] at h;simp only[cond_true] at h
    have h':((2^e.on ||| look e.on) ||| (l.foldr (fun e s=>bif Region.binds .any e then Nat.lor (Nat.lor (2^e.on) (look e.on)) s else s) 0)).testBit i=true:=h
    rw[Nat.testBit_or,Nat.testBit_or,Bool.or_eq_true,Bool.or_eq_true] at h'
    rcases h' with (h1|h1)|h1
    ·rw[Nat.testBit_two_pow] at h1
     exact⟨e,by simp,hb,.inl (of_decide_eq_true h1).symm⟩
    ·exact⟨e,by simp,hb,.inr h1⟩
    ·obtain⟨e',k1,k2⟩:=ih h1
     exact⟨e',by simp[k1],k2⟩
 obtain⟨e,h1,h2⟩:=key o.after.toList h
 exact⟨e,by simpa using h1,h2⟩
theorem RP :∀(l:List Oper) (acc:List Nat),∃t,LO l acc=acc++t/\∀(j:Nat) o,l[j]?=some o->(LO l acc).getD (acc.length+j) 0=bitsOf (fun i=>if i<acc.length+j then(LO l acc).getD i 0 else 0) o
 |[],acc=>⟨[],by simp[LO],fun j o h=>by simp at h⟩
 |o::os,acc=>by
  have hb:LO (o::os) acc=LO os (acc++[bitsOf (fun i=>acc.getD i 0) o]):=by
   rw[LO,Zb]
  obtain⟨t,ht,hs⟩:=RP os (acc++[bitsOf (fun i=>acc.getD i 0) o])
  rw[hb]
  refine⟨_::t,by rw[ht,List.append_assoc];rfl,fun j o' hj=> ?_⟩
  cases j with
  |zero=>
   simp only[List.getElem?_cons_zero,Option.some.injEq] at hj;subst hj
   have n7:(fun i=>if i<acc.length+0 then(LO os (acc++[bitsOf (fun i=>acc.getD i 0) o])).getD i 0 else 0)=fun i=>acc.getD i 0:=by
    funext i
    rw[ht]
    by_cases hi:i<acc.length
    ·simp[hi,List.getElem?_append_left,List.append_assoc]
    ·simp[hi,List.getElem?_eq_none (Nat.le_of_not_lt hi)]
   rw[n7,ht];simp[List.append_assoc]
  |succ j=>
   have:=hs j o' (by simpa using hj)
   simp only[List.length_append,List.length_cons,List.length_nil,Nat.zero_add] at this
   rw[show acc.length+(j+1)=acc.length+1+j by omega]
   exact this
section
variable {ops:Array Oper}
def KT (ops:Array Oper)(listed:Array Bool):Prop:=
 ∀(j:Nat) o,ops[j]?=some o->listed.getD j false=true->∀e∈o.after,Region.binds .any e=true->listed.getD e.on false=true
theorem W6 {listed:Array Bool}(hc:KT ops listed):∀(j:Nat) o,ops[j]?=some o->(∀e∈o.after,Region.binds .any e=true->listed.getD e.on false=true)->
  ∀i,((LO ops.toList []).getD j 0).testBit i=true->listed.getD i false=true:=by
 intro j
 induction j using Nat.strongRecOn with
 |_ j ih=>
  intro o ho hp i hi;obtain⟨t,_,hs⟩:=RP ops.toList []
  have:=hs j o (by simpa using ho)
  simp only[List.length_nil,Nat.zero_add] at this;rw[this] at hi;obtain⟨e,he,hb,lr⟩:=XD hi;have hl:=hp e he hb
  rcases lr with rfl|lr
  ·exact hl
  ·by_cases As:e.on<j
   ·rw[if_pos As] at lr;have oB:=(Array.getElem?_eq_some_iff.1 ho).1
    have jD:ops[e.on]?=some (ops[e.on]'(by omega)):=Array.getElem?_eq_getElem _
    exact ih e.on As _ jD (hc _ _ jD hl) i lr
   ·rw[if_neg As] at lr;simp at lr
theorem LG {P:Program}(h:HH P ops=true){j:Nat}{o:Oper}(ho:ops[j]?=some o):∀e∈o.after,Region.binds .any e=true->e.on<j:=by
 intro e he hb;unfold HH at h;simp only[Bool.and_eq_true] at h
 have:=List.all_eq_true.1 h.1 (o,j) (by rw[List.mem_zipIdx_iff_getElem?];simpa using ho)
 simp only[Bool.and_eq_true,List.all_eq_true] at this
 have:=this.2 e (by simpa using he)
 rw[hb] at this;simp only[Bool.not_true,Bool.false_or] at this;exact Nat.le_of_ble_eq_true this
theorem Mx {P:Program}(h:HH P ops=true){i j:Nat}{x y:Oper}(hx:ops[i]?=some x)(hy:ops[j]?=some y)(su:i<j):
  ((LO ops.toList []).getD j 0).testBit i=true\/(x.apart ops y=true/\(calm P x.op y.op||VH ops.toList x y||VH ops.toList y x||VU ops x y)=true):=by
 unfold HH at h;simp only[Bool.and_eq_true] at h
 have h1:=List.all_eq_true.1 h.2 (y,j) (by rw[List.mem_zipIdx_iff_getElem?];simpa using hy)
 have h2:=List.all_eq_true.1 h1 (x,i) (by rw[List.mem_zipIdx_iff_getElem?];simpa using hx)
 have hb:Nat.blt i j=true:=Nat.ble_eq_true_of_le su;simpa[hb] using h2
def rest (ops:Array Oper)(listed:Array Bool):List Nat:=(List.range ops.size).filter fun i=>!listed.getD i true
theorem Kt {listed:Array Bool}{i:Nat}:i∈rest ops listed↔i<ops.size/\listed.getD i true=false:=by
 simp[rest]
theorem Fb (listed:Array Bool):(rest ops listed).Pairwise (·<·):=List.Pairwise.filter _ List.pairwise_lt_range
theorem bU {listed:Array Bool}{i:Nat}(hs:listed.size=ops.size){s t:List Nat}(h:rest ops listed=s++i::t):rest ops (listed.setIfInBounds i true)=s++t:=by
 have Dk:=Fb (ops:=ops) listed;rw[h] at Dk
 have e1:rest ops (listed.setIfInBounds i true)=(rest ops listed).filter fun j=>j !=i:=by
  unfold rest;rw[List.filter_filter]
  refine List.filter_congr fun j hj=> ?_
  have IE:j<listed.size:=by rw[hs];simpa using hj
  by_cases ln:j=i
  ·subst ln;simp[IE]
  ·simp[ln,Ne.symm ln,IE]
 rw[e1,h,List.filter_append,List.filter_cons];simp only[bne_self_eq_false,Bool.false_eq_true,if_false];rw[List.pairwise_append,List.pairwise_cons] at Dk
 have es:s.filter (fun j=>j !=i)=s:=List.filter_eq_self.2 fun j hj=>by
  have:=Dk.2.2 j hj i (by simp)
  simp;omega
 have et:t.filter (fun j=>j !=i)=t:=List.filter_eq_self.2 fun j hj=>by
  have:=Dk.2.1.1 j hj;simp;omega
 rw[es,et]
theorem AO.eq {E:Env}{F F':Fr}{a:Act}(he:Da F F')(h:AO E F a):AO E F' a:=⟨fun s=>by rw[<-he s];exact h.1 s,by rw[<-he dS];exact h.2⟩
theorem Lf (ops:Array Oper):∀n,n<=ops.size->Gz ops (List.range n)=ops.toList.take n
 |0,_=>rfl
 |n+1,h=>by
  have hn:ops[n]?=some (ops[n]'h):=Array.getElem?_eq_getElem _
  have hl:ops.toList[n]?=some (ops[n]'h):=by simpa using hn
  have ih:=Lf ops n (by omega)
  unfold Gz at ih⊢;rw[List.range_succ,List.filterMap_append,ih,List.take_add_one,hl];simp[hn]
variable {C:Bh}{I:World->Prop}{B0:Nat}
noncomputable def Bt(C:Bh)(cl:Bool->FuncId->List AV->Hp->Except (List Nat) (AV×Hp))(ops:Array Oper):List Nat->Fr->Hp->Except (List Nat) (Fr×Hp)
 |[],F,h=>.ok (F,h)
 |i::l,F,h=>match ops[i]? with
  |none=>Bt C cl ops l F h
  |some o=>match AW C (cl (A6 C ops true i)) ops (A6 C ops true i) o F h with
   |.ok (e,h')=>match EH C ops true i F h h' with
    |true=>Bt C cl ops l (Aq F (Cx (A6 C ops true i) o) e) h'
    |false=>.error []
   |.error x=>.error x
variable {cl:Bool->FuncId->List AV->Hp->Except (List Nat) (AV×Hp)}
theorem T8 {draw:Bool}{i:Nat}{F F':Fr}{h h':Hp}(he:Da F F'):EH C ops draw i F h h'=EH C ops draw i F' h h':=by
 have:Jf F h h'=Jf F' h h':=funext fun p=>by unfold Jf;rw[he p]
 unfold EH;rw[this]
theorem CZ {i:Nat}{l:List Nat}{o:Oper}(ho:ops[i]?=some o){F G:Fr}{h h':Hp}:Bt C cl ops (i::l) F h=.ok (G,h')↔
  ∃e h1,AW C (cl (A6 C ops true i)) ops (A6 C ops true i) o F h=.ok (e,h1)/\EH C ops true i F h h1=true/\Bt C cl ops l (Aq F (Cx (A6 C ops true i) o) e) h1=.ok (G,h'):=by
 simp only[Bt,ho]
 cases hs:AW C (cl (A6 C ops true i)) ops (A6 C ops true i) o F h with
 |error x=>simp
 |ok r=>
  obtain⟨e,h1⟩:=r;simp only[Except.ok.injEq,Prod.mk.injEq]
  cases hm:EH C ops true i F h h1 with
  |true=>
   simp only;constructor
   ·intro hx;exact⟨e,h1,⟨rfl,rfl⟩,hm,hx⟩
   ·rintro⟨_,_,⟨rfl,rfl⟩,_,hx⟩;exact hx
  |false=>
   constructor
   ·intro hx;cases hx
   ·rintro⟨_,_,⟨rfl,rfl⟩,hx,_⟩;rw[hm] at hx;cases hx
theorem DE :∀{s t:List Nat} {F G:Fr} {h h':Hp},Bt C cl ops (s++t) F h=.ok (G,h')↔∃F1 h1,Bt C cl ops s F h=.ok (F1,h1)/\Bt C cl ops t F1 h1=.ok (G,h')
 |[],t,F,G,h,h'=>by
  constructor
  ·intro hx;exact⟨F,h,rfl,hx⟩
  ·rintro⟨F1,h1,hx,hy⟩
   simp only[Bt,Except.ok.injEq,Prod.mk.injEq] at hx;obtain⟨rfl,rfl⟩:=hx;exact hy
 |i::s,t,F,G,h,h'=>by
  rw[List.cons_append]
  cases ho:ops[i]? with
  |none=>
   have:=DE (s:=s) (t:=t) (F:=F) (G:=G) (h:=h) (h':=h');simpa only[Bt,ho] using this
  |some o=>
   rw[CZ ho];constructor
   ·rintro⟨e,h1,k1,k2,k3⟩
    obtain⟨F1,h2,q1,q2⟩:=DE.1 k3;exact⟨F1,h2,(CZ ho).2 ⟨e,h1,k1,k2,q1⟩,q2⟩
   ·rintro⟨F1,h2,q1,q2⟩
    obtain⟨e,h1,k1,k2,k3⟩:=(CZ ho).1 q1;exact⟨e,h1,k1,k2,DE.2 ⟨F1,h2,k3,q2⟩⟩
theorem FW :∀(l:List Nat) {F F' G:Fr} {h h':Hp},Da F F'->Bt C cl ops l F h=.ok (G,h')->∃G',Bt C cl ops l F' h=.ok (G',h')/\Da G G'
 |[],F,F',G,h,h',he,hx=>by
  simp only[Bt,Except.ok.injEq,Prod.mk.injEq] at hx⊢;obtain⟨rfl,rfl⟩:=hx;exact⟨F',⟨rfl,rfl⟩,he⟩
 |i::l,F,F',G,h,h',he,hx=>by
  cases ho:ops[i]? with
  |none=>simp only[Bt,ho] at hx⊢;exact FW l he hx
  |some o=>
   obtain⟨e,h1,k1,k2,k3⟩:=(CZ ho).1 hx;obtain⟨G',q1,q2⟩:=FW l (he.put _ _) k3;refine⟨G',(CZ ho).2 ⟨e,h1,?_,?_,q1⟩,q2⟩
   ·rw[<-Bs (F:=F) (F':=F') o (fun t _=>he t) (.inr (he dS)) (.inr fun d _=>he d)];exact k1
   ·rw[<-T8 he];exact k2
theorem T6 {i:Nat}(hm:GW C ops i=false){F:Fr}{h h':Hp}:EH C ops true i F h h'=true:=by
 unfold EH;rw[hm];rfl
theorem Fk {i:Nat}(hm:GW C ops i=false):A6 C ops true i=true:=by unfold A6;rw[hm];rfl
theorem RE {i:Nat}(hm:GW C ops i=true):A6 C ops true i=false:=by unfold A6;rw[hm];rfl
theorem Cw :∀(s:List Nat) {F G:Fr} {h h':Hp},(∀k∈s,GW C ops k=false)->(Bt C cl ops s F h=.ok (G,h')↔BI C (cl true) ops true (Gz ops s) F h=.ok (G,h'))
 |[],F,G,h,h',_=>by simp[Bt,Gz,BI]
 |i::s,F,G,h,h',hs=>by
  cases ho:ops[i]? with
  |none=>
   have e:Gz ops (i::s)=Gz ops s:=by simp[Gz,ho]
   rw[e];simp only[Bt,ho]
   exact Cw s fun k hk=>hs k (by simp[hk])
  |some o=>
   have e:Gz ops (i::s)=o::Gz ops s:=by simp[Gz,ho]
   rw[e,CZ ho,Fk (hs i (by simp))]
   simp only[BI,Cx];constructor
   ·rintro⟨e,h1,k1,_,k3⟩
    rw[k1]
    exact(Cw s fun k hk=>hs k (by simp[hk])).1 k3
   ·intro hx
    cases DI:AW C (cl true) ops true o F h with
    |error x=>rw[DI] at hx;cases hx
    |ok r=>
     obtain⟨e,h1⟩:=r;rw[DI] at hx
     exact⟨e,h1,rfl,T6 (hs i (by simp)),(Cw s fun k hk=>hs k (by simp[hk])).2 hx⟩
theorem Hr {o:Oper}(h:MK C o=true):(∃c,o.op=.call c/\∃x,c.callee=.value x)/\o.guard=none/\Dj o=false:=by
 unfold MK at h;split at h
 ·rename_i k args ts Bc hg
  exact⟨⟨_,Bc,_,rfl⟩,hg,by simp[Dj,Bc]⟩
 ·cases h
theorem HQ {m:Nat}(hm:GW C ops m=true):∃o,ops[m]?=some o/\MK C o=true/\(∀i,i<m->DQ ops i m=true\/Ht C ops m i=true)/\∀j,m<j->j<ops.size->DQ ops m j=true:=by
 unfold GW at hm
 cases ho:ops[m]? with
 |none=>rw[ho] at hm;cases hm
 |some o=>
  rw[ho] at hm;simp only[Bool.and_eq_true] at hm
  refine⟨o,rfl,hm.1.1,fun i hi=> ?_,fun j hj oB=> ?_⟩
  ·have:=List.all_eq_true.1 hm.1.2 i (by simpa using hi)
   simpa using this
  ·have:=List.all_eq_true.1 hm.2 j (by simpa using oB)
   have hb:Nat.blt m j=true:=Nat.ble_eq_true_of_le hj;simpa[hb] using this
theorem WI {m:Nat}(hm:GW C ops m=true){F:Fr}{h h':Hp}(hk:EH C ops true m F h h'=true):∀k,k<m->∀p∈PJ ops m k,Jf F h h' p:=by
 intro k jF p hp
 have dN:p∈Wn ops m:=List.mem_flatten.2 ⟨PJ ops m k,List.mem_map.2 ⟨k,by simpa using jF,rfl⟩,hp⟩
 unfold EH at hk;rw[hm] at hk;simp only[Bool.and_self] at hk;split at hk
 ·rename_i kW;rw[kW] at dN;cases dN
 ·exact(@of_decide_eq_true _ (Classical.propDecidable _) hk) p dN
theorem Fi (HD:He (cl true)){m:Nat}:∀(s:List Nat) {F F1:Fr} {h h1:Hp},(∀k∈s,Ht C ops m k=true)->
  BI C (cl true) ops true (Gz ops s) F h=.ok (F1,h1)->h1=h/\∀t,(∀k∈s,∀o,ops[k]?=some o->o.dst≠some t)->lk F1 t=lk F t
 |[],F,F1,h,h1,_,hx=>by
  simp only[Gz,List.filterMap_nil,BI,Except.ok.injEq,Prod.mk.injEq] at hx⊢;obtain⟨rfl,rfl⟩:=hx
  exact⟨rfl,fun _ _=>rfl⟩
 |k::s,F,F1,h,h1,Gc,hx=>by
  have Mq:=Gc k (by simp)
  cases ho:ops[k]? with
  |none=>unfold Ht at Mq;rw[ho] at Mq;cases Mq
  |some o=>
   have es:Gz ops (k::s)=o::Gz ops s:=by simp[Gz,ho]
   rw[es] at hx;simp only[BI,Cx] at hx
   cases DI:AW C (cl true) ops true o F h with
   |error x=>rw[DI] at hx;cases hx
   |ok r=>
    obtain⟨e1,h'⟩:=r;rw[DI] at hx;simp only at hx
    have hq:h'=h:=by
     unfold Ht at Mq;rw[ho] at Mq;simp only[Bool.or_eq_true,Bool.not_eq_true'] at Mq
     rcases Mq with Mq|Mq
     ·exact(Ek HD o Mq DI).1
     ·split at Mq
      ·rename_i t p Bc hg;exact(JI Bc hg DI).1
      ·cases Mq
    subst hq
    obtain⟨r1,r2⟩:=Fi HD s (fun k' Jg=>Gc k' (by simp[Jg])) hx
    exact⟨r1,fun t ht=>by rw[r2 t fun k' Jg=>ht k' (by simp[Jg]),Az (ht k (by simp) o ho)]⟩
theorem Qz (HD:He (cl true)){m:Nat}{d:Option Nat}{e:Bool×AV}{h2:Hp}:∀(s:List Nat) {F F1:Fr} {h h1:Hp},s.Pairwise (·<·)->
  (∀k∈s,k<m/\DQ ops k m=false/\Ht C ops m k=true/\∀o,ops[k]?=some o->∀x,d=some x->x∉o.looksAt ops/\o.dst≠some x)->
  BI C (cl true) ops true (Gz ops s) F h=.ok (F1,h1)->(∀k∈s,∀p∈PJ ops m k,Jf F1 h1 h2 p)->
  ∃G1,BI C (cl true) ops true (Gz ops s) (Aq F d e) h2=.ok (G1,h2)/\Da G1 (Aq F1 d e)
 |[],F,F1,h,h1,_,_,hx,_=>by
  simp only[Gz,List.filterMap_nil,BI,Except.ok.injEq,Prod.mk.injEq] at hx⊢;obtain⟨rfl,rfl⟩:=hx;exact⟨_,⟨rfl,trivial⟩,Da.refl _⟩
 |k::s,F,F1,h,h1,Dk,Gc,hx,hk=>by
  rw[List.pairwise_cons] at Dk
  obtain⟨jF,xZ,Mq,SW⟩:=Gc k (by simp)
  obtain⟨q1,_⟩:=Fi HD (k::s) (fun k' Jg=>(Gc k' Jg).2.2.1) hx
  subst q1
  cases ho:ops[k]? with
  |none=>unfold Ht at Mq;rw[ho] at Mq;cases Mq
  |some o=>
   have es:Gz ops (k::s)=o::Gz ops s:=by simp[Gz,ho]
   rw[es] at hx⊢;simp only[BI,Cx] at hx⊢
   cases DI:AW C (cl true) ops true o F h1 with
   |error x=>rw[DI] at hx;cases hx
   |ok r=>
    obtain⟨e1,h'⟩:=r;rw[DI] at hx;simp only at hx
    obtain⟨r1,r2⟩:=Fi HD s (fun k' Jg=>(Gc k' (by simp[Jg])).2.2.1) hx
    subst r1
    obtain⟨G1,r3,r4⟩:=Qz HD s Dk.2 (fun k' Jg=>Gc k' (by simp[Jg])) hx (fun k' Jg=>hk k' (by simp[Jg]))
    have kS:AW C (cl true) ops true o F h2=.ok (e1,h2):=by
     unfold Ht at Mq;rw[ho] at Mq;simp only[Bool.or_eq_true,Bool.not_eq_true'] at Mq
     rcases Mq with Mq|Mq
     ·exact(Ek HD o Mq DI).2 h2
     ·split at Mq
      ·rename_i t p Bc hg
       rcases(JI Bc hg DI).2 with CE|⟨b,ob,hl,CE⟩
       ·exact CE h2
       ·have iw:∀j,k<=j->j<m->∀oj,ops[j]?=some oj->oj.dst≠some p:=by
         intro j xB xG oj wg hd
         have h3:=List.all_eq_true.1 Mq j (by simpa using xG)
         have hb:Nat.ble k j=true:=Nat.ble_eq_true_of_le xB;unfold jP Jq at h3;rw[wg] at h3;simp only at h3;rw[hd] at h3;simp[hb,Nat.beq_refl] at h3
        have VM:lk F1 p=lk F p:=by
         rw[r2 p fun k' Jg o' jD=>iw k' (Nat.le_of_lt (Dk.1 k' Jg)) (Gc k' (by simp[Jg])).1 o' jD,Az (iw k (Nat.le_refl _) jF o ho)]
        have sq:=hk k (by simp) p (by
         unfold PJ;rw[xZ,ho];simp only[Bc]
         exact List.mem_singleton.2 rfl)
        unfold Jf at sq;rw[VM,hl] at sq;exact CE h2 sq.symm
      ·cases Mq
    have kR:AW C (cl true) ops true o (Aq F d e) h2=.ok (e1,h2):=by
     rw[<-kS]
     exact Bs o (fun t ht=>Az fun hd=>(SW o ho t hd).1 ht) (.inl rfl) (.inr fun d' kq=>Az fun hd=>(SW o ho d' hd).2 (Ee kq))
    rw[kR];simp only
    have NS:Da (Aq (Aq F o.dst e1) d e) (Aq (Aq F d e) o.dst e1):=put_comm fun x hx hd=>(SW o ho x hd).2 hx
    obtain⟨G2,q1,q2⟩:=HG _ NS r3
    exact⟨G2,q1,(fun n=>(q2 n).symm.trans (r4 n))⟩
theorem UP (HD:He (cl true))(hd:HH C.P ops=true)(pc:∀o∈ops.toList,o.dst≠some dS){i:Nat}{o:Oper}(ho:ops[i]?=some o){s t:List Nat}(Dk:s.Pairwise (·<·))(Dd:∀k∈s,k<i)
  (QA:∀k∈s,DQ ops k i=false) (CC:i<ops.size) {F G:Fr} {h h':Hp} (Wg:VR ops.toList F) (hx:Bt C cl ops (s++i::t) F h=.ok (G,h')):
  ∃e h1,AW C (cl (A6 C ops true i)) ops (A6 C ops true i) o F h=.ok (e,h1)/\∃G',Bt C cl ops (s++t) (Aq F (Cx (A6 C ops true i) o) e) h1=.ok (G',h')/\Da G G':=by
 have VJ:∀k∈s,GW C ops k=false:=by
  intro k hk
  cases hm:GW C ops k with
  |false=>rfl
  |true=>
   obtain⟨_,_,_,_,h4⟩:=HQ hm;have:=h4 i (Dd k hk) CC;rw[QA k hk] at this;cases this
 have X9:o∈ops.toList:=by simpa using Array.mem_of_getElem? ho
 have UU:∀k∈s,∀x,ops[k]?=some x->x.apart ops o=true/\(calm C.P x.op o.op||VH ops.toList x o||VH ops.toList o x||VU ops x o)=true:=by
  intro k hk x VN
  rcases Mx hd VN ho (Dd k hk) with hb|SW
  ·have:=QA k hk;unfold DQ at this;rw[hb] at this;cases this
  ·exact SW
 obtain⟨F1,h1,HA,nb⟩:=DE.1 hx;rw[Cw s VJ] at HA;obtain⟨e,h2,k1,k2,k3⟩:=(CZ ho).1 nb
 cases fT:GW C ops i with
 |false=>
  rw[Fk fT] at k1 k3⊢
  have kv:∀x∈Gz ops s,x∈ops.toList/\x.apart ops o=true/\(calm C.P x.op o.op||VH ops.toList x o||VH ops.toList o x||VU ops x o)=true:=by
   intro x nY;obtain⟨k,hk,VN⟩:=List.mem_filterMap.1 nY
   exact⟨by simpa using Array.mem_of_getElem? VN,UU k hk x VN⟩
  have CU:BI C (cl true) ops true (Gz ops s++o::[]) F h=.ok (Aq F1 o.dst e,h2):=by
   have app:∀(l:List Oper) {F:Fr} {h:Hp},BI C (cl true) ops true l F h=.ok (F1,h1)->BI C (cl true) ops true (l++[o]) F h=.ok (Aq F1 o.dst e,h2):=by
    intro l
    induction l with
    |nil=>
     intro F h hx;simp only[BI,Except.ok.injEq,Prod.mk.injEq] at hx;obtain⟨rfl,rfl⟩:=hx;simp only[List.nil_append,BI,Cx,k1]
    |cons x l ih=>
     intro F h hx;simp only[List.cons_append,BI] at hx⊢
     cases DI:AW C (cl true) ops true x F h with
     |error y=>rw[DI] at hx;cases hx
     |ok r=>rw[DI] at hx;exact ih hx
   exact app _ HA
  obtain⟨G1,q1,q2⟩:=pull HD X9 (Gz ops s) Wg kv CU;simp only[List.append_nil,BI,Cx] at q1
  cases DI:AW C (cl true) ops true o F h with
  |error y=>rw[DI] at q1;cases q1
  |ok r=>
   obtain⟨e',h3⟩:=r;rw[DI] at q1;simp only at q1;obtain⟨G2,p1,p2⟩:=FW t q2 k3;exact⟨e',h3,rfl,G2,DE.2 ⟨G1,h2,(Cw s VJ).2 q1,p1⟩,p2⟩
 |true=>
  obtain⟨om,Hq,DZ,Gc,_⟩:=HQ fT;rw[ho] at Hq
  injection Hq with Hq
  subst Hq;obtain⟨_,_,FD⟩:=Hr DZ;rw[RE fT] at k1 k3⊢
  have PD:Cx false o=o.dst:=by simp[Cx,FD]
  rw[PD] at k3⊢
  have lx:∀k∈s,k<i/\DQ ops k i=false/\Ht C ops i k=true/\∀x,ops[k]?=some x->∀y,o.dst=some y->y∉x.looksAt ops/\x.dst≠some y:=by
   intro k hk
   refine⟨Dd k hk,QA k hk,(Gc k (Dd k hk)).resolve_left (by rw[QA k hk];simp),fun x VN y hy=> ?_⟩
   obtain⟨a1,a2,a3⟩:=Oper.apart_spec (UU k hk x VN).1
   exact⟨a3 y hy,fun pS=>a2 y pS hy⟩
  obtain⟨G1,r3,r4⟩:=Qz (e:=e) (h2:=h2) HD s Dk lx HA (fun k hk=>WI fT k2 k (Dd k hk))
  obtain⟨r1,r2⟩:=Fi HD s (fun k hk=>(lx k hk).2.2.1) HA
  subst r1
  have US:∀u,u∈o.looksAt ops->lk F1 u=lk F u:=fun u hu=>r2 u fun k hk x VN nZ=>(Oper.apart_spec (UU k hk x VN).1).1 u nZ hu
  have DI:AW C (cl false) ops false o F h1=.ok (e,h2):=by
   rw[<-k1]
   exact(Bs o US (.inr (r2 dS fun k hk x VN=>pc x (by simpa using Array.mem_of_getElem? VN))) (.inl rfl)).symm
  obtain⟨G2,p1,p2⟩:=FW t (fun n=>(r4 n).symm) k3
  exact⟨e,h2,DI,G2,DE.2 ⟨G1,h2,(Cw s VJ).2 r3,p1⟩,p2⟩
theorem VR.bd {os:List Oper}{F:Fr}(h:VR os F){z:Oper}(hz:z∈os){c:Call}(Bc:z.op=.call c)(e:Bool×AV):VR os (Aq F z.dst e):=by
 refine⟨fun x hx y hy hp=> ?_,fun DI t r hr g b o hl=> ?_⟩
 ·have h1:=h.1 x hx y hy hp;obtain⟨t,p,t',q,v,r,r',k1,k2,_,_,k5,k6⟩:=Ku hp;unfold lb at h1⊢;rw[k1,k2] at h1⊢;simp only[k5,k6] at h1⊢;rw[Az (FZ (EO k5) hz),Az (FZ (EO k6) hz)];exact h1
 ·have Mm:=EO hr;rw[Az (FZ Mm hz)]
  by_cases hd:z.dst=some t
  ·cases hs:Md os t with
   |true=>exact absurd hd (FZ hs hz)
   |false=>
    have Mn:=hr;unfold GR EG at Mn;rw[hs] at Mn;simp only at Mn;split at Mn
    ·rename_i x hx;obtain⟨_,MF⟩:=OB hx hz hd
     rcases MF with h1|h1|⟨_,_,h1⟩<;>rw[Bc] at h1<;>cases h1
    ·cases Mn
  ·rw[Az hd] at hl;exact h.2 DI t r hr g b o hl
theorem Fc {listed:Array Bool}(hs:listed.size=ops.size)(hc:KT ops listed){i:Nat}(hi:i∈Region.ready .any ops listed){s t:List Nat}(DI:rest ops listed=s++i::t):
  ∃o,ops[i]?=some o/\i<ops.size/\s.Pairwise (·<·)/\(∀k∈s,k<i)/\(∀k∈s,DQ ops k i=false)/\KT ops (listed.setIfInBounds i true)/\rest ops (listed.setIfInBounds i true)=s++t/\
   ∀k∈rest ops listed,DQ ops k i=false:=by
 obtain⟨vE,o,ho,jB⟩:=mem_ready.1 hi;have O8:=(Array.getElem?_eq_some_iff.1 ho).1;have Dk:=Fb (ops:=ops) listed;rw[DI,List.pairwise_append] at Dk
 have QA:∀k∈rest ops listed,DQ ops k i=false:=by
  intro k hk
  cases hb:DQ ops k i with
  |false=>rfl
  |true=>
   have VL:=W6 hc i o ho jB k hb;have Mo:=Kt.1 hk
   have:k<listed.size:=by omega
   simp[Array.getD,this] at VL Mo;rw[VL] at Mo
   exact absurd Mo.2 (by simp)
 refine⟨o,ho,O8,Dk.1,fun k hk=>Dk.2.2 k hk i (by simp),fun k hk=>QA k (by rw[DI];simp[hk]),?_,bU hs DI,QA⟩
 intro j oj hj pZ e' vH Gd
 by_cases ln:i=j
 ·subst ln;rw[ho] at hj
  injection hj with hj
  subst hj;exact getD_set_true (jB e' vH Gd)
 ·rw[getD_set_ne false ln] at pZ;exact getD_set_true (hc j oj hj pZ e' vH Gd)
theorem J6 (xT:∀(j:Nat) o,ops[j]?=some o->∀e∈o.after,Region.binds .any e=true->e.on<j){listed:Array Bool}(hs:listed.size=ops.size)(hr:rest ops listed≠[]):Region.ready .any ops listed≠[]:=by
 intro ID
 cases fR:rest ops listed with
 |nil=>exact hr fR
 |cons i t=>
  have hi:i∈rest ops listed:=by rw[fR];simp
  obtain⟨xI,vE⟩:=Kt.1 hi;have ho:ops[i]?=some (ops[i]'xI):=Array.getElem?_eq_getElem _
  have:i∈Region.ready .any ops listed:=mem_ready.2 ⟨vE,_,ho,fun e he hb=>by
   have As:=xT _ _ ho e he hb
   cases hle:listed.getD e.on true with
   |true=>
    have:e.on<listed.size:=by omega
    simpa[Array.getD,this] using hle
   |false=>
    have hm:e.on∈rest ops listed:=Kt.2 ⟨by omega,hle⟩
    have Dk:=Fb (ops:=ops) listed;rw[fR] at hm Dk
    rcases List.mem_cons.1 hm with rfl|hm
    ·omega
    ·have:=(List.pairwise_cons.1 Dk).1 _ hm
     omega⟩
  rw[ID] at this;cases this
theorem ES {listed:Array Bool}{i:Nat}(hi:i∈Region.ready .any ops listed):i∈rest ops listed:=by
 rw[mem_ready] at hi;obtain⟨h1,o,h2,_⟩:=hi;exact Kt.2 ⟨(Array.getElem?_eq_some_iff.1 h2).1,h1⟩
theorem OL (hI:∀w w',I w->Below B0 w w'->I w')(DZ:∀d,MY C I B0 (cl d)){n:Nat}(Gs:(ops.toList.all fun o=>FE n o.dst)=true){i:Nat}{o:Oper}(ho:ops[i]?=some o){F:Fr}{e:Bool×AV}{h1:Hp}{E:Env}{a:Act}{Q:Exit->Act->World->Prop}
  {K:Act->World->Prop} (Wg:VR ops.toList F) (DI:AW C (cl (A6 C ops true i)) ops (A6 C ops true i) o F E.h=.ok (e,h1)) (H:Good C.G I B0 E) (hf:AO E F a) (hn:n<=a.tmps.size)
  (hK:∀E' a',Step C.G I B0 E E'->E'.h=h1->AO E' (Aq F (Cx (A6 C ops true i) o) e) a'->VR ops.toList (Aq F (Cx (A6 C ops true i) o) e)->a'.tmps.size=a.tmps.size->a'.defers=a.defers->K a' E'.w):wpOp C.P ops Q i K a E.w:=by
 have QE:FE n o.dst=true:=List.all_eq_true.1 Gs _ (by simpa using Array.mem_of_getElem? ho)
 have X9:o∈ops.toList:=by simpa using Array.mem_of_getElem? ho
 refine JC hI (DZ _) ho QE DI H hf hn fun E' a' S Gn F7 CC FD=>hK E' a' S Gn F7 ?_ CC (FD.resolve_left ?_)
 ·cases hm:GW C ops i with
  |false=>
   rw[Fk hm] at DI⊢;exact Wg.put X9 DI
  |true=>
   obtain⟨om,Hq,kt,_⟩:=HQ hm;rw[ho] at Hq
   injection Hq with Hq
   subst Hq;obtain⟨⟨c,Bc,_⟩,_,FD⟩:=Hr kt;rw[RE hm]
   have:Cx false o=o.dst:=by simp[Cx,FD]
   rw[this];exact Wg.bd X9 Bc e
 ·cases hm:GW C ops i with
  |false=>rw[Fk hm];simp
  |true=>
   obtain⟨om,Hq,kt,_⟩:=HQ hm;rw[ho] at Hq
   injection Hq with Hq
   subst Hq;obtain⟨_,_,FD⟩:=Hr kt;rw[FD];simp
theorem PY {n:Nat}(Gs:(ops.toList.all fun o=>FE n o.dst)=true):∀o∈ops.toList,o.dst≠some dS:=by
 intro o ho hd;have:=List.all_eq_true.1 Gs o ho;rw[hd] at this;simp[FE,Nat.beq_refl] at this
theorem lS (hI:∀w w',I w->Below B0 w w'->I w')(DZ:∀d,MY C I B0 (cl d))(HD:He (cl true))(hd:HH C.P ops=true)
  {n:Nat} (Gs:(ops.toList.all fun o=>FE n o.dst)=true) {Q:Exit->Act->World->Prop}:
  ∀(fuel:Nat) (listed:Array Bool) (F:Fr) (G:Fr) (h':Hp) (E:Env) (a:Act),listed.size=ops.size->KT ops listed->(rest ops listed).length=fuel->
   VR ops.toList F->Bt C cl ops (rest ops listed) F E.h=.ok (G,h')->Good C.G I B0 E->AO E F a->n<=a.tmps.size->
   (∀E' a',Step C.G I B0 E E'->E'.h=h'->AO E' G a'->a'.tmps.size=a.tmps.size->a'.defers=a.defers->Q .normal a' E'.w)->wpAny C.P .any ops Q fuel listed a E.w:=by
 intro fuel
 induction fuel with
 |zero=>
  intro listed F G h' E a hs hc hl Wg hx H hf hn hQ;have hr:rest ops listed=[]:=List.eq_nil_of_length_eq_zero hl;rw[hr] at hx;simp only[Bt,Except.ok.injEq,Prod.mk.injEq] at hx;obtain⟨rfl,rfl⟩:=hx;refine⟨?_,hQ E a (Step.refl H) rfl hf rfl rfl⟩
  cases ID:Region.ready .any ops listed with
  |nil=>rfl
  |cons i l=>
   have:i∈rest ops listed:=ES (by rw[ID];simp)
   rw[hr] at this;cases this
 |succ fuel ih=>
  intro listed F G h' E a hs hc hl Wg hx H hf hn hQ
  refine⟨fun ID=>absurd ID (J6 (fun j o ho=>LG hd ho) hs (by intro h;rw[h] at hl;cases hl)),fun i hi=> ?_⟩
  obtain⟨s,t,DI⟩:=List.append_of_mem (ES hi);obtain⟨o,ho,O8,Dk,Dd,QA,fV,Mm,_⟩:=Fc hs hc hi DI;rw[DI] at hx;obtain⟨e,h1,sV,G1,HA,Z8⟩:=UP HD hd (PY Gs) ho Dk Dd QA O8 Wg hx
  refine OL hI DZ Gs ho Wg sV H hf hn fun E' a' S Gn F7 lD CC FD=> ?_
  subst Gn
  refine ih _ _ G1 h' E' a' (by simpa using hs) fV ?_ lD (by rw[Mm];exact HA) S.Cg F7 (by rw[CC];exact hn) fun aC iI S' Wh SU E9 MI=>
   hQ aC iI (S.trans S') Wh (SU.eq fun n=>(Z8 n).symm) (E9.trans CC) (MI.trans FD)
  rw[Mm];rw[DI] at hl;simp at hl⊢;omega
theorem Mv {ops:Array Oper}:∀(os:List Oper) (i:Nat) {F G:Fr} {h h':Hp},(∀j,os[j]?=ops[i+j]?)->C9 C cl ops true i os F h=.ok (G,h')->Bt C cl ops (List.range' i os.length) F h=.ok (G,h')
 |[],i,F,G,h,h',_,hx=>by simpa[C9,Bt] using hx
 |o::os,i,F,G,h,h',Sx,hx=>by
  have ho:ops[i]?=some o:=by simpa using(Sx 0).symm
  rw[List.length_cons,List.range'_succ,CZ ho];simp only[C9] at hx
  cases DI:AW C (cl (A6 C ops true i)) ops (A6 C ops true i) o F h with
  |error x=>rw[DI] at hx;cases hx
  |ok r=>
   obtain⟨e,h1⟩:=r;rw[DI] at hx;simp only at hx
   cases hm:EH C ops true i F h h1 with
   |false=>rw[hm] at hx;cases hx
   |true=>
    rw[hm] at hx
    exact⟨e,h1,rfl,hm,Mv os (i+1) (fun j=>by rw[show i+1+j=i+(j+1) by omega,<-Sx (j+1)];simp) hx⟩
theorem HK (ops:Array Oper):rest ops (Array.replicate ops.size false)=List.range ops.size:=by
 unfold rest
 exact List.filter_eq_self.2 fun i hi=>by
  have:i<ops.size:=by simpa using hi
  simp[Array.getD,this]
theorem KM (ops:Array Oper):KT ops (Array.replicate ops.size false):=fun j o _ pZ=>by
 by_cases hj:j<ops.size<;>simp[Array.getD,hj] at pZ
theorem Px (hI:∀w w',I w->Below B0 w w'->I w')(hm:C.P.follows .mixedOrders=true)(DZ:∀d,MY C I B0 (cl d))(HD:He (cl true))(hd:HH C.P ops=true)
  {n:Nat} (Gs:(ops.toList.all fun o=>FE n o.dst)=true) {Q:Exit->Act->World->Prop} {id:Nat} {F G:Fr} {h':Hp} {E:Env} {a:Act}
  (Wg:VR ops.toList F) (hx:C9 C cl ops true 0 ops.toList F E.h=.ok (G,h')) (H:Good C.G I B0 E) (hf:AO E F a) (hn:n<=a.tmps.size)
  (hQ:∀E' a',Step C.G I B0 E E'->E'.h=h'->AO E' G a'->a'.tmps.size=a.tmps.size->a'.defers=a.defers->Q .normal a' E'.w):(Code.region id ops true).wp C.P Q a E.w:=by
 refine wp_region_any hm ?_
 have hb:∀B,Below B E.w {E.w with drawn:=E.w.drawn+1}:=fun B=>⟨rfl,rfl,rfl,Nat.le_refl _,fun _ _=>rfl⟩
 have S:=LZ hI H (w':={E.w with drawn:=E.w.drawn+1}) (hb _) rfl
 have IM:=Mv ops.toList 0 (fun j=>by simp) hx
 rw[<-List.range_eq_range',Array.length_toList] at IM
 exact lS hI DZ HD hd Gs ops.size _ F G h' {E with w:={E.w with drawn:=E.w.drawn+1}} a (by simp) (KM ops) (by rw[HK];simp) Wg
  (by rw[HK];exact IM) S.Cg (AO.mono S.le hf) hn fun E' a' S'=>hQ E' a' (S.trans S')
theorem TX {draw:Bool}{n:Nat}(Gs:(ops.toList.all fun o=>FE n o.dst)=true):∀d∈FH ops draw,d≠dS:=by
 intro d hd;unfold FH at hd;split at hd
 ·cases hd
 ·split at hd
  ·cases hd
  ·obtain⟨o,ho,wh⟩:=List.mem_filterMap.1 hd
   rintro rfl
   exact PY Gs o ho (Ee wh)
theorem Vp (hI:∀w w',I w->Below B0 w w'->I w'):∀(l:List Nat) {E:Env} {F:Fr} {a:Act},Good C.G I B0 E->AO E F a->(∀d∈l,d≠dS)->
  ∃E',Step C.G I B0 E E'/\E'.w=E.w/\E'.h=Pv l E.h/\AO E' (IK l E.h.length F) a
 |[],E,F,a,H,hf,_=>⟨E,Step.refl H,rfl,rfl,hf⟩
 |d::l,E,F,a,H,hf,hd=>by
  have S:=Yl hI H;have LS:=AO.mono S.le hf
  have BT:Nat.beq d dS=false:=by
   cases h:Nat.beq d dS with
   |false=>rfl
   |true=>exact absurd (Nat.eq_of_beq_eq_true h) (hd d (by simp))
  obtain⟨E',S',h1,h2,h3⟩:=Vp hI l (F:=(d,(lk F d).1,.Cs [.int .i64 (.ofNat E.h.length)])::F) (a:=a) S.Cg ⟨fun s=>by
   simp only[lk]
   cases hb:Nat.beq d s with
   |true=>
    obtain rfl:=Nat.eq_of_beq_eq_true hb
    exact⟨fun _=>trivial,(LS.1 d).2⟩
   |false=>exact LS.1 s,by
   simp only[lk,BT,cond_false]
   exact LS.2⟩ (fun d kq=>hd d (by simp[kq]))
  refine⟨E',S.trans S',h1,h2,?_⟩
  have e:(E.h++[Blk.dead]).length=E.h.length+1:=by simp
  show AO E' (IK l (E.h.length+1) _) a;rw[<-e];exact h3
theorem T7 {i:Nat}{F:Fr}{h h':Hp}:EH C ops false i F h h'=true:=rfl
theorem Jj :∀(os:List Oper) (i:Nat) (F:Fr) (h:Hp) {G:Fr} {h':Hp},C9 C cl ops false i os F h=.ok (G,h')->BI C (cl false) ops false os F h=.ok (G,h')
 |[],i,F,h,G,h',hx=>hx
 |o::os,i,F,h,G,h',hx=>by
  have hd:A6 C ops false i=false:=rfl;simp only[C9,hd,T7] at hx;simp only[BI]
  cases DI:AW C (cl false) ops false o F h with
  |error x=>rw[DI] at hx;cases hx
  |ok r=>
   rw[DI] at hx;exact Jj os (i+1) _ _ hx
end
end Go.Ai
