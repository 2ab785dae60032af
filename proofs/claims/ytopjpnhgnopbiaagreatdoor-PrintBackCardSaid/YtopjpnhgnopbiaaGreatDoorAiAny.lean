/-
  Drawn regions: whatever order is drawn.
-/
import Derived.Test.YtopjpnhgnopbiaaGreatDoorAiDraw
set_option linter.unusedVariables false
set_option linter.unusedSimpArgs false
set_option linter.unnecessarySimpa false
namespace Go.Ai
open Go.RowKit
theorem dX {α:Type}(n:Nat)(k:Nat->α):jE n k=k n:=by cases n<;>rfl
theorem Zw {look:Nat->Nat}{o:Oper}{i:Nat}(h:(bitsOf look o).testBit i=true):∃e∈o.after,Region.binds .any e=true/\(i=e.on\/(look e.on).testBit i=true):=by
 have key:∀l:List Edge,(l.foldr (fun e s=>bif Region.binds .any e then Nat.lor (Nat.lor (2^e.on) (look e.on)) s else s) 0).testBit i=true->∃e∈l,Region.binds .any e=true/\(i=e.on\/(look e.on).testBit i=true):=by
  intro l
  induction l with
  |nil=>intro h;simp at h
  |cons e l ih=>
   intro h;rw[List.foldr_cons] at h
   cases hb:Region.binds .any e with
   |false=>
    rw[hb] at h;obtain⟨e',h1,h2⟩:=ih h
    exact⟨e',by simp[h1],h2⟩
   |true=>
    rw[hb] at h;simp only[cond_true] at h
    have h':((2^e.on ||| look e.on) ||| (l.foldr (fun e s=>bif Region.binds .any e then Nat.lor (Nat.lor (2^e.on) (look e.on)) s else s) 0)).testBit i=true:=h
    rw[Nat.testBit_or,Nat.testBit_or,Bool.or_eq_true,Bool.or_eq_true] at h'
    rcases h' with (h1|h1)|h1
    ·rw[Nat.testBit_two_pow] at h1
     exact⟨e,by simp,hb,.inl (of_decide_eq_true h1).symm⟩
    ·exact⟨e,by simp,hb,.inr h1⟩
    ·obtain⟨e',k1,k2⟩:=ih h1
     exact⟨e',by simp[k1],k2⟩
 obtain⟨e,h1,h2⟩:=key o.after.toList h
 exact⟨e,by simpa using h1,h2⟩
theorem Tj :∀(l:List Oper) (acc:List Nat),∃t,Mt l acc=acc++t/\∀(j:Nat) o,l[j]?=some o->(Mt l acc).getD (acc.length+j) 0=bitsOf (fun i=>if i<acc.length+j then(Mt l acc).getD i 0 else 0) o
 |[],acc=>⟨[],by simp[Mt],fun j o h=>by simp at h⟩
 |o::os,acc=>by
  have hb:Mt (o::os) acc=Mt os (acc++[bitsOf (fun i=>acc.getD i 0) o]):=by
   rw[Mt,dX]
  obtain⟨t,ht,hs⟩:=Tj os (acc++[bitsOf (fun i=>acc.getD i 0) o])
  rw[hb]
  refine⟨_::t,by rw[ht,List.append_assoc];rfl,fun j o' hj=> ?_⟩
  cases j with
  |zero=>
   simp only[List.getElem?_cons_zero,Option.some.injEq] at hj;subst hj
   have sj:(fun i=>if i<acc.length+0 then(Mt os (acc++[bitsOf (fun i=>acc.getD i 0) o])).getD i 0 else 0)=fun i=>acc.getD i 0:=by
    funext i
    rw[ht]
    by_cases hi:i<acc.length
    ·simp[hi,List.getElem?_append_left,List.append_assoc]
    ·simp[hi,List.getElem?_eq_none (Nat.le_of_not_lt hi)]
   rw[sj,ht];simp[List.append_assoc]
  |succ j=>
   have:=hs j o' (by simpa using hj)
   simp only[List.length_append,List.length_cons,List.length_nil,Nat.zero_add] at this
   rw[show acc.length+(j+1)=acc.length+1+j by omega]
   exact this
section
variable {ops:Array Oper}
def Ln (ops:Array Oper)(listed:Array Bool):Prop:=
 ∀(j:Nat) o,ops[j]?=some o->listed.getD j false=true->∀e∈o.after,Region.binds .any e=true->listed.getD e.on false=true
theorem Zp {listed:Array Bool}(hc:Ln ops listed):∀(j:Nat) o,ops[j]?=some o->(∀e∈o.after,Region.binds .any e=true->listed.getD e.on false=true)->
  ∀i,((Mt ops.toList []).getD j 0).testBit i=true->listed.getD i false=true:=by
 intro j
 induction j using Nat.strongRecOn with
 |_ j ih=>
  intro o ho hp i hi;obtain⟨t,_,hs⟩:=Tj ops.toList []
  have:=hs j o (by simpa using ho)
  simp only[List.length_nil,Nat.zero_add] at this;rw[this] at hi;obtain⟨e,he,hb,qS⟩:=Zw hi;have hl:=hp e he hb
  rcases qS with rfl|qS
  ·exact hl
  ·by_cases BC:e.on<j
   ·rw[if_pos BC] at qS;have uM:=(Array.getElem?_eq_some_iff.1 ho).1
    have uI:ops[e.on]?=some (ops[e.on]'(by omega)):=Array.getElem?_eq_getElem _
    exact ih e.on BC _ uI (hc _ _ uI hl) i qS
   ·rw[if_neg BC] at qS;simp at qS
theorem Mj {P:Program}(h:IK P ops=true){j:Nat}{o:Oper}(ho:ops[j]?=some o):∀e∈o.after,Region.binds .any e=true->e.on<j:=by
 intro e he hb;unfold IK at h;simp only[Bool.and_eq_true] at h
 have:=List.all_eq_true.1 h.1 (o,j) (by rw[List.mem_zipIdx_iff_getElem?];simpa using ho)
 simp only[Bool.and_eq_true,List.all_eq_true] at this
 have:=this.2 e (by simpa using he)
 rw[hb] at this;simp only[Bool.not_true,Bool.false_or] at this;exact Nat.le_of_ble_eq_true this
theorem Ol {P:Program}(h:IK P ops=true){i j:Nat}{x y:Oper}(hx:ops[i]?=some x)(hy:ops[j]?=some y)(xG:i<j):
  ((Mt ops.toList []).getD j 0).testBit i=true\/(x.apart ops y=true/\(calm P x.op y.op||Xo ops.toList x y||Xo ops.toList y x||X8 ops x y)=true):=by
 unfold IK at h;simp only[Bool.and_eq_true] at h
 have h1:=List.all_eq_true.1 h.2 (y,j) (by rw[List.mem_zipIdx_iff_getElem?];simpa using hy)
 have h2:=List.all_eq_true.1 h1 (x,i) (by rw[List.mem_zipIdx_iff_getElem?];simpa using hx)
 have hb:Nat.blt i j=true:=Nat.ble_eq_true_of_le xG;simpa[hb] using h2
def rest (ops:Array Oper)(listed:Array Bool):List Nat:=(List.range ops.size).filter fun i=>!listed.getD i true
theorem MM {listed:Array Bool}{i:Nat}:i∈rest ops listed↔i<ops.size/\listed.getD i true=false:=by
 simp[rest]
theorem Gc (listed:Array Bool):(rest ops listed).Pairwise (·<·):=List.Pairwise.filter _ List.pairwise_lt_range
theorem fh {listed:Array Bool}{i:Nat}(hs:listed.size=ops.size){s t:List Nat}(h:rest ops listed=s++i::t):rest ops (listed.setIfInBounds i true)=s++t:=by
 have EJ:=Gc (ops:=ops) listed;rw[h] at EJ
 have e1:rest ops (listed.setIfInBounds i true)=(rest ops listed).filter fun j=>j !=i:=by
  unfold rest;rw[List.filter_filter]
  refine List.filter_congr fun j hj=> ?_
  have JR:j<listed.size:=by rw[hs];simpa using hj
  by_cases qP:j=i
  ·subst qP;simp[JR]
  ·simp[qP,Ne.symm qP,JR]
 rw[e1,h,List.filter_append,List.filter_cons];simp only[bne_self_eq_false,Bool.false_eq_true,if_false];rw[List.pairwise_append,List.pairwise_cons] at EJ
 have es:s.filter (fun j=>j !=i)=s:=List.filter_eq_self.2 fun j hj=>by
  have:=EJ.2.2 j hj i (by simp)
  simp;omega
 have et:t.filter (fun j=>j !=i)=t:=List.filter_eq_self.2 fun j hj=>by
  have:=EJ.2.1.1 j hj;simp;omega
 rw[es,et]
theorem AR.eq {E:Env}{F F':Fr}{a:Act}(he:Dz F F')(h:AR E F a):AR E F' a:=⟨fun s=>by rw[<-he s];exact h.1 s,by rw[<-he dS];exact h.2⟩
theorem NK (ops:Array Oper):∀n,n<=ops.size->IB ops (List.range n)=ops.toList.take n
 |0,_=>rfl
 |n+1,h=>by
  have hn:ops[n]?=some (ops[n]'h):=Array.getElem?_eq_getElem _
  have hl:ops.toList[n]?=some (ops[n]'h):=by simpa using hn
  have ih:=NK ops n (by omega)
  unfold IB at ih⊢;rw[List.range_succ,List.filterMap_append,ih,List.take_add_one,hl];simp[hn]
variable {C:Bm}{I:World->Prop}{B0:Nat}
noncomputable def Bx(C:Bm)(cl:Bool->FuncId->List AV->Hp->Except (List Nat) (AV×Hp))(ops:Array Oper):List Nat->Fr->Hp->Except (List Nat) (Fr×Hp)
 |[],F,h=>.ok (F,h)
 |i::l,F,h=>match ops[i]? with
  |none=>Bx C cl ops l F h
  |some o=>match AW C (cl (BB C ops true i)) ops (BB C ops true i) o F h with
   |.ok (e,h')=>match Ep C ops true i F h h' with
    |true=>Bx C cl ops l (Av F (DG (BB C ops true i) o) e) h'
    |false=>.error []
   |.error x=>.error x
variable {cl:Bool->FuncId->List AV->Hp->Except (List Nat) (AV×Hp)}
theorem Wa {draw:Bool}{i:Nat}{F F':Fr}{h h':Hp}(he:Dz F F'):Ep C ops draw i F h h'=Ep C ops draw i F' h h':=by
 have:Kx F h h'=Kx F' h h':=funext fun p=>by unfold Kx;rw[he p]
 unfold Ep;rw[this]
theorem Cf {i:Nat}{l:List Nat}{o:Oper}(ho:ops[i]?=some o){F G:Fr}{h h':Hp}:Bx C cl ops (i::l) F h=.ok (G,h')↔
  ∃e h1,AW C (cl (BB C ops true i)) ops (BB C ops true i) o F h=.ok (e,h1)/\Ep C ops true i F h h1=true/\Bx C cl ops l (Av F (DG (BB C ops true i) o) e) h1=.ok (G,h'):=by
 simp only[Bx,ho]
 cases hs:AW C (cl (BB C ops true i)) ops (BB C ops true i) o F h with
 |error x=>simp
 |ok r=>
  obtain⟨e,h1⟩:=r;simp only[Except.ok.injEq,Prod.mk.injEq]
  cases hm:Ep C ops true i F h h1 with
  |true=>
   simp only;constructor
   ·intro hx;exact⟨e,h1,⟨rfl,rfl⟩,hm,hx⟩
   ·rintro⟨_,_,⟨rfl,rfl⟩,_,hx⟩;exact hx
  |false=>
   constructor
   ·intro hx;cases hx
   ·rintro⟨_,_,⟨rfl,rfl⟩,hx,_⟩;rw[hm] at hx;cases hx
theorem DN :∀{s t:List Nat} {F G:Fr} {h h':Hp},Bx C cl ops (s++t) F h=.ok (G,h')↔∃F1 h1,Bx C cl ops s F h=.ok (F1,h1)/\Bx C cl ops t F1 h1=.ok (G,h')
 |[],t,F,G,h,h'=>by
  constructor
  ·intro hx;exact⟨F,h,rfl,hx⟩
  ·rintro⟨F1,h1,hx,hy⟩
   simp only[Bx,Except.ok.injEq,Prod.mk.injEq] at hx;obtain⟨rfl,rfl⟩:=hx;exact hy
 |i::s,t,F,G,h,h'=>by
  rw[List.cons_append]
  cases ho:ops[i]? with
  |none=>
   have:=DN (s:=s) (t:=t) (F:=F) (G:=G) (h:=h) (h':=h');simpa only[Bx,ho] using this
  |some o=>
   rw[Cf ho];constructor
   ·rintro⟨e,h1,k1,k2,k3⟩
    obtain⟨F1,h2,q1,q2⟩:=DN.1 k3;exact⟨F1,h2,(Cf ho).2 ⟨e,h1,k1,k2,q1⟩,q2⟩
   ·rintro⟨F1,h2,q1,q2⟩
    obtain⟨e,h1,k1,k2,k3⟩:=(Cf ho).1 q1;exact⟨e,h1,k1,k2,DN.2 ⟨F1,h2,k3,q2⟩⟩
theorem GX :∀(l:List Nat) {F F' G:Fr} {h h':Hp},Dz F F'->Bx C cl ops l F h=.ok (G,h')->∃G',Bx C cl ops l F' h=.ok (G',h')/\Dz G G'
 |[],F,F',G,h,h',he,hx=>by
  simp only[Bx,Except.ok.injEq,Prod.mk.injEq] at hx⊢;obtain⟨rfl,rfl⟩:=hx;exact⟨F',⟨rfl,rfl⟩,he⟩
 |i::l,F,F',G,h,h',he,hx=>by
  cases ho:ops[i]? with
  |none=>simp only[Bx,ho] at hx⊢;exact GX l he hx
  |some o=>
   obtain⟨e,h1,k1,k2,k3⟩:=(Cf ho).1 hx;obtain⟨G',q1,q2⟩:=GX l (he.put _ _) k3;refine⟨G',(Cf ho).2 ⟨e,h1,?_,?_,q1⟩,q2⟩
   ·rw[<-Bw (F:=F) (F':=F') o (fun t _=>he t) (.inr (he dS)) (.inr fun d _=>he d)];exact k1
   ·rw[<-Wa he];exact k2
theorem WY {i:Nat}(hm:HU C ops i=false){F:Fr}{h h':Hp}:Ep C ops true i F h h'=true:=by
 unfold Ep;rw[hm];rfl
theorem Gj {i:Nat}(hm:HU C ops i=false):BB C ops true i=true:=by unfold BB;rw[hm];rfl
theorem TZ {i:Nat}(hm:HU C ops i=true):BB C ops true i=false:=by unfold BB;rw[hm];rfl
theorem DF :∀(s:List Nat) {F G:Fr} {h h':Hp},(∀k∈s,HU C ops k=false)->(Bx C cl ops s F h=.ok (G,h')↔BS C (cl true) ops true (IB ops s) F h=.ok (G,h'))
 |[],F,G,h,h',_=>by simp[Bx,IB,BS]
 |i::s,F,G,h,h',hs=>by
  cases ho:ops[i]? with
  |none=>
   have e:IB ops (i::s)=IB ops s:=by simp[IB,ho]
   rw[e];simp only[Bx,ho]
   exact DF s fun k hk=>hs k (by simp[hk])
  |some o=>
   have e:IB ops (i::s)=o::IB ops s:=by simp[IB,ho]
   rw[e,Cf ho,Gj (hs i (by simp))]
   simp only[BS,DG];constructor
   ·rintro⟨e,h1,k1,_,k3⟩
    rw[k1]
    exact(DF s fun k hk=>hs k (by simp[hk])).1 k3
   ·intro hx
    cases DI:AW C (cl true) ops true o F h with
    |error x=>rw[DI] at hx;cases hx
    |ok r=>
     obtain⟨e,h1⟩:=r;rw[DI] at hx
     exact⟨e,h1,rfl,WY (hs i (by simp)),(DF s fun k hk=>hs k (by simp[hk])).2 hx⟩
theorem JA {o:Oper}(h:Nt C o=true):(∃c,o.op=.call c/\∃x,c.callee=.value x)/\o.guard=none/\EI o=false:=by
 unfold Nt at h;split at h
 ·rename_i k args ts Bo hg
  exact⟨⟨_,Bo,_,rfl⟩,hg,by simp[EI,Bo]⟩
 ·cases h
theorem Ib {m:Nat}(hm:HU C ops m=true):∃o,ops[m]?=some o/\Nt C o=true/\(∀i,i<m->Dl ops i m=true\/JD C ops m i=true)/\∀j,m<j->j<ops.size->Dl ops m j=true:=by
 unfold HU at hm
 cases ho:ops[m]? with
 |none=>rw[ho] at hm;cases hm
 |some o=>
  rw[ho] at hm;simp only[Bool.and_eq_true] at hm
  refine⟨o,rfl,hm.1.1,fun i hi=> ?_,fun j hj uM=> ?_⟩
  ·have:=List.all_eq_true.1 hm.1.2 i (by simpa using hi)
   simpa using this
  ·have:=List.all_eq_true.1 hm.2 j (by simpa using uM)
   have hb:Nat.blt m j=true:=Nat.ble_eq_true_of_le hj;simpa[hb] using this
theorem Yr {m:Nat}(hm:HU C ops m=true){F:Fr}{h h':Hp}(hk:Ep C ops true m F h h'=true):∀k,k<m->∀p∈RQ ops m k,Kx F h h' p:=by
 intro k mX p hp
 have iT:p∈ZY ops m:=List.mem_flatten.2 ⟨RQ ops m k,List.mem_map.2 ⟨k,by simpa using mX,rfl⟩,hp⟩
 unfold Ep at hk;rw[hm] at hk;simp only[Bool.and_self] at hk;split at hk
 ·rename_i ov;rw[ov] at iT;cases iT
 ·exact(@of_decide_eq_true _ (Classical.propDecidable _) hk) p iT
theorem Gh (HI:Ir (cl true)){m:Nat}:∀(s:List Nat) {F F1:Fr} {h h1:Hp},(∀k∈s,JD C ops m k=true)->
  BS C (cl true) ops true (IB ops s) F h=.ok (F1,h1)->h1=h/\∀t,(∀k∈s,∀o,ops[k]?=some o->o.dst≠some t)->lk F1 t=lk F t
 |[],F,F1,h,h1,_,hx=>by
  simp only[IB,List.filterMap_nil,BS,Except.ok.injEq,Prod.mk.injEq] at hx⊢;obtain⟨rfl,rfl⟩:=hx
  exact⟨rfl,fun _ _=>rfl⟩
 |k::s,F,F1,h,h1,HZ,hx=>by
  have Oc:=HZ k (by simp)
  cases ho:ops[k]? with
  |none=>unfold JD at Oc;rw[ho] at Oc;cases Oc
  |some o=>
   have es:IB ops (k::s)=o::IB ops s:=by simp[IB,ho]
   rw[es] at hx;simp only[BS,DG] at hx
   cases DI:AW C (cl true) ops true o F h with
   |error x=>rw[DI] at hx;cases hx
   |ok r=>
    obtain⟨e1,h'⟩:=r;rw[DI] at hx;simp only at hx
    have hq:h'=h:=by
     unfold JD at Oc;rw[ho] at Oc;simp only[Bool.or_eq_true,Bool.not_eq_true'] at Oc
     rcases Oc with Oc|Oc
     ·exact(FY HI o Oc DI).1
     ·split at Oc
      ·rename_i t p Bo hg;exact(KX Bo hg DI).1
      ·cases Oc
    subst hq
    obtain⟨r1,r2⟩:=Gh HI s (fun k' My=>HZ k' (by simp[My])) hx
    exact⟨r1,fun t ht=>by rw[r2 t fun k' My=>ht k' (by simp[My]),A9 (ht k (by simp) o ho)]⟩
theorem TR (HI:Ir (cl true)){m:Nat}{d:Option Nat}{e:Bool×AV}{h2:Hp}:∀(s:List Nat) {F F1:Fr} {h h1:Hp},s.Pairwise (·<·)->
  (∀k∈s,k<m/\Dl ops k m=false/\JD C ops m k=true/\∀o,ops[k]?=some o->∀x,d=some x->x∉o.looksAt ops/\o.dst≠some x)->
  BS C (cl true) ops true (IB ops s) F h=.ok (F1,h1)->(∀k∈s,∀p∈RQ ops m k,Kx F1 h1 h2 p)->
  ∃G1,BS C (cl true) ops true (IB ops s) (Av F d e) h2=.ok (G1,h2)/\Dz G1 (Av F1 d e)
 |[],F,F1,h,h1,_,_,hx,_=>by
  simp only[IB,List.filterMap_nil,BS,Except.ok.injEq,Prod.mk.injEq] at hx⊢;obtain⟨rfl,rfl⟩:=hx;exact⟨_,⟨rfl,trivial⟩,Dz.refl _⟩
 |k::s,F,F1,h,h1,EJ,HZ,hx,hk=>by
  rw[List.pairwise_cons] at EJ
  obtain⟨mX,hbd,Oc,Ux⟩:=HZ k (by simp)
  obtain⟨q1,_⟩:=Gh HI (k::s) (fun k' My=>(HZ k' My).2.2.1) hx
  subst q1
  cases ho:ops[k]? with
  |none=>unfold JD at Oc;rw[ho] at Oc;cases Oc
  |some o=>
   have es:IB ops (k::s)=o::IB ops s:=by simp[IB,ho]
   rw[es] at hx⊢;simp only[BS,DG] at hx⊢
   cases DI:AW C (cl true) ops true o F h1 with
   |error x=>rw[DI] at hx;cases hx
   |ok r=>
    obtain⟨e1,h'⟩:=r;rw[DI] at hx;simp only at hx
    obtain⟨r1,r2⟩:=Gh HI s (fun k' My=>(HZ k' (by simp[My])).2.2.1) hx
    subst r1
    obtain⟨G1,r3,r4⟩:=TR HI s EJ.2 (fun k' My=>HZ k' (by simp[My])) hx (fun k' My=>hk k' (by simp[My]))
    have oh:AW C (cl true) ops true o F h2=.ok (e1,h2):=by
     unfold JD at Oc;rw[ho] at Oc;simp only[Bool.or_eq_true,Bool.not_eq_true'] at Oc
     rcases Oc with Oc|Oc
     ·exact(FY HI o Oc DI).2 h2
     ·split at Oc
      ·rename_i t p Bo hg
       rcases(KX Bo hg DI).2 with CG|⟨b,ob,hl,CG⟩
       ·exact CG h2
       ·have mQ:∀j,k<=j->j<m->∀oj,ops[j]?=some oj->oj.dst≠some p:=by
         intro j hkj hjm oj hoj hd
         have h3:=List.all_eq_true.1 Oc j (by simpa using hjm)
         have hb:Nat.ble k j=true:=Nat.ble_eq_true_of_le hkj;unfold ml LB at h3;rw[hoj] at h3;simp only at h3;rw[hd] at h3;simp[hb,Nat.beq_refl] at h3
        have Xq:lk F1 p=lk F p:=by
         rw[r2 p fun k' My o' uI=>mQ k' (Nat.le_of_lt (EJ.1 k' My)) (HZ k' (by simp[My])).1 o' uI,A9 (mQ k (Nat.le_refl _) mX o ho)]
        have xF:=hk k (by simp) p (by
         unfold RQ;rw[hbd,ho];simp only[Bo]
         exact List.mem_singleton.2 rfl)
        unfold Kx at xF;rw[Xq,hl] at xF;exact CG h2 xF.symm
      ·cases Oc
    have og:AW C (cl true) ops true o (Av F d e) h2=.ok (e1,h2):=by
     rw[<-oh]
     exact Bw o (fun t ht=>A9 fun hd=>(Ux o ho t hd).1 ht) (.inl rfl) (.inr fun d' pK=>A9 fun hd=>(Ux o ho d' hd).2 (FN pK))
    rw[og];simp only
    have PQ:Dz (Av (Av F o.dst e1) d e) (Av (Av F d e) o.dst e1):=put_comm fun x hx hd=>(Ux o ho x hd).2 hx
    obtain⟨G2,q1,q2⟩:=IJ _ PQ r3
    exact⟨G2,q1,(fun n=>(q2 n).symm.trans (r4 n))⟩
theorem Wu (HI:Ir (cl true))(hd:IK C.P ops=true)(uO:∀o∈ops.toList,o.dst≠some dS){i:Nat}{o:Oper}(ho:ops[i]?=some o){s t:List Nat}(EJ:s.Pairwise (·<·))(EB:∀k∈s,k<i)
  (SG:∀k∈s,Dl ops k i=false) (CD:i<ops.size) {F G:Fr} {h h':Hp} (ZS:Xv ops.toList F) (hx:Bx C cl ops (s++i::t) F h=.ok (G,h')):
  ∃e h1,AW C (cl (BB C ops true i)) ops (BB C ops true i) o F h=.ok (e,h1)/\∃G',Bx C cl ops (s++t) (Av F (DG (BB C ops true i) o) e) h1=.ok (G',h')/\Dz G G':=by
 have TH:∀k∈s,HU C ops k=false:=by
  intro k hk
  cases hm:HU C ops k with
  |false=>rfl
  |true=>
   obtain⟨_,_,_,_,h4⟩:=Ib hm;have:=h4 i (EB k hk) CD;rw[SG k hk] at this;cases this
 have bN:o∈ops.toList:=by simpa using Array.mem_of_getElem? ho
 have W5:∀k∈s,∀x,ops[k]?=some x->x.apart ops o=true/\(calm C.P x.op o.op||Xo ops.toList x o||Xo ops.toList o x||X8 ops x o)=true:=by
  intro k hk x Xr
  rcases Ol hd Xr ho (EB k hk) with hb|Ux
  ·have:=SG k hk;unfold Dl at this;rw[hb] at this;cases this
  ·exact Ux
 obtain⟨F1,h1,IE,sL⟩:=DN.1 hx;rw[DF s TH] at IE;obtain⟨e,h2,k1,k2,k3⟩:=(Cf ho).1 sL
 cases j3:HU C ops i with
 |false=>
  rw[Gj j3] at k1 k3⊢
  have pP:∀x∈IB ops s,x∈ops.toList/\x.apart ops o=true/\(calm C.P x.op o.op||Xo ops.toList x o||Xo ops.toList o x||X8 ops x o)=true:=by
   intro x sJ;obtain⟨k,hk,Xr⟩:=List.mem_filterMap.1 sJ
   exact⟨by simpa using Array.mem_of_getElem? Xr,W5 k hk x Xr⟩
  have Cb:BS C (cl true) ops true (IB ops s++o::[]) F h=.ok (Av F1 o.dst e,h2):=by
   have app:∀(l:List Oper) {F:Fr} {h:Hp},BS C (cl true) ops true l F h=.ok (F1,h1)->BS C (cl true) ops true (l++[o]) F h=.ok (Av F1 o.dst e,h2):=by
    intro l
    induction l with
    |nil=>
     intro F h hx;simp only[BS,Except.ok.injEq,Prod.mk.injEq] at hx;obtain⟨rfl,rfl⟩:=hx;simp only[List.nil_append,BS,DG,k1]
    |cons x l ih=>
     intro F h hx;simp only[List.cons_append,BS] at hx⊢
     cases DI:AW C (cl true) ops true x F h with
     |error y=>rw[DI] at hx;cases hx
     |ok r=>rw[DI] at hx;exact ih hx
   exact app _ IE
  obtain⟨G1,q1,q2⟩:=pull HI bN (IB ops s) ZS pP Cb;simp only[List.append_nil,BS,DG] at q1
  cases DI:AW C (cl true) ops true o F h with
  |error y=>rw[DI] at q1;cases q1
  |ok r=>
   obtain⟨e',h3⟩:=r;rw[DI] at q1;simp only at q1;obtain⟨G2,p1,p2⟩:=GX t q2 k3;exact⟨e',h3,rfl,G2,DN.2 ⟨G1,h2,(DF s TH).2 q1,p1⟩,p2⟩
 |true=>
  obtain⟨om,I9,DU,HZ,_⟩:=Ib j3;rw[ho] at I9
  injection I9 with I9
  subst I9;obtain⟨_,_,F7⟩:=JA DU;rw[TZ j3] at k1 k3⊢
  have RJ:DG false o=o.dst:=by simp[DG,F7]
  rw[RJ] at k3⊢
  have qV:∀k∈s,k<i/\Dl ops k i=false/\JD C ops i k=true/\∀x,ops[k]?=some x->∀y,o.dst=some y->y∉x.looksAt ops/\x.dst≠some y:=by
   intro k hk
   refine⟨EB k hk,SG k hk,(HZ k (EB k hk)).resolve_left (by rw[SG k hk];simp),fun x Xr y hy=> ?_⟩
   obtain⟨a1,a2,a3⟩:=Oper.apart_spec (W5 k hk x Xr).1
   exact⟨a3 y hy,fun uB=>a2 y uB hy⟩
  obtain⟨G1,r3,r4⟩:=TR (e:=e) (h2:=h2) HI s EJ qV IE (fun k hk=>Yr j3 k2 k (EB k hk))
  obtain⟨r1,r2⟩:=Gh HI s (fun k hk=>(qV k hk).2.2.1) IE
  subst r1
  have Wx:∀u,u∈o.looksAt ops->lk F1 u=lk F u:=fun u hu=>r2 u fun k hk x Xr sK=>(Oper.apart_spec (W5 k hk x Xr).1).1 u sK hu
  have DI:AW C (cl false) ops false o F h1=.ok (e,h2):=by
   rw[<-k1]
   exact(Bw o Wx (.inr (r2 dS fun k hk x Xr=>uO x (by simpa using Array.mem_of_getElem? Xr))) (.inl rfl)).symm
  obtain⟨G2,p1,p2⟩:=GX t (fun n=>(r4 n).symm) k3
  exact⟨e,h2,DI,G2,DN.2 ⟨G1,h2,(DF s TH).2 r3,p1⟩,p2⟩
theorem Xv.fp {os:List Oper}{F:Fr}(h:Xv os F){z:Oper}(hz:z∈os){c:Call}(Bo:z.op=.call c)(e:Bool×AV):Xv os (Av F z.dst e):=by
 refine⟨fun x hx y hy hp=> ?_,fun DI t r hr g b o hl=> ?_⟩
 ·have h1:=h.1 x hx y hy hp;obtain⟨t,p,t',q,v,r,r',k1,k2,_,_,k5,k6⟩:=MN hp;unfold qG at h1⊢;rw[k1,k2] at h1⊢;simp only[k5,k6] at h1⊢;rw[A9 (GZ (Ez k5) hz),A9 (GZ (Ez k6) hz)];exact h1
 ·have OY:=Ez hr;rw[A9 (GZ OY hz)]
  by_cases hd:z.dst=some t
  ·cases hs:OM os t with
   |true=>exact absurd hd (GZ hs hz)
   |false=>
    have OZ:=hr;unfold HR Eo at OZ;rw[hs] at OZ;simp only at OZ;split at OZ
    ·rename_i x hx;obtain⟨_,Np⟩:=QF hx hz hd
     rcases Np with h1|h1|⟨_,_,h1⟩<;>rw[Bo] at h1<;>cases h1
    ·cases OZ
  ·rw[A9 hd] at hl;exact h.2 DI t r hr g b o hl
theorem Gd {listed:Array Bool}(hs:listed.size=ops.size)(hc:Ln ops listed){i:Nat}(hi:i∈Region.ready .any ops listed){s t:List Nat}(DI:rest ops listed=s++i::t):
  ∃o,ops[i]?=some o/\i<ops.size/\s.Pairwise (·<·)/\(∀k∈s,k<i)/\(∀k∈s,Dl ops k i=false)/\Ln ops (listed.setIfInBounds i true)/\rest ops (listed.setIfInBounds i true)=s++t/\
   ∀k∈rest ops listed,Dl ops k i=false:=by
 obtain⟨zR,o,ho,mT⟩:=mem_ready.1 hi;have RE:=(Array.getElem?_eq_some_iff.1 ho).1;have EJ:=Gc (ops:=ops) listed;rw[DI,List.pairwise_append] at EJ
 have SG:∀k∈rest ops listed,Dl ops k i=false:=by
  intro k hk
  cases hb:Dl ops k i with
  |false=>rfl
  |true=>
   have Xp:=Zp hc i o ho mT k hb;have Lo:=MM.1 hk
   have:k<listed.size:=by omega
   simp[Array.getD,this] at Xp Lo;rw[Xp] at Lo
   exact absurd Lo.2 (by simp)
 refine⟨o,ho,RE,EJ.1,fun k hk=>EJ.2.2 k hk i (by simp),fun k hk=>SG k (by rw[DI];simp[hk]),?_,fh hs DI,SG⟩
 intro j oj hj uK e' zU Ha
 by_cases qP:i=j
 ·subst qP;rw[ho] at hj
  injection hj with hj
  subst hj;exact getD_set_true (mT e' zU Ha)
 ·rw[getD_set_ne false qP] at uK;exact getD_set_true (hc j oj hj uK e' zU Ha)
theorem LN (hed:∀(j:Nat) o,ops[j]?=some o->∀e∈o.after,Region.binds .any e=true->e.on<j){listed:Array Bool}(hs:listed.size=ops.size)(hr:rest ops listed≠[]):Region.ready .any ops listed≠[]:=by
 intro JQ
 cases j2:rest ops listed with
 |nil=>exact hr j2
 |cons i t=>
  have hi:i∈rest ops listed:=by rw[j2];simp
  obtain⟨hi1,zR⟩:=MM.1 hi;have ho:ops[i]?=some (ops[i]'hi1):=Array.getElem?_eq_getElem _
  have:i∈Region.ready .any ops listed:=mem_ready.2 ⟨zR,_,ho,fun e he hb=>by
   have BC:=hed _ _ ho e he hb
   cases hle:listed.getD e.on true with
   |true=>
    have:e.on<listed.size:=by omega
    simpa[Array.getD,this] using hle
   |false=>
    have hm:e.on∈rest ops listed:=MM.2 ⟨by omega,hle⟩
    have EJ:=Gc (ops:=ops) listed;rw[j2] at hm EJ
    rcases List.mem_cons.1 hm with rfl|hm
    ·omega
    ·have:=(List.pairwise_cons.1 EJ).1 _ hm
     omega⟩
  rw[JQ] at this;cases this
theorem E7 {listed:Array Bool}{i:Nat}(hi:i∈Region.ready .any ops listed):i∈rest ops listed:=by
 rw[mem_ready] at hi;obtain⟨h1,o,h2,_⟩:=hi;exact MM.2 ⟨(Array.getElem?_eq_some_iff.1 h2).1,h1⟩
theorem QU (hI:∀w w',I w->Below B0 w w'->I w')(DU:∀d,OH C I B0 (cl d)){n:Nat}(Hy:(ops.toList.all fun o=>F9 n o.dst)=true){i:Nat}{o:Oper}(ho:ops[i]?=some o){F:Fr}{e:Bool×AV}{h1:Hp}{E:Env}{a:Act}{Q:Exit->Act->World->Prop}
  {K:Act->World->Prop} (ZS:Xv ops.toList F) (DI:AW C (cl (BB C ops true i)) ops (BB C ops true i) o F E.h=.ok (e,h1)) (H:Good C.G I B0 E) (hf:AR E F a) (hn:n<=a.tmps.size)
  (hK:∀E' a',Step C.G I B0 E E'->E'.h=h1->AR E' (Av F (DG (BB C ops true i) o) e) a'->Xv ops.toList (Av F (DG (BB C ops true i) o) e)->a'.tmps.size=a.tmps.size->a'.defers=a.defers->K a' E'.w):wpOp C.P ops Q i K a E.w:=by
 have SL:F9 n o.dst=true:=List.all_eq_true.1 Hy _ (by simpa using Array.mem_of_getElem? ho)
 have bN:o∈ops.toList:=by simpa using Array.mem_of_getElem? ho
 refine KS hI (DU _) ho SL DI H hf hn fun E' a' S Hl FT CD F7=>hK E' a' S Hl FT ?_ CD (F7.resolve_left ?_)
 ·cases hm:HU C ops i with
  |false=>
   rw[Gj hm] at DI⊢;exact ZS.put bN DI
  |true=>
   obtain⟨om,I9,pM,_⟩:=Ib hm;rw[ho] at I9
   injection I9 with I9
   subst I9;obtain⟨⟨c,Bo,_⟩,_,F7⟩:=JA pM;rw[TZ hm]
   have:DG false o=o.dst:=by simp[DG,F7]
   rw[this];exact ZS.fp bN Bo e
 ·cases hm:HU C ops i with
  |false=>rw[Gj hm];simp
  |true=>
   obtain⟨om,I9,pM,_⟩:=Ib hm;rw[ho] at I9
   injection I9 with I9
   subst I9;obtain⟨_,_,F7⟩:=JA pM;rw[F7];simp
theorem Ra {n:Nat}(Hy:(ops.toList.all fun o=>F9 n o.dst)=true):∀o∈ops.toList,o.dst≠some dS:=by
 intro o ho hd;have:=List.all_eq_true.1 Hy o ho;rw[hd] at this;simp[F9,Nat.beq_refl] at this
theorem pz (hI:∀w w',I w->Below B0 w w'->I w')(DU:∀d,OH C I B0 (cl d))(HI:Ir (cl true))(hd:IK C.P ops=true)
  {n:Nat} (Hy:(ops.toList.all fun o=>F9 n o.dst)=true) {Q:Exit->Act->World->Prop}:
  ∀(fuel:Nat) (listed:Array Bool) (F:Fr) (G:Fr) (h':Hp) (E:Env) (a:Act),listed.size=ops.size->Ln ops listed->(rest ops listed).length=fuel->
   Xv ops.toList F->Bx C cl ops (rest ops listed) F E.h=.ok (G,h')->Good C.G I B0 E->AR E F a->n<=a.tmps.size->
   (∀E' a',Step C.G I B0 E E'->E'.h=h'->AR E' G a'->a'.tmps.size=a.tmps.size->a'.defers=a.defers->Q .normal a' E'.w)->wpAny C.P .any ops Q fuel listed a E.w:=by
 intro fuel
 induction fuel with
 |zero=>
  intro listed F G h' E a hs hc hl ZS hx H hf hn hQ;have hr:rest ops listed=[]:=List.eq_nil_of_length_eq_zero hl;rw[hr] at hx;simp only[Bx,Except.ok.injEq,Prod.mk.injEq] at hx;obtain⟨rfl,rfl⟩:=hx;refine⟨?_,hQ E a (Step.refl H) rfl hf rfl rfl⟩
  cases JQ:Region.ready .any ops listed with
  |nil=>rfl
  |cons i l=>
   have:i∈rest ops listed:=E7 (by rw[JQ];simp)
   rw[hr] at this;cases this
 |succ fuel ih=>
  intro listed F G h' E a hs hc hl ZS hx H hf hn hQ
  refine⟨fun JQ=>absurd JQ (LN (fun j o ho=>Mj hd ho) hs (by intro h;rw[h] at hl;cases hl)),fun i hi=> ?_⟩
  obtain⟨s,t,DI⟩:=List.append_of_mem (E7 hi);obtain⟨o,ho,RE,EJ,EB,SG,j5,OY,_⟩:=Gd hs hc hi DI;rw[DI] at hx;obtain⟨e,h1,wj,G1,IE,qX⟩:=Wu HI hd (Ra Hy) ho EJ EB SG RE ZS hx
  refine QU hI DU Hy ho ZS wj H hf hn fun E' a' S Hl FT pU CD F7=> ?_
  subst Hl
  refine ih _ _ G1 h' E' a' (by simpa using hs) j5 ?_ pU (by rw[OY];exact IE) S.Cn FT (by rw[CD];exact hn) fun eM lq S' ZT Uw Fv Ns=>
   hQ eM lq (S.trans S') ZT (Uw.eq fun n=>(qX n).symm) (Fv.trans CD) (Ns.trans F7)
  rw[OY];rw[DI] at hl;simp at hl⊢;omega
theorem Oj {ops:Array Oper}:∀(os:List Oper) (i:Nat) {F G:Fr} {h h':Hp},(∀j,os[j]?=ops[i+j]?)->DJ C cl ops true i os F h=.ok (G,h')->Bx C cl ops (List.range' i os.length) F h=.ok (G,h')
 |[],i,F,G,h,h',_,hx=>by simpa[DJ,Bx] using hx
 |o::os,i,F,G,h,h',VW,hx=>by
  have ho:ops[i]?=some o:=by simpa using(VW 0).symm
  rw[List.length_cons,List.range'_succ,Cf ho];simp only[DJ] at hx
  cases DI:AW C (cl (BB C ops true i)) ops (BB C ops true i) o F h with
  |error x=>rw[DI] at hx;cases hx
  |ok r=>
   obtain⟨e,h1⟩:=r;rw[DI] at hx;simp only at hx
   cases hm:Ep C ops true i F h h1 with
   |false=>rw[hm] at hx;cases hx
   |true=>
    rw[hm] at hx
    exact⟨e,h1,rfl,hm,Oj os (i+1) (fun j=>by rw[show i+1+j=i+(j+1) by omega,<-VW (j+1)];simp) hx⟩
theorem IU (ops:Array Oper):rest ops (Array.replicate ops.size false)=List.range ops.size:=by
 unfold rest
 exact List.filter_eq_self.2 fun i hi=>by
  have:i<ops.size:=by simpa using hi
  simp[Array.getD,this]
theorem Lg (ops:Array Oper):Ln ops (Array.replicate ops.size false):=fun j o _ uK=>by
 by_cases hj:j<ops.size<;>simp[Array.getD,hj] at uK
theorem R9 (hI:∀w w',I w->Below B0 w w'->I w')(hm:C.P.follows .mixedOrders=true)(DU:∀d,OH C I B0 (cl d))(HI:Ir (cl true))(hd:IK C.P ops=true)
  {n:Nat} (Hy:(ops.toList.all fun o=>F9 n o.dst)=true) {Q:Exit->Act->World->Prop} {id:Nat} {F G:Fr} {h':Hp} {E:Env} {a:Act}
  (ZS:Xv ops.toList F) (hx:DJ C cl ops true 0 ops.toList F E.h=.ok (G,h')) (H:Good C.G I B0 E) (hf:AR E F a) (hn:n<=a.tmps.size)
  (hQ:∀E' a',Step C.G I B0 E E'->E'.h=h'->AR E' G a'->a'.tmps.size=a.tmps.size->a'.defers=a.defers->Q .normal a' E'.w):(Code.region id ops true).wp C.P Q a E.w:=by
 refine wp_region_any hm ?_
 have hb:∀B,Below B E.w {E.w with drawn:=E.w.drawn+1}:=fun B=>⟨rfl,rfl,rfl,Nat.le_refl _,fun _ _=>rfl⟩
 have S:=NF hI H (w':={E.w with drawn:=E.w.drawn+1}) (hb _) rfl
 have Kb:=Oj ops.toList 0 (fun j=>by simp) hx
 rw[<-List.range_eq_range',Array.length_toList] at Kb
 exact pz hI DU HI hd Hy ops.size _ F G h' {E with w:={E.w with drawn:=E.w.drawn+1}} a (by simp) (Lg ops) (by rw[IU];simp) ZS
  (by rw[IU];exact Kb) S.Cn (AR.mono S.le hf) hn fun E' a' S'=>hQ E' a' (S.trans S')
theorem Vx {draw:Bool}{n:Nat}(Hy:(ops.toList.all fun o=>F9 n o.dst)=true):∀d∈GD ops draw,d≠dS:=by
 intro d hd;unfold GD at hd;split at hd
 ·cases hd
 ·split at hd
  ·cases hd
  ·obtain⟨o,ho,hod⟩:=List.mem_filterMap.1 hd
   rintro rfl
   exact Ra Hy o ho (FN hod)
theorem YX (hI:∀w w',I w->Below B0 w w'->I w'):∀(l:List Nat) {E:Env} {F:Fr} {a:Act},Good C.G I B0 E->AR E F a->(∀d∈l,d≠dS)->
  ∃E',Step C.G I B0 E E'/\E'.w=E.w/\E'.h=R7 l E.h/\AR E' (JZ l E.h.length F) a
 |[],E,F,a,H,hf,_=>⟨E,Step.refl H,rfl,rfl,hf⟩
 |d::l,E,F,a,H,hf,hd=>by
  have S:=cK hI H;have Je:=AR.mono S.le hf
  have BO:Nat.beq d dS=false:=by
   cases h:Nat.beq d dS with
   |false=>rfl
   |true=>exact absurd (Nat.eq_of_beq_eq_true h) (hd d (by simp))
  obtain⟨E',S',h1,h2,h3⟩:=YX hI l (F:=(d,(lk F d).1,.DA [.int .i64 (.ofNat E.h.length)])::F) (a:=a) S.Cn ⟨fun s=>by
   simp only[lk]
   cases hb:Nat.beq d s with
   |true=>
    obtain rfl:=Nat.eq_of_beq_eq_true hb
    exact⟨fun _=>trivial,(Je.1 d).2⟩
   |false=>exact Je.1 s,by
   simp only[lk,BO,cond_false]
   exact Je.2⟩ (fun d pK=>hd d (by simp[pK]))
  refine⟨E',S.trans S',h1,h2,?_⟩
  have e:(E.h++[Blk.dead]).length=E.h.length+1:=by simp
  show AR E' (JZ l (E.h.length+1) _) a;rw[<-e];exact h3
theorem WZ {i:Nat}{F:Fr}{h h':Hp}:Ep C ops false i F h h'=true:=rfl
theorem K2 :∀(os:List Oper) (i:Nat) (F:Fr) (h:Hp) {G:Fr} {h':Hp},DJ C cl ops false i os F h=.ok (G,h')->BS C (cl false) ops false os F h=.ok (G,h')
 |[],i,F,h,G,h',hx=>hx
 |o::os,i,F,h,G,h',hx=>by
  have hd:BB C ops false i=false:=rfl;simp only[DJ,hd,WZ] at hx;simp only[BS]
  cases DI:AW C (cl false) ops false o F h with
  |error x=>rw[DI] at hx;cases hx
  |ok r=>
   rw[DI] at hx;exact K2 os (i+1) _ _ hx
end
end Go.Ai
