/-
  Drawn regions: whatever order is drawn.
-/
import Derived.Test.YtopjpnhgnopbiaaGreatDoorLAiDraw
set_option linter.unusedVariables false
set_option linter.unusedSimpArgs false
set_option linter.unnecessarySimpa false
namespace Go.Ai
open Go.RowKit
theorem Ze {α:Type}(n:Nat)(k:Nat->α):eC n k=k n:=by cases n<;>rfl
theorem XI {look:Nat->Nat}{o:Oper}{i:Nat}(h:(bitsOf look o).testBit i=true):∃e∈o.after,Region.binds .any e=true/\(i=e.on\/(look e.on).testBit i=true):=by
 have key:∀l:List Edge,(l.foldr (fun e s=>bif Region.binds .any e then Nat.lor (Nat.lor (2^e.on) (look e.on)) s else s) 0).testBit i=true->∃e∈l,Region.binds .any e=true/\(i=e.on\/(look e.on).testBit i=true):=by
  intro l
  induction l with
  |nil=>intro h;simp at h
  |cons e l ih=>
   intro h;rw[List.foldr_cons] at h
   cases hb:Region.binds .any e with
   |false=>
    rw[hb] at h;obtain⟨e',h1,h2⟩:=ih h
    exact⟨e',by simp[h1],h2⟩
   |true=>
    rw[hb] at h;simp only[cond_true] at h
    have h':((2^e.on ||| look e.on) ||| (l.foldr (fun e s=>bif Region.binds .any e then Nat.lor (Nat.lor (2^e.on) (look e.on)) s else s) 0)).testBit i=true:=h
    rw[Nat.testBit_or,Nat.testBit_or,Bool.or_eq_true,Bool.or_eq_true] at h'
    rcases h' with (h1|h1)|h1
    ·rw[Nat.testBit_two_pow] at h1
     exact⟨e,by simp,hb,.inl (of_decide_eq_true h1).symm⟩
    ·exact⟨e,by simp,hb,.inr h1⟩
    ·obtain⟨e',k1,k2⟩:=ih h1
     exact⟨e',by simp[k1],k2⟩
 obtain⟨e,h1,h2⟩:=key o.after.toList h
 exact⟨e,by simpa using h1,h2⟩
theorem RU :∀(l:List Oper) (acc:List Nat),∃t,LS l acc=acc++t/\∀(j:Nat) o,l[j]?=some o->(LS l acc).getD (acc.length+j) 0=bitsOf (fun i=>if i<acc.length+j then(LS l acc).getD i 0 else 0) o
 |[],acc=>⟨[],by simp[LS],fun j o h=>by simp at h⟩
 |o::os,acc=>by
  have hb:LS (o::os) acc=LS os (acc++[bitsOf (fun i=>acc.getD i 0) o]):=by
   rw[LS,Ze]
  obtain⟨t,ht,hs⟩:=RU os (acc++[bitsOf (fun i=>acc.getD i 0) o])
  rw[hb]
  refine⟨_::t,by rw[ht,List.append_assoc];rfl,fun j o' hj=> ?_⟩
  cases j with
  |zero=>
   simp only[List.getElem?_cons_zero,Option.some.injEq] at hj;subst hj
   have oL:(fun i=>if i<acc.length+0 then(LS os (acc++[bitsOf (fun i=>acc.getD i 0) o])).getD i 0 else 0)=fun i=>acc.getD i 0:=by
    funext i
    rw[ht]
    by_cases hi:i<acc.length
    ·simp[hi,List.getElem?_append_left,List.append_assoc]
    ·simp[hi,List.getElem?_eq_none (Nat.le_of_not_lt hi)]
   rw[oL,ht];simp[List.append_assoc]
  |succ j=>
   have:=hs j o' (by simpa using hj)
   simp only[List.length_append,List.length_cons,List.length_nil,Nat.zero_add] at this
   rw[show acc.length+(j+1)=acc.length+1+j by omega]
   exact this
section
variable {ops:Array Oper}
def KW (ops:Array Oper)(listed:Array Bool):Prop:=
 ∀(j:Nat) o,ops[j]?=some o->listed.getD j false=true->∀e∈o.after,Region.binds .any e=true->listed.getD e.on false=true
theorem XC {listed:Array Bool}(hc:KW ops listed):∀(j:Nat) o,ops[j]?=some o->(∀e∈o.after,Region.binds .any e=true->listed.getD e.on false=true)->
  ∀i,((LS ops.toList []).getD j 0).testBit i=true->listed.getD i false=true:=by
 intro j
 induction j using Nat.strongRecOn with
 |_ j ih=>
  intro o ho hp i hi;obtain⟨t,_,hs⟩:=RU ops.toList []
  have:=hs j o (by simpa using ho)
  simp only[List.length_nil,Nat.zero_add] at this;rw[this] at hi;obtain⟨e,he,hb,mE⟩:=XI hi;have hl:=hp e he hb
  rcases mE with rfl|mE
  ·exact hl
  ·by_cases Au:e.on<j
   ·rw[if_pos Au] at mE;have oP:=(Array.getElem?_eq_some_iff.1 ho).1
    have jN:ops[e.on]?=some (ops[e.on]'(by omega)):=Array.getElem?_eq_getElem _
    exact ih e.on Au _ jN (hc _ _ jN hl) i mE
   ·rw[if_neg Au] at mE;simp at mE
theorem LK {P:Program}(h:HI P ops=true){j:Nat}{o:Oper}(ho:ops[j]?=some o):∀e∈o.after,Region.binds .any e=true->e.on<j:=by
 intro e he hb;unfold HI at h;simp only[Bool.and_eq_true] at h
 have:=List.all_eq_true.1 h.1 (o,j) (by rw[List.mem_zipIdx_iff_getElem?];simpa using ho)
 simp only[Bool.and_eq_true,List.all_eq_true] at this
 have:=this.2 e (by simpa using he)
 rw[hb] at this;simp only[Bool.not_true,Bool.false_or] at this;exact Nat.le_of_ble_eq_true this
theorem M8 {P:Program}(h:HI P ops=true){i j:Nat}{x y:Oper}(hx:ops[i]?=some x)(hy:ops[j]?=some y)(tI:i<j):
  ((LS ops.toList []).getD j 0).testBit i=true\/(x.apart ops y=true/\(calm P x.op y.op||VN ops.toList x y||VN ops.toList y x||Va ops x y)=true):=by
 unfold HI at h;simp only[Bool.and_eq_true] at h
 have h1:=List.all_eq_true.1 h.2 (y,j) (by rw[List.mem_zipIdx_iff_getElem?];simpa using hy)
 have h2:=List.all_eq_true.1 h1 (x,i) (by rw[List.mem_zipIdx_iff_getElem?];simpa using hx)
 have hb:Nat.blt i j=true:=Nat.ble_eq_true_of_le tI;simpa[hb] using h2
def rest (ops:Array Oper)(listed:Array Bool):List Nat:=(List.range ops.size).filter fun i=>!listed.getD i true
theorem Kx {listed:Array Bool}{i:Nat}:i∈rest ops listed↔i<ops.size/\listed.getD i true=false:=by
 simp[rest]
theorem Fe (listed:Array Bool):(rest ops listed).Pairwise (·<·):=List.Pairwise.filter _ List.pairwise_lt_range
theorem bf {listed:Array Bool}{i:Nat}(hs:listed.size=ops.size){s t:List Nat}(h:rest ops listed=s++i::t):rest ops (listed.setIfInBounds i true)=s++t:=by
 have Dl:=Fe (ops:=ops) listed;rw[h] at Dl
 have e1:rest ops (listed.setIfInBounds i true)=(rest ops listed).filter fun j=>j !=i:=by
  unfold rest;rw[List.filter_filter]
  refine List.filter_congr fun j hj=> ?_
  have IH:j<listed.size:=by rw[hs];simpa using hj
  by_cases mB:j=i
  ·subst mB;simp[IH]
  ·simp[mB,Ne.symm mB,IH]
 rw[e1,h,List.filter_append,List.filter_cons];simp only[bne_self_eq_false,Bool.false_eq_true,if_false];rw[List.pairwise_append,List.pairwise_cons] at Dl
 have es:s.filter (fun j=>j !=i)=s:=List.filter_eq_self.2 fun j hj=>by
  have:=Dl.2.2 j hj i (by simp)
  simp;omega
 have et:t.filter (fun j=>j !=i)=t:=List.filter_eq_self.2 fun j hj=>by
  have:=Dl.2.1.1 j hj;simp;omega
 rw[es,et]
theorem AP.eq {E:Env}{F F':Fr}{a:Act}(he:Db F F')(h:AP E F a):AP E F' a:=⟨fun s=>by rw[<-he s];exact h.1 s,by rw[<-he dS];exact h.2⟩
theorem Lj (ops:Array Oper):∀n,n<=ops.size->G8 ops (List.range n)=ops.toList.take n
 |0,_=>rfl
 |n+1,h=>by
  have hn:ops[n]?=some (ops[n]'h):=Array.getElem?_eq_getElem _
  have hl:ops.toList[n]?=some (ops[n]'h):=by simpa using hn
  have ih:=Lj ops n (by omega)
  unfold G8 at ih⊢;rw[List.range_succ,List.filterMap_append,ih,List.take_add_one,hl];simp[hn]
variable {C:Bh}{I:World->Prop}{B0:Nat}
noncomputable def Bu(C:Bh)(cl:Bool->FuncId->List AV->Hp->Except (List Nat) (AV×Hp))(ops:Array Oper):List Nat->Fr->Hp->Except (List Nat) (Fr×Hp)
 |[],F,h=>.ok (F,h)
 |i::l,F,h=>match ops[i]? with
  |none=>Bu C cl ops l F h
  |some o=>match AW C (cl (A6 C ops true i)) ops (A6 C ops true i) o F h with
   |.ok (e,h')=>match EI C ops true i F h h' with
    |true=>Bu C cl ops l (Aq F (Cx (A6 C ops true i) o) e) h'
    |false=>.error []
   |.error x=>.error x
variable {cl:Bool->FuncId->List AV->Hp->Except (List Nat) (AV×Hp)}
theorem UD {draw:Bool}{i:Nat}{F F':Fr}{h h':Hp}(he:Db F F'):EI C ops draw i F h h'=EI C ops draw i F' h h':=by
 have:Jh F h h'=Jh F' h h':=funext fun p=>by unfold Jh;rw[he p]
 unfold EI;rw[this]
theorem CZ {i:Nat}{l:List Nat}{o:Oper}(ho:ops[i]?=some o){F G:Fr}{h h':Hp}:Bu C cl ops (i::l) F h=.ok (G,h')↔
  ∃e h1,AW C (cl (A6 C ops true i)) ops (A6 C ops true i) o F h=.ok (e,h1)/\EI C ops true i F h h1=true/\Bu C cl ops l (Aq F (Cx (A6 C ops true i) o) e) h1=.ok (G,h'):=by
 simp only[Bu,ho]
 cases hs:AW C (cl (A6 C ops true i)) ops (A6 C ops true i) o F h with
 |error x=>simp
 |ok r=>
  obtain⟨e,h1⟩:=r;simp only[Except.ok.injEq,Prod.mk.injEq]
  cases hm:EI C ops true i F h h1 with
  |true=>
   simp only;constructor
   ·intro hx;exact⟨e,h1,⟨rfl,rfl⟩,hm,hx⟩
   ·rintro⟨_,_,⟨rfl,rfl⟩,_,hx⟩;exact hx
  |false=>
   constructor
   ·intro hx;cases hx
   ·rintro⟨_,_,⟨rfl,rfl⟩,hx,_⟩;rw[hm] at hx;cases hx
theorem DF :∀{s t:List Nat} {F G:Fr} {h h':Hp},Bu C cl ops (s++t) F h=.ok (G,h')↔∃F1 h1,Bu C cl ops s F h=.ok (F1,h1)/\Bu C cl ops t F1 h1=.ok (G,h')
 |[],t,F,G,h,h'=>by
  constructor
  ·intro hx;exact⟨F,h,rfl,hx⟩
  ·rintro⟨F1,h1,hx,hy⟩
   simp only[Bu,Except.ok.injEq,Prod.mk.injEq] at hx;obtain⟨rfl,rfl⟩:=hx;exact hy
 |i::s,t,F,G,h,h'=>by
  rw[List.cons_append]
  cases ho:ops[i]? with
  |none=>
   have:=DF (s:=s) (t:=t) (F:=F) (G:=G) (h:=h) (h':=h');simpa only[Bu,ho] using this
  |some o=>
   rw[CZ ho];constructor
   ·rintro⟨e,h1,k1,k2,k3⟩
    obtain⟨F1,h2,q1,q2⟩:=DF.1 k3;exact⟨F1,h2,(CZ ho).2 ⟨e,h1,k1,k2,q1⟩,q2⟩
   ·rintro⟨F1,h2,q1,q2⟩
    obtain⟨e,h1,k1,k2,k3⟩:=(CZ ho).1 q1;exact⟨e,h1,k1,k2,DF.2 ⟨F1,h2,k3,q2⟩⟩
theorem FY :∀(l:List Nat) {F F' G:Fr} {h h':Hp},Db F F'->Bu C cl ops l F h=.ok (G,h')->∃G',Bu C cl ops l F' h=.ok (G',h')/\Db G G'
 |[],F,F',G,h,h',he,hx=>by
  simp only[Bu,Except.ok.injEq,Prod.mk.injEq] at hx⊢;obtain⟨rfl,rfl⟩:=hx;exact⟨F',⟨rfl,rfl⟩,he⟩
 |i::l,F,F',G,h,h',he,hx=>by
  cases ho:ops[i]? with
  |none=>simp only[Bu,ho] at hx⊢;exact FY l he hx
  |some o=>
   obtain⟨e,h1,k1,k2,k3⟩:=(CZ ho).1 hx;obtain⟨G',q1,q2⟩:=FY l (he.put _ _) k3;refine⟨G',(CZ ho).2 ⟨e,h1,?_,?_,q1⟩,q2⟩
   ·rw[<-Bt (F:=F) (F':=F') o (fun t _=>he t) (.inr (he dS)) (.inr fun d _=>he d)];exact k1
   ·rw[<-UD he];exact k2
theorem UB {i:Nat}(hm:GY C ops i=false){F:Fr}{h h':Hp}:EI C ops true i F h h'=true:=by
 unfold EI;rw[hm];rfl
theorem Fo {i:Nat}(hm:GY C ops i=false):A6 C ops true i=true:=by unfold A6;rw[hm];rfl
theorem RJ {i:Nat}(hm:GY C ops i=true):A6 C ops true i=false:=by unfold A6;rw[hm];rfl
theorem Cw :∀(s:List Nat) {F G:Fr} {h h':Hp},(∀k∈s,GY C ops k=false)->(Bu C cl ops s F h=.ok (G,h')↔BJ C (cl true) ops true (G8 ops s) F h=.ok (G,h'))
 |[],F,G,h,h',_=>by simp[Bu,G8,BJ]
 |i::s,F,G,h,h',hs=>by
  cases ho:ops[i]? with
  |none=>
   have e:G8 ops (i::s)=G8 ops s:=by simp[G8,ho]
   rw[e];simp only[Bu,ho]
   exact Cw s fun k hk=>hs k (by simp[hk])
  |some o=>
   have e:G8 ops (i::s)=o::G8 ops s:=by simp[G8,ho]
   rw[e,CZ ho,Fo (hs i (by simp))]
   simp only[BJ,Cx];constructor
   ·rintro⟨e,h1,k1,_,k3⟩
    rw[k1]
    exact(Cw s fun k hk=>hs k (by simp[hk])).1 k3
   ·intro hx
    cases DJ:AW C (cl true) ops true o F h with
    |error x=>rw[DJ] at hx;cases hx
    |ok r=>
     obtain⟨e,h1⟩:=r;rw[DJ] at hx
     exact⟨e,h1,rfl,UB (hs i (by simp)),(Cw s fun k hk=>hs k (by simp[hk])).2 hx⟩
theorem Ht {o:Oper}(h:MP C o=true):(∃c,o.op=.call c/\∃x,c.callee=.value x)/\o.guard=none/\Dk o=false:=by
 unfold MP at h;split at h
 ·rename_i k args ts Bc hg
  exact⟨⟨_,Bc,_,rfl⟩,hg,by simp[Dk,Bc]⟩
 ·cases h
theorem HR {m:Nat}(hm:GY C ops m=true):∃o,ops[m]?=some o/\MP C o=true/\(∀i,i<m->DR ops i m=true\/Hv C ops m i=true)/\∀j,m<j->j<ops.size->DR ops m j=true:=by
 unfold GY at hm
 cases ho:ops[m]? with
 |none=>rw[ho] at hm;cases hm
 |some o=>
  rw[ho] at hm;simp only[Bool.and_eq_true] at hm
  refine⟨o,rfl,hm.1.1,fun i hi=> ?_,fun j hj oP=> ?_⟩
  ·have:=List.all_eq_true.1 hm.1.2 i (by simpa using hi)
   simpa using this
  ·have:=List.all_eq_true.1 hm.2 j (by simpa using oP)
   have hb:Nat.blt m j=true:=Nat.ble_eq_true_of_le hj;simpa[hb] using this
theorem WO {m:Nat}(hm:GY C ops m=true){F:Fr}{h h':Hp}(hk:EI C ops true m F h h'=true):∀k,k<m->∀p∈PQ ops m k,Jh F h h' p:=by
 intro k jP p hp
 have dV:p∈Wt ops m:=List.mem_flatten.2 ⟨PQ ops m k,List.mem_map.2 ⟨k,by simpa using jP,rfl⟩,hp⟩
 unfold EI at hk;rw[hm] at hk;simp only[Bool.and_self] at hk;split at hk
 ·rename_i kj;rw[kj] at dV;cases dV
 ·exact(@of_decide_eq_true _ (Classical.propDecidable _) hk) p dV
theorem Fk (HE:Hf (cl true)){m:Nat}:∀(s:List Nat) {F F1:Fr} {h h1:Hp},(∀k∈s,Hv C ops m k=true)->
  BJ C (cl true) ops true (G8 ops s) F h=.ok (F1,h1)->h1=h/\∀t,(∀k∈s,∀o,ops[k]?=some o->o.dst≠some t)->lk F1 t=lk F t
 |[],F,F1,h,h1,_,hx=>by
  simp only[G8,List.filterMap_nil,BJ,Except.ok.injEq,Prod.mk.injEq] at hx⊢;obtain⟨rfl,rfl⟩:=hx
  exact⟨rfl,fun _ _=>rfl⟩
 |k::s,F,F1,h,h1,Ge,hx=>by
  have Mv:=Ge k (by simp)
  cases ho:ops[k]? with
  |none=>unfold Hv at Mv;rw[ho] at Mv;cases Mv
  |some o=>
   have es:G8 ops (k::s)=o::G8 ops s:=by simp[G8,ho]
   rw[es] at hx;simp only[BJ,Cx] at hx
   cases DJ:AW C (cl true) ops true o F h with
   |error x=>rw[DJ] at hx;cases hx
   |ok r=>
    obtain⟨e1,h'⟩:=r;rw[DJ] at hx;simp only at hx
    have hq:h'=h:=by
     unfold Hv at Mv;rw[ho] at Mv;simp only[Bool.or_eq_true,Bool.not_eq_true'] at Mv
     rcases Mv with Mv|Mv
     ·exact(Ek HE o Mv DJ).1
     ·split at Mv
      ·rename_i t p Bc hg;exact(JL Bc hg DJ).1
      ·cases Mv
    subst hq
    obtain⟨r1,r2⟩:=Fk HE s (fun k' Ji=>Ge k' (by simp[Ji])) hx
    exact⟨r1,fun t ht=>by rw[r2 t fun k' Ji=>ht k' (by simp[Ji]),Az (ht k (by simp) o ho)]⟩
theorem RA (HE:Hf (cl true)){m:Nat}{d:Option Nat}{e:Bool×AV}{h2:Hp}:∀(s:List Nat) {F F1:Fr} {h h1:Hp},s.Pairwise (·<·)->
  (∀k∈s,k<m/\DR ops k m=false/\Hv C ops m k=true/\∀o,ops[k]?=some o->∀x,d=some x->x∉o.looksAt ops/\o.dst≠some x)->
  BJ C (cl true) ops true (G8 ops s) F h=.ok (F1,h1)->(∀k∈s,∀p∈PQ ops m k,Jh F1 h1 h2 p)->
  ∃G1,BJ C (cl true) ops true (G8 ops s) (Aq F d e) h2=.ok (G1,h2)/\Db G1 (Aq F1 d e)
 |[],F,F1,h,h1,_,_,hx,_=>by
  simp only[G8,List.filterMap_nil,BJ,Except.ok.injEq,Prod.mk.injEq] at hx⊢;obtain⟨rfl,rfl⟩:=hx;exact⟨_,⟨rfl,trivial⟩,Db.refl _⟩
 |k::s,F,F1,h,h1,Dl,Ge,hx,hk=>by
  rw[List.pairwise_cons] at Dl
  obtain⟨jP,xu,Mv,Sb⟩:=Ge k (by simp)
  obtain⟨q1,_⟩:=Fk HE (k::s) (fun k' Ji=>(Ge k' Ji).2.2.1) hx
  subst q1
  cases ho:ops[k]? with
  |none=>unfold Hv at Mv;rw[ho] at Mv;cases Mv
  |some o=>
   have es:G8 ops (k::s)=o::G8 ops s:=by simp[G8,ho]
   rw[es] at hx⊢;simp only[BJ,Cx] at hx⊢
   cases DJ:AW C (cl true) ops true o F h1 with
   |error x=>rw[DJ] at hx;cases hx
   |ok r=>
    obtain⟨e1,h'⟩:=r;rw[DJ] at hx;simp only at hx
    obtain⟨r1,r2⟩:=Fk HE s (fun k' Ji=>(Ge k' (by simp[Ji])).2.2.1) hx
    subst r1
    obtain⟨G1,r3,r4⟩:=RA HE s Dl.2 (fun k' Ji=>Ge k' (by simp[Ji])) hx (fun k' Ji=>hk k' (by simp[Ji]))
    have kf:AW C (cl true) ops true o F h2=.ok (e1,h2):=by
     unfold Hv at Mv;rw[ho] at Mv;simp only[Bool.or_eq_true,Bool.not_eq_true'] at Mv
     rcases Mv with Mv|Mv
     ·exact(Ek HE o Mv DJ).2 h2
     ·split at Mv
      ·rename_i t p Bc hg
       rcases(JL Bc hg DJ).2 with CE|⟨b,ob,hl,CE⟩
       ·exact CE h2
       ·have jH:∀j,k<=j->j<m->∀oj,ops[j]?=some oj->oj.dst≠some p:=by
         intro j xR xW oj xD hd
         have h3:=List.all_eq_true.1 Mv j (by simpa using xW)
         have hb:Nat.ble k j=true:=Nat.ble_eq_true_of_le xR;unfold jZ Js at h3;rw[xD] at h3;simp only at h3;rw[hd] at h3;simp[hb,Nat.beq_refl] at h3
        have VS:lk F1 p=lk F p:=by
         rw[r2 p fun k' Ji o' jN=>jH k' (Nat.le_of_lt (Dl.1 k' Ji)) (Ge k' (by simp[Ji])).1 o' jN,Az (jH k (Nat.le_refl _) jP o ho)]
        have tF:=hk k (by simp) p (by
         unfold PQ;rw[xu,ho];simp only[Bc]
         exact List.mem_singleton.2 rfl)
        unfold Jh at tF;rw[VS,hl] at tF;exact CE h2 tF.symm
      ·cases Mv
    have kd:AW C (cl true) ops true o (Aq F d e) h2=.ok (e1,h2):=by
     rw[<-kf]
     exact Bt o (fun t ht=>Az fun hd=>(Sb o ho t hd).1 ht) (.inl rfl) (.inr fun d' lD=>Az fun hd=>(Sb o ho d' hd).2 (Ee lD))
    rw[kd];simp only
    have NY:Db (Aq (Aq F o.dst e1) d e) (Aq (Aq F d e) o.dst e1):=put_comm fun x hx hd=>(Sb o ho x hd).2 hx
    obtain⟨G2,q1,q2⟩:=HH _ NY r3
    exact⟨G2,q1,(fun n=>(q2 n).symm.trans (r4 n))⟩
theorem UU (HE:Hf (cl true))(hd:HI C.P ops=true)(pw:∀o∈ops.toList,o.dst≠some dS){i:Nat}{o:Oper}(ho:ops[i]?=some o){s t:List Nat}(Dl:s.Pairwise (·<·))(De:∀k∈s,k<i)
  (QF:∀k∈s,DR ops k i=false) (CC:i<ops.size) {F G:Fr} {h h':Hp} (Wm:VX ops.toList F) (hx:Bu C cl ops (s++i::t) F h=.ok (G,h')):
  ∃e h1,AW C (cl (A6 C ops true i)) ops (A6 C ops true i) o F h=.ok (e,h1)/\∃G',Bu C cl ops (s++t) (Aq F (Cx (A6 C ops true i) o) e) h1=.ok (G',h')/\Db G G':=by
 have VP:∀k∈s,GY C ops k=false:=by
  intro k hk
  cases hm:GY C ops k with
  |false=>rfl
  |true=>
   obtain⟨_,_,_,_,h4⟩:=HR hm;have:=h4 i (De k hk) CC;rw[QF k hk] at this;cases this
 have YD:o∈ops.toList:=by simpa using Array.mem_of_getElem? ho
 have Ua:∀k∈s,∀x,ops[k]?=some x->x.apart ops o=true/\(calm C.P x.op o.op||VN ops.toList x o||VN ops.toList o x||Va ops x o)=true:=by
  intro k hk x VT
  rcases M8 hd VT ho (De k hk) with hb|Sb
  ·have:=QF k hk;unfold DR at this;rw[hb] at this;cases this
  ·exact Sb
 obtain⟨F1,h1,HB,ny⟩:=DF.1 hx;rw[Cw s VP] at HB;obtain⟨e,h2,k1,k2,k3⟩:=(CZ ho).1 ny
 cases fe:GY C ops i with
 |false=>
  rw[Fo fe] at k1 k3⊢
  have lH:∀x∈G8 ops s,x∈ops.toList/\x.apart ops o=true/\(calm C.P x.op o.op||VN ops.toList x o||VN ops.toList o x||Va ops x o)=true:=by
   intro x nv;obtain⟨k,hk,VT⟩:=List.mem_filterMap.1 nv
   exact⟨by simpa using Array.mem_of_getElem? VT,Ua k hk x VT⟩
  have CU:BJ C (cl true) ops true (G8 ops s++o::[]) F h=.ok (Aq F1 o.dst e,h2):=by
   have app:∀(l:List Oper) {F:Fr} {h:Hp},BJ C (cl true) ops true l F h=.ok (F1,h1)->BJ C (cl true) ops true (l++[o]) F h=.ok (Aq F1 o.dst e,h2):=by
    intro l
    induction l with
    |nil=>
     intro F h hx;simp only[BJ,Except.ok.injEq,Prod.mk.injEq] at hx;obtain⟨rfl,rfl⟩:=hx;simp only[List.nil_append,BJ,Cx,k1]
    |cons x l ih=>
     intro F h hx;simp only[List.cons_append,BJ] at hx⊢
     cases DJ:AW C (cl true) ops true x F h with
     |error y=>rw[DJ] at hx;cases hx
     |ok r=>rw[DJ] at hx;exact ih hx
   exact app _ HB
  obtain⟨G1,q1,q2⟩:=pull HE YD (G8 ops s) Wm lH CU;simp only[List.append_nil,BJ,Cx] at q1
  cases DJ:AW C (cl true) ops true o F h with
  |error y=>rw[DJ] at q1;cases q1
  |ok r=>
   obtain⟨e',h3⟩:=r;rw[DJ] at q1;simp only at q1;obtain⟨G2,p1,p2⟩:=FY t q2 k3;exact⟨e',h3,rfl,G2,DF.2 ⟨G1,h2,(Cw s VP).2 q1,p1⟩,p2⟩
 |true=>
  obtain⟨om,Hs,Da,Ge,_⟩:=HR fe;rw[ho] at Hs
  injection Hs with Hs
  subst Hs;obtain⟨_,_,FF⟩:=Ht Da;rw[RJ fe] at k1 k3⊢
  have PJ:Cx false o=o.dst:=by simp[Cx,FF]
  rw[PJ] at k3⊢
  have mH:∀k∈s,k<i/\DR ops k i=false/\Hv C ops i k=true/\∀x,ops[k]?=some x->∀y,o.dst=some y->y∉x.looksAt ops/\x.dst≠some y:=by
   intro k hk
   refine⟨De k hk,QF k hk,(Ge k (De k hk)).resolve_left (by rw[QF k hk];simp),fun x VT y hy=> ?_⟩
   obtain⟨a1,a2,a3⟩:=Oper.apart_spec (Ua k hk x VT).1
   exact⟨a3 y hy,fun pg=>a2 y pg hy⟩
  obtain⟨G1,r3,r4⟩:=RA (e:=e) (h2:=h2) HE s Dl mH HB (fun k hk=>WO fe k2 k (De k hk))
  obtain⟨r1,r2⟩:=Fk HE s (fun k hk=>(mH k hk).2.2.1) HB
  subst r1
  have UY:∀u,u∈o.looksAt ops->lk F1 u=lk F u:=fun u hu=>r2 u fun k hk x VT nw=>(Oper.apart_spec (Ua k hk x VT).1).1 u nw hu
  have DJ:AW C (cl false) ops false o F h1=.ok (e,h2):=by
   rw[<-k1]
   exact(Bt o UY (.inr (r2 dS fun k hk x VT=>pw x (by simpa using Array.mem_of_getElem? VT))) (.inl rfl)).symm
  obtain⟨G2,p1,p2⟩:=FY t (fun n=>(r4 n).symm) k3
  exact⟨e,h2,DJ,G2,DF.2 ⟨G1,h2,(Cw s VP).2 r3,p1⟩,p2⟩
theorem VX.bo {os:List Oper}{F:Fr}(h:VX os F){z:Oper}(hz:z∈os){c:Call}(Bc:z.op=.call c)(e:Bool×AV):VX os (Aq F z.dst e):=by
 refine⟨fun x hx y hy hp=> ?_,fun DJ t r hr g b o hl=> ?_⟩
 ·have h1:=h.1 x hx y hy hp;obtain⟨t,p,t',q,v,r,r',k1,k2,_,_,k5,k6⟩:=Ky hp;unfold lu at h1⊢;rw[k1,k2] at h1⊢;simp only[k5,k6] at h1⊢;rw[Az (Fb (EO k5) hz),Az (Fb (EO k6) hz)];exact h1
 ·have Mr:=EO hr;rw[Az (Fb Mr hz)]
  by_cases hd:z.dst=some t
  ·cases hs:Mi os t with
   |true=>exact absurd hd (Fb hs hz)
   |false=>
    have Ms:=hr;unfold GU EH at Ms;rw[hs] at Ms;simp only at Ms;split at Ms
    ·rename_i x hx;obtain⟨_,MK⟩:=OH hx hz hd
     rcases MK with h1|h1|⟨_,_,h1⟩<;>rw[Bc] at h1<;>cases h1
    ·cases Ms
  ·rw[Az hd] at hl;exact h.2 DJ t r hr g b o hl
theorem Ff {listed:Array Bool}(hs:listed.size=ops.size)(hc:KW ops listed){i:Nat}(hi:i∈Region.ready .any ops listed){s t:List Nat}(DJ:rest ops listed=s++i::t):
  ∃o,ops[i]?=some o/\i<ops.size/\s.Pairwise (·<·)/\(∀k∈s,k<i)/\(∀k∈s,DR ops k i=false)/\KW ops (listed.setIfInBounds i true)/\rest ops (listed.setIfInBounds i true)=s++t/\
   ∀k∈rest ops listed,DR ops k i=false:=by
 obtain⟨vR,o,ho,jL⟩:=mem_ready.1 hi;have PD:=(Array.getElem?_eq_some_iff.1 ho).1;have Dl:=Fe (ops:=ops) listed;rw[DJ,List.pairwise_append] at Dl
 have QF:∀k∈rest ops listed,DR ops k i=false:=by
  intro k hk
  cases hb:DR ops k i with
  |false=>rfl
  |true=>
   have VR:=XC hc i o ho jL k hb;have Mt:=Kx.1 hk
   have:k<listed.size:=by omega
   simp[Array.getD,this] at VR Mt;rw[VR] at Mt
   exact absurd Mt.2 (by simp)
 refine⟨o,ho,PD,Dl.1,fun k hk=>Dl.2.2 k hk i (by simp),fun k hk=>QF k (by rw[DJ];simp[hk]),?_,bf hs DJ,QF⟩
 intro j oj hj pr e' vV Gf
 by_cases mB:i=j
 ·subst mB;rw[ho] at hj
  injection hj with hj
  subst hj;exact getD_set_true (jL e' vV Gf)
 ·rw[getD_set_ne false mB] at pr;exact getD_set_true (hc j oj hj pr e' vV Gf)
theorem J9 (xl:∀(j:Nat) o,ops[j]?=some o->∀e∈o.after,Region.binds .any e=true->e.on<j){listed:Array Bool}(hs:listed.size=ops.size)(hr:rest ops listed≠[]):Region.ready .any ops listed≠[]:=by
 intro IG
 cases fb:rest ops listed with
 |nil=>exact hr fb
 |cons i t=>
  have hi:i∈rest ops listed:=by rw[fb];simp
  obtain⟨xY,vR⟩:=Kx.1 hi;have ho:ops[i]?=some (ops[i]'xY):=Array.getElem?_eq_getElem _
  have:i∈Region.ready .any ops listed:=mem_ready.2 ⟨vR,_,ho,fun e he hb=>by
   have Au:=xl _ _ ho e he hb
   cases hle:listed.getD e.on true with
   |true=>
    have:e.on<listed.size:=by omega
    simpa[Array.getD,this] using hle
   |false=>
    have hm:e.on∈rest ops listed:=Kx.2 ⟨by omega,hle⟩
    have Dl:=Fe (ops:=ops) listed;rw[fb] at hm Dl
    rcases List.mem_cons.1 hm with rfl|hm
    ·omega
    ·have:=(List.pairwise_cons.1 Dl).1 _ hm
     omega⟩
  rw[IG] at this;cases this
theorem ES {listed:Array Bool}{i:Nat}(hi:i∈Region.ready .any ops listed):i∈rest ops listed:=by
 rw[mem_ready] at hi;obtain⟨h1,o,h2,_⟩:=hi;exact Kx.2 ⟨(Array.getElem?_eq_some_iff.1 h2).1,h1⟩
theorem OR (hI:∀w w',I w->Below B0 w w'->I w')(Da:∀d,Md C I B0 (cl d)){n:Nat}(Gv:(ops.toList.all fun o=>FG n o.dst)=true){i:Nat}{o:Oper}(ho:ops[i]?=some o){F:Fr}{e:Bool×AV}{h1:Hp}{E:Env}{a:Act}{Q:Exit->Act->World->Prop}
  {K:Act->World->Prop} (Wm:VX ops.toList F) (DJ:AW C (cl (A6 C ops true i)) ops (A6 C ops true i) o F E.h=.ok (e,h1)) (H:Good C.G I B0 E) (hf:AP E F a) (hn:n<=a.tmps.size)
  (hK:∀E' a',Step C.G I B0 E E'->E'.h=h1->AP E' (Aq F (Cx (A6 C ops true i) o) e) a'->VX ops.toList (Aq F (Cx (A6 C ops true i) o) e)->a'.tmps.size=a.tmps.size->a'.defers=a.defers->K a' E'.w):wpOp C.P ops Q i K a E.w:=by
 have QJ:FG n o.dst=true:=List.all_eq_true.1 Gv _ (by simpa using Array.mem_of_getElem? ho)
 have YD:o∈ops.toList:=by simpa using Array.mem_of_getElem? ho
 refine JF hI (Da _) ho QJ DJ H hf hn fun E' a' S Gr F9 CC FF=>hK E' a' S Gr F9 ?_ CC (FF.resolve_left ?_)
 ·cases hm:GY C ops i with
  |false=>
   rw[Fo hm] at DJ⊢;exact Wm.put YD DJ
  |true=>
   obtain⟨om,Hs,lF,_⟩:=HR hm;rw[ho] at Hs
   injection Hs with Hs
   subst Hs;obtain⟨⟨c,Bc,_⟩,_,FF⟩:=Ht lF;rw[RJ hm]
   have:Cx false o=o.dst:=by simp[Cx,FF]
   rw[this];exact Wm.bo YD Bc e
 ·cases hm:GY C ops i with
  |false=>rw[Fo hm];simp
  |true=>
   obtain⟨om,Hs,lF,_⟩:=HR hm;rw[ho] at Hs
   injection Hs with Hs
   subst Hs;obtain⟨_,_,FF⟩:=Ht lF;rw[FF];simp
theorem Pd {n:Nat}(Gv:(ops.toList.all fun o=>FG n o.dst)=true):∀o∈ops.toList,o.dst≠some dS:=by
 intro o ho hd;have:=List.all_eq_true.1 Gv o ho;rw[hd] at this;simp[FG,Nat.beq_refl] at this
theorem lf (hI:∀w w',I w->Below B0 w w'->I w')(Da:∀d,Md C I B0 (cl d))(HE:Hf (cl true))(hd:HI C.P ops=true)
  {n:Nat} (Gv:(ops.toList.all fun o=>FG n o.dst)=true) {Q:Exit->Act->World->Prop}:
  ∀(fuel:Nat) (listed:Array Bool) (F:Fr) (G:Fr) (h':Hp) (E:Env) (a:Act),listed.size=ops.size->KW ops listed->(rest ops listed).length=fuel->
   VX ops.toList F->Bu C cl ops (rest ops listed) F E.h=.ok (G,h')->Good C.G I B0 E->AP E F a->n<=a.tmps.size->
   (∀E' a',Step C.G I B0 E E'->E'.h=h'->AP E' G a'->a'.tmps.size=a.tmps.size->a'.defers=a.defers->Q .normal a' E'.w)->wpAny C.P .any ops Q fuel listed a E.w:=by
 intro fuel
 induction fuel with
 |zero=>
  intro listed F G h' E a hs hc hl Wm hx H hf hn hQ;have hr:rest ops listed=[]:=List.eq_nil_of_length_eq_zero hl;rw[hr] at hx;simp only[Bu,Except.ok.injEq,Prod.mk.injEq] at hx;obtain⟨rfl,rfl⟩:=hx;refine⟨?_,hQ E a (Step.refl H) rfl hf rfl rfl⟩
  cases IG:Region.ready .any ops listed with
  |nil=>rfl
  |cons i l=>
   have:i∈rest ops listed:=ES (by rw[IG];simp)
   rw[hr] at this;cases this
 |succ fuel ih=>
  intro listed F G h' E a hs hc hl Wm hx H hf hn hQ
  refine⟨fun IG=>absurd IG (J9 (fun j o ho=>LK hd ho) hs (by intro h;rw[h] at hl;cases hl)),fun i hi=> ?_⟩
  obtain⟨s,t,DJ⟩:=List.append_of_mem (ES hi);obtain⟨o,ho,PD,Dl,De,QF,fg,Mr,_⟩:=Ff hs hc hi DJ;rw[DJ] at hx;obtain⟨e,h1,sh,G1,HB,aF⟩:=UU HE hd (Pd Gv) ho Dl De QF PD Wm hx
  refine OR hI Da Gv ho Wm sh H hf hn fun E' a' S Gr F9 lO CC FF=> ?_
  subst Gr
  refine ih _ _ G1 h' E' a' (by simpa using hs) fg ?_ lO (by rw[Mr];exact HB) S.Cg F9 (by rw[CC];exact hn) fun aJ iT S' Wn SZ FB MN=>
   hQ aJ iT (S.trans S') Wn (SZ.eq fun n=>(aF n).symm) (FB.trans CC) (MN.trans FF)
  rw[Mr];rw[DJ] at hl;simp at hl⊢;omega
theorem M6 {ops:Array Oper}:∀(os:List Oper) (i:Nat) {F G:Fr} {h h':Hp},(∀j,os[j]?=ops[i+j]?)->C9 C cl ops true i os F h=.ok (G,h')->Bu C cl ops (List.range' i os.length) F h=.ok (G,h')
 |[],i,F,G,h,h',_,hx=>by simpa[C9,Bu] using hx
 |o::os,i,F,G,h,h',TC,hx=>by
  have ho:ops[i]?=some o:=by simpa using(TC 0).symm
  rw[List.length_cons,List.range'_succ,CZ ho];simp only[C9] at hx
  cases DJ:AW C (cl (A6 C ops true i)) ops (A6 C ops true i) o F h with
  |error x=>rw[DJ] at hx;cases hx
  |ok r=>
   obtain⟨e,h1⟩:=r;rw[DJ] at hx;simp only at hx
   cases hm:EI C ops true i F h h1 with
   |false=>rw[hm] at hx;cases hx
   |true=>
    rw[hm] at hx
    exact⟨e,h1,rfl,hm,M6 os (i+1) (fun j=>by rw[show i+1+j=i+(j+1) by omega,<-TC (j+1)];simp) hx⟩
theorem HL (ops:Array Oper):rest ops (Array.replicate ops.size false)=List.range ops.size:=by
 unfold rest
 exact List.filter_eq_self.2 fun i hi=>by
  have:i<ops.size:=by simpa using hi
  simp[Array.getD,this]
theorem KQ (ops:Array Oper):KW ops (Array.replicate ops.size false):=fun j o _ pr=>by
 by_cases hj:j<ops.size<;>simp[Array.getD,hj] at pr
theorem P8 (hI:∀w w',I w->Below B0 w w'->I w')(hm:C.P.follows .mixedOrders=true)(Da:∀d,Md C I B0 (cl d))(HE:Hf (cl true))(hd:HI C.P ops=true)
  {n:Nat} (Gv:(ops.toList.all fun o=>FG n o.dst)=true) {Q:Exit->Act->World->Prop} {id:Nat} {F G:Fr} {h':Hp} {E:Env} {a:Act}
  (Wm:VX ops.toList F) (hx:C9 C cl ops true 0 ops.toList F E.h=.ok (G,h')) (H:Good C.G I B0 E) (hf:AP E F a) (hn:n<=a.tmps.size)
  (hQ:∀E' a',Step C.G I B0 E E'->E'.h=h'->AP E' G a'->a'.tmps.size=a.tmps.size->a'.defers=a.defers->Q .normal a' E'.w):(Code.region id ops true).wp C.P Q a E.w:=by
 refine wp_region_any hm ?_
 have hb:∀B,Below B E.w {E.w with drawn:=E.w.drawn+1}:=fun B=>⟨rfl,rfl,rfl,Nat.le_refl _,fun _ _=>rfl⟩
 have S:=Ld hI H (w':={E.w with drawn:=E.w.drawn+1}) (hb _) rfl
 have IS:=M6 ops.toList 0 (fun j=>by simp) hx
 rw[<-List.range_eq_range',Array.length_toList] at IS
 exact lf hI Da HE hd Gv ops.size _ F G h' {E with w:={E.w with drawn:=E.w.drawn+1}} a (by simp) (KQ ops) (by rw[HL];simp) Wm
  (by rw[HL];exact IS) S.Cg (AP.mono S.le hf) hn fun E' a' S'=>hQ E' a' (S.trans S')
theorem Td {draw:Bool}{n:Nat}(Gv:(ops.toList.all fun o=>FG n o.dst)=true):∀d∈FJ ops draw,d≠dS:=by
 intro d hd;unfold FJ at hd;split at hd
 ·cases hd
 ·split at hd
  ·cases hd
  ·obtain⟨o,ho,xE⟩:=List.mem_filterMap.1 hd
   rintro rfl
   exact Pd Gv o ho (Ee xE)
theorem Vv (hI:∀w w',I w->Below B0 w w'->I w'):∀(l:List Nat) {E:Env} {F:Fr} {a:Act},Good C.G I B0 E->AP E F a->(∀d∈l,d≠dS)->
  ∃E',Step C.G I B0 E E'/\E'.w=E.w/\E'.h=P6 l E.h/\AP E' (IM l E.h.length F) a
 |[],E,F,a,H,hf,_=>⟨E,Step.refl H,rfl,rfl,hf⟩
 |d::l,E,F,a,H,hf,hd=>by
  have S:=Yo hI H;have LX:=AP.mono S.le hf
  have BU:Nat.beq d dS=false:=by
   cases h:Nat.beq d dS with
   |false=>rfl
   |true=>exact absurd (Nat.eq_of_beq_eq_true h) (hd d (by simp))
  obtain⟨E',S',h1,h2,h3⟩:=Vv hI l (F:=(d,(lk F d).1,.Cs [.int .i64 (.ofNat E.h.length)])::F) (a:=a) S.Cg ⟨fun s=>by
   simp only[lk]
   cases hb:Nat.beq d s with
   |true=>
    obtain rfl:=Nat.eq_of_beq_eq_true hb
    exact⟨fun _=>trivial,(LX.1 d).2⟩
   |false=>exact LX.1 s,by
   simp only[lk,BU,cond_false]
   exact LX.2⟩ (fun d lD=>hd d (by simp[lD]))
  refine⟨E',S.trans S',h1,h2,?_⟩
  have e:(E.h++[Blk.dead]).length=E.h.length+1:=by simp
  show AP E' (IM l (E.h.length+1) _) a;rw[<-e];exact h3
theorem UC {i:Nat}{F:Fr}{h h':Hp}:EI C ops false i F h h'=true:=rfl
theorem Jl :∀(os:List Oper) (i:Nat) (F:Fr) (h:Hp) {G:Fr} {h':Hp},C9 C cl ops false i os F h=.ok (G,h')->BJ C (cl false) ops false os F h=.ok (G,h')
 |[],i,F,h,G,h',hx=>hx
 |o::os,i,F,h,G,h',hx=>by
  have hd:A6 C ops false i=false:=rfl;simp only[C9,hd,UC] at hx;simp only[BJ]
  cases DJ:AW C (cl false) ops false o F h with
  |error x=>rw[DJ] at hx;cases hx
  |ok r=>
   rw[DJ] at hx;exact Jl os (i+1) _ _ hx
end
end Go.Ai
