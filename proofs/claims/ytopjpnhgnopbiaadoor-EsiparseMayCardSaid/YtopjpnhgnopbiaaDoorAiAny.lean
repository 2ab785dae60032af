/-
  Drawn regions: whatever order is drawn.
-/
import Derived.Test.YtopjpnhgnopbiaaDoorAiDraw
set_option linter.unusedVariables false
set_option linter.unusedSimpArgs false
set_option linter.unnecessarySimpa false
namespace Go.Ai
open Go.RowKit
theorem forceN_eq {α:Type}(n:Nat)(k:Nat→α):forceN n k=k n:=by cases n<;>rfl
theorem bitsOf_bit {look:Nat→Nat}{o:Oper}{i:Nat}(h:(bitsOf look o).testBit i=true):∃e∈o.after,Region.binds .any e=true∧(i=e.on∨(look e.on).testBit i=true):=by
 have key:∀l:List Edge,(l.foldr (fun e s=>bif Region.binds .any e then Nat.lor (Nat.lor (2^e.on) (look e.on)) s else s) 0).testBit i=true→∃e∈l,Region.binds .any e=true∧(i=e.on∨(look e.on).testBit i=true):=by
  intro l
  induction l with
  |nil=>intro h;simp at h
  |cons e l ih=>
   intro h;rw[List.foldr_cons] at h
   cases hb:Region.binds .any e with
   |false=>
    rw[hb] at h;obtain⟨e',h1,h2⟩:=ih h
    exact⟨e',by simp[h1],h2⟩
   |true=>
    rw[hb] at h;simp only[cond_true] at h
    have h':((2^e.on ||| look e.on) ||| (l.foldr (fun e s=>bif Region.binds .any e then Nat.lor (Nat.lor (2^e.on) (look e.on)) s else s) 0)).testBit i=true:=h
    rw[Nat.testBit_or,Nat.testBit_or,Bool.or_eq_true,Bool.or_eq_true] at h'
    rcases h' with (h1|h1)|h1
    ·rw[Nat.testBit_two_pow] at h1
     exact⟨e,by simp,hb,.inl (of_decide_eq_true h1).symm⟩
    ·exact⟨e,by simp,hb,.inr h1⟩
    ·obtain⟨e',k1,k2⟩:=ih h1
     exact⟨e',by simp[k1],k2⟩
 obtain⟨e,h1,h2⟩:=key o.after.toList h
 exact⟨e,by simpa using h1,h2⟩
theorem befs_spec :∀(l:List Oper) (acc:List Nat),∃t,befs l acc=acc++t∧∀(j:Nat) o,l[j]?=some o→(befs l acc).getD (acc.length+j) 0=bitsOf (fun i=>if i<acc.length+j then(befs l acc).getD i 0 else 0) o
 |[],acc=>⟨[],by simp[befs],fun j o h=>by simp at h⟩
 |o::os,acc=>by
  have hb:befs (o::os) acc=befs os (acc++[bitsOf (fun i=>acc.getD i 0) o]):=by
   rw[befs,forceN_eq]
  obtain⟨t,ht,hs⟩:=befs_spec os (acc++[bitsOf (fun i=>acc.getD i 0) o])
  rw[hb]
  refine⟨_::t,by rw[ht,List.append_assoc];rfl,fun j o' hj=> ?_⟩
  cases j with
  |zero=>
   simp only[List.getElem?_cons_zero,Option.some.injEq] at hj;subst hj
   have hlook:(fun i=>if i<acc.length+0 then(befs os (acc++[bitsOf (fun i=>acc.getD i 0) o])).getD i 0 else 0)=fun i=>acc.getD i 0:=by
    funext i
    rw[ht]
    by_cases hi:i<acc.length
    ·simp[hi,List.getElem?_append_left,List.append_assoc]
    ·simp[hi,List.getElem?_eq_none (Nat.le_of_not_lt hi)]
   rw[hlook,ht];simp[List.append_assoc]
  |succ j=>
   have:=hs j o' (by simpa using hj)
   simp only[List.length_append,List.length_cons,List.length_nil,Nat.zero_add] at this
   rw[show acc.length+(j+1)=acc.length+1+j by omega]
   exact this
section
variable {ops:Array Oper}
def Closed (ops:Array Oper)(listed:Array Bool):Prop:=
 ∀(j:Nat) o,ops[j]?=some o→listed.getD j false=true→∀e∈o.after,Region.binds .any e=true→listed.getD e.on false=true
theorem closed_bit {listed:Array Bool}(hc:Closed ops listed):∀(j:Nat) o,ops[j]?=some o→(∀e∈o.after,Region.binds .any e=true→listed.getD e.on false=true)→
  ∀i,((befs ops.toList []).getD j 0).testBit i=true→listed.getD i false=true:=by
 intro j
 induction j using Nat.strongRecOn with
 |_ j ih=>
  intro o ho hp i hi;obtain⟨t,_,hs⟩:=befs_spec ops.toList []
  have:=hs j o (by simpa using ho)
  simp only[List.length_nil,Nat.zero_add] at this;rw[this] at hi;obtain⟨e,he,hb,hie⟩:=bitsOf_bit hi;have hl:=hp e he hb
  rcases hie with rfl|hie
  ·exact hl
  ·by_cases hlt:e.on<j
   ·rw[if_pos hlt] at hie;have hjs:=(Array.getElem?_eq_some_iff.1 ho).1
    have ho':ops[e.on]?=some (ops[e.on]'(by omega)):=Array.getElem?_eq_getElem _
    exact ih e.on hlt _ ho' (hc _ _ ho' hl) i hie
   ·rw[if_neg hlt] at hie;simp at hie
theorem drawOk_edges {P:Program}(h:drawOk P ops=true){j:Nat}{o:Oper}(ho:ops[j]?=some o):∀e∈o.after,Region.binds .any e=true→e.on<j:=by
 intro e he hb;unfold drawOk at h;simp only[Bool.and_eq_true] at h
 have:=List.all_eq_true.1 h.1 (o,j) (by rw[List.mem_zipIdx_iff_getElem?];simpa using ho)
 simp only[Bool.and_eq_true,List.all_eq_true] at this
 have:=this.2 e (by simpa using he)
 rw[hb] at this;simp only[Bool.not_true,Bool.false_or] at this;exact Nat.le_of_ble_eq_true this
theorem drawOk_pair {P:Program}(h:drawOk P ops=true){i j:Nat}{x y:Oper}(hx:ops[i]?=some x)(hy:ops[j]?=some y)(hij:i<j):
  ((befs ops.toList []).getD j 0).testBit i=true∨(x.apart ops y=true∧(calm P x.op y.op||lsP ops.toList x y||lsP ops.toList y x||twoP ops x y)=true):=by
 unfold drawOk at h;simp only[Bool.and_eq_true] at h
 have h1:=List.all_eq_true.1 h.2 (y,j) (by rw[List.mem_zipIdx_iff_getElem?];simpa using hy)
 have h2:=List.all_eq_true.1 h1 (x,i) (by rw[List.mem_zipIdx_iff_getElem?];simpa using hx)
 have hb:Nat.blt i j=true:=Nat.ble_eq_true_of_le hij;simpa[hb] using h2
def rest (ops:Array Oper)(listed:Array Bool):List Nat:=(List.range ops.size).filter fun i=>!listed.getD i true
theorem mem_rest {listed:Array Bool}{i:Nat}:i∈rest ops listed↔i<ops.size∧listed.getD i true=false:=by
 simp[rest]
theorem rest_sorted (listed:Array Bool):(rest ops listed).Pairwise (·<·):=List.Pairwise.filter _ List.pairwise_lt_range
theorem rest_set {listed:Array Bool}{i:Nat}(hs:listed.size=ops.size){s t:List Nat}(h:rest ops listed=s++i::t):rest ops (listed.setIfInBounds i true)=s++t:=by
 have hsort:=rest_sorted (ops:=ops) listed;rw[h] at hsort
 have e1:rest ops (listed.setIfInBounds i true)=(rest ops listed).filter fun j=>j !=i:=by
  unfold rest;rw[List.filter_filter]
  refine List.filter_congr fun j hj=> ?_
  have hj':j<listed.size:=by rw[hs];simpa using hj
  by_cases hji:j=i
  ·subst hji;simp[hj']
  ·simp[hji,Ne.symm hji,hj']
 rw[e1,h,List.filter_append,List.filter_cons];simp only[bne_self_eq_false,Bool.false_eq_true,if_false];rw[List.pairwise_append,List.pairwise_cons] at hsort
 have es:s.filter (fun j=>j !=i)=s:=List.filter_eq_self.2 fun j hj=>by
  have:=hsort.2.2 j hj i (by simp)
  simp;omega
 have et:t.filter (fun j=>j !=i)=t:=List.filter_eq_self.2 fun j hj=>by
  have:=hsort.2.1.1 j hj;simp;omega
 rw[es,et]
theorem FrsOk.eq {E:Env}{F F':Fr}{a:Act}(he:FrEq F F')(h:FrsOk E F a):FrsOk E F' a:=⟨fun s=>by rw[←he s];exact h.1 s,by rw[←he dS];exact h.2⟩
theorem sel_range (ops:Array Oper):∀n,n≤ops.size→sel ops (List.range n)=ops.toList.take n
 |0,_=>rfl
 |n+1,h=>by
  have hn:ops[n]?=some (ops[n]'h):=Array.getElem?_eq_getElem _
  have hl:ops.toList[n]?=some (ops[n]'h):=by simpa using hn
  have ih:=sel_range ops n (by omega)
  unfold sel at ih⊢;rw[List.range_succ,List.filterMap_append,ih,List.take_add_one,hl];simp[hn]
variable {C:Cfg}{I:World→Prop}{B0:Nat}
noncomputable def execIdx(C:Cfg)(cl:Bool→FuncId→List AV→Hp→Except (List Nat) (AV×Hp))(ops:Array Oper):List Nat→Fr→Hp→Except (List Nat) (Fr×Hp)
 |[],F,h=>.ok (F,h)
 |i::l,F,h=>match ops[i]? with
  |none=>execIdx C cl ops l F h
  |some o=>match stepOp C (cl (drawI C ops true i)) ops (drawI C ops true i) o F h with
   |.ok (e,h')=>match midOk C ops true i F h h' with
    |true=>execIdx C cl ops l (putF F (dstW (drawI C ops true i) o) e) h'
    |false=>.error []
   |.error x=>.error x
variable {cl:Bool→FuncId→List AV→Hp→Except (List Nat) (AV×Hp)}
theorem midOk_congr {draw:Bool}{i:Nat}{F F':Fr}{h h':Hp}(he:FrEq F F'):midOk C ops draw i F h h'=midOk C ops draw i F' h h':=by
 have:keptB F h h'=keptB F' h h':=funext fun p=>by unfold keptB;rw[he p]
 unfold midOk;rw[this]
theorem execIdx_cons {i:Nat}{l:List Nat}{o:Oper}(ho:ops[i]?=some o){F G:Fr}{h h':Hp}:execIdx C cl ops (i::l) F h=.ok (G,h')↔
  ∃e h1,stepOp C (cl (drawI C ops true i)) ops (drawI C ops true i) o F h=.ok (e,h1)∧midOk C ops true i F h h1=true∧execIdx C cl ops l (putF F (dstW (drawI C ops true i) o) e) h1=.ok (G,h'):=by
 simp only[execIdx,ho]
 cases hs:stepOp C (cl (drawI C ops true i)) ops (drawI C ops true i) o F h with
 |error x=>simp
 |ok r=>
  obtain⟨e,h1⟩:=r;simp only[Except.ok.injEq,Prod.mk.injEq]
  cases hm:midOk C ops true i F h h1 with
  |true=>
   simp only;constructor
   ·intro hx;exact⟨e,h1,⟨rfl,rfl⟩,hm,hx⟩
   ·rintro⟨_,_,⟨rfl,rfl⟩,_,hx⟩;exact hx
  |false=>
   constructor
   ·intro hx;cases hx
   ·rintro⟨_,_,⟨rfl,rfl⟩,hx,_⟩;rw[hm] at hx;cases hx
theorem execIdx_append :∀{s t:List Nat} {F G:Fr} {h h':Hp},execIdx C cl ops (s++t) F h=.ok (G,h')↔∃F1 h1,execIdx C cl ops s F h=.ok (F1,h1)∧execIdx C cl ops t F1 h1=.ok (G,h')
 |[],t,F,G,h,h'=>by
  constructor
  ·intro hx;exact⟨F,h,rfl,hx⟩
  ·rintro⟨F1,h1,hx,hy⟩
   simp only[execIdx,Except.ok.injEq,Prod.mk.injEq] at hx;obtain⟨rfl,rfl⟩:=hx;exact hy
 |i::s,t,F,G,h,h'=>by
  rw[List.cons_append]
  cases ho:ops[i]? with
  |none=>
   have:=execIdx_append (s:=s) (t:=t) (F:=F) (G:=G) (h:=h) (h':=h');simpa only[execIdx,ho] using this
  |some o=>
   rw[execIdx_cons ho];constructor
   ·rintro⟨e,h1,k1,k2,k3⟩
    obtain⟨F1,h2,q1,q2⟩:=execIdx_append.1 k3;exact⟨F1,h2,(execIdx_cons ho).2 ⟨e,h1,k1,k2,q1⟩,q2⟩
   ·rintro⟨F1,h2,q1,q2⟩
    obtain⟨e,h1,k1,k2,k3⟩:=(execIdx_cons ho).1 q1;exact⟨e,h1,k1,k2,execIdx_append.2 ⟨F1,h2,k3,q2⟩⟩
theorem execIdx_congr :∀(l:List Nat) {F F' G:Fr} {h h':Hp},FrEq F F'→execIdx C cl ops l F h=.ok (G,h')→∃G',execIdx C cl ops l F' h=.ok (G',h')∧FrEq G G'
 |[],F,F',G,h,h',he,hx=>by
  simp only[execIdx,Except.ok.injEq,Prod.mk.injEq] at hx⊢;obtain⟨rfl,rfl⟩:=hx;exact⟨F',⟨rfl,rfl⟩,he⟩
 |i::l,F,F',G,h,h',he,hx=>by
  cases ho:ops[i]? with
  |none=>simp only[execIdx,ho] at hx⊢;exact execIdx_congr l he hx
  |some o=>
   obtain⟨e,h1,k1,k2,k3⟩:=(execIdx_cons ho).1 hx;obtain⟨G',q1,q2⟩:=execIdx_congr l (he.put _ _) k3;refine⟨G',(execIdx_cons ho).2 ⟨e,h1,?_,?_,q1⟩,q2⟩
   ·rw[←stepOp_congr (F:=F) (F':=F') o (fun t _=>he t) (.inr (he dS)) (.inr fun d _=>he d)];exact k1
   ·rw[←midOk_congr he];exact k2
theorem midOk_nomid {i:Nat}(hm:midO C ops i=false){F:Fr}{h h':Hp}:midOk C ops true i F h h'=true:=by
 unfold midOk;rw[hm];rfl
theorem drawI_nomid {i:Nat}(hm:midO C ops i=false):drawI C ops true i=true:=by unfold drawI;rw[hm];rfl
theorem drawI_mid {i:Nat}(hm:midO C ops i=true):drawI C ops true i=false:=by unfold drawI;rw[hm];rfl
theorem execIdx_nomid :∀(s:List Nat) {F G:Fr} {h h':Hp},(∀k∈s,midO C ops k=false)→(execIdx C cl ops s F h=.ok (G,h')↔execOps C (cl true) ops true (sel ops s) F h=.ok (G,h'))
 |[],F,G,h,h',_=>by simp[execIdx,sel,execOps]
 |i::s,F,G,h,h',hs=>by
  cases ho:ops[i]? with
  |none=>
   have e:sel ops (i::s)=sel ops s:=by simp[sel,ho]
   rw[e];simp only[execIdx,ho]
   exact execIdx_nomid s fun k hk=>hs k (by simp[hk])
  |some o=>
   have e:sel ops (i::s)=o::sel ops s:=by simp[sel,ho]
   rw[e,execIdx_cons ho,drawI_nomid (hs i (by simp))]
   simp only[execOps,dstW];constructor
   ·rintro⟨e,h1,k1,_,k3⟩
    rw[k1]
    exact(execIdx_nomid s fun k hk=>hs k (by simp[hk])).1 k3
   ·intro hx
    cases hst:stepOp C (cl true) ops true o F h with
    |error x=>rw[hst] at hx;cases hx
    |ok r=>
     obtain⟨e,h1⟩:=r;rw[hst] at hx
     exact⟨e,h1,rfl,midOk_nomid (hs i (by simp)),(execIdx_nomid s fun k hk=>hs k (by simp[hk])).2 hx⟩
theorem hcall_spec {o:Oper}(h:hcallO C o=true):(∃c,o.op=.call c∧∃x,c.callee=.value x)∧o.guard=none∧isDef o=false:=by
 unfold hcallO at h;split at h
 ·rename_i k args ts hop hg
  exact⟨⟨_,hop,_,rfl⟩,hg,by simp[isDef,hop]⟩
 ·cases h
theorem mid_spec {m:Nat}(hm:midO C ops m=true):∃o,ops[m]?=some o∧hcallO C o=true∧(∀i,i<m→boundB ops i m=true∨floatB C ops m i=true)∧∀j,m<j→j<ops.size→boundB ops m j=true:=by
 unfold midO at hm
 cases ho:ops[m]? with
 |none=>rw[ho] at hm;cases hm
 |some o=>
  rw[ho] at hm;simp only[Bool.and_eq_true] at hm
  refine⟨o,rfl,hm.1.1,fun i hi=> ?_,fun j hj hjs=> ?_⟩
  ·have:=List.all_eq_true.1 hm.1.2 i (by simpa using hi)
   simpa using this
  ·have:=List.all_eq_true.1 hm.2 j (by simpa using hjs)
   have hb:Nat.blt m j=true:=Nat.ble_eq_true_of_le hj;simpa[hb] using this
theorem midOk_spec {m:Nat}(hm:midO C ops m=true){F:Fr}{h h':Hp}(hk:midOk C ops true m F h h'=true):∀k,k<m→∀p∈floatS ops m k,keptB F h h' p:=by
 intro k hkm p hp
 have hmem:p∈floatL ops m:=List.mem_flatten.2 ⟨floatS ops m k,List.mem_map.2 ⟨k,by simpa using hkm,rfl⟩,hp⟩
 unfold midOk at hk;rw[hm] at hk;simp only[Bool.and_self] at hk;split at hk
 ·rename_i hnil;rw[hnil] at hmem;cases hmem
 ·exact(@of_decide_eq_true _ (Classical.propDecidable _) hk) p hmem
theorem float_quiet (hbl:Blind (cl true)){m:Nat}:∀(s:List Nat) {F F1:Fr} {h h1:Hp},(∀k∈s,floatB C ops m k=true)→
  execOps C (cl true) ops true (sel ops s) F h=.ok (F1,h1)→h1=h∧∀t,(∀k∈s,∀o,ops[k]?=some o→o.dst≠some t)→lk F1 t=lk F t
 |[],F,F1,h,h1,_,hx=>by
  simp only[sel,List.filterMap_nil,execOps,Except.ok.injEq,Prod.mk.injEq] at hx⊢;obtain⟨rfl,rfl⟩:=hx
  exact⟨rfl,fun _ _=>rfl⟩
 |k::s,F,F1,h,h1,hfl,hx=>by
  have hfb:=hfl k (by simp)
  cases ho:ops[k]? with
  |none=>unfold floatB at hfb;rw[ho] at hfb;cases hfb
  |some o=>
   have es:sel ops (k::s)=o::sel ops s:=by simp[sel,ho]
   rw[es] at hx;simp only[execOps,dstW] at hx
   cases hst:stepOp C (cl true) ops true o F h with
   |error x=>rw[hst] at hx;cases hx
   |ok r=>
    obtain⟨e1,h'⟩:=r;rw[hst] at hx;simp only at hx
    have hq:h'=h:=by
     unfold floatB at hfb;rw[ho] at hfb;simp only[Bool.or_eq_true,Bool.not_eq_true'] at hfb
     rcases hfb with hfb|hfb
     ·exact(stepOp_blind hbl o hfb hst).1
     ·split at hfb
      ·rename_i t p hop hg;exact(load_step hop hg hst).1
      ·cases hfb
    subst hq
    obtain⟨r1,r2⟩:=float_quiet hbl s (fun k' hk'=>hfl k' (by simp[hk'])) hx
    exact⟨r1,fun t ht=>by rw[r2 t fun k' hk'=>ht k' (by simp[hk']),lk_put_ne (ht k (by simp) o ho)]⟩
theorem float_run (hbl:Blind (cl true)){m:Nat}{d:Option Nat}{e:Bool×AV}{h2:Hp}:∀(s:List Nat) {F F1:Fr} {h h1:Hp},s.Pairwise (·<·)→
  (∀k∈s,k<m∧boundB ops k m=false∧floatB C ops m k=true∧∀o,ops[k]?=some o→∀x,d=some x→x∉o.looksAt ops∧o.dst≠some x)→
  execOps C (cl true) ops true (sel ops s) F h=.ok (F1,h1)→(∀k∈s,∀p∈floatS ops m k,keptB F1 h1 h2 p)→
  ∃G1,execOps C (cl true) ops true (sel ops s) (putF F d e) h2=.ok (G1,h2)∧FrEq G1 (putF F1 d e)
 |[],F,F1,h,h1,_,_,hx,_=>by
  simp only[sel,List.filterMap_nil,execOps,Except.ok.injEq,Prod.mk.injEq] at hx⊢;obtain⟨rfl,rfl⟩:=hx;exact⟨_,⟨rfl,trivial⟩,FrEq.refl _⟩
 |k::s,F,F1,h,h1,hsort,hfl,hx,hk=>by
  rw[List.pairwise_cons] at hsort
  obtain⟨hkm,hbd,hfb,hap⟩:=hfl k (by simp)
  obtain⟨q1,_⟩:=float_quiet hbl (k::s) (fun k' hk'=>(hfl k' hk').2.2.1) hx
  subst q1
  cases ho:ops[k]? with
  |none=>unfold floatB at hfb;rw[ho] at hfb;cases hfb
  |some o=>
   have es:sel ops (k::s)=o::sel ops s:=by simp[sel,ho]
   rw[es] at hx⊢;simp only[execOps,dstW] at hx⊢
   cases hst:stepOp C (cl true) ops true o F h1 with
   |error x=>rw[hst] at hx;cases hx
   |ok r=>
    obtain⟨e1,h'⟩:=r;rw[hst] at hx;simp only at hx
    obtain⟨r1,r2⟩:=float_quiet hbl s (fun k' hk'=>(hfl k' (by simp[hk'])).2.2.1) hx
    subst r1
    obtain⟨G1,r3,r4⟩:=float_run hbl s hsort.2 (fun k' hk'=>hfl k' (by simp[hk'])) hx (fun k' hk'=>hk k' (by simp[hk']))
    have hstep2:stepOp C (cl true) ops true o F h2=.ok (e1,h2):=by
     unfold floatB at hfb;rw[ho] at hfb;simp only[Bool.or_eq_true,Bool.not_eq_true'] at hfb
     rcases hfb with hfb|hfb
     ·exact(stepOp_blind hbl o hfb hst).2 h2
     ·split at hfb
      ·rename_i t p hop hg
       rcases(load_step hop hg hst).2 with hall|⟨b,ob,hl,hall⟩
       ·exact hall h2
       ·have hstay:∀j,k≤j→j<m→∀oj,ops[j]?=some oj→oj.dst≠some p:=by
         intro j hkj hjm oj hoj hd
         have h3:=List.all_eq_true.1 hfb j (by simpa using hjm)
         have hb:Nat.ble k j=true:=Nat.ble_eq_true_of_le hkj;unfold dstIs turnsB at h3;rw[hoj] at h3;simp only at h3;rw[hd] at h3;simp[hb,Nat.beq_refl] at h3
        have hl1:lk F1 p=lk F p:=by
         rw[r2 p fun k' hk' o' ho'=>hstay k' (Nat.le_of_lt (hsort.1 k' hk')) (hfl k' (by simp[hk'])).1 o' ho',lk_put_ne (hstay k (Nat.le_refl _) hkm o ho)]
        have hkp:=hk k (by simp) p (by
         unfold floatS;rw[hbd,ho];simp only[hop]
         exact List.mem_singleton.2 rfl)
        unfold keptB at hkp;rw[hl1,hl] at hkp;exact hall h2 hkp.symm
      ·cases hfb
    have hstep3:stepOp C (cl true) ops true o (putF F d e) h2=.ok (e1,h2):=by
     rw[←hstep2]
     exact stepOp_congr o (fun t ht=>lk_put_ne fun hd=>(hap o ho t hd).1 ht) (.inl rfl) (.inr fun d' hd'=>lk_put_ne fun hd=>(hap o ho d' hd).2 (alDst_dst hd'))
    rw[hstep3];simp only
    have hcm:FrEq (putF (putF F o.dst e1) d e) (putF (putF F d e) o.dst e1):=put_comm fun x hx hd=>(hap o ho x hd).2 hx
    obtain⟨G2,q1,q2⟩:=execOps_congr _ hcm r3
    exact⟨G2,q1,(fun n=>(q2 n).symm.trans (r4 n))⟩
theorem idx_pull (hbl:Blind (cl true))(hd:drawOk C.P ops=true)(hdS:∀o∈ops.toList,o.dst≠some dS){i:Nat}{o:Oper}(ho:ops[i]?=some o){s t:List Nat}(hsort:s.Pairwise (·<·))(hsi:∀k∈s,k<i)
  (hub:∀k∈s,boundB ops k i=false) (hsz:i<ops.size) {F G:Fr} {h h':Hp} (hLs:LsF ops.toList F) (hx:execIdx C cl ops (s++i::t) F h=.ok (G,h')):
  ∃e h1,stepOp C (cl (drawI C ops true i)) ops (drawI C ops true i) o F h=.ok (e,h1)∧∃G',execIdx C cl ops (s++t) (putF F (dstW (drawI C ops true i) o) e) h1=.ok (G',h')∧FrEq G G':=by
 have hnm:∀k∈s,midO C ops k=false:=by
  intro k hk
  cases hm:midO C ops k with
  |false=>rfl
  |true=>
   obtain⟨_,_,_,_,h4⟩:=mid_spec hm;have:=h4 i (hsi k hk) hsz;rw[hub k hk] at this;cases this
 have hom:o∈ops.toList:=by simpa using Array.mem_of_getElem? ho
 have hpair:∀k∈s,∀x,ops[k]?=some x→x.apart ops o=true∧(calm C.P x.op o.op||lsP ops.toList x o||lsP ops.toList o x||twoP ops x o)=true:=by
  intro k hk x hkx
  rcases drawOk_pair hd hkx ho (hsi k hk) with hb|hap
  ·have:=hub k hk;unfold boundB at this;rw[hb] at this;cases this
  ·exact hap
 obtain⟨F1,h1,hx1,hx2⟩:=execIdx_append.1 hx;rw[execIdx_nomid s hnm] at hx1;obtain⟨e,h2,k1,k2,k3⟩:=(execIdx_cons ho).1 hx2
 cases hmi:midO C ops i with
 |false=>
  rw[drawI_nomid hmi] at k1 k3⊢
  have hapart:∀x∈sel ops s,x∈ops.toList∧x.apart ops o=true∧(calm C.P x.op o.op||lsP ops.toList x o||lsP ops.toList o x||twoP ops x o)=true:=by
   intro x hxm;obtain⟨k,hk,hkx⟩:=List.mem_filterMap.1 hxm
   exact⟨by simpa using Array.mem_of_getElem? hkx,hpair k hk x hkx⟩
  have hrun:execOps C (cl true) ops true (sel ops s++o::[]) F h=.ok (putF F1 o.dst e,h2):=by
   have app:∀(l:List Oper) {F:Fr} {h:Hp},execOps C (cl true) ops true l F h=.ok (F1,h1)→execOps C (cl true) ops true (l++[o]) F h=.ok (putF F1 o.dst e,h2):=by
    intro l
    induction l with
    |nil=>
     intro F h hx;simp only[execOps,Except.ok.injEq,Prod.mk.injEq] at hx;obtain⟨rfl,rfl⟩:=hx;simp only[List.nil_append,execOps,dstW,k1]
    |cons x l ih=>
     intro F h hx;simp only[List.cons_append,execOps] at hx⊢
     cases hst:stepOp C (cl true) ops true x F h with
     |error y=>rw[hst] at hx;cases hx
     |ok r=>rw[hst] at hx;exact ih hx
   exact app _ hx1
  obtain⟨G1,q1,q2⟩:=pull hbl hom (sel ops s) hLs hapart hrun;simp only[List.append_nil,execOps,dstW] at q1
  cases hst:stepOp C (cl true) ops true o F h with
  |error y=>rw[hst] at q1;cases q1
  |ok r=>
   obtain⟨e',h3⟩:=r;rw[hst] at q1;simp only at q1;obtain⟨G2,p1,p2⟩:=execIdx_congr t q2 k3;exact⟨e',h3,rfl,G2,execIdx_append.2 ⟨G1,h2,(execIdx_nomid s hnm).2 q1,p1⟩,p2⟩
 |true=>
  obtain⟨om,hom',hcl,hfl,_⟩:=mid_spec hmi;rw[ho] at hom'
  injection hom' with hom'
  subst hom';obtain⟨_,_,hdf⟩:=hcall_spec hcl;rw[drawI_mid hmi] at k1 k3⊢
  have hdw:dstW false o=o.dst:=by simp[dstW,hdf]
  rw[hdw] at k3⊢
  have hfs:∀k∈s,k<i∧boundB ops k i=false∧floatB C ops i k=true∧∀x,ops[k]?=some x→∀y,o.dst=some y→y∉x.looksAt ops∧x.dst≠some y:=by
   intro k hk
   refine⟨hsi k hk,hub k hk,(hfl k (hsi k hk)).resolve_left (by rw[hub k hk];simp),fun x hkx y hy=> ?_⟩
   obtain⟨a1,a2,a3⟩:=Oper.apart_spec (hpair k hk x hkx).1
   exact⟨a3 y hy,fun hxy=>a2 y hxy hy⟩
  obtain⟨G1,r3,r4⟩:=float_run (e:=e) (h2:=h2) hbl s hsort hfs hx1 (fun k hk=>midOk_spec hmi k2 k (hsi k hk))
  obtain⟨r1,r2⟩:=float_quiet hbl s (fun k hk=>(hfs k hk).2.2.1) hx1
  subst r1
  have hsame:∀u,u∈o.looksAt ops→lk F1 u=lk F u:=fun u hu=>r2 u fun k hk x hkx hxd=>(Oper.apart_spec (hpair k hk x hkx).1).1 u hxd hu
  have hst:stepOp C (cl false) ops false o F h1=.ok (e,h2):=by
   rw[←k1]
   exact(stepOp_congr o hsame (.inr (r2 dS fun k hk x hkx=>hdS x (by simpa using Array.mem_of_getElem? hkx))) (.inl rfl)).symm
  obtain⟨G2,p1,p2⟩:=execIdx_congr t (fun n=>(r4 n).symm) k3
  exact⟨e,h2,hst,G2,execIdx_append.2 ⟨G1,h2,(execIdx_nomid s hnm).2 r3,p1⟩,p2⟩
theorem LsF.put_call {os:List Oper}{F:Fr}(h:LsF os F){z:Oper}(hz:z∈os){c:Call}(hop:z.op=.call c)(e:Bool×AV):LsF os (putF F z.dst e):=by
 refine⟨fun x hx y hy hp=> ?_,fun hst t r hr g b o hl=> ?_⟩
 ·have h1:=h.1 x hx y hy hp;obtain⟨t,p,t',q,v,r,r',k1,k2,_,_,k5,k6⟩:=lsP_spec hp;unfold lsD at h1⊢;rw[k1,k2] at h1⊢;simp only[k5,k6] at h1⊢;rw[lk_put_ne (stabT_ne (rootT_stab k5) hz),lk_put_ne (stabT_ne (rootT_stab k6) hz)];exact h1
 ·have hrs:=rootT_stab hr;rw[lk_put_ne (stabT_ne hrs hz)]
  by_cases hd:z.dst=some t
  ·cases hs:stabT os t with
   |true=>exact absurd hd (stabT_ne hs hz)
   |false=>
    have hr2:=hr;unfold rootN rootT at hr2;rw[hs] at hr2;simp only at hr2;split at hr2
    ·rename_i x hx;obtain⟨_,hop'⟩:=srcOf_spec hx hz hd
     rcases hop' with h1|h1|⟨_,_,h1⟩<;>rw[hop] at h1<;>cases h1
    ·cases hr2
  ·rw[lk_put_ne hd] at hl;exact h.2 hst t r hr g b o hl
theorem ready_split {listed:Array Bool}(hs:listed.size=ops.size)(hc:Closed ops listed){i:Nat}(hi:i∈Region.ready .any ops listed){s t:List Nat}(hst:rest ops listed=s++i::t):
  ∃o,ops[i]?=some o∧i<ops.size∧s.Pairwise (·<·)∧(∀k∈s,k<i)∧(∀k∈s,boundB ops k i=false)∧Closed ops (listed.setIfInBounds i true)∧rest ops (listed.setIfInBounds i true)=s++t∧
   ∀k∈rest ops listed,boundB ops k i=false:=by
 obtain⟨hi2,o,ho,hpred⟩:=mem_ready.1 hi;have hisz:=(Array.getElem?_eq_some_iff.1 ho).1;have hsort:=rest_sorted (ops:=ops) listed;rw[hst,List.pairwise_append] at hsort
 have hub:∀k∈rest ops listed,boundB ops k i=false:=by
  intro k hk
  cases hb:boundB ops k i with
  |false=>rfl
  |true=>
   have hlk:=closed_bit hc i o ho hpred k hb;have hk2:=mem_rest.1 hk
   have:k<listed.size:=by omega
   simp[Array.getD,this] at hlk hk2;rw[hlk] at hk2
   exact absurd hk2.2 (by simp)
 refine⟨o,ho,hisz,hsort.1,fun k hk=>hsort.2.2 k hk i (by simp),fun k hk=>hub k (by rw[hst];simp[hk]),?_,rest_set hs hst,hub⟩
 intro j oj hj hlj e' he' hb'
 by_cases hji:i=j
 ·subst hji;rw[ho] at hj
  injection hj with hj
  subst hj;exact getD_set_true (hpred e' he' hb')
 ·rw[getD_set_ne false hji] at hlj;exact getD_set_true (hc j oj hj hlj e' he' hb')
theorem ready_some (hed:∀(j:Nat) o,ops[j]?=some o→∀e∈o.after,Region.binds .any e=true→e.on<j){listed:Array Bool}(hs:listed.size=ops.size)(hr:rest ops listed≠[]):Region.ready .any ops listed≠[]:=by
 intro hrd
 cases hr':rest ops listed with
 |nil=>exact hr hr'
 |cons i t=>
  have hi:i∈rest ops listed:=by rw[hr'];simp
  obtain⟨hi1,hi2⟩:=mem_rest.1 hi;have ho:ops[i]?=some (ops[i]'hi1):=Array.getElem?_eq_getElem _
  have:i∈Region.ready .any ops listed:=mem_ready.2 ⟨hi2,_,ho,fun e he hb=>by
   have hlt:=hed _ _ ho e he hb
   cases hle:listed.getD e.on true with
   |true=>
    have:e.on<listed.size:=by omega
    simpa[Array.getD,this] using hle
   |false=>
    have hm:e.on∈rest ops listed:=mem_rest.2 ⟨by omega,hle⟩
    have hsort:=rest_sorted (ops:=ops) listed;rw[hr'] at hm hsort
    rcases List.mem_cons.1 hm with rfl|hm
    ·omega
    ·have:=(List.pairwise_cons.1 hsort).1 _ hm
     omega⟩
  rw[hrd] at this;cases this
theorem ready_rest {listed:Array Bool}{i:Nat}(hi:i∈Region.ready .any ops listed):i∈rest ops listed:=by
 rw[mem_ready] at hi;obtain⟨h1,o,h2,_⟩:=hi;exact mem_rest.2 ⟨(Array.getElem?_eq_some_iff.1 h2).1,h1⟩
theorem ready_step (hI:∀w w',I w→Below B0 w w'→I w')(hcl:∀d,ClOk C I B0 (cl d)){n:Nat}(hds:(ops.toList.all fun o=>dstOk n o.dst)=true){i:Nat}{o:Oper}(ho:ops[i]?=some o){F:Fr}{e:Bool×AV}{h1:Hp}{E:Env}{a:Act}{Q:Exit→Act→World→Prop}
  {K:Act→World→Prop} (hLs:LsF ops.toList F) (hst:stepOp C (cl (drawI C ops true i)) ops (drawI C ops true i) o F E.h=.ok (e,h1)) (H:Good C.G I B0 E) (hf:FrsOk E F a) (hn:n≤a.tmps.size)
  (hK:∀E' a',Step C.G I B0 E E'→E'.h=h1→FrsOk E' (putF F (dstW (drawI C ops true i) o) e) a'→LsF ops.toList (putF F (dstW (drawI C ops true i) o) e)→a'.tmps.size=a.tmps.size→a'.defers=a.defers→K a' E'.w):wpOp C.P ops Q i K a E.w:=by
 have hdst:dstOk n o.dst=true:=List.all_eq_true.1 hds _ (by simpa using Array.mem_of_getElem? ho)
 have hom:o∈ops.toList:=by simpa using Array.mem_of_getElem? ho
 refine stepOp_ok hI (hcl _) ho hdst hst H hf hn fun E' a' S hE' hf' hsz hdf=>hK E' a' S hE' hf' ?_ hsz (hdf.resolve_left ?_)
 ·cases hm:midO C ops i with
  |false=>
   rw[drawI_nomid hm] at hst⊢;exact hLs.put hom hst
  |true=>
   obtain⟨om,hom',hcl',_⟩:=mid_spec hm;rw[ho] at hom'
   injection hom' with hom'
   subst hom';obtain⟨⟨c,hop,_⟩,_,hdf⟩:=hcall_spec hcl';rw[drawI_mid hm]
   have:dstW false o=o.dst:=by simp[dstW,hdf]
   rw[this];exact hLs.put_call hom hop e
 ·cases hm:midO C ops i with
  |false=>rw[drawI_nomid hm];simp
  |true=>
   obtain⟨om,hom',hcl',_⟩:=mid_spec hm;rw[ho] at hom'
   injection hom' with hom'
   subst hom';obtain⟨_,_,hdf⟩:=hcall_spec hcl';rw[hdf];simp
theorem dst_dS {n:Nat}(hds:(ops.toList.all fun o=>dstOk n o.dst)=true):∀o∈ops.toList,o.dst≠some dS:=by
 intro o ho hd;have:=List.all_eq_true.1 hds o ho;rw[hd] at this;simp[dstOk,Nat.beq_refl] at this
theorem any_ok (hI:∀w w',I w→Below B0 w w'→I w')(hcl:∀d,ClOk C I B0 (cl d))(hbl:Blind (cl true))(hd:drawOk C.P ops=true)
  {n:Nat} (hds:(ops.toList.all fun o=>dstOk n o.dst)=true) {Q:Exit→Act→World→Prop}:
  ∀(fuel:Nat) (listed:Array Bool) (F:Fr) (G:Fr) (h':Hp) (E:Env) (a:Act),listed.size=ops.size→Closed ops listed→(rest ops listed).length=fuel→
   LsF ops.toList F→execIdx C cl ops (rest ops listed) F E.h=.ok (G,h')→Good C.G I B0 E→FrsOk E F a→n≤a.tmps.size→
   (∀E' a',Step C.G I B0 E E'→E'.h=h'→FrsOk E' G a'→a'.tmps.size=a.tmps.size→a'.defers=a.defers→Q .normal a' E'.w)→wpAny C.P .any ops Q fuel listed a E.w:=by
 intro fuel
 induction fuel with
 |zero=>
  intro listed F G h' E a hs hc hl hLs hx H hf hn hQ;have hr:rest ops listed=[]:=List.eq_nil_of_length_eq_zero hl;rw[hr] at hx;simp only[execIdx,Except.ok.injEq,Prod.mk.injEq] at hx;obtain⟨rfl,rfl⟩:=hx;refine⟨?_,hQ E a (Step.refl H) rfl hf rfl rfl⟩
  cases hrd:Region.ready .any ops listed with
  |nil=>rfl
  |cons i l=>
   have:i∈rest ops listed:=ready_rest (by rw[hrd];simp)
   rw[hr] at this;cases this
 |succ fuel ih=>
  intro listed F G h' E a hs hc hl hLs hx H hf hn hQ
  refine⟨fun hrd=>absurd hrd (ready_some (fun j o ho=>drawOk_edges hd ho) hs (by intro h;rw[h] at hl;cases hl)),fun i hi=> ?_⟩
  obtain⟨s,t,hst⟩:=List.append_of_mem (ready_rest hi);obtain⟨o,ho,hisz,hsort,hsi,hub,hc',hrs,_⟩:=ready_split hs hc hi hst;rw[hst] at hx;obtain⟨e,h1,hso,G1,hx1,he1⟩:=idx_pull hbl hd (dst_dS hds) ho hsort hsi hub hisz hLs hx
  refine ready_step hI hcl hds ho hLs hso H hf hn fun E' a' S hE' hf' hLs' hsz hdf=> ?_
  subst hE'
  refine ih _ _ G1 h' E' a' (by simpa using hs) hc' ?_ hLs' (by rw[hrs];exact hx1) S.good hf' (by rw[hsz];exact hn) fun E'' a'' S' hE'' hf'' hsz' hdf'=>
   hQ E'' a'' (S.trans S') hE'' (hf''.eq fun n=>(he1 n).symm) (hsz'.trans hsz) (hdf'.trans hdf)
  rw[hrs];rw[hst] at hl;simp at hl⊢;omega
theorem execReg_idx {ops:Array Oper}:∀(os:List Oper) (i:Nat) {F G:Fr} {h h':Hp},(∀j,os[j]?=ops[i+j]?)→execReg C cl ops true i os F h=.ok (G,h')→execIdx C cl ops (List.range' i os.length) F h=.ok (G,h')
 |[],i,F,G,h,h',_,hx=>by simpa[execReg,execIdx] using hx
 |o::os,i,F,G,h,h',hos,hx=>by
  have ho:ops[i]?=some o:=by simpa using(hos 0).symm
  rw[List.length_cons,List.range'_succ,execIdx_cons ho];simp only[execReg] at hx
  cases hst:stepOp C (cl (drawI C ops true i)) ops (drawI C ops true i) o F h with
  |error x=>rw[hst] at hx;cases hx
  |ok r=>
   obtain⟨e,h1⟩:=r;rw[hst] at hx;simp only at hx
   cases hm:midOk C ops true i F h h1 with
   |false=>rw[hm] at hx;cases hx
   |true=>
    rw[hm] at hx
    exact⟨e,h1,rfl,hm,execReg_idx os (i+1) (fun j=>by rw[show i+1+j=i+(j+1) by omega,←hos (j+1)];simp) hx⟩
theorem rest_all (ops:Array Oper):rest ops (Array.replicate ops.size false)=List.range ops.size:=by
 unfold rest
 exact List.filter_eq_self.2 fun i hi=>by
  have:i<ops.size:=by simpa using hi
  simp[Array.getD,this]
theorem closed_all (ops:Array Oper):Closed ops (Array.replicate ops.size false):=fun j o _ hlj=>by
 by_cases hj:j<ops.size<;>simp[Array.getD,hj] at hlj
theorem region_any_ok (hI:∀w w',I w→Below B0 w w'→I w')(hm:C.P.follows .mixedOrders=true)(hcl:∀d,ClOk C I B0 (cl d))(hbl:Blind (cl true))(hd:drawOk C.P ops=true)
  {n:Nat} (hds:(ops.toList.all fun o=>dstOk n o.dst)=true) {Q:Exit→Act→World→Prop} {id:Nat} {F G:Fr} {h':Hp} {E:Env} {a:Act}
  (hLs:LsF ops.toList F) (hx:execReg C cl ops true 0 ops.toList F E.h=.ok (G,h')) (H:Good C.G I B0 E) (hf:FrsOk E F a) (hn:n≤a.tmps.size)
  (hQ:∀E' a',Step C.G I B0 E E'→E'.h=h'→FrsOk E' G a'→a'.tmps.size=a.tmps.size→a'.defers=a.defers→Q .normal a' E'.w):(Code.region id ops true).wp C.P Q a E.w:=by
 refine wp_region_any hm ?_
 have hb:∀B,Below B E.w {E.w with drawn:=E.w.drawn+1}:=fun B=>⟨rfl,rfl,rfl,Nat.le_refl _,fun _ _=>rfl⟩
 have S:=step_same hI H (w':={E.w with drawn:=E.w.drawn+1}) (hb _) rfl
 have hx':=execReg_idx ops.toList 0 (fun j=>by simp) hx
 rw[←List.range_eq_range',Array.length_toList] at hx'
 exact any_ok hI hcl hbl hd hds ops.size _ F G h' {E with w:={E.w with drawn:=E.w.drawn+1}} a (by simp) (closed_all ops) (by rw[rest_all];simp) hLs
  (by rw[rest_all];exact hx') S.good (FrsOk.mono S.le hf) hn fun E' a' S'=>hQ E' a' (S.trans S')
theorem resL_dst {draw:Bool}{n:Nat}(hds:(ops.toList.all fun o=>dstOk n o.dst)=true):∀d∈resL ops draw,d≠dS:=by
 intro d hd;unfold resL at hd;split at hd
 ·cases hd
 ·split at hd
  ·cases hd
  ·obtain⟨o,ho,hod⟩:=List.mem_filterMap.1 hd
   rintro rfl
   exact dst_dS hds o ho (alDst_dst hod)
theorem res_ok (hI:∀w w',I w→Below B0 w w'→I w'):∀(l:List Nat) {E:Env} {F:Fr} {a:Act},Good C.G I B0 E→FrsOk E F a→(∀d∈l,d≠dS)→
  ∃E',Step C.G I B0 E E'∧E'.w=E.w∧E'.h=resH l E.h∧FrsOk E' (resF l E.h.length F) a
 |[],E,F,a,H,hf,_=>⟨E,Step.refl H,rfl,rfl,hf⟩
 |d::l,E,F,a,H,hf,hd=>by
  have S:=step_dead hI H;have hf1:=FrsOk.mono S.le hf
  have hne:Nat.beq d dS=false:=by
   cases h:Nat.beq d dS with
   |false=>rfl
   |true=>exact absurd (Nat.eq_of_beq_eq_true h) (hd d (by simp))
  obtain⟨E',S',h1,h2,h3⟩:=res_ok hI l (F:=(d,(lk F d).1,.dfr [.int .i64 (.ofNat E.h.length)])::F) (a:=a) S.good ⟨fun s=>by
   simp only[lk]
   cases hb:Nat.beq d s with
   |true=>
    obtain rfl:=Nat.eq_of_beq_eq_true hb
    exact⟨fun _=>trivial,(hf1.1 d).2⟩
   |false=>exact hf1.1 s,by
   simp only[lk,hne,cond_false]
   exact hf1.2⟩ (fun d hd'=>hd d (by simp[hd']))
  refine⟨E',S.trans S',h1,h2,?_⟩
  have e:(E.h++[Blk.dead]).length=E.h.length+1:=by simp
  show FrsOk E' (resF l (E.h.length+1) _) a;rw[←e];exact h3
theorem midOk_false {i:Nat}{F:Fr}{h h':Hp}:midOk C ops false i F h h'=true:=rfl
theorem execReg_plain :∀(os:List Oper) (i:Nat) (F:Fr) (h:Hp) {G:Fr} {h':Hp},execReg C cl ops false i os F h=.ok (G,h')→execOps C (cl false) ops false os F h=.ok (G,h')
 |[],i,F,h,G,h',hx=>hx
 |o::os,i,F,h,G,h',hx=>by
  have hd:drawI C ops false i=false:=rfl;simp only[execReg,hd,midOk_false] at hx;simp only[execOps]
  cases hst:stepOp C (cl false) ops false o F h with
  |error x=>rw[hst] at hx;cases hx
  |ok r=>
   rw[hst] at hx;exact execReg_plain os (i+1) _ _ hx
end
end Go.Ai
