/-
  Drawn regions: whatever order is drawn.
-/
import Derived.Test.YtopjpnhgnopbiaaGreatDoorAAiDraw
set_option linter.unusedVariables false
set_option linter.unusedSimpArgs false
set_option linter.unnecessarySimpa false
namespace Go.Ai
open Go.RowKit
theorem dQ {α:Type}(n:Nat)(k:Nat->α):ij n k=k n:=by cases n<;>rfl
theorem Zq {look:Nat->Nat}{o:Oper}{i:Nat}(h:(bitsOf look o).testBit i=true):∃e∈o.after,Region.binds .any e=true/\(i=e.on\/(look e.on).testBit i=true):=by
 have key:∀l:List Edge,(l.foldr (fun e s=>bif Region.binds .any e then Nat.lor (Nat.lor (2^e.on) (look e.on)) s else s) 0).testBit i=true->∃e∈l,Region.binds .any e=true/\(i=e.on\/(look e.on).testBit i=true):=by
  intro l
  induction l with
  |nil=>intro h;simp at h
  |cons e l ih=>
   intro h;rw[List.foldr_cons] at h
   cases hb:Region.binds .any e with
   |false=>
    rw[hb] at h;obtain⟨e',h1,h2⟩:=ih h
    exact⟨e',by simp[h1],h2⟩
   |true=>
    rw[hb] at h;simp only[cond_true] at h
    have h':((2^e.on ||| look e.on) ||| (l.foldr (fun e s=>bif Region.binds .any e then Nat.lor (Nat.lor (2^e.on) (look e.on)) s else s) 0)).testBit i=true:=h
    rw[Nat.testBit_or,Nat.testBit_or,Bool.or_eq_true,Bool.or_eq_true] at h'
    rcases h' with (h1|h1)|h1
    ·rw[Nat.testBit_two_pow] at h1
     exact⟨e,by simp,hb,.inl (of_decide_eq_true h1).symm⟩
    ·exact⟨e,by simp,hb,.inr h1⟩
    ·obtain⟨e',k1,k2⟩:=ih h1
     exact⟨e',by simp[k1],k2⟩
 obtain⟨e,h1,h2⟩:=key o.after.toList h
 exact⟨e,by simpa using h1,h2⟩
theorem Ti :∀(l:List Oper) (acc:List Nat),∃t,Mo l acc=acc++t/\∀(j:Nat) o,l[j]?=some o->(Mo l acc).getD (acc.length+j) 0=bitsOf (fun i=>if i<acc.length+j then(Mo l acc).getD i 0 else 0) o
 |[],acc=>⟨[],by simp[Mo],fun j o h=>by simp at h⟩
 |o::os,acc=>by
  have hb:Mo (o::os) acc=Mo os (acc++[bitsOf (fun i=>acc.getD i 0) o]):=by
   rw[Mo,dQ]
  obtain⟨t,ht,hs⟩:=Ti os (acc++[bitsOf (fun i=>acc.getD i 0) o])
  rw[hb]
  refine⟨_::t,by rw[ht,List.append_assoc];rfl,fun j o' hj=> ?_⟩
  cases j with
  |zero=>
   simp only[List.getElem?_cons_zero,Option.some.injEq] at hj;subst hj
   have sW:(fun i=>if i<acc.length+0 then(Mo os (acc++[bitsOf (fun i=>acc.getD i 0) o])).getD i 0 else 0)=fun i=>acc.getD i 0:=by
    funext i
    rw[ht]
    by_cases hi:i<acc.length
    ·simp[hi,List.getElem?_append_left,List.append_assoc]
    ·simp[hi,List.getElem?_eq_none (Nat.le_of_not_lt hi)]
   rw[sW,ht];simp[List.append_assoc]
  |succ j=>
   have:=hs j o' (by simpa using hj)
   simp only[List.length_append,List.length_cons,List.length_nil,Nat.zero_add] at this
   rw[show acc.length+(j+1)=acc.length+1+j by omega]
   exact this
section
variable {ops:Array Oper}
def Lj (ops:Array Oper)(listed:Array Bool):Prop:=
 ∀(j:Nat) o,ops[j]?=some o->listed.getD j false=true->∀e∈o.after,Region.binds .any e=true->listed.getD e.on false=true
theorem Zj {listed:Array Bool}(hc:Lj ops listed):∀(j:Nat) o,ops[j]?=some o->(∀e∈o.after,Region.binds .any e=true->listed.getD e.on false=true)->
  ∀i,((Mo ops.toList []).getD j 0).testBit i=true->listed.getD i false=true:=by
 intro j
 induction j using Nat.strongRecOn with
 |_ j ih=>
  intro o ho hp i hi;obtain⟨t,_,hs⟩:=Ti ops.toList []
  have:=hs j o (by simpa using ho)
  simp only[List.length_nil,Nat.zero_add] at this;rw[this] at hi;obtain⟨e,he,hb,qF⟩:=Zq hi;have hl:=hp e he hb
  rcases qF with rfl|qF
  ·exact hl
  ·by_cases BC:e.on<j
   ·rw[if_pos BC] at qF;have tv:=(Array.getElem?_eq_some_iff.1 ho).1
    have tp:ops[e.on]?=some (ops[e.on]'(by omega)):=Array.getElem?_eq_getElem _
    exact ih e.on BC _ tp (hc _ _ tp hl) i qF
   ·rw[if_neg BC] at qF;simp at qF
theorem Me {P:Program}(h:II P ops=true){j:Nat}{o:Oper}(ho:ops[j]?=some o):∀e∈o.after,Region.binds .any e=true->e.on<j:=by
 intro e he hb;unfold II at h;simp only[Bool.and_eq_true] at h
 have:=List.all_eq_true.1 h.1 (o,j) (by rw[List.mem_zipIdx_iff_getElem?];simpa using ho)
 simp only[Bool.and_eq_true,List.all_eq_true] at this
 have:=this.2 e (by simpa using he)
 rw[hb] at this;simp only[Bool.not_true,Bool.false_or] at this;exact Nat.le_of_ble_eq_true this
theorem Oh {P:Program}(h:II P ops=true){i j:Nat}{x y:Oper}(hx:ops[i]?=some x)(hy:ops[j]?=some y)(wo:i<j):
  ((Mo ops.toList []).getD j 0).testBit i=true\/(x.apart ops y=true/\(calm P x.op y.op||Xm ops.toList x y||Xm ops.toList y x||Xy ops x y)=true):=by
 unfold II at h;simp only[Bool.and_eq_true] at h
 have h1:=List.all_eq_true.1 h.2 (y,j) (by rw[List.mem_zipIdx_iff_getElem?];simpa using hy)
 have h2:=List.all_eq_true.1 h1 (x,i) (by rw[List.mem_zipIdx_iff_getElem?];simpa using hx)
 have hb:Nat.blt i j=true:=Nat.ble_eq_true_of_le wo;simpa[hb] using h2
def rest (ops:Array Oper)(listed:Array Bool):List Nat:=(List.range ops.size).filter fun i=>!listed.getD i true
theorem MH {listed:Array Bool}{i:Nat}:i∈rest ops listed↔i<ops.size/\listed.getD i true=false:=by
 simp[rest]
theorem GZ (listed:Array Bool):(rest ops listed).Pairwise (·<·):=List.Pairwise.filter _ List.pairwise_lt_range
theorem fW {listed:Array Bool}{i:Nat}(hs:listed.size=ops.size){s t:List Nat}(h:rest ops listed=s++i::t):rest ops (listed.setIfInBounds i true)=s++t:=by
 have EF:=GZ (ops:=ops) listed;rw[h] at EF
 have e1:rest ops (listed.setIfInBounds i true)=(rest ops listed).filter fun j=>j !=i:=by
  unfold rest;rw[List.filter_filter]
  refine List.filter_congr fun j hj=> ?_
  have JO:j<listed.size:=by rw[hs];simpa using hj
  by_cases qB:j=i
  ·subst qB;simp[JO]
  ·simp[qB,Ne.symm qB,JO]
 rw[e1,h,List.filter_append,List.filter_cons];simp only[bne_self_eq_false,Bool.false_eq_true,if_false];rw[List.pairwise_append,List.pairwise_cons] at EF
 have es:s.filter (fun j=>j !=i)=s:=List.filter_eq_self.2 fun j hj=>by
  have:=EF.2.2 j hj i (by simp)
  simp;omega
 have et:t.filter (fun j=>j !=i)=t:=List.filter_eq_self.2 fun j hj=>by
  have:=EF.2.1.1 j hj;simp;omega
 rw[es,et]
theorem AR.eq {E:Env}{F F':Fr}{a:Act}(he:Dw F F')(h:AR E F a):AR E F' a:=⟨fun s=>by rw[<-he s];exact h.1 s,by rw[<-he dS];exact h.2⟩
theorem NF (ops:Array Oper):∀n,n<=ops.size->H9 ops (List.range n)=ops.toList.take n
 |0,_=>rfl
 |n+1,h=>by
  have hn:ops[n]?=some (ops[n]'h):=Array.getElem?_eq_getElem _
  have hl:ops.toList[n]?=some (ops[n]'h):=by simpa using hn
  have ih:=NF ops n (by omega)
  unfold H9 at ih⊢;rw[List.range_succ,List.filterMap_append,ih,List.take_add_one,hl];simp[hn]
variable {C:Bm}{I:World->Prop}{B0:Nat}
noncomputable def Bv(C:Bm)(cl:Bool->FuncId->List AV->Hp->Except (List Nat) (AV×Hp))(ops:Array Oper):List Nat->Fr->Hp->Except (List Nat) (Fr×Hp)
 |[],F,h=>.ok (F,h)
 |i::l,F,h=>match ops[i]? with
  |none=>Bv C cl ops l F h
  |some o=>match AW C (cl (BB C ops true i)) ops (BB C ops true i) o F h with
   |.ok (e,h')=>match Ek C ops true i F h h' with
    |true=>Bv C cl ops l (Av F (DF (BB C ops true i) o) e) h'
    |false=>.error []
   |.error x=>.error x
variable {cl:Bool->FuncId->List AV->Hp->Except (List Nat) (AV×Hp)}
theorem WX {draw:Bool}{i:Nat}{F F':Fr}{h h':Hp}(he:Dw F F'):Ek C ops draw i F h h'=Ek C ops draw i F' h h':=by
 have:Kt F h h'=Kt F' h h':=funext fun p=>by unfold Kt;rw[he p]
 unfold Ek;rw[this]
theorem Cg {i:Nat}{l:List Nat}{o:Oper}(ho:ops[i]?=some o){F G:Fr}{h h':Hp}:Bv C cl ops (i::l) F h=.ok (G,h')↔
  ∃e h1,AW C (cl (BB C ops true i)) ops (BB C ops true i) o F h=.ok (e,h1)/\Ek C ops true i F h h1=true/\Bv C cl ops l (Av F (DF (BB C ops true i) o) e) h1=.ok (G,h'):=by
 simp only[Bv,ho]
 cases hs:AW C (cl (BB C ops true i)) ops (BB C ops true i) o F h with
 |error x=>simp
 |ok r=>
  obtain⟨e,h1⟩:=r;simp only[Except.ok.injEq,Prod.mk.injEq]
  cases hm:Ek C ops true i F h h1 with
  |true=>
   simp only;constructor
   ·intro hx;exact⟨e,h1,⟨rfl,rfl⟩,hm,hx⟩
   ·rintro⟨_,_,⟨rfl,rfl⟩,_,hx⟩;exact hx
  |false=>
   constructor
   ·intro hx;cases hx
   ·rintro⟨_,_,⟨rfl,rfl⟩,hx,_⟩;rw[hm] at hx;cases hx
theorem DM :∀{s t:List Nat} {F G:Fr} {h h':Hp},Bv C cl ops (s++t) F h=.ok (G,h')↔∃F1 h1,Bv C cl ops s F h=.ok (F1,h1)/\Bv C cl ops t F1 h1=.ok (G,h')
 |[],t,F,G,h,h'=>by
  constructor
  ·intro hx;exact⟨F,h,rfl,hx⟩
  ·rintro⟨F1,h1,hx,hy⟩
   simp only[Bv,Except.ok.injEq,Prod.mk.injEq] at hx;obtain⟨rfl,rfl⟩:=hx;exact hy
 |i::s,t,F,G,h,h'=>by
  rw[List.cons_append]
  cases ho:ops[i]? with
  |none=>
   have:=DM (s:=s) (t:=t) (F:=F) (G:=G) (h:=h) (h':=h');simpa only[Bv,ho] using this
  |some o=>
   rw[Cg ho];constructor
   ·rintro⟨e,h1,k1,k2,k3⟩
    obtain⟨F1,h2,q1,q2⟩:=DM.1 k3;exact⟨F1,h2,(Cg ho).2 ⟨e,h1,k1,k2,q1⟩,q2⟩
   ·rintro⟨F1,h2,q1,q2⟩
    obtain⟨e,h1,k1,k2,k3⟩:=(Cg ho).1 q1;exact⟨e,h1,k1,k2,DM.2 ⟨F1,h2,k3,q2⟩⟩
theorem GS :∀(l:List Nat) {F F' G:Fr} {h h':Hp},Dw F F'->Bv C cl ops l F h=.ok (G,h')->∃G',Bv C cl ops l F' h=.ok (G',h')/\Dw G G'
 |[],F,F',G,h,h',he,hx=>by
  simp only[Bv,Except.ok.injEq,Prod.mk.injEq] at hx⊢;obtain⟨rfl,rfl⟩:=hx;exact⟨F',⟨rfl,rfl⟩,he⟩
 |i::l,F,F',G,h,h',he,hx=>by
  cases ho:ops[i]? with
  |none=>simp only[Bv,ho] at hx⊢;exact GS l he hx
  |some o=>
   obtain⟨e,h1,k1,k2,k3⟩:=(Cg ho).1 hx;obtain⟨G',q1,q2⟩:=GS l (he.put _ _) k3;refine⟨G',(Cg ho).2 ⟨e,h1,?_,?_,q1⟩,q2⟩
   ·rw[<-Bu (F:=F) (F':=F') o (fun t _=>he t) (.inr (he dS)) (.inr fun d _=>he d)];exact k1
   ·rw[<-WX he];exact k2
theorem WV {i:Nat}(hm:HP C ops i=false){F:Fr}{h h':Hp}:Ek C ops true i F h h'=true:=by
 unfold Ek;rw[hm];rfl
theorem Gg {i:Nat}(hm:HP C ops i=false):BB C ops true i=true:=by unfold BB;rw[hm];rfl
theorem TY {i:Nat}(hm:HP C ops i=true):BB C ops true i=false:=by unfold BB;rw[hm];rfl
theorem DE :∀(s:List Nat) {F G:Fr} {h h':Hp},(∀k∈s,HP C ops k=false)->(Bv C cl ops s F h=.ok (G,h')↔BQ C (cl true) ops true (H9 ops s) F h=.ok (G,h'))
 |[],F,G,h,h',_=>by simp[Bv,H9,BQ]
 |i::s,F,G,h,h',hs=>by
  cases ho:ops[i]? with
  |none=>
   have e:H9 ops (i::s)=H9 ops s:=by simp[H9,ho]
   rw[e];simp only[Bv,ho]
   exact DE s fun k hk=>hs k (by simp[hk])
  |some o=>
   have e:H9 ops (i::s)=o::H9 ops s:=by simp[H9,ho]
   rw[e,Cg ho,Gg (hs i (by simp))]
   simp only[BQ,DF];constructor
   ·rintro⟨e,h1,k1,_,k3⟩
    rw[k1]
    exact(DE s fun k hk=>hs k (by simp[hk])).1 k3
   ·intro hx
    cases DH:AW C (cl true) ops true o F h with
    |error x=>rw[DH] at hx;cases hx
    |ok r=>
     obtain⟨e,h1⟩:=r;rw[DH] at hx
     exact⟨e,h1,rfl,WV (hs i (by simp)),(DE s fun k hk=>hs k (by simp[hk])).2 hx⟩
theorem I7 {o:Oper}(h:Np C o=true):(∃c,o.op=.call c/\∃x,c.callee=.value x)/\o.guard=none/\EE o=false:=by
 unfold Np at h;split at h
 ·rename_i k args ts Bo hg
  exact⟨⟨_,Bo,_,rfl⟩,hg,by simp[EE,Bo]⟩
 ·cases h
theorem IZ {m:Nat}(hm:HP C ops m=true):∃o,ops[m]?=some o/\Np C o=true/\(∀i,i<m->Dj ops i m=true\/JA C ops m i=true)/\∀j,m<j->j<ops.size->Dj ops m j=true:=by
 unfold HP at hm
 cases ho:ops[m]? with
 |none=>rw[ho] at hm;cases hm
 |some o=>
  rw[ho] at hm;simp only[Bool.and_eq_true] at hm
  refine⟨o,rfl,hm.1.1,fun i hi=> ?_,fun j hj tv=> ?_⟩
  ·have:=List.all_eq_true.1 hm.1.2 i (by simpa using hi)
   simpa using this
  ·have:=List.all_eq_true.1 hm.2 j (by simpa using tv)
   have hb:Nat.blt m j=true:=Nat.ble_eq_true_of_le hj;simpa[hb] using this
theorem Yl {m:Nat}(hm:HP C ops m=true){F:Fr}{h h':Hp}(hk:Ek C ops true m F h h'=true):∀k,k<m->∀p∈RO ops m k,Kt F h h' p:=by
 intro k mH p hp
 have iD:p∈ZS ops m:=List.mem_flatten.2 ⟨RO ops m k,List.mem_map.2 ⟨k,by simpa using mH,rfl⟩,hp⟩
 unfold Ek at hk;rw[hm] at hk;simp only[Bool.and_self] at hk;split at hk
 ·rename_i oT;rw[oT] at iD;cases iD
 ·exact(@of_decide_eq_true _ (Classical.propDecidable _) hk) p iD
theorem Ge (HD:Io (cl true)){m:Nat}:∀(s:List Nat) {F F1:Fr} {h h1:Hp},(∀k∈s,JA C ops m k=true)->
  BQ C (cl true) ops true (H9 ops s) F h=.ok (F1,h1)->h1=h/\∀t,(∀k∈s,∀o,ops[k]?=some o->o.dst≠some t)->lk F1 t=lk F t
 |[],F,F1,h,h1,_,hx=>by
  simp only[H9,List.filterMap_nil,BQ,Except.ok.injEq,Prod.mk.injEq] at hx⊢;obtain⟨rfl,rfl⟩:=hx
  exact⟨rfl,fun _ _=>rfl⟩
 |k::s,F,F1,h,h1,HU,hx=>by
  have OY:=HU k (by simp)
  cases ho:ops[k]? with
  |none=>unfold JA at OY;rw[ho] at OY;cases OY
  |some o=>
   have es:H9 ops (k::s)=o::H9 ops s:=by simp[H9,ho]
   rw[es] at hx;simp only[BQ,DF] at hx
   cases DH:AW C (cl true) ops true o F h with
   |error x=>rw[DH] at hx;cases hx
   |ok r=>
    obtain⟨e1,h'⟩:=r;rw[DH] at hx;simp only at hx
    have hq:h'=h:=by
     unfold JA at OY;rw[ho] at OY;simp only[Bool.or_eq_true,Bool.not_eq_true'] at OY
     rcases OY with OY|OY
     ·exact(FU HD o OY DH).1
     ·split at OY
      ·rename_i t p Bo hg;exact(KT Bo hg DH).1
      ·cases OY
    subst hq
    obtain⟨r1,r2⟩:=Ge HD s (fun k' Mt=>HU k' (by simp[Mt])) hx
    exact⟨r1,fun t ht=>by rw[r2 t fun k' Mt=>ht k' (by simp[Mt]),A9 (ht k (by simp) o ho)]⟩
theorem TQ (HD:Io (cl true)){m:Nat}{d:Option Nat}{e:Bool×AV}{h2:Hp}:∀(s:List Nat) {F F1:Fr} {h h1:Hp},s.Pairwise (·<·)->
  (∀k∈s,k<m/\Dj ops k m=false/\JA C ops m k=true/\∀o,ops[k]?=some o->∀x,d=some x->x∉o.looksAt ops/\o.dst≠some x)->
  BQ C (cl true) ops true (H9 ops s) F h=.ok (F1,h1)->(∀k∈s,∀p∈RO ops m k,Kt F1 h1 h2 p)->
  ∃G1,BQ C (cl true) ops true (H9 ops s) (Av F d e) h2=.ok (G1,h2)/\Dw G1 (Av F1 d e)
 |[],F,F1,h,h1,_,_,hx,_=>by
  simp only[H9,List.filterMap_nil,BQ,Except.ok.injEq,Prod.mk.injEq] at hx⊢;obtain⟨rfl,rfl⟩:=hx;exact⟨_,⟨rfl,trivial⟩,Dw.refl _⟩
 |k::s,F,F1,h,h1,EF,HU,hx,hk=>by
  rw[List.pairwise_cons] at EF
  obtain⟨mH,hbd,OY,Uw⟩:=HU k (by simp)
  obtain⟨q1,_⟩:=Ge HD (k::s) (fun k' Mt=>(HU k' Mt).2.2.1) hx
  subst q1
  cases ho:ops[k]? with
  |none=>unfold JA at OY;rw[ho] at OY;cases OY
  |some o=>
   have es:H9 ops (k::s)=o::H9 ops s:=by simp[H9,ho]
   rw[es] at hx⊢;simp only[BQ,DF] at hx⊢
   cases DH:AW C (cl true) ops true o F h1 with
   |error x=>rw[DH] at hx;cases hx
   |ok r=>
    obtain⟨e1,h'⟩:=r;rw[DH] at hx;simp only at hx
    obtain⟨r1,r2⟩:=Ge HD s (fun k' Mt=>(HU k' (by simp[Mt])).2.2.1) hx
    subst r1
    obtain⟨G1,r3,r4⟩:=TQ HD s EF.2 (fun k' Mt=>HU k' (by simp[Mt])) hx (fun k' Mt=>hk k' (by simp[Mt]))
    have oN:AW C (cl true) ops true o F h2=.ok (e1,h2):=by
     unfold JA at OY;rw[ho] at OY;simp only[Bool.or_eq_true,Bool.not_eq_true'] at OY
     rcases OY with OY|OY
     ·exact(FU HD o OY DH).2 h2
     ·split at OY
      ·rename_i t p Bo hg
       rcases(KT Bo hg DH).2 with CG|⟨b,ob,hl,CG⟩
       ·exact CG h2
       ·have mA:∀j,k<=j->j<m->∀oj,ops[j]?=some oj->oj.dst≠some p:=by
         intro j hkj hjm oj hoj hd
         have h3:=List.all_eq_true.1 OY j (by simpa using hjm)
         have hb:Nat.ble k j=true:=Nat.ble_eq_true_of_le hkj;unfold mS K7 at h3;rw[hoj] at h3;simp only at h3;rw[hd] at h3;simp[hb,Nat.beq_refl] at h3
        have Xo:lk F1 p=lk F p:=by
         rw[r2 p fun k' Mt o' tp=>mA k' (Nat.le_of_lt (EF.1 k' Mt)) (HU k' (by simp[Mt])).1 o' tp,A9 (mA k (Nat.le_refl _) mH o ho)]
        have wm:=hk k (by simp) p (by
         unfold RO;rw[hbd,ho];simp only[Bo]
         exact List.mem_singleton.2 rfl)
        unfold Kt at wm;rw[Xo,hl] at wm;exact CG h2 wm.symm
      ·cases OY
    have oM:AW C (cl true) ops true o (Av F d e) h2=.ok (e1,h2):=by
     rw[<-oN]
     exact Bu o (fun t ht=>A9 fun hd=>(Uw o ho t hd).1 ht) (.inl rfl) (.inr fun d' oy=>A9 fun hd=>(Uw o ho d' hd).2 (FK oy))
    rw[oM];simp only
    have PL:Dw (Av (Av F o.dst e1) d e) (Av (Av F d e) o.dst e1):=put_comm fun x hx hd=>(Uw o ho x hd).2 hx
    obtain⟨G2,q1,q2⟩:=IH _ PL r3
    exact⟨G2,q1,(fun n=>(q2 n).symm.trans (r4 n))⟩
theorem Ws (HD:Io (cl true))(hd:II C.P ops=true)(tz:∀o∈ops.toList,o.dst≠some dS){i:Nat}{o:Oper}(ho:ops[i]?=some o){s t:List Nat}(EF:s.Pairwise (·<·))(D8:∀k∈s,k<i)
  (SE:∀k∈s,Dj ops k i=false) (CD:i<ops.size) {F G:Fr} {h h':Hp} (ZM:Xt ops.toList F) (hx:Bv C cl ops (s++i::t) F h=.ok (G,h')):
  ∃e h1,AW C (cl (BB C ops true i)) ops (BB C ops true i) o F h=.ok (e,h1)/\∃G',Bv C cl ops (s++t) (Av F (DF (BB C ops true i) o) e) h1=.ok (G',h')/\Dw G G':=by
 have TG:∀k∈s,HP C ops k=false:=by
  intro k hk
  cases hm:HP C ops k with
  |false=>rfl
  |true=>
   obtain⟨_,_,_,_,h4⟩:=IZ hm;have:=h4 i (D8 k hk) CD;rw[SE k hk] at this;cases this
 have bH:o∈ops.toList:=by simpa using Array.mem_of_getElem? ho
 have Wy:∀k∈s,∀x,ops[k]?=some x->x.apart ops o=true/\(calm C.P x.op o.op||Xm ops.toList x o||Xm ops.toList o x||Xy ops x o)=true:=by
  intro k hk x Xp
  rcases Oh hd Xp ho (D8 k hk) with hb|Uw
  ·have:=SE k hk;unfold Dj at this;rw[hb] at this;cases this
  ·exact Uw
 obtain⟨F1,h1,IC,rz⟩:=DM.1 hx;rw[DE s TG] at IC;obtain⟨e,h2,k1,k2,k3⟩:=(Cg ho).1 rz
 cases jm:HP C ops i with
 |false=>
  rw[Gg jm] at k1 k3⊢
  have o9:∀x∈H9 ops s,x∈ops.toList/\x.apart ops o=true/\(calm C.P x.op o.op||Xm ops.toList x o||Xm ops.toList o x||Xy ops x o)=true:=by
   intro x rv;obtain⟨k,hk,Xp⟩:=List.mem_filterMap.1 rv
   exact⟨by simpa using Array.mem_of_getElem? Xp,Wy k hk x Xp⟩
  have Cb:BQ C (cl true) ops true (H9 ops s++o::[]) F h=.ok (Av F1 o.dst e,h2):=by
   have app:∀(l:List Oper) {F:Fr} {h:Hp},BQ C (cl true) ops true l F h=.ok (F1,h1)->BQ C (cl true) ops true (l++[o]) F h=.ok (Av F1 o.dst e,h2):=by
    intro l
    induction l with
    |nil=>
     intro F h hx;simp only[BQ,Except.ok.injEq,Prod.mk.injEq] at hx;obtain⟨rfl,rfl⟩:=hx;simp only[List.nil_append,BQ,DF,k1]
    |cons x l ih=>
     intro F h hx;simp only[List.cons_append,BQ] at hx⊢
     cases DH:AW C (cl true) ops true x F h with
     |error y=>rw[DH] at hx;cases hx
     |ok r=>rw[DH] at hx;exact ih hx
   exact app _ IC
  obtain⟨G1,q1,q2⟩:=pull HD bH (H9 ops s) ZM o9 Cb;simp only[List.append_nil,BQ,DF] at q1
  cases DH:AW C (cl true) ops true o F h with
  |error y=>rw[DH] at q1;cases q1
  |ok r=>
   obtain⟨e',h3⟩:=r;rw[DH] at q1;simp only at q1;obtain⟨G2,p1,p2⟩:=GS t q2 k3;exact⟨e',h3,rfl,G2,DM.2 ⟨G1,h2,(DE s TG).2 q1,p1⟩,p2⟩
 |true=>
  obtain⟨om,I6,DS,HU,_⟩:=IZ jm;rw[ho] at I6
  injection I6 with I6
  subst I6;obtain⟨_,_,Fy⟩:=I7 DS;rw[TY jm] at k1 k3⊢
  have RG:DF false o=o.dst:=by simp[DF,Fy]
  rw[RG] at k3⊢
  have qI:∀k∈s,k<i/\Dj ops k i=false/\JA C ops i k=true/\∀x,ops[k]?=some x->∀y,o.dst=some y->y∉x.looksAt ops/\x.dst≠some y:=by
   intro k hk
   refine⟨D8 k hk,SE k hk,(HU k (D8 k hk)).resolve_left (by rw[SE k hk];simp),fun x Xp y hy=> ?_⟩
   obtain⟨a1,a2,a3⟩:=Oper.apart_spec (Wy k hk x Xp).1
   exact⟨a3 y hy,fun te=>a2 y te hy⟩
  obtain⟨G1,r3,r4⟩:=TQ (e:=e) (h2:=h2) HD s EF qI IC (fun k hk=>Yl jm k2 k (D8 k hk))
  obtain⟨r1,r2⟩:=Ge HD s (fun k hk=>(qI k hk).2.2.1) IC
  subst r1
  have Wv:∀u,u∈o.looksAt ops->lk F1 u=lk F u:=fun u hu=>r2 u fun k hk x Xp ry=>(Oper.apart_spec (Wy k hk x Xp).1).1 u ry hu
  have DH:AW C (cl false) ops false o F h1=.ok (e,h2):=by
   rw[<-k1]
   exact(Bu o Wv (.inr (r2 dS fun k hk x Xp=>tz x (by simpa using Array.mem_of_getElem? Xp))) (.inl rfl)).symm
  obtain⟨G2,p1,p2⟩:=GS t (fun n=>(r4 n).symm) k3
  exact⟨e,h2,DH,G2,DM.2 ⟨G1,h2,(DE s TG).2 r3,p1⟩,p2⟩
theorem Xt.fe {os:List Oper}{F:Fr}(h:Xt os F){z:Oper}(hz:z∈os){c:Call}(Bo:z.op=.call c)(e:Bool×AV):Xt os (Av F z.dst e):=by
 refine⟨fun x hx y hy hp=> ?_,fun DH t r hr g b o hl=> ?_⟩
 ·have h1:=h.1 x hx y hy hp;obtain⟨t,p,t',q,v,r,r',k1,k2,_,_,k5,k6⟩:=MI hp;unfold pk at h1⊢;rw[k1,k2] at h1⊢;simp only[k5,k6] at h1⊢;rw[A9 (GW (Eu k5) hz),A9 (GW (Eu k6) hz)];exact h1
 ·have OU:=Eu hr;rw[A9 (GW OU hz)]
  by_cases hd:z.dst=some t
  ·cases hs:OJ os t with
   |true=>exact absurd hd (GW hs hz)
   |false=>
    have OV:=hr;unfold HM Ej at OV;rw[hs] at OV;simp only at OV;split at OV
    ·rename_i x hx;obtain⟨_,Nj⟩:=QC hx hz hd
     rcases Nj with h1|h1|⟨_,_,h1⟩<;>rw[Bo] at h1<;>cases h1
    ·cases OV
  ·rw[A9 hd] at hl;exact h.2 DH t r hr g b o hl
theorem Ga {listed:Array Bool}(hs:listed.size=ops.size)(hc:Lj ops listed){i:Nat}(hi:i∈Region.ready .any ops listed){s t:List Nat}(DH:rest ops listed=s++i::t):
  ∃o,ops[i]?=some o/\i<ops.size/\s.Pairwise (·<·)/\(∀k∈s,k<i)/\(∀k∈s,Dj ops k i=false)/\Lj ops (listed.setIfInBounds i true)/\rest ops (listed.setIfInBounds i true)=s++t/\
   ∀k∈rest ops listed,Dj ops k i=false:=by
 obtain⟨zC,o,ho,mD⟩:=mem_ready.1 hi;have RC:=(Array.getElem?_eq_some_iff.1 ho).1;have EF:=GZ (ops:=ops) listed;rw[DH,List.pairwise_append] at EF
 have SE:∀k∈rest ops listed,Dj ops k i=false:=by
  intro k hk
  cases hb:Dj ops k i with
  |false=>rfl
  |true=>
   have Xn:=Zj hc i o ho mD k hb;have Lk:=MH.1 hk
   have:k<listed.size:=by omega
   simp[Array.getD,this] at Xn Lk;rw[Xn] at Lk
   exact absurd Lk.2 (by simp)
 refine⟨o,ho,RC,EF.1,fun k hk=>EF.2.2 k hk i (by simp),fun k hk=>SE k (by rw[DH];simp[hk]),?_,fW hs DH,SE⟩
 intro j oj hj tr e' zF HV
 by_cases qB:i=j
 ·subst qB;rw[ho] at hj
  injection hj with hj
  subst hj;exact getD_set_true (mD e' zF HV)
 ·rw[getD_set_ne false qB] at tr;exact getD_set_true (hc j oj hj tr e' zF HV)
theorem LJ (hed:∀(j:Nat) o,ops[j]?=some o->∀e∈o.after,Region.binds .any e=true->e.on<j){listed:Array Bool}(hs:listed.size=ops.size)(hr:rest ops listed≠[]):Region.ready .any ops listed≠[]:=by
 intro JN
 cases jl:rest ops listed with
 |nil=>exact hr jl
 |cons i t=>
  have hi:i∈rest ops listed:=by rw[jl];simp
  obtain⟨hi1,zC⟩:=MH.1 hi;have ho:ops[i]?=some (ops[i]'hi1):=Array.getElem?_eq_getElem _
  have:i∈Region.ready .any ops listed:=mem_ready.2 ⟨zC,_,ho,fun e he hb=>by
   have BC:=hed _ _ ho e he hb
   cases hle:listed.getD e.on true with
   |true=>
    have:e.on<listed.size:=by omega
    simpa[Array.getD,this] using hle
   |false=>
    have hm:e.on∈rest ops listed:=MH.2 ⟨by omega,hle⟩
    have EF:=GZ (ops:=ops) listed;rw[jl] at hm EF
    rcases List.mem_cons.1 hm with rfl|hm
    ·omega
    ·have:=(List.pairwise_cons.1 EF).1 _ hm
     omega⟩
  rw[JN] at this;cases this
theorem Ew {listed:Array Bool}{i:Nat}(hi:i∈Region.ready .any ops listed):i∈rest ops listed:=by
 rw[mem_ready] at hi;obtain⟨h1,o,h2,_⟩:=hi;exact MH.2 ⟨(Array.getElem?_eq_some_iff.1 h2).1,h1⟩
theorem QR (hI:∀w w',I w->Below B0 w w'->I w')(DS:∀d,OD C I B0 (cl d)){n:Nat}(Hw:(ops.toList.all fun o=>F6 n o.dst)=true){i:Nat}{o:Oper}(ho:ops[i]?=some o){F:Fr}{e:Bool×AV}{h1:Hp}{E:Env}{a:Act}{Q:Exit->Act->World->Prop}
  {K:Act->World->Prop} (ZM:Xt ops.toList F) (DH:AW C (cl (BB C ops true i)) ops (BB C ops true i) o F E.h=.ok (e,h1)) (H:Good C.G I B0 E) (hf:AR E F a) (hn:n<=a.tmps.size)
  (hK:∀E' a',Step C.G I B0 E E'->E'.h=h1->AR E' (Av F (DF (BB C ops true i) o) e) a'->Xt ops.toList (Av F (DF (BB C ops true i) o) e)->a'.tmps.size=a.tmps.size->a'.defers=a.defers->K a' E'.w):wpOp C.P ops Q i K a E.w:=by
 have SJ:F6 n o.dst=true:=List.all_eq_true.1 Hw _ (by simpa using Array.mem_of_getElem? ho)
 have bH:o∈ops.toList:=by simpa using Array.mem_of_getElem? ho
 refine KN hI (DS _) ho SJ DH H hf hn fun E' a' S Hg FO CD Fy=>hK E' a' S Hg FO ?_ CD (Fy.resolve_left ?_)
 ·cases hm:HP C ops i with
  |false=>
   rw[Gg hm] at DH⊢;exact ZM.put bH DH
  |true=>
   obtain⟨om,I6,o6,_⟩:=IZ hm;rw[ho] at I6
   injection I6 with I6
   subst I6;obtain⟨⟨c,Bo,_⟩,_,Fy⟩:=I7 o6;rw[TY hm]
   have:DF false o=o.dst:=by simp[DF,Fy]
   rw[this];exact ZM.fe bH Bo e
 ·cases hm:HP C ops i with
  |false=>rw[Gg hm];simp
  |true=>
   obtain⟨om,I6,o6,_⟩:=IZ hm;rw[ho] at I6
   injection I6 with I6
   subst I6;obtain⟨_,_,Fy⟩:=I7 o6;rw[Fy];simp
theorem RY {n:Nat}(Hw:(ops.toList.all fun o=>F6 n o.dst)=true):∀o∈ops.toList,o.dst≠some dS:=by
 intro o ho hd;have:=List.all_eq_true.1 Hw o ho;rw[hd] at this;simp[F6,Nat.beq_refl] at this
theorem pb (hI:∀w w',I w->Below B0 w w'->I w')(DS:∀d,OD C I B0 (cl d))(HD:Io (cl true))(hd:II C.P ops=true)
  {n:Nat} (Hw:(ops.toList.all fun o=>F6 n o.dst)=true) {Q:Exit->Act->World->Prop}:
  ∀(fuel:Nat) (listed:Array Bool) (F:Fr) (G:Fr) (h':Hp) (E:Env) (a:Act),listed.size=ops.size->Lj ops listed->(rest ops listed).length=fuel->
   Xt ops.toList F->Bv C cl ops (rest ops listed) F E.h=.ok (G,h')->Good C.G I B0 E->AR E F a->n<=a.tmps.size->
   (∀E' a',Step C.G I B0 E E'->E'.h=h'->AR E' G a'->a'.tmps.size=a.tmps.size->a'.defers=a.defers->Q .normal a' E'.w)->wpAny C.P .any ops Q fuel listed a E.w:=by
 intro fuel
 induction fuel with
 |zero=>
  intro listed F G h' E a hs hc hl ZM hx H hf hn hQ;have hr:rest ops listed=[]:=List.eq_nil_of_length_eq_zero hl;rw[hr] at hx;simp only[Bv,Except.ok.injEq,Prod.mk.injEq] at hx;obtain⟨rfl,rfl⟩:=hx;refine⟨?_,hQ E a (Step.refl H) rfl hf rfl rfl⟩
  cases JN:Region.ready .any ops listed with
  |nil=>rfl
  |cons i l=>
   have:i∈rest ops listed:=Ew (by rw[JN];simp)
   rw[hr] at this;cases this
 |succ fuel ih=>
  intro listed F G h' E a hs hc hl ZM hx H hf hn hQ
  refine⟨fun JN=>absurd JN (LJ (fun j o ho=>Me hd ho) hs (by intro h;rw[h] at hl;cases hl)),fun i hi=> ?_⟩
  obtain⟨s,t,DH⟩:=List.append_of_mem (Ew hi);obtain⟨o,ho,RC,EF,D8,SE,jo,OU,_⟩:=Ga hs hc hi DH;rw[DH] at hx;obtain⟨e,h1,wR,G1,IC,qK⟩:=Ws HD hd (RY Hw) ho EF D8 SE RC ZM hx
  refine QR hI DS Hw ho ZM wR H hf hn fun E' a' S Hg FO pF CD Fy=> ?_
  subst Hg
  refine ih _ _ G1 h' E' a' (by simpa using hs) jo ?_ pF (by rw[OU];exact IC) S.Co FO (by rw[CD];exact hn) fun eF lU S' ZN Uv Fs Nn=>
   hQ eF lU (S.trans S') ZN (Uv.eq fun n=>(qK n).symm) (Fs.trans CD) (Nn.trans Fy)
  rw[OU];rw[DH] at hl;simp at hl⊢;omega
theorem Of {ops:Array Oper}:∀(os:List Oper) (i:Nat) {F G:Fr} {h h':Hp},(∀j,os[j]?=ops[i+j]?)->DI C cl ops true i os F h=.ok (G,h')->Bv C cl ops (List.range' i os.length) F h=.ok (G,h')
 |[],i,F,G,h,h',_,hx=>by simpa[DI,Bv] using hx
 |o::os,i,F,G,h,h',VV,hx=>by
  have ho:ops[i]?=some o:=by simpa using(VV 0).symm
  rw[List.length_cons,List.range'_succ,Cg ho];simp only[DI] at hx
  cases DH:AW C (cl (BB C ops true i)) ops (BB C ops true i) o F h with
  |error x=>rw[DH] at hx;cases hx
  |ok r=>
   obtain⟨e,h1⟩:=r;rw[DH] at hx;simp only at hx
   cases hm:Ek C ops true i F h h1 with
   |false=>rw[hm] at hx;cases hx
   |true=>
    rw[hm] at hx
    exact⟨e,h1,rfl,hm,Of os (i+1) (fun j=>by rw[show i+1+j=i+(j+1) by omega,<-VV (j+1)];simp) hx⟩
theorem IS (ops:Array Oper):rest ops (Array.replicate ops.size false)=List.range ops.size:=by
 unfold rest
 exact List.filter_eq_self.2 fun i hi=>by
  have:i<ops.size:=by simpa using hi
  simp[Array.getD,this]
theorem Lb (ops:Array Oper):Lj ops (Array.replicate ops.size false):=fun j o _ tr=>by
 by_cases hj:j<ops.size<;>simp[Array.getD,hj] at tr
theorem R7 (hI:∀w w',I w->Below B0 w w'->I w')(hm:C.P.follows .mixedOrders=true)(DS:∀d,OD C I B0 (cl d))(HD:Io (cl true))(hd:II C.P ops=true)
  {n:Nat} (Hw:(ops.toList.all fun o=>F6 n o.dst)=true) {Q:Exit->Act->World->Prop} {id:Nat} {F G:Fr} {h':Hp} {E:Env} {a:Act}
  (ZM:Xt ops.toList F) (hx:DI C cl ops true 0 ops.toList F E.h=.ok (G,h')) (H:Good C.G I B0 E) (hf:AR E F a) (hn:n<=a.tmps.size)
  (hQ:∀E' a',Step C.G I B0 E E'->E'.h=h'->AR E' G a'->a'.tmps.size=a.tmps.size->a'.defers=a.defers->Q .normal a' E'.w):(Code.region id ops true).wp C.P Q a E.w:=by
 refine wp_region_any hm ?_
 have hb:∀B,Below B E.w {E.w with drawn:=E.w.drawn+1}:=fun B=>⟨rfl,rfl,rfl,Nat.le_refl _,fun _ _=>rfl⟩
 have S:=M9 hI H (w':={E.w with drawn:=E.w.drawn+1}) (hb _) rfl
 have KW:=Of ops.toList 0 (fun j=>by simp) hx
 rw[<-List.range_eq_range',Array.length_toList] at KW
 exact pb hI DS HD hd Hw ops.size _ F G h' {E with w:={E.w with drawn:=E.w.drawn+1}} a (by simp) (Lb ops) (by rw[IS];simp) ZM
  (by rw[IS];exact KW) S.Co (AR.mono S.le hf) hn fun E' a' S'=>hQ E' a' (S.trans S')
theorem Vv {draw:Bool}{n:Nat}(Hw:(ops.toList.all fun o=>F6 n o.dst)=true):∀d∈GA ops draw,d≠dS:=by
 intro d hd;unfold GA at hd;split at hd
 ·cases hd
 ·split at hd
  ·cases hd
  ·obtain⟨o,ho,hod⟩:=List.mem_filterMap.1 hd
   rintro rfl
   exact RY Hw o ho (FK hod)
theorem YR (hI:∀w w',I w->Below B0 w w'->I w'):∀(l:List Nat) {E:Env} {F:Fr} {a:Act},Good C.G I B0 E->AR E F a->(∀d∈l,d≠dS)->
  ∃E',Step C.G I B0 E E'/\E'.w=E.w/\E'.h=Rz l E.h/\AR E' (JW l E.h.length F) a
 |[],E,F,a,H,hf,_=>⟨E,Step.refl H,rfl,rfl,hf⟩
 |d::l,E,F,a,H,hf,hd=>by
  have S:=cE hI H;have Jb:=AR.mono S.le hf
  have BM:Nat.beq d dS=false:=by
   cases h:Nat.beq d dS with
   |false=>rfl
   |true=>exact absurd (Nat.eq_of_beq_eq_true h) (hd d (by simp))
  obtain⟨E',S',h1,h2,h3⟩:=YR hI l (F:=(d,(lk F d).1,.C9 [.int .i64 (.ofNat E.h.length)])::F) (a:=a) S.Co ⟨fun s=>by
   simp only[lk]
   cases hb:Nat.beq d s with
   |true=>
    obtain rfl:=Nat.eq_of_beq_eq_true hb
    exact⟨fun _=>trivial,(Jb.1 d).2⟩
   |false=>exact Jb.1 s,by
   simp only[lk,BM,cond_false]
   exact Jb.2⟩ (fun d oy=>hd d (by simp[oy]))
  refine⟨E',S.trans S',h1,h2,?_⟩
  have e:(E.h++[Blk.dead]).length=E.h.length+1:=by simp
  show AR E' (JW l (E.h.length+1) _) a;rw[<-e];exact h3
theorem WW {i:Nat}{F:Fr}{h h':Hp}:Ek C ops false i F h h'=true:=rfl
theorem Kx :∀(os:List Oper) (i:Nat) (F:Fr) (h:Hp) {G:Fr} {h':Hp},DI C cl ops false i os F h=.ok (G,h')->BQ C (cl false) ops false os F h=.ok (G,h')
 |[],i,F,h,G,h',hx=>hx
 |o::os,i,F,h,G,h',hx=>by
  have hd:BB C ops false i=false:=rfl;simp only[DI,hd,WW] at hx;simp only[BQ]
  cases DH:AW C (cl false) ops false o F h with
  |error x=>rw[DH] at hx;cases hx
  |ok r=>
   rw[DH] at hx;exact Kx os (i+1) _ _ hx
end
end Go.Ai
