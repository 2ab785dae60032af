/-
  What the operations do: slices.
-/
import Derived.Test.YtopjpnhgnopbiaaGreatDoorLAiOps4
set_option linter.unusedVariables false
set_option linter.unusedSimpArgs false
set_option linter.unnecessarySimpa false
namespace Go.Ai
open Go.RowKit
section
variable {G:Nat->Option (List AV)}{I:World->Prop}{B0:Nat}{E:Env}
variable {P:Program}{F:Fr}{a:Act}{d:Option Tmp}{ty:TypeId}{pos:String}{after:Array Edge}{gd:Option (Nat×Bool)}
theorem Wu {sz:Nat}:∀(ps:List Operand) (k:Nat) (cells:Array Value),(∀x∈ps,(a.eval x).cells.size=sz)->(k+ps.length)*sz<=cells.size->
  ∃r,Instr.fill (fun i=>some (i*sz,sz)) cells (((ps.zipIdx k).map fun x=>(x.2,a.eval x.1)))=some r/\
   r.toList=cells.toList.take (k*sz)++(ps.map fun x=>(a.eval x).cells.toList).flatten++cells.toList.drop ((k+ps.length)*sz):=by
 intro ps
 induction ps with
 |nil=>intro k cells _ _;exact⟨cells,rfl,by simp⟩
 |cons x ps ih=>
  intro k cells h1 h2;simp only[List.length_cons] at h2⊢
  have hx:=h1 x (by simp)
  have hk:(k+1)*sz<=cells.size:=Nat.le_trans (Nat.mul_le_mul_right _ (by omega)) h2
  rw[Nat.add_mul,Nat.one_mul] at hk;simp only[List.zipIdx_cons,List.map_cons,Instr.fill]
  have dt:(decide ((a.eval x).cells.size≠sz)||decide (k*sz+(a.eval x).cells.size>cells.size))=false:=by
   simp[hx];omega
  rw[if_neg (by rw[dt];simp)]
  have Qz:=Mf cells (a.eval x).cells.toList (k*sz) 0 (by simp[hx];omega)
  simp only[Nat.add_zero] at Qz;rw[<-Array.toList_zipIdx,Array.foldl_toList] at Qz
  have hl:(a.eval x).cells.toList.length=sz:=by simpa using hx
  obtain⟨r,q1,q2⟩:=ih (k+1) ((a.eval x).cells.zipIdx.foldl (fun cs (x:Value×Nat)=>cs.setIfInBounds (k*sz+x.2) x.1) cells) (fun y hy=>h1 y (by simp[hy])) (by
   have:((a.eval x).cells.zipIdx.foldl (fun cs (x:Value×Nat)=>cs.setIfInBounds (k*sz+x.2) x.1) cells).toList.length=cells.size:=by
    rw[Qz];simp only[List.length_append,List.length_take,List.length_drop,Array.length_toList,hl];omega
   rw[Array.length_toList] at this
   rw[this,show k+1+ps.length=k+(ps.length+1) by omega]
   exact h2)
  refine⟨r,q1,?_⟩;rw[q2,Qz]
  have e1:(cells.toList.take (k*sz)++(a.eval x).cells.toList++cells.toList.drop (k*sz+(a.eval x).cells.toList.length)).take ((k+1)*sz)=cells.toList.take (k*sz)++(a.eval x).cells.toList:=by
   rw[List.take_left' (by simp only[List.length_append,List.length_take,Array.length_toList,hl];rw[Nat.add_mul,Nat.one_mul];omega)]
  have e2:(cells.toList.take (k*sz)++(a.eval x).cells.toList++cells.toList.drop (k*sz+(a.eval x).cells.toList.length)).drop ((k+1+ps.length)*sz)=cells.toList.drop ((k+(ps.length+1))*sz):=by
   have hlen:(cells.toList.take (k*sz)++(a.eval x).cells.toList).length=(k+1)*sz:=by
    simp only[List.length_append,List.length_take,Array.length_toList];rw[Nat.add_mul,Nat.one_mul,hx];omega
   have mF:(k+1)*sz<=(k+1+ps.length)*sz:=Nat.mul_le_mul_right _ (by omega)
   rw[List.drop_append,hlen,List.drop_eq_nil_of_le (by rw[hlen];exact mF),List.nil_append,List.drop_drop,hl,show k*sz+sz=(k+1)*sz by rw[Nat.add_mul,Nat.one_mul],
    show(k+1)*sz+((k+1+ps.length)*sz-(k+1)*sz)=(k+(ps.length+1))*sz by rw[Nat.add_sub_cancel' mF];congr 1;omega]
  rw[e1,e2];simp[List.append_assoc]
theorem Mj {E:Env}{es:List (List AV)}{sz n:Nat}{e:TypeId}{v:Value}{xs:List Value}{id:Nat}(hu:∀r∈es,r.length=sz)(hlen:es.length=n)(hg:E.h[id]?=some (.grow n sz e))
  (hb:v.ownBlock=E.σ id) (Ck:E.w.ownsRow E.B e sz v n xs) (HC:Ag E es.flatten xs) (hU:∀b o,E.U b o->b<E.B) (yE:∀q y,E.A q=some y->E.σ id≠some q)
  (gu:∀(j:Nat) y g,E.h[j]?=some y->y≠.dead->E.σ j=some g->E.σ id=some g->j=id):
  Rel E (.sl sz es (some id)) v:=by
 have Hr:NH E sz es.length v (some id):=by
  refine⟨(List.getElem?_eq_some_iff.1 hg).1,fun n' Dg e' h=> ?_⟩
  rw[hg] at h
  injection h with h
  injection h with h1 h2 h3
  subst h1;subst h2;subst h3
  exact⟨Nat.le_of_eq hlen,fun _=>⟨fun _=>rfl,⟨xs,Ck⟩,hb⟩⟩
 rcases Ck.2 with ⟨rfl,hn⟩|⟨g,cap,cur,rfl,hY,Ns,gn,NY,FQ,HV⟩
 ·have:es=[]:=List.eq_nil_of_length_eq_zero (by omega)
  subst this
  exact⟨⟨none,0,rfl,Nat.le_refl _,by simp[maxLen],by simp,fun h=>absurd rfl h⟩,Hr⟩
 ·refine⟨⟨some ⟨g,0,none⟩,cap,by rw[hlen],by omega,NY,hu,fun _=>⟨_,rfl,?_⟩⟩,Hr⟩
  rw[Rows.iff,At.iff];intro j x hj;obtain⟨u,q1,q2,q3⟩:=CQ HC hj;have hc:=Ck.cells (g:=g) rfl j u q1
  have KJ:j<n*sz:=by rw[<-Ck.1];exact(List.getElem?_eq_some_iff.1 q1).1
  refine⟨u,hc,q2,⟨⟨fun hb=> ?_,fun q i m hq=>absurd hb.symm (yE _ _ hq)⟩,fun j' y hy hs=> ?_⟩,q3⟩
  ·have:=hU _ _ hb;simp only at this;omega
  ·cases y with
   |dead=>exact .inl rfl
   |mem _ cs=>
    have:=gu j' _ g hy (by simp) hs hb.symm
    subst this;rw[hg] at hy;cases hy
   |iter _ _=>
    have:=gu j' _ g hy (by simp) hs hb.symm
    subst this;rw[hg] at hy;cases hy
   |stk _ _ _ _ _ _ _=>
    have:=gu j' _ g hy (by simp) hs hb.symm
    subst this;rw[hg] at hy;cases hy
   |grow n' Dg e'=>
    have:=gu j' _ g hy (by simp) hs hb.symm
    subst this;rw[hg] at hy
    injection hy with hy
    injection hy with h1 h2 h3
    subst h1;subst h2;subst h3
    exact .inr ⟨n,sz,e,rfl,by simpa using KJ⟩
theorem Bn {sz:Nat}:∀(es:List (List AV)),(∀r∈es,r.length=sz)->es.flatten.length=es.length*sz
 |[],_=>by simp
 |e::es,h=>by
  rw[List.flatten_cons,List.length_append,Bn es (fun r hr=>h r (by simp[hr])),h e (by simp),List.length_cons,Nat.add_mul,Nat.one_mul,Nat.add_comm]
theorem FX {E:Env}:∀(es:List (List AV)) (vs:List (List Value)),es.length=vs.length->(∀(k:Nat) e v,es[k]?=some e->vs[k]?=some v->Ag E e v)->Ag E es.flatten vs.flatten
 |[],[],_,_=>by simp[Ag]
 |[],_::_,h,_=>by simp at h
 |_::_,[],h,_=>by simp at h
 |e::es,v::vs,h,hr=>by
  rw[List.flatten_cons,List.flatten_cons]
  exact Du (hr 0 e v rfl rfl) (FX es vs (by simpa using h) fun k a b ha hb=>hr (k+1) a b (by simpa using ha) (by simpa using hb))
theorem G6 (H:Good G I B0 E)(hf:AP E F a)(t e:TypeId)(len sz:Nat)(parts:Array (Nat×Operand))
  (ht:P.underlying t=some (.slice e)) (CC:P.cellsOf e=sz) (Ep:0<sz) (hzero:((P.info? e).bind (·.zero)).isSome=true) (hle:len*sz<=16777216) (hn:parts.size=len) (db:(parts.toList.zipIdx.all fun p=>Nat.beq p.1.1 p.2)=true)
  (Ge:∀p∈parts.toList,(flat (ev G F p.2).2).length=sz) (CE:(parts.toList.all fun p=>(ev G F p.2).1&&CM (ev G F p.2).2)=true):
  ∃cells:Array Value,(execOp a.eval ⟨d,.buildSlice t len parts,ty,pos,after,gd⟩).run P E.w=.ok (.value (.slice (some ⟨E.w.heap.size,0,none⟩) len len)) (E.w.alloc (.cells cells e))/\
   cells.size=len*sz/\∀E':Env,Le E E'->Ag E' (parts.toList.map fun p=>flat (ev G F p.2).2).flatten cells.toList:=by
 obtain⟨i,hi,QH⟩:=DQ CC Ep
 have O9:parts.toList=(parts.toList.map (·.2)).zipIdx.map fun x=>(x.2,x.1):=by
  apply List.ext_getElem?;intro k;rw[List.getElem?_map,List.getElem?_zipIdx,List.getElem?_map]
  cases hk:parts.toList[k]? with
  |none=>simp
  |some p=>
   have hz:parts.toList.zipIdx[k]?=some (p,k):=by rw[List.getElem?_zipIdx,hk];simp
   have:=List.all_eq_true.1 db _ (List.mem_of_getElem? hz);have xA:p.1=k:=Nat.eq_of_beq_eq_true this;simp[<-xA]
 have HU:∀p∈parts.toList,Ag E (flat (ev G F p.2).2) (a.eval p.2).cells.toList:=by
  intro p hp;have:=List.all_eq_true.1 CE p hp;simp only[Bool.and_eq_true] at this;exact JR ((Fl H hf p.2).1 this.1) this.2
 have FQ:∀x∈parts.toList.map (·.2),(a.eval x).cells.size=sz:=by
  intro x hx;obtain⟨p,hp,rfl⟩:=List.mem_map.1 hx;have h1:=(HU p hp).length;rw[Ge p hp] at h1;simpa using h1
 obtain⟨z,hz⟩:∃z,i.zero=some z:=by rw[hi] at hzero;exact Option.isSome_iff_exists.1 hzero
 have key:∀zero:Array Value,∃cells:Array Value,Instr.fill (fun i=>some (i*sz,sz)) ((Array.range (len*sz)).map (zero[·% zero.size]!)) (parts.map fun x=>(x.1,a.eval x.2)).toList=some cells/\
   cells.size=len*sz/\cells.toList=((parts.toList.map (·.2)).map fun x=>(a.eval x).cells.toList).flatten:=by
  intro zero
  have fc:(parts.map fun x=>(x.1,a.eval x.2)).toList=(parts.toList.map (·.2)).zipIdx.map fun x=>(x.2,a.eval x.1):=by
   rw[Array.toList_map]
   conv=>lhs;rw[O9]
   rw[List.map_map];rfl
  have ss:(parts.toList.map (·.2)).length=len:=by simpa using hn
  obtain⟨r,q1,q2⟩:=Wu (a:=a) (sz:=sz) (parts.toList.map (·.2)) 0 ((Array.range (len*sz)).map (zero[·% zero.size]!)) FQ (by rw[ss];simp)
  have hq:r.toList=((parts.toList.map (·.2)).map fun x=>(a.eval x).cells.toList).flatten:=by
   rw[q2,ss];simp
  refine⟨r,by rw[fc];exact q1,?_,hq⟩
  have hl:∀(l:List Operand),(∀x∈l,(a.eval x).cells.size=sz)->((l.map fun x=>(a.eval x).cells.toList).flatten).length=l.length*sz:=by
   intro l
   induction l with
   |nil=>intro _;simp
   |cons x l ih=>
    intro h
    rw[List.map_cons,List.flatten_cons,List.length_append,ih (fun y hy=>h y (by simp[hy])),List.length_cons,Nat.add_mul,Nat.one_mul,Nat.add_comm]
    congr 1
    simpa using h x (by simp)
  have:=hl _ FQ;rw[ss,<-hq] at this;simpa using this
 have gp:¬(len*sz>2^24):=by omega
 have HC:∀(cells:Array Value),cells.toList=((parts.toList.map (·.2)).map fun x=>(a.eval x).cells.toList).flatten->∀E':Env,Le E E'->Ag E' (parts.toList.map fun p=>flat (ev G F p.2).2).flatten cells.toList:=by
  intro cells hc E' L;rw[hc,List.map_map]
  refine Ag.mono L _ _ (FX _ _ (by simp) fun k x y hx hy=> ?_)
  rw[List.getElem?_map] at hx hy
  cases hk:parts.toList[k]? with
  |none=>rw[hk] at hx;cases hx
  |some p=>
   rw[hk] at hx hy;simp only[Option.map_some,Option.some.injEq,Function.comp] at hx hy;subst hx;subst hy;exact HU p (List.mem_of_getElem? hk)
 by_cases h0:len*sz=0
 ·obtain⟨cells,q1,q2,q3⟩:=key #[];refine⟨cells,?_,q2,HC cells q3⟩
  show(do pure (Next.value (<-Instr.buildSlice t len (parts.map fun(i,x)=>(i,a.eval x)))):Sem Next).run P E.w=_
  have hb:(Instr.buildSlice t len (parts.map fun(i,x)=>(i,a.eval x))).run P E.w=.ok (.slice (some ⟨E.w.heap.size,0,none⟩) len len) (E.w.alloc (.cells cells e)):=by
   unfold Instr.buildSlice;rw[Sem.run_bind,run_underlying ht,Result.andThen_ok];simp only[Sem.run_bind]
   rw[show(sizeOf e).run P E.w=.ok sz E.w from by simp[sizeOf,typeInfo,hi,QH],Result.andThen_ok]
   rw[if_neg gp];simp only[h0,if_true,Sem.run_bind,Sem.run_pure,Result.andThen_ok];rw[h0] at q1;rw[q1];simp[newRow]
  rw[Sem.run_bind,hb];rfl
 ·obtain⟨cells,q1,q2,q3⟩:=key z.cells;refine⟨cells,?_,q2,HC cells q3⟩
  show(do pure (Next.value (<-Instr.buildSlice t len (parts.map fun(i,x)=>(i,a.eval x)))):Sem Next).run P E.w=_
  have hb:(Instr.buildSlice t len (parts.map fun(i,x)=>(i,a.eval x))).run P E.w=.ok (.slice (some ⟨E.w.heap.size,0,none⟩) len len) (E.w.alloc (.cells cells e)):=by
   unfold Instr.buildSlice;rw[Sem.run_bind,run_underlying ht,Result.andThen_ok];simp only[Sem.run_bind]
   rw[show(sizeOf e).run P E.w=.ok sz E.w from by simp[sizeOf,typeInfo,hi,QH],Result.andThen_ok]
   simp only[gp,if_false,h0,Sem.run_bind,Sem.run_pure,Result.andThen_ok,zeroValue,typeInfo,run_program,hi,hz];rw[q1];simp[newRow]
  rw[Sem.run_bind,hb];rfl
theorem Sd {l:List (Nat×Operand)}{sz:Nat}(h:(l.all fun p=>Nat.beq (flat (ev G F p.2).2).length sz)=true):∀p∈l,(flat (ev G F p.2).2).length=sz:=
 fun p hp=>Nat.eq_of_beq_eq_true (List.all_eq_true.1 h p hp)
theorem QD (hI:∀w w',I w->Below B0 w w'->I w')(H:Good G I B0 E)(hf:AP E F a)(t e:TypeId)(len sz:Nat)(parts:Array (Nat×Operand))
  (ht:P.underlying t=some (.slice e)) (CC:P.cellsOf e=sz) (Ep:0<sz) (hzero:((P.info? e).bind (·.zero)).isSome=true) (hle:len*sz<=16777216) (hn:parts.size=len) (db:(parts.toList.zipIdx.all fun p=>Nat.beq p.1.1 p.2)=true)
  (Ge:∀p∈parts.toList,(flat (ev G F p.2).2).length=sz) (CE:(parts.toList.all fun p=>(ev G F p.2).1&&CM (ev G F p.2).2)=true):
  An P G I B0 E a ⟨d,.buildSlice t len parts,ty,pos,after,gd⟩ true (.sl sz (parts.toList.map fun p=>flat (ev G F p.2).2) (some E.h.length)) (E.h++[.grow len sz e]):=by
 obtain⟨cells,hr,FQ,HC⟩:=G6 (d:=d) (ty:=ty) (pos:=pos) (after:=after) (gd:=gd) H hf t e len sz parts ht CC Ep hzero hle hn db Ge CE
 have S:=JE hI H (w':=E.w.alloc (.cells cells e)) (n:=len) (sz:=sz) (e:=e) (o:=some E.w.heap.size) ((Below.refl _ _).alloc (Nat.le_refl _) _) (fun g hg=>by injection hg with hg;subst hg;simp)
 have Ck:(E.w.alloc (.cells cells e)).ownsRow E.B e sz (.slice (some ⟨E.w.heap.size,0,none⟩) len len) len cells.toList:=
  ⟨by simpa using FQ,.inr ⟨E.w.heap.size,len,cells,rfl,H.size,heap_alloc_new _ _,Nat.le_refl _,by unfold maxLen;have:len<=len*sz:=Nat.le_mul_of_pos_right _ Ep;omega,FQ,List.take_of_length_le (by rw[Array.length_toList,FQ];exact Nat.le_refl _)⟩⟩
 refine⟨_,_,.inl hr,S,rfl,fun _=>Mj (n:=len) (e:=e) (xs:=cells.toList) (fun r hr=> ?_) (by simpa using hn) (by simp) (by show _=Ct E.σ E.h.length _ E.h.length;rw[Aw];rfl) Ck (HC _ S.le) H.U (fun q y hq wx=>Gq S.Cg (b:=E.h.length) (x:=.grow len sz e) (by simp) (by simp) wx q y hq rfl)
  (fun j y g hj hy hs FE=>S.Cg.inj j E.h.length y (.grow len sz e) g hj (by simp) hy (by simp) hs FE),fun h=>by cases h⟩
 obtain⟨p,hp,rfl⟩:=List.mem_map.1 hr;exact Ge p hp
theorem MC (hI:∀w w',I w->Below B0 w w'->I w')(H:Good G I B0 E)(hf:AP E F a)(t e:TypeId)(len sz:Nat)(parts:Array (Nat×Operand))
  (ht:P.underlying t=some (.slice e)) (CC:P.cellsOf e=sz) (Ep:0<sz) (hzero:((P.info? e).bind (·.zero)).isSome=true) (hle:len*sz<=16777216) (hn:parts.size=len) (db:(parts.toList.zipIdx.all fun p=>Nat.beq p.1.1 p.2)=true)
  (Ge:∀p∈parts.toList,(flat (ev G F p.2).2).length=sz) (CE:(parts.toList.all fun p=>(ev G F p.2).1&&CM (ev G F p.2).2)=true):
  An P G I B0 E a ⟨d,.buildSlice t len parts,ty,pos,after,gd⟩ true (.sl sz (parts.toList.map fun p=>flat (ev G F p.2).2) none) E.h:=by
 obtain⟨cells,hr,FQ,HC⟩:=G6 (d:=d) (ty:=ty) (pos:=pos) (after:=after) (gd:=gd) H hf t e len sz parts ht CC Ep hzero hle hn db Ge CE;have hB:Below E.w.heap.size E.w (E.w.alloc (.cells cells e)):=(Below.refl _ _).alloc (Nat.le_refl _) _
 have S:Step G I B0 E {E with w:=E.w.alloc (.cells cells e)}:=by
  have S1:=JE hI H (w':=E.w.alloc (.cells cells e)) (n:=len) (sz:=sz) (e:=e) (o:=none) hB (fun g hg=>by cases hg)
  have L:Le E {E with w:=E.w.alloc (.cells cells e)}:=by
   refine⟨rfl,fun ad v h s=>⟨(hB.cell (World.block_lt_of_cell? _ _ h)).trans h,s⟩,Nat.le_refl _,fun _ _ cs h=>⟨cs,h,rfl,rfl⟩,fun _ n _ _ _ h=>⟨n,h,Nat.le_refl _,fun _=>⟨rfl,fun v xs h _=>h.alloc _⟩⟩,fun _ _ p h=>⟨p,h,rfl⟩,
    fun _ g _ _ _ _ _ rows _ h=>⟨g,rows,h,Nat.le_refl _,fun _=>⟨rfl,rfl,fun k _ _ h=>IW.of (fun hk=>hB.block k hk) h,Cl fun _ _ _ h=>h.kept rfl rfl (fun q _ _ hq=>hB.block q hq)⟩⟩,fun r _ _ h=>(hB.block r (Array.getElem?_eq_some_iff.1 h).1).trans h⟩
  refine⟨L,⟨fun id y hy=> ?_,H.inj,fun g cs hg=>At.mono L _ _ (H.Es g cs hg),H.U,fun g o i m h=>by
   obtain⟨a1,a2,a3⟩:=H.ar g o i m h
   exact⟨a1,Nat.lt_of_lt_of_le a2 hB.size,a3⟩,?_,H.B0,hI _ _ H.I (hB.mono (Nat.le_trans H.B0 H.size))⟩,rfl,hB.mono H.size,Od fun g hg=>hB.block g hg⟩
  ·have h:=H.KS id y hy
   cases y with
   |mem t' ds=>
    obtain⟨g,dd,LZ,h1,h2,h3,h4,h5,h6⟩:=h;have hg:=(Array.getElem?_eq_some_iff.1 h3).1
    refine⟨g,dd,LZ,h1,h2,(hB.block g hg).trans h3,h4,fun j hj=>(hB.frozen (p:=⟨g,j,none⟩) hg).trans (h5 j hj),fun j z hz=> ?_⟩
    obtain⟨v,k1,k2,k3⟩:=h6 j z hz;exact⟨v,k1,k2,Rel.mono L _ _ k3⟩
   |grow n sz e=>exact fun g hg=>⟨(h g hg).1,Nat.lt_of_lt_of_le (h g hg).2 hB.size⟩
   |dead=>trivial
   |iter s p=>
    obtain⟨g,h1,h2,h3⟩:=h;exact⟨g,h1,h2,(hB.block g (Array.getElem?_eq_some_iff.1 h3).1).trans h3⟩
   |stk n1 t1 Gz kc ke ksz rows=>exact EB.stk L rfl rfl (fun g _ hg=>hB.block g hg) (fun _ _ _ h=>h.kept rfl rfl (fun q _ _ hq=>hB.block q hq)) h
  ·have:=H.size;have:=hB.size;show E.B<=(E.w.alloc (.cells cells e)).heap.size;omega
 have oE:=HC _ S.le
 refine⟨.slice (some ⟨E.w.heap.size,0,none⟩) len len,_,.inl hr,S,rfl,fun _=>⟨⟨_,_,by rw[show(parts.toList.map fun p=>flat (ev G F p.2).2).length=len from by simpa using hn],by simp[hn],?_,?_,fun _=>⟨_,rfl,?_⟩⟩,trivial⟩,fun h=>by cases h⟩
 ·have:len<=len*sz:=Nat.le_mul_of_pos_right _ Ep;unfold maxLen;omega
 ·intro r hr;obtain⟨p,hp,rfl⟩:=List.mem_map.1 hr;exact Ge p hp
 ·rw[Rows.iff,At.iff];intro j x hj;obtain⟨u,q1,q2,q3⟩:=CQ oE hj
  refine⟨u,?_,q2,⟨⟨fun hb=> ?_,fun q i m hq=> ?_⟩,fun j' y hy hs=> ?_⟩,q3⟩
  ·rw[Addr.add_lit,Nat.zero_add];show(E.w.alloc (.cells cells e)).cell? ⟨E.w.heap.size,j,none⟩=some u;rw[World.cell?_alloc_new];simpa using q1
  ·have h1:=H.U _ _ hb;have h2:=H.size;simp only at h1;omega
  ·have h1:=(H.ar _ q i m hq).2.1;simp only at h1;omega
  ·cases y with
   |dead=>exact .inl rfl
   |mem _ cs=>
    have h1:=(H.lt hy (by simp) hs).2
    simp only at h1;omega
   |grow n' Dg e'=>
    have h1:=(H.lt hy (by simp) hs).2
    simp only at h1;omega
   |iter _ _=>
    have h1:=(H.lt hy (by simp) hs).2
    simp only at h1;omega
   |stk _ _ _ _ _ _ _=>
    have h1:=(H.lt hy (by simp) hs).2
    simp only at h1;omega
end
end Go.Ai
