/-
  What the operations do: slices.
-/
import Derived.Test.YtopjpnhgnopbiaaGreatDoorAAiOps4
set_option linter.unusedVariables false
set_option linter.unusedSimpArgs false
set_option linter.unnecessarySimpa false
namespace Go.Ai
open Go.RowKit
section
variable {G:Nat->Option (List AV)}{I:World->Prop}{B0:Nat}{E:Env}
variable {P:Program}{F:Fr}{a:Act}{d:Option Tmp}{ty:TypeId}{pos:String}{after:Array Edge}{gd:Option (Nat×Bool)}
theorem ZT {sz:Nat}:∀(ps:List Operand) (k:Nat) (cells:Array Value),(∀x∈ps,(a.eval x).cells.size=sz)->(k+ps.length)*sz<=cells.size->
  ∃r,Instr.fill (fun i=>some (i*sz,sz)) cells (((ps.zipIdx k).map fun x=>(x.2,a.eval x.1)))=some r/\
   r.toList=cells.toList.take (k*sz)++(ps.map fun x=>(a.eval x).cells.toList).flatten++cells.toList.drop ((k+ps.length)*sz):=by
 intro ps
 induction ps with
 |nil=>intro k cells _ _;exact⟨cells,rfl,by simp⟩
 |cons x ps ih=>
  intro k cells h1 h2;simp only[List.length_cons] at h2⊢
  have hx:=h1 x (by simp)
  have hk:(k+1)*sz<=cells.size:=Nat.le_trans (Nat.mul_le_mul_right _ (by omega)) h2
  rw[Nat.add_mul,Nat.one_mul] at hk;simp only[List.zipIdx_cons,List.map_cons,Instr.fill]
  have iW:(decide ((a.eval x).cells.size≠sz)||decide (k*sz+(a.eval x).cells.size>cells.size))=false:=by
   simp[hx];omega
  rw[if_neg (by rw[iW];simp)]
  have TL:=OF cells (a.eval x).cells.toList (k*sz) 0 (by simp[hx];omega)
  simp only[Nat.add_zero] at TL;rw[<-Array.toList_zipIdx,Array.foldl_toList] at TL
  have hl:(a.eval x).cells.toList.length=sz:=by simpa using hx
  obtain⟨r,q1,q2⟩:=ih (k+1) ((a.eval x).cells.zipIdx.foldl (fun cs (x:Value×Nat)=>cs.setIfInBounds (k*sz+x.2) x.1) cells) (fun y hy=>h1 y (by simp[hy])) (by
   have:((a.eval x).cells.zipIdx.foldl (fun cs (x:Value×Nat)=>cs.setIfInBounds (k*sz+x.2) x.1) cells).toList.length=cells.size:=by
    rw[TL];simp only[List.length_append,List.length_take,List.length_drop,Array.length_toList,hl];omega
   rw[Array.length_toList] at this
   rw[this,show k+1+ps.length=k+(ps.length+1) by omega]
   exact h2)
  refine⟨r,q1,?_⟩;rw[q2,TL]
  have e1:(cells.toList.take (k*sz)++(a.eval x).cells.toList++cells.toList.drop (k*sz+(a.eval x).cells.toList.length)).take ((k+1)*sz)=cells.toList.take (k*sz)++(a.eval x).cells.toList:=by
   rw[List.take_left' (by simp only[List.length_append,List.length_take,Array.length_toList,hl];rw[Nat.add_mul,Nat.one_mul];omega)]
  have e2:(cells.toList.take (k*sz)++(a.eval x).cells.toList++cells.toList.drop (k*sz+(a.eval x).cells.toList.length)).drop ((k+1+ps.length)*sz)=cells.toList.drop ((k+(ps.length+1))*sz):=by
   have hlen:(cells.toList.take (k*sz)++(a.eval x).cells.toList).length=(k+1)*sz:=by
    simp only[List.length_append,List.length_take,Array.length_toList];rw[Nat.add_mul,Nat.one_mul,hx];omega
   have qG:(k+1)*sz<=(k+1+ps.length)*sz:=Nat.mul_le_mul_right _ (by omega)
   rw[List.drop_append,hlen,List.drop_eq_nil_of_le (by rw[hlen];exact qG),List.nil_append,List.drop_drop,hl,show k*sz+sz=(k+1)*sz by rw[Nat.add_mul,Nat.one_mul],
    show(k+1)*sz+((k+1+ps.length)*sz-(k+1)*sz)=(k+(ps.length+1))*sz by rw[Nat.add_sub_cancel' qG];congr 1;omega]
  rw[e1,e2];simp[List.append_assoc]
theorem OM {E:Env}{es:List (List AV)}{sz n:Nat}{e:TypeId}{v:Value}{xs:List Value}{id:Nat}(hu:∀r∈es,r.length=sz)(hlen:es.length=n)(hg:E.h[id]?=some (.grow n sz e))
  (hb:v.ownBlock=E.σ id) (Cc:E.w.ownsRow E.B e sz v n xs) (ID:Ae E es.flatten xs) (hU:∀b o,E.U b o->b<E.B) (har:∀q y,E.A q=some y->E.σ id≠some q)
  (kr:∀(j:Nat) y g,E.h[j]?=some y->y≠.dead->E.σ j=some g->E.σ id=some g->j=id):
  Rel E (.sl sz es (some id)) v:=by
 have Iz:Oq E sz es.length v (some id):=by
  refine⟨(List.getElem?_eq_some_iff.1 hg).1,fun n' EB e' h=> ?_⟩
  rw[hg] at h
  injection h with h
  injection h with h1 h2 h3
  subst h1;subst h2;subst h3
  exact⟨Nat.le_of_eq hlen,fun _=>⟨fun _=>rfl,⟨xs,Cc⟩,hb⟩⟩
 rcases Cc.2 with ⟨rfl,hn⟩|⟨g,cap,cur,rfl,ky,Ph,kp,PL,Fu,Ic⟩
 ·have:es=[]:=List.eq_nil_of_length_eq_zero (by omega)
  subst this
  exact⟨⟨none,0,rfl,Nat.le_refl _,by simp[maxLen],by simp,fun h=>absurd rfl h⟩,Iz⟩
 ·refine⟨⟨some ⟨g,0,none⟩,cap,by rw[hlen],by omega,PL,hu,fun _=>⟨_,rfl,?_⟩⟩,Iz⟩
  rw[Rows.iff,At.iff];intro j x hj;obtain⟨u,q1,q2,q3⟩:=CT ID hj;have hc:=Cc.cells (g:=g) rfl j u q1
  have KX:j<n*sz:=by rw[<-Cc.1];exact(List.getElem?_eq_some_iff.1 q1).1
  refine⟨u,hc,q2,⟨⟨fun hb=> ?_,fun q i m hq=>absurd hb.symm (har _ _ hq)⟩,fun j' y hy hs=> ?_⟩,q3⟩
  ·have:=hU _ _ hb;simp only at this;omega
  ·cases y with
   |dead=>exact .inl rfl
   |mem _ cs=>
    have:=kr j' _ g hy (by simp) hs hb.symm
    subst this;rw[hg] at hy;cases hy
   |iter _ _=>
    have:=kr j' _ g hy (by simp) hs hb.symm
    subst this;rw[hg] at hy;cases hy
   |Bi _ _ _ _ _ _ _=>
    have:=kr j' _ g hy (by simp) hs hb.symm
    subst this;rw[hg] at hy;cases hy
   |grow n' EB e'=>
    have:=kr j' _ g hy (by simp) hs hb.symm
    subst this;rw[hg] at hy
    injection hy with hy
    injection hy with h1 h2 h3
    subst h1;subst h2;subst h3
    exact .inr ⟨n,sz,e,rfl,by simpa using KX⟩
theorem Bp {sz:Nat}:∀(es:List (List AV)),(∀r∈es,r.length=sz)->es.flatten.length=es.length*sz
 |[],_=>by simp
 |e::es,h=>by
  rw[List.flatten_cons,List.length_append,Bp es (fun r hr=>h r (by simp[hr])),h e (by simp),List.length_cons,Nat.add_mul,Nat.one_mul,Nat.add_comm]
theorem GQ {E:Env}:∀(es:List (List AV)) (vs:List (List Value)),es.length=vs.length->(∀(k:Nat) e v,es[k]?=some e->vs[k]?=some v->Ae E e v)->Ae E es.flatten vs.flatten
 |[],[],_,_=>by simp[Ae]
 |[],_::_,h,_=>by simp at h
 |_::_,[],h,_=>by simp at h
 |e::es,v::vs,h,hr=>by
  rw[List.flatten_cons,List.flatten_cons]
  exact EN (hr 0 e v rfl rfl) (GQ es vs (by simpa using h) fun k a b ha hb=>hr (k+1) a b (by simpa using ha) (by simpa using hb))
theorem H7 (H:Good G I B0 E)(hf:AR E F a)(t e:TypeId)(len sz:Nat)(parts:Array (Nat×Operand))
  (ht:P.underlying t=some (.slice e)) (CD:P.cellsOf e=sz) (FZ:0<sz) (hzero:((P.info? e).bind (·.zero)).isSome=true) (hle:len*sz<=16777216) (hn:parts.size=len) (iJ:(parts.toList.zipIdx.all fun p=>Nat.beq p.1.1 p.2)=true)
  (HU:∀p∈parts.toList,(flat (ev G F p.2).2).length=sz) (CG:(parts.toList.all fun p=>(ev G F p.2).1&&CP (ev G F p.2).2)=true):
  ∃cells:Array Value,(execOp a.eval ⟨d,.buildSlice t len parts,ty,pos,after,gd⟩).run P E.w=.ok (.value (.slice (some ⟨E.w.heap.size,0,none⟩) len len)) (E.w.alloc (.cells cells e))/\
   cells.size=len*sz/\∀E':Env,Le E E'->Ae E' (parts.toList.map fun p=>flat (ev G F p.2).2).flatten cells.toList:=by
 obtain⟨i,hi,SI⟩:=Di CD FZ
 have Q9:parts.toList=(parts.toList.map (·.2)).zipIdx.map fun x=>(x.2,x.1):=by
  apply List.ext_getElem?;intro k;rw[List.getElem?_map,List.getElem?_zipIdx,List.getElem?_map]
  cases hk:parts.toList[k]? with
  |none=>simp
  |some p=>
   have hz:parts.toList.zipIdx[k]?=some (p,k):=by rw[List.getElem?_zipIdx,hk];simp
   have:=List.all_eq_true.1 iJ _ (List.mem_of_getElem? hz);have hpk:p.1=k:=Nat.eq_of_beq_eq_true this;simp[<-hpk]
 have Ib:∀p∈parts.toList,Ae E (flat (ev G F p.2).2) (a.eval p.2).cells.toList:=by
  intro p hp;have:=List.all_eq_true.1 CG p hp;simp only[Bool.and_eq_true] at this;exact KZ ((Gf H hf p.2).1 this.1) this.2
 have Fu:∀x∈parts.toList.map (·.2),(a.eval x).cells.size=sz:=by
  intro x hx;obtain⟨p,hp,rfl⟩:=List.mem_map.1 hx;have h1:=(Ib p hp).length;rw[HU p hp] at h1;simpa using h1
 obtain⟨z,hz⟩:∃z,i.zero=some z:=by rw[hi] at hzero;exact Option.isSome_iff_exists.1 hzero
 have key:∀zero:Array Value,∃cells:Array Value,Instr.fill (fun i=>some (i*sz,sz)) ((Array.range (len*sz)).map (zero[·% zero.size]!)) (parts.map fun x=>(x.1,a.eval x.2)).toList=some cells/\
   cells.size=len*sz/\cells.toList=((parts.toList.map (·.2)).map fun x=>(a.eval x).cells.toList).flatten:=by
  intro zero
  have sR:(parts.map fun x=>(x.1,a.eval x.2)).toList=(parts.toList.map (·.2)).zipIdx.map fun x=>(x.2,a.eval x.1):=by
   rw[Array.toList_map]
   conv=>lhs;rw[Q9]
   rw[List.map_map];rfl
  have wW:(parts.toList.map (·.2)).length=len:=by simpa using hn
  obtain⟨r,q1,q2⟩:=ZT (a:=a) (sz:=sz) (parts.toList.map (·.2)) 0 ((Array.range (len*sz)).map (zero[·% zero.size]!)) Fu (by rw[wW];simp)
  have hq:r.toList=((parts.toList.map (·.2)).map fun x=>(a.eval x).cells.toList).flatten:=by
   rw[q2,wW];simp
  refine⟨r,by rw[sR];exact q1,?_,hq⟩
  have hl:∀(l:List Operand),(∀x∈l,(a.eval x).cells.size=sz)->((l.map fun x=>(a.eval x).cells.toList).flatten).length=l.length*sz:=by
   intro l
   induction l with
   |nil=>intro _;simp
   |cons x l ih=>
    intro h
    rw[List.map_cons,List.flatten_cons,List.length_append,ih (fun y hy=>h y (by simp[hy])),List.length_cons,Nat.add_mul,Nat.one_mul,Nat.add_comm]
    congr 1
    simpa using h x (by simp)
  have:=hl _ Fu;rw[wW,<-hq] at this;simpa using this
 have sX:¬(len*sz>2^24):=by omega
 have ID:∀(cells:Array Value),cells.toList=((parts.toList.map (·.2)).map fun x=>(a.eval x).cells.toList).flatten->∀E':Env,Le E E'->Ae E' (parts.toList.map fun p=>flat (ev G F p.2).2).flatten cells.toList:=by
  intro cells hc E' L;rw[hc,List.map_map]
  refine Ae.mono L _ _ (GQ _ _ (by simp) fun k x y hx hy=> ?_)
  rw[List.getElem?_map] at hx hy
  cases hk:parts.toList[k]? with
  |none=>rw[hk] at hx;cases hx
  |some p=>
   rw[hk] at hx hy;simp only[Option.map_some,Option.some.injEq,Function.comp] at hx hy;subst hx;subst hy;exact Ib p (List.mem_of_getElem? hk)
 by_cases h0:len*sz=0
 ·obtain⟨cells,q1,q2,q3⟩:=key #[];refine⟨cells,?_,q2,ID cells q3⟩
  show(do pure (Next.value (<-Instr.buildSlice t len (parts.map fun(i,x)=>(i,a.eval x)))):Sem Next).run P E.w=_
  have hb:(Instr.buildSlice t len (parts.map fun(i,x)=>(i,a.eval x))).run P E.w=.ok (.slice (some ⟨E.w.heap.size,0,none⟩) len len) (E.w.alloc (.cells cells e)):=by
   unfold Instr.buildSlice;rw[Sem.run_bind,run_underlying ht,Result.andThen_ok];simp only[Sem.run_bind]
   rw[show(sizeOf e).run P E.w=.ok sz E.w from by simp[sizeOf,typeInfo,hi,SI],Result.andThen_ok]
   rw[if_neg sX];simp only[h0,if_true,Sem.run_bind,Sem.run_pure,Result.andThen_ok];rw[h0] at q1;rw[q1];simp[newRow]
  rw[Sem.run_bind,hb];rfl
 ·obtain⟨cells,q1,q2,q3⟩:=key z.cells;refine⟨cells,?_,q2,ID cells q3⟩
  show(do pure (Next.value (<-Instr.buildSlice t len (parts.map fun(i,x)=>(i,a.eval x)))):Sem Next).run P E.w=_
  have hb:(Instr.buildSlice t len (parts.map fun(i,x)=>(i,a.eval x))).run P E.w=.ok (.slice (some ⟨E.w.heap.size,0,none⟩) len len) (E.w.alloc (.cells cells e)):=by
   unfold Instr.buildSlice;rw[Sem.run_bind,run_underlying ht,Result.andThen_ok];simp only[Sem.run_bind]
   rw[show(sizeOf e).run P E.w=.ok sz E.w from by simp[sizeOf,typeInfo,hi,SI],Result.andThen_ok]
   simp only[sX,if_false,h0,Sem.run_bind,Sem.run_pure,Result.andThen_ok,zeroValue,typeInfo,run_program,hi,hz];rw[q1];simp[newRow]
  rw[Sem.run_bind,hb];rfl
theorem Uy {l:List (Nat×Operand)}{sz:Nat}(h:(l.all fun p=>Nat.beq (flat (ev G F p.2).2).length sz)=true):∀p∈l,(flat (ev G F p.2).2).length=sz:=
 fun p hp=>Nat.eq_of_beq_eq_true (List.all_eq_true.1 h p hp)
theorem SC (hI:∀w w',I w->Below B0 w w'->I w')(H:Good G I B0 E)(hf:AR E F a)(t e:TypeId)(len sz:Nat)(parts:Array (Nat×Operand))
  (ht:P.underlying t=some (.slice e)) (CD:P.cellsOf e=sz) (FZ:0<sz) (hzero:((P.info? e).bind (·.zero)).isSome=true) (hle:len*sz<=16777216) (hn:parts.size=len) (iJ:(parts.toList.zipIdx.all fun p=>Nat.beq p.1.1 p.2)=true)
  (HU:∀p∈parts.toList,(flat (ev G F p.2).2).length=sz) (CG:(parts.toList.all fun p=>(ev G F p.2).1&&CP (ev G F p.2).2)=true):
  Au P G I B0 E a ⟨d,.buildSlice t len parts,ty,pos,after,gd⟩ true (.sl sz (parts.toList.map fun p=>flat (ev G F p.2).2) (some E.h.length)) (E.h++[.grow len sz e]):=by
 obtain⟨cells,hr,Fu,ID⟩:=H7 (d:=d) (ty:=ty) (pos:=pos) (after:=after) (gd:=gd) H hf t e len sz parts ht CD FZ hzero hle hn iJ HU CG
 have S:=KM hI H (w':=E.w.alloc (.cells cells e)) (n:=len) (sz:=sz) (e:=e) (o:=some E.w.heap.size) ((Below.refl _ _).alloc (Nat.le_refl _) _) (fun g hg=>by injection hg with hg;subst hg;simp)
 have Cc:(E.w.alloc (.cells cells e)).ownsRow E.B e sz (.slice (some ⟨E.w.heap.size,0,none⟩) len len) len cells.toList:=
  ⟨by simpa using Fu,.inr ⟨E.w.heap.size,len,cells,rfl,H.size,heap_alloc_new _ _,Nat.le_refl _,by unfold maxLen;have:len<=len*sz:=Nat.le_mul_of_pos_right _ FZ;omega,Fu,List.take_of_length_le (by rw[Array.length_toList,Fu];exact Nat.le_refl _)⟩⟩
 refine⟨_,_,.inl hr,S,rfl,fun _=>OM (n:=len) (e:=e) (xs:=cells.toList) (fun r hr=> ?_) (by simpa using hn) (by simp) (by show _=DA E.σ E.h.length _ E.h.length;rw[Ay];rfl) Cc (ID _ S.le) H.U (fun q y hq hqs=>Hd S.Co (b:=E.h.length) (x:=.grow len sz e) (by simp) (by simp) hqs q y hq rfl)
  (fun j y g hj hy hs Jh=>S.Co.inj j E.h.length y (.grow len sz e) g hj (by simp) hy (by simp) hs Jh),fun h=>by cases h⟩
 obtain⟨p,hp,rfl⟩:=List.mem_map.1 hr;exact HU p hp
theorem NY (hI:∀w w',I w->Below B0 w w'->I w')(H:Good G I B0 E)(hf:AR E F a)(t e:TypeId)(len sz:Nat)(parts:Array (Nat×Operand))
  (ht:P.underlying t=some (.slice e)) (CD:P.cellsOf e=sz) (FZ:0<sz) (hzero:((P.info? e).bind (·.zero)).isSome=true) (hle:len*sz<=16777216) (hn:parts.size=len) (iJ:(parts.toList.zipIdx.all fun p=>Nat.beq p.1.1 p.2)=true)
  (HU:∀p∈parts.toList,(flat (ev G F p.2).2).length=sz) (CG:(parts.toList.all fun p=>(ev G F p.2).1&&CP (ev G F p.2).2)=true):
  Au P G I B0 E a ⟨d,.buildSlice t len parts,ty,pos,after,gd⟩ true (.sl sz (parts.toList.map fun p=>flat (ev G F p.2).2) none) E.h:=by
 obtain⟨cells,hr,Fu,ID⟩:=H7 (d:=d) (ty:=ty) (pos:=pos) (after:=after) (gd:=gd) H hf t e len sz parts ht CD FZ hzero hle hn iJ HU CG;have hB:Below E.w.heap.size E.w (E.w.alloc (.cells cells e)):=(Below.refl _ _).alloc (Nat.le_refl _) _
 have S:Step G I B0 E {E with w:=E.w.alloc (.cells cells e)}:=by
  have S1:=KM hI H (w':=E.w.alloc (.cells cells e)) (n:=len) (sz:=sz) (e:=e) (o:=none) hB (fun g hg=>by cases hg)
  have L:Le E {E with w:=E.w.alloc (.cells cells e)}:=by
   refine⟨rfl,fun ad v h s=>⟨(hB.cell (World.block_lt_of_cell? _ _ h)).trans h,s⟩,Nat.le_refl _,fun _ _ cs h=>⟨cs,h,rfl,rfl⟩,fun _ n _ _ _ h=>⟨n,h,Nat.le_refl _,fun _=>⟨rfl,fun v xs h _=>h.alloc _⟩⟩,fun _ _ p h=>⟨p,h,rfl⟩,
    fun _ g _ _ _ _ _ rows _ h=>⟨g,rows,h,Nat.le_refl _,fun _=>⟨rfl,rfl,fun k _ _ h=>Jf.of (fun hk=>hB.block k hk) h,Cu fun _ _ _ h=>h.kept rfl rfl (fun q _ _ hq=>hB.block q hq)⟩⟩,fun r _ _ h=>(hB.block r (Array.getElem?_eq_some_iff.1 h).1).trans h⟩
  refine⟨L,⟨fun id y hy=> ?_,H.inj,fun g cs hg=>At.mono L _ _ (H.Fc g cs hg),H.U,fun g o i m h=>by
   obtain⟨a1,a2,a3⟩:=H.ar g o i m h
   exact⟨a1,Nat.lt_of_lt_of_le a2 hB.size,a3⟩,?_,H.B0,hI _ _ H.I (hB.mono (Nat.le_trans H.B0 H.size))⟩,rfl,hB.mono H.size,Qd fun g hg=>hB.block g hg⟩
  ·have h:=H.Ld id y hy
   cases y with
   |mem t' ds=>
    obtain⟨g,dd,Mw,h1,h2,h3,h4,h5,h6⟩:=h;have hg:=(Array.getElem?_eq_some_iff.1 h3).1
    refine⟨g,dd,Mw,h1,h2,(hB.block g hg).trans h3,h4,fun j hj=>(hB.frozen (p:=⟨g,j,none⟩) hg).trans (h5 j hj),fun j z hz=> ?_⟩
    obtain⟨v,k1,k2,k3⟩:=h6 j z hz;exact⟨v,k1,k2,Rel.mono L _ _ k3⟩
   |grow n sz e=>exact fun g hg=>⟨(h g hg).1,Nat.lt_of_lt_of_le (h g hg).2 hB.size⟩
   |dead=>trivial
   |iter s p=>
    obtain⟨g,h1,h2,h3⟩:=h;exact⟨g,h1,h2,(hB.block g (Array.getElem?_eq_some_iff.1 h3).1).trans h3⟩
   |Bi n1 t1 H6 kc ke ksz rows=>exact Ea.Bi L rfl rfl (fun g _ hg=>hB.block g hg) (fun _ _ _ h=>h.kept rfl rfl (fun q _ _ hq=>hB.block q hq)) h
  ·have:=H.size;have:=hB.size;show E.B<=(E.w.alloc (.cells cells e)).heap.size;omega
 have sM:=ID _ S.le
 refine⟨.slice (some ⟨E.w.heap.size,0,none⟩) len len,_,.inl hr,S,rfl,fun _=>⟨⟨_,_,by rw[show(parts.toList.map fun p=>flat (ev G F p.2).2).length=len from by simpa using hn],by simp[hn],?_,?_,fun _=>⟨_,rfl,?_⟩⟩,trivial⟩,fun h=>by cases h⟩
 ·have:len<=len*sz:=Nat.le_mul_of_pos_right _ FZ;unfold maxLen;omega
 ·intro r hr;obtain⟨p,hp,rfl⟩:=List.mem_map.1 hr;exact HU p hp
 ·rw[Rows.iff,At.iff];intro j x hj;obtain⟨u,q1,q2,q3⟩:=CT sM hj
  refine⟨u,?_,q2,⟨⟨fun hb=> ?_,fun q i m hq=> ?_⟩,fun j' y hy hs=> ?_⟩,q3⟩
  ·rw[Addr.add_lit,Nat.zero_add];show(E.w.alloc (.cells cells e)).cell? ⟨E.w.heap.size,j,none⟩=some u;rw[World.cell?_alloc_new];simpa using q1
  ·have h1:=H.U _ _ hb;have h2:=H.size;simp only at h1;omega
  ·have h1:=(H.ar _ q i m hq).2.1;simp only at h1;omega
  ·cases y with
   |dead=>exact .inl rfl
   |mem _ cs=>
    have h1:=(H.lt hy (by simp) hs).2
    simp only at h1;omega
   |grow n' EB e'=>
    have h1:=(H.lt hy (by simp) hs).2
    simp only at h1;omega
   |iter _ _=>
    have h1:=(H.lt hy (by simp) hs).2
    simp only at h1;omega
   |Bi _ _ _ _ _ _ _=>
    have h1:=(H.lt hy (by simp) hs).2
    simp only at h1;omega
end
end Go.Ai
