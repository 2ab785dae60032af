/-
  Drawn regions all of whose orders are gone through.
-/
import Derived.Test.YtopjpnhgnopbiaaDoorAiAny
set_option linter.unusedVariables false
set_option linter.unusedSimpArgs false
set_option linter.unnecessarySimpa false
namespace Go.Ai
open Go.RowKit
section
variable {C:Cfg}{cl:Bool→FuncId→List AV→Hp→Except (List Nat) (AV×Hp)}{ops:Array Oper}{I:World→Prop}{B0:Nat}
theorem drawA_edges (h:drawA ops=true){j:Nat}{o:Oper}(ho:ops[j]?=some o):noSel o.op=true∧isDef o=false∧∀e∈o.after,Region.binds .any e=true→e.on<j:=by
 unfold drawA at h;rw[Bool.and_eq_true] at h
 have hz:(o,j)∈ops.toList.zipIdx:=List.mem_of_getElem? (by rw[List.getElem?_zipIdx];simp[ho]:ops.toList.zipIdx[j]?=some (o,j))
 have h1:=List.all_eq_true.1 h.1 _ hz;simp only[Bool.and_eq_true,Bool.not_eq_true'] at h1
 refine⟨h1.1,h1.2.1,fun e he hb=> ?_⟩
 have:=List.all_eq_true.1 h1.2.2 e (by simpa using he)
 rw[hb] at this;simp only[Bool.not_true,Bool.false_or] at this;exact Nat.le_of_ble_eq_true this
theorem drawA_pair (h:drawA ops=true){i j:Nat}{x y:Oper}(hx:ops[i]?=some x)(hy:ops[j]?=some y)(hij:i<j):boundB ops i j=true∨x.apart ops y=true:=by
 unfold drawA at h;rw[Bool.and_eq_true] at h
 have hzy:(y,j)∈ops.toList.zipIdx:=List.mem_of_getElem? (by rw[List.getElem?_zipIdx];simp[hy]:ops.toList.zipIdx[j]?=some (y,j))
 have hzx:(x,i)∈ops.toList.zipIdx:=List.mem_of_getElem? (by rw[List.getElem?_zipIdx];simp[hx]:ops.toList.zipIdx[i]?=some (x,i))
 have:=List.all_eq_true.1 (List.all_eq_true.1 h.2 _ hzy) _ hzx;simp only[Bool.or_eq_true,Bool.not_eq_true'] at this
 rcases this with (h1|h1)|h1
 ·have:Nat.blt i j=true:=Nat.ble_eq_true_of_le hij;rw[this] at h1;cases h1
 ·exact .inl h1
 ·exact .inr h1
theorem unbound_spec {l:List Nat}{i:Nat}(h:unbound ops l i=true):∀j∈l,boundB ops j i=false:=fun j hj=>by
 have:=List.all_eq_true.1 h j hj;simpa using this
theorem unbound_sub {l l':List Nat}{i:Nat}(hs:∀j∈l',j∈l)(h:unbound ops l i=true):unbound ops l' i=true:=
 List.all_eq_true.2 fun j hj=>List.all_eq_true.1 h j (hs j hj)
theorem freeA_spec {l:List Nat}{i:Nat}(h:freeA C ops l i=true):unbound ops l i=true∧(∃o,ops[i]?=some o∧quietA C o=true)∧((∀o,ops[i]?=some o→pureA o=true)∨∀j∈l,j=i∨(∀y,ops[j]?=some y→quietA C y=true)∨boundB ops i j=true):=by
 unfold freeA at h;simp only[Bool.and_eq_true] at h;obtain⟨⟨h1,h2⟩,h3⟩:=h;refine⟨h1,?_,?_⟩
 ·split at h2
  ·exact⟨_,by assumption,h2⟩
  ·cases h2
 ·rw[Bool.or_eq_true] at h3
  rcases h3 with h3|h3
  ·refine .inl fun o ho=> ?_
   rw[ho] at h3;exact h3
  refine .inr fun j hj=> ?_
  have:=List.all_eq_true.1 h3 j hj;simp only[Bool.or_eq_true] at this
  rcases this with (h4|h4)|h4
  ·exact .inl (Nat.eq_of_beq_eq_true h4)
  ·refine .inr (.inl fun y hy=> ?_)
   rw[hy] at h4;exact h4
  ·exact .inr (.inr h4)
theorem freeA_sub {l l':List Nat}{i:Nat}(hs:∀j∈l',j∈l)(h:freeA C ops l i=true):freeA C ops l' i=true:=by
 unfold freeA at h⊢;simp only[Bool.and_eq_true] at h⊢;refine⟨⟨unbound_sub hs h.1.1,h.1.2⟩,?_⟩;rw[Bool.or_eq_true] at *
 exact h.2.imp id fun h=>List.all_eq_true.2 fun j hj=>List.all_eq_true.1 h j (hs j hj)
theorem stepA_congr {o:Oper}{F F':Fr}{h:Hp}(he:FrEq F F'):stepA C cl ops o F h=stepA C cl ops o F' h:=
 stepOp_congr o (fun t _=>he t) (.inr (he dS)) (.inr fun d _=>he d)
theorem RedN_congr {Post:Fr→Hp→Prop}(hP:∀F F' h,FrEq F F'→Post F h→Post F' h):∀(n:Nat) (l:List Nat) {F F':Fr} {h:Hp},FrEq F F'→RedN C cl ops Post n l F h→RedN C cl ops Post n l F' h
 |0,_,_,_,_,_,hx=>hx
 |n+1,[],F,F',h,he,hx=>hP F F' h he hx
 |n+1,k::l,F,F',h,he,hx=>by
  rcases hx with ⟨i,o,e,h1,h2,h3,h4,h5⟩|hx
  ·exact .inl ⟨i,o,e,h1,h2,h3,by rw[←stepA_congr he];exact h4,RedN_congr hP n _ (he.put _ _) h5⟩
  ·refine .inr fun i hi hu=> ?_
   obtain⟨o,e,h1,k1,k2,k3,k4⟩:=hx i hi hu
   exact⟨o,e,h1,k1,by rw[←stepA_congr he];exact k2,k3,RedN_congr hP n _ (he.put _ _) k4⟩
theorem FrEq.putComm {F:Fr}{d1 d2:Option Nat}{e1 e2:Bool×AV}(h:∀x,d1=some x→d2≠some x):FrEq (putF (putF F d1 e1) d2 e2) (putF (putF F d2 e2) d1 e1):=by
 intro n
 cases d1 with
 |none=>rfl
 |some a=>
  cases d2 with
  |none=>rfl
  |some b=>
   have hab:a≠b:=fun e=>h a rfl (by rw[e])
   simp only[putF,lk]
   cases h1:Nat.beq b n with
   |true=>
    have:b=n:=Nat.eq_of_beq_eq_true h1
    have h2:Nat.beq a n=false:=by
     cases h2:Nat.beq a n with
     |false=>rfl
     |true=>exact absurd ((Nat.eq_of_beq_eq_true h2).trans this.symm) hab
    simp[h2]
   |false=>cases h2:Nat.beq a n<;>simp
theorem evalX_pureM {F:Fr}(h h1:Hp){o:Oper}(hp:pureA o=true):evalX C (aDr o) F h1 o=(evalX C (aDr o) F h o).map fun r=>(r.1,r.2.1,h1):=by
 obtain⟨dst,op,ty,pos,after,gd⟩:=o;unfold pureA at hp;rw[Bool.and_eq_true] at hp
 replace hp:=hp.2
 cases op<;>simp only[Bool.false_eq_true] at hp
 case nilCheck x=>
  simp only[aDr,evalX,evStk,evalOp,evNilCheck];generalize ev C.G F x=y;obtain⟨y1,y2⟩:=y
  cases y2<;>rfl
 case fieldAddr s x f=>
  simp only[aDr,evalX,evStk,evalOp,evFieldAddr];generalize ev C.G F x=y;obtain⟨y1,y2⟩:=y;generalize C.P.underlying s=u
  cases u with
  |none=>rfl
  |some d=>
   cases d<;>try rfl
   rename_i fs
   cases hq:fs[f]? with
   |none=>cases y2<;>simp[hq]
   |some fd=>cases hb:Nat.beq (C.P.cellsOf fd.type) 0<;>cases y2<;>simp[hq,hb]
 case indexAddr t x i=>
  simp only[aDr,evalX,evStk,evalOp,evIndexAddr];generalize ev C.G F x=y;generalize ev C.G F i=z;obtain⟨y1,y2⟩:=y;obtain⟨z1,z2⟩:=z;generalize C.P.underlying t=u
  cases u with
  |none=>rfl
  |some d=>
   cases d<;>try rfl
   all_goals (cases y2<;>try rfl)
   all_goals (cases z2<;>rfl)
 case buildSlice t len parts=>
  simp only[aDr,evalX,evalOp,evBuildSlice];generalize C.P.underlying t=u
  cases u with
  |none=>rfl
  |some d=>
   cases d<;>try rfl
   simp only
   generalize ((parts.size.beq len&&parts.toList.zipIdx.all fun p=>p.fst.fst.beq p.snd)&&_&&_&&_&&_)=b
   cases b<;>rfl
 case call c=>
  obtain⟨callee,args,ats⟩:=c
  cases callee with
  |builtin b=>
   cases b<;>simp only[Bool.false_eq_true] at hp
   simp only[aDr,evalX,evStk,evalOp,evBuiltin];generalize args.toList=l;generalize ats.toList=m
   match l,m with
   |[],_=>cases m<;>rfl
   |_::_::_,_=>cases m<;>rfl
   |[_],[]=>rfl
   |[_],_::_::_=>rfl
   |[x],[t]=>
    simp only[evLen];generalize ev C.G F x=y;obtain⟨y1,y2⟩:=y;generalize C.P.underlying t=u
    cases u with
    |none=>rfl
    |some d=>
     cases d<;>try rfl
     all_goals (cases y2<;>rfl)
  |_=>simp at hp
theorem evalX_pure {F:Fr}{h h':Hp}{o:Oper}{g:Bool}{e:Bool×AV}(hp:pureA o=true)(hx:evalX C (aDr o) F h o=some (g,e,h'))(h1:Hp):evalX C (aDr o) F h1 o=some (g,e,h1):=by
 rw[evalX_pureM h h1 hp,hx];rfl
theorem stepA_pure {o:Oper}{F:Fr}{h:Hp}{e:Bool×AV}(hp:pureA o=true)(hx:stepA C cl ops o F h=.ok (e,h))(h1:Hp):stepA C cl ops o F h1=.ok (e,h1):=by
 have hg:o.guard=none:=by
  unfold pureA at hp;rw[Bool.and_eq_true] at hp;simpa using hp.1
 have key:∀h,stepA C cl ops o F h=stepGo C (cl (aDr o)) (aDr o) o F h:=by
  intro h;unfold stepA stepOp guardOf;simp only[hg]
  have:twoG C.P (aDr o) ops o F h=none:=by
   obtain⟨dst,op,ty,pos,after,gd⟩:=o;unfold pureA at hp;rw[Bool.and_eq_true] at hp
   replace hp:=hp.2
   unfold twoG
   cases op<;>simp only[Bool.false_eq_true] at hp
   all_goals (simp only[aDr];split<;>first|rfl|simp_all)
  rw[this]
 have gen:∀h,stepGo C (cl (aDr o)) (aDr o) o F h=(match evalX C (aDr o) F h o with
   |some (true,e,h')=>.ok (e,h')
   |some (false,_,_)=>.error [1006]
   |none=>.error [1007]):=by
  intro h;obtain⟨dst,op,ty,pos,after,gd⟩:=o;simp only at hg;subst hg;unfold pureA at hp;simp only[Option.isNone_none,Bool.true_and] at hp
  cases op<;>try simp only[Bool.false_eq_true] at hp
  case call c=>
   obtain⟨callee,args,ats⟩:=c
   cases callee with
   |builtin b=>rfl
   |_=>simp at hp
  all_goals rfl
 rw[key,gen] at hx⊢;split at hx
 ·rename_i e1 h2 he;rw[evalX_pure hp he h1];simp at hx;rw[hx.1]
 ·cases hx
 ·cases hx
theorem red_ready (hd:drawA ops=true)(hdS:∀o∈ops.toList,o.dst≠some dS){Post:Fr→Hp→Prop}(hP:∀F F' h,FrEq F F'→Post F h→Post F' h):∀(n:Nat) (l:List Nat) {F:Fr} {h:Hp},l.Nodup→RedN C cl ops Post (n+1) l F h→∀i∈l,unbound ops l i=true→
  ∃o e h1,ops[i]?=some o∧stepA C cl ops o F h=.ok (e,h1)∧(quietA C o=true→h1=h)∧RedN C cl ops Post n (l.erase i) (putF F o.dst e) h1
 |n,[],F,h,_,_,i,hi,_=>by cases hi
 |0,k::l,F,h,_,hx,i,hi,hu=>by
  rcases hx with ⟨_,_,_,_,_,_,_,h5⟩|hx
  ·exact h5.elim
  ·exact hx i hi hu
 |n+1,k::l,F,h,hn,hx,i,hi,hu=>by
  rcases hx with ⟨b,ob,eb,hb,hfr,hob,hsb,hrec⟩|hx
  ·obtain⟨f1,⟨ob',f2,f3⟩,f4⟩:=freeA_spec hfr;rw[hob] at f2
   injection f2 with f2
   subst f2
   by_cases hib:i=b
   ·subst hib
    exact⟨ob,eb,h,hob,hsb,fun _=>rfl,hrec⟩
   ·have hi':i∈(k::l).erase b:=(List.mem_erase_of_ne hib).2 hi
    have hsub:∀j∈(k::l).erase b,j∈k::l:=fun j hj=>List.mem_of_mem_erase hj
    obtain⟨o,e,h1,k1,k2,k3,k4⟩:=red_ready hd hdS hP n _ (hn.erase b) hrec i hi' (unbound_sub hsub hu)
    have hsb1:stepA C cl ops ob F h1=.ok (eb,h1):=by
     rcases f4 with h4|f4
     ·exact stepA_pure (h4 ob hob) hsb h1
     have hqi:quietA C o=true:=by
      rcases f4 i hi with h4|h4|h4
      ·exact absurd h4 hib
      ·exact h4 o k1
      ·rw[unbound_spec hu b hb] at h4;cases h4
     rw[k3 hqi];exact hsb
    have hap:(∀t∈o.looksAt ops,ob.dst≠some t)∧(∀t∈ob.looksAt ops,o.dst≠some t)∧∀x,ob.dst=some x→o.dst≠some x:=by
     rcases Nat.lt_or_gt_of_ne hib with hlt|hlt
     ·rcases drawA_pair hd k1 hob hlt with h5|h5
      ·rw[unbound_spec f1 i hi] at h5;cases h5
      ·obtain⟨a1,a2,a3⟩:=Oper.apart_spec h5
       exact⟨fun t ht e=>a3 t e ht,fun t ht e=>a1 t e ht,fun x hx hx'=>a2 x hx' hx⟩
     ·rcases drawA_pair hd hob k1 hlt with h5|h5
      ·rw[unbound_spec hu b hb] at h5;cases h5
      ·obtain⟨a1,a2,a3⟩:=Oper.apart_spec h5
       exact⟨fun t ht e=>a1 t e ht,fun t ht e=>a3 t e ht,fun x hx hx'=>a2 x hx hx'⟩
    obtain⟨p1,p2,p3⟩:=hap
    have hobm:ob∈ops.toList:=by simpa using Array.mem_of_getElem? hob
    have hom:o∈ops.toList:=by simpa using Array.mem_of_getElem? k1
    have cong:∀{x y:Oper} {ey:Bool×AV} {g:Hp},(∀t∈x.looksAt ops,y.dst≠some t)→(∀z,y.dst=some z→x.dst≠some z)→y∈ops.toList→stepA C cl ops x (putF F y.dst ey) g=stepA C cl ops x F g:=by
     intro x y ey g hl hdd hy
     refine stepOp_congr x (fun t ht=>lk_put_ne (hl t ht)) (.inr (lk_put_ne (hdS y hy))) (.inr fun z hz=>lk_put_ne fun e=> ?_)
     have:x.dst=some z:=by
      unfold alDst at hz;split at hz
      ·exact hz
      ·cases hz
     exact hdd z e this
    have hs1:stepA C cl ops o F h=.ok (e,h1):=by rw[←cong p1 p3 hobm (ey:=eb)];exact k2
    have hs2:stepA C cl ops ob (putF F o.dst e) h1=.ok (eb,h1):=by rw[cong p2 (fun z hz hz'=>p3 z hz' hz) hom];exact hsb1
    refine⟨o,e,h1,k1,hs1,k3,?_⟩
    have hb':b∈(k::l).erase i:=(List.mem_erase_of_ne (fun e=>hib e.symm)).2 hb
    cases hl:(k::l).erase i with
    |nil=>rw[hl] at hb';cases hb'
    |cons k' l'=>
     refine .inl ⟨b,ob,eb,by rw[←hl];exact hb',?_,hob,hs2,?_⟩
     ·rw[←hl]
      exact freeA_sub (fun j hj=>List.mem_of_mem_erase hj) hfr
     ·rw[←hl,List.erase_comm];exact RedN_congr hP n _ (FrEq.putComm p3) k4
  ·obtain⟨o,e,h1,k1,k2,k3,k4⟩:=hx i hi hu;exact⟨o,e,h1,k1,k2,k3,k4⟩
theorem erase_split {s t:List Nat}{i:Nat}(h:(s++i::t).Nodup):(s++i::t).erase i=s++t:=by
 rw[List.nodup_append] at h
 rw[List.erase_append_right _ (fun hi=>h.2.2 i hi i (by simp) rfl)]
 simp
theorem orders_ok (hI:∀w w',I w→Below B0 w w'→I w')(hcl:∀d,ClOk C I B0 (cl d))(hd:drawA ops=true)
  {n:Nat} (hds:(ops.toList.all fun o=>dstOk n o.dst)=true) {Post:Fr→Hp→Prop} (hP:∀F F' h,FrEq F F'→Post F h→Post F' h) {Q:Exit→Act→World→Prop}:
  ∀(fuel:Nat) (listed:Array Bool) (F:Fr) (E:Env) (a:Act),listed.size=ops.size→Closed ops listed→(rest ops listed).length=fuel→
   RedN C cl ops Post (fuel+1) (rest ops listed) F E.h→Good C.G I B0 E→FrsOk E F a→n≤a.tmps.size→
   (∀G E' a',Post G E'.h→Step C.G I B0 E E'→FrsOk E' G a'→a'.tmps.size=a.tmps.size→a'.defers=a.defers→Q .normal a' E'.w)→wpAny C.P .any ops Q fuel listed a E.w:=by
 intro fuel
 induction fuel with
 |zero=>
  intro listed F E a hs hc hl hx H hf hn hQ;have hr:rest ops listed=[]:=List.eq_nil_of_length_eq_zero hl;rw[hr] at hx;refine⟨?_,hQ F E a hx (Step.refl H) hf rfl rfl⟩
  cases hrd:Region.ready .any ops listed with
  |nil=>rfl
  |cons i l=>
   have:i∈rest ops listed:=ready_rest (by rw[hrd];simp)
   rw[hr] at this;cases this
 |succ fuel ih=>
  intro listed F E a hs hc hl hx H hf hn hQ
  refine⟨fun hrd=>absurd hrd (ready_some (fun j o ho=>(drawA_edges hd ho).2.2) hs (by intro h;rw[h] at hl;cases hl)),fun i hi=> ?_⟩
  obtain⟨s,t,hst⟩:=List.append_of_mem (ready_rest hi);obtain⟨o,ho,hisz,hsort,hsi,hub,hc',hrs,hun⟩:=ready_split hs hc hi hst
  have hnd:(rest ops listed).Nodup:=(rest_sorted (ops:=ops) listed).imp fun h=>Nat.ne_of_lt h
  obtain⟨o',e,h1,k1,k2,k3,k4⟩:=red_ready hd (dst_dS hds) hP (fuel+1) (rest ops listed) hnd hx i (ready_rest hi) (List.all_eq_true.2 fun j hj=>by rw[hun j hj];rfl)
  rw[ho] at k1
  injection k1 with k1
  subst k1;have hdef:=(drawA_edges hd ho).2.1
  have hdw:dstW (aDr o) o=o.dst:=by unfold dstW;rw[hdef];cases aDr o<;>rfl
  have hdst:dstOk n o.dst=true:=List.all_eq_true.1 hds _ (by simpa using Array.mem_of_getElem? ho)
  refine stepOp_ok hI (hcl _) ho hdst k2 H hf hn fun E' a' S hE' hf' hsz hdf=> ?_
  rw[hdw] at hf'
  have hdf:=hdf.resolve_left (by rw[hdef];simp)
  refine ih _ _ E' a' (by simpa using hs) hc' ?_ ?_ S.good hf' (by rw[hsz];exact hn) fun G E'' a'' hp S' hf'' hsz' hdf'=>hQ G E'' a'' hp (S.trans S') hf'' (hsz'.trans hsz) (hdf'.trans hdf)
  ·rw[hrs];rw[hst] at hl;simp at hl⊢;omega
  ·rw[hrs,←erase_split (hst▸hnd),←hst,hE'];exact k4
theorem region_all_ok (hI:∀w w',I w→Below B0 w w'→I w')(hm:C.P.follows .mixedOrders=true)(hcl:∀d,ClOk C I B0 (cl d))(hd:drawA ops=true)
  {n:Nat} (hds:(ops.toList.all fun o=>dstOk n o.dst)=true) {Q:Exit→Act→World→Prop} {id:Nat} {F G:Fr} {h':Hp} {E:Env} {a:Act}
  (hx:execA C cl ops F E.h=.ok (G,h')) (H:Good C.G I B0 E) (hf:FrsOk E F a) (hn:n≤a.tmps.size)
  (hQ:∀E' a',Step C.G I B0 E E'→E'.h=h'→FrsOk E' G a'→a'.tmps.size=a.tmps.size→a'.defers=a.defers→Q .normal a' E'.w):(Code.region id ops true).wp C.P Q a E.w:=by
 refine wp_region_any hm ?_
 have hb:∀B,Below B E.w {E.w with drawn:=E.w.drawn+1}:=fun B=>⟨rfl,rfl,rfl,Nat.le_refl _,fun _ _=>rfl⟩
 have S:=step_same hI H (w':={E.w with drawn:=E.w.drawn+1}) (hb _) rfl
 unfold execA at hx;split at hx
 ·rename_i G1 h1 hr;split at hx
  ·rename_i hdec;simp only[Except.ok.injEq,Prod.mk.injEq] at hx;obtain⟨rfl,rfl⟩:=hx;have hred:=@of_decide_eq_true _ (Classical.propDecidable _) hdec
   refine orders_ok hI hcl hd hds (Post:=fun G' h2=>(∀n,lk G' n=lk G1 n)∧h2=h1) (fun F F' h he hp=>⟨fun n=>(he n).symm.trans (hp.1 n),hp.2⟩) ops.size _ F {E with w:={E.w with drawn:=E.w.drawn+1}} a (by simp) (closed_all ops) (by rw[rest_all];simp)
    (by rw[rest_all];exact hred) S.good (FrsOk.mono S.le hf) hn fun G' E' a' hp S' hf' hs hdf=>hQ E' a' (S.trans S') hp.2 (hf'.eq fun n=>hp.1 n) hs hdf
  ·cases hx
 ·cases hx
end
end Go.Ai
