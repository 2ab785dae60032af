/-
  Drawn regions all of whose orders are gone through.
-/
import Derived.Test.YtopjpnhgnopbiaaGreatDoorTAiAny
set_option linter.unusedVariables false
set_option linter.unusedSimpArgs false
set_option linter.unnecessarySimpa false
namespace Go.Ai
open Go.RowKit
section
variable {C:Bh}{cl:Bool->FuncId->List AV->Hp->Except (List Nat) (AV×Hp)}{ops:Array Oper}{I:World->Prop}{B0:Nat}
theorem My (h:LH ops=true){j:Nat}{o:Oper}(ho:ops[j]?=some o):cF o.op=true/\Dj o=false/\∀e∈o.after,Region.binds .any e=true->e.on<j:=by
 unfold LH at h;rw[Bool.and_eq_true] at h
 have hz:(o,j)∈ops.toList.zipIdx:=List.mem_of_getElem? (by rw[List.getElem?_zipIdx];simp[ho]:ops.toList.zipIdx[j]?=some (o,j))
 have h1:=List.all_eq_true.1 h.1 _ hz;simp only[Bool.and_eq_true,Bool.not_eq_true'] at h1
 refine⟨h1.1,h1.2.1,fun e he hb=> ?_⟩
 have:=List.all_eq_true.1 h1.2.2 e (by simpa using he)
 rw[hb] at this;simp only[Bool.not_true,Bool.false_or] at this;exact Nat.le_of_ble_eq_true this
theorem PZ (h:LH ops=true){i j:Nat}{x y:Oper}(hx:ops[i]?=some x)(hy:ops[j]?=some y)(su:i<j):DQ ops i j=true\/x.apart ops y=true:=by
 unfold LH at h;rw[Bool.and_eq_true] at h
 have vu:(y,j)∈ops.toList.zipIdx:=List.mem_of_getElem? (by rw[List.getElem?_zipIdx];simp[hy]:ops.toList.zipIdx[j]?=some (y,j))
 have vv:(x,i)∈ops.toList.zipIdx:=List.mem_of_getElem? (by rw[List.getElem?_zipIdx];simp[hx]:ops.toList.zipIdx[i]?=some (x,i))
 have:=List.all_eq_true.1 (List.all_eq_true.1 h.2 _ vu) _ vv;simp only[Bool.or_eq_true,Bool.not_eq_true'] at this
 rcases this with (h1|h1)|h1
 ·have:Nat.blt i j=true:=Nat.ble_eq_true_of_le su;rw[this] at h1;cases h1
 ·exact .inl h1
 ·exact .inr h1
theorem Hh {l:List Nat}{i:Nat}(h:Ei ops l i=true):∀j∈l,DQ ops j i=false:=fun j hj=>by
 have:=List.all_eq_true.1 h j hj;simpa using this
theorem MZ {l l':List Nat}{i:Nat}(hs:∀j∈l',j∈l)(h:Ei ops l i=true):Ei ops l' i=true:=
 List.all_eq_true.2 fun j hj=>List.all_eq_true.1 h j (hs j hj)
theorem PG {l:List Nat}{i:Nat}(h:Mr C ops l i=true):Ei ops l i=true/\(∃o,ops[i]?=some o/\EB C o=true)/\((∀o,ops[i]?=some o->Kl o=true)\/∀j∈l,j=i\/(∀y,ops[j]?=some y->EB C y=true)\/DQ ops i j=true):=by
 unfold Mr at h;simp only[Bool.and_eq_true] at h;obtain⟨⟨h1,h2⟩,h3⟩:=h;refine⟨h1,?_,?_⟩
 ·split at h2
  ·exact⟨_,by assumption,h2⟩
  ·cases h2
 ·rw[Bool.or_eq_true] at h3
  rcases h3 with h3|h3
  ·refine .inl fun o ho=> ?_
   rw[ho] at h3;exact h3
  refine .inr fun j hj=> ?_
  have:=List.all_eq_true.1 h3 j hj;simp only[Bool.or_eq_true] at this
  rcases this with (h4|h4)|h4
  ·exact .inl (Nat.eq_of_beq_eq_true h4)
  ·refine .inr (.inl fun y hy=> ?_)
   rw[hy] at h4;exact h4
  ·exact .inr (.inr h4)
theorem Za {l l':List Nat}{i:Nat}(hs:∀j∈l',j∈l)(h:Mr C ops l i=true):Mr C ops l' i=true:=by
 unfold Mr at h⊢;simp only[Bool.and_eq_true] at h⊢;refine⟨⟨MZ hs h.1.1,h.1.2⟩,?_⟩;rw[Bool.or_eq_true] at *
 exact h.2.imp id fun h=>List.all_eq_true.2 fun j hj=>List.all_eq_true.1 h j (hs j hj)
theorem Mc {o:Oper}{F F':Fr}{h:Hp}(he:Da F F'):Dz C cl ops o F h=Dz C cl ops o F' h:=
 Bs o (fun t _=>he t) (.inr (he dS)) (.inr fun d _=>he d)
theorem KS {Post:Fr->Hp->Prop}(hP:∀F F' h,Da F F'->Post F h->Post F' h):∀(n:Nat) (l:List Nat) {F F':Fr} {h:Hp},Da F F'->NX C cl ops Post n l F h->NX C cl ops Post n l F' h
 |0,_,_,_,_,_,hx=>hx
 |n+1,[],F,F',h,he,hx=>hP F F' h he hx
 |n+1,k::l,F,F',h,he,hx=>by
  rcases hx with ⟨i,o,e,h1,h2,h3,h4,h5⟩|hx
  ·exact .inl ⟨i,o,e,h1,h2,h3,by rw[<-Mc he];exact h4,KS hP n _ (he.put _ _) h5⟩
  ·refine .inr fun i hi hu=> ?_
   obtain⟨o,e,h1,k1,k2,k3,k4⟩:=hx i hi hu
   exact⟨o,e,h1,k1,by rw[<-Mc he];exact k2,k3,KS hP n _ (he.put _ _) k4⟩
theorem Da.fw {F:Fr}{d1 d2:Option Nat}{e1 e2:Bool×AV}(h:∀x,d1=some x->d2≠some x):Da (Aq (Aq F d1 e1) d2 e2) (Aq (Aq F d2 e2) d1 e1):=by
 intro n
 cases d1 with
 |none=>rfl
 |some a=>
  cases d2 with
  |none=>rfl
  |some b=>
   have Qv:a≠b:=fun e=>h a rfl (by rw[e])
   simp only[Aq,lk]
   cases h1:Nat.beq b n with
   |true=>
    have:b=n:=Nat.eq_of_beq_eq_true h1
    have h2:Nat.beq a n=false:=by
     cases h2:Nat.beq a n with
     |false=>rfl
     |true=>exact absurd ((Nat.eq_of_beq_eq_true h2).trans this.symm) Qv
    simp[h2]
   |false=>cases h2:Nat.beq a n<;>simp
theorem Uk {F:Fr}(h h1:Hp){o:Oper}(hp:Kl o=true):Bg C (IS o) F h1 o=(Bg C (IS o) F h o).map fun r=>(r.1,r.2.1,h1):=by
 obtain⟨dst,op,ty,pos,after,gd⟩:=o;unfold Kl at hp;rw[Bool.and_eq_true] at hp
 replace hp:=hp.2
 cases op<;>simp only[Bool.false_eq_true] at hp
 case nilCheck x=>
  simp only[IS,Bg,Bw,evalOp,EU];generalize ev C.G F x=y;obtain⟨y1,y2⟩:=y
  cases y2<;>rfl
 case fieldAddr s x f=>
  simp only[IS,Bg,Bw,evalOp,Dm];generalize ev C.G F x=y;obtain⟨y1,y2⟩:=y;generalize C.P.underlying s=u
  cases u with
  |none=>rfl
  |some d=>
   cases d<;>try rfl
   rename_i fs
   cases hq:fs[f]? with
   |none=>cases y2<;>simp[hq]
   |some fd=>cases hb:Nat.beq (C.P.cellsOf fd.type) 0<;>cases y2<;>simp[hq,hb]
 case indexAddr t x i=>
  simp only[IS,Bg,Bw,evalOp,Dl];generalize ev C.G F x=y;generalize ev C.G F i=z;obtain⟨y1,y2⟩:=y;obtain⟨z1,z2⟩:=z;generalize C.P.underlying t=u
  cases u with
  |none=>rfl
  |some d=>
   cases d<;>try rfl
   all_goals (cases y2<;>try rfl)
   all_goals (cases z2<;>rfl)
 case buildSlice t len parts=>
  simp only[IS,Bg,evalOp,Cr];generalize C.P.underlying t=u
  cases u with
  |none=>rfl
  |some d=>
   cases d<;>try rfl
   simp only
   generalize ((parts.size.beq len&&parts.toList.zipIdx.all fun p=>p.fst.fst.beq p.snd)&&_&&_&&_&&_)=b
   cases b<;>rfl
 case call c=>
  obtain⟨callee,args,CG⟩:=c
  cases callee with
  |builtin b=>
   cases b<;>simp only[Bool.false_eq_true] at hp
   simp only[IS,Bg,Bw,evalOp,GJ];generalize args.toList=l;generalize CG.toList=m
   match l,m with
   |[],_=>cases m<;>rfl
   |_::_::_,_=>cases m<;>rfl
   |[_],[]=>rfl
   |[_],_::_::_=>rfl
   |[x],[t]=>
    simp only[RC];generalize ev C.G F x=y;obtain⟨y1,y2⟩:=y;generalize C.P.underlying t=u
    cases u with
    |none=>rfl
    |some d=>
     cases d<;>try rfl
     all_goals (cases y2<;>rfl)
  |_=>simp at hp
theorem Ww {F:Fr}{h h':Hp}{o:Oper}{g:Bool}{e:Bool×AV}(hp:Kl o=true)(hx:Bg C (IS o) F h o=some (g,e,h'))(h1:Hp):Bg C (IS o) F h1 o=some (g,e,h1):=by
 rw[Uk h h1 hp,hx];rfl
theorem Vh {o:Oper}{F:Fr}{h:Hp}{e:Bool×AV}(hp:Kl o=true)(hx:Dz C cl ops o F h=.ok (e,h))(h1:Hp):Dz C cl ops o F h1=.ok (e,h1):=by
 have hg:o.guard=none:=by
  unfold Kl at hp;rw[Bool.and_eq_true] at hp;simpa using hp.1
 have key:∀h,Dz C cl ops o F h=BA C (cl (IS o)) (IS o) o F h:=by
  intro h;unfold Dz AW guardOf;simp only[hg]
  have:Ef C.P (IS o) ops o F h=none:=by
   obtain⟨dst,op,ty,pos,after,gd⟩:=o;unfold Kl at hp;rw[Bool.and_eq_true] at hp
   replace hp:=hp.2
   unfold Ef
   cases op<;>simp only[Bool.false_eq_true] at hp
   all_goals (simp only[IS];split<;>first|rfl|simp_all)
  rw[this]
 have gen:∀h,BA C (cl (IS o)) (IS o) o F h=(match Bg C (IS o) F h o with
   |some (true,e,h')=>.ok (e,h')
   |some (false,_,_)=>.error [1006]
   |none=>.error [1007]):=by
  intro h;obtain⟨dst,op,ty,pos,after,gd⟩:=o;simp only at hg;subst hg;unfold Kl at hp;simp only[Option.isNone_none,Bool.true_and] at hp
  cases op<;>try simp only[Bool.false_eq_true] at hp
  case call c=>
   obtain⟨callee,args,CG⟩:=c
   cases callee with
   |builtin b=>rfl
   |_=>simp at hp
  all_goals rfl
 rw[key,gen] at hx⊢;split at hx
 ·rename_i e1 h2 he;rw[Ww hp he h1];simp at hx;rw[hx.1]
 ·cases hx
 ·cases hx
theorem Qd (hd:LH ops=true)(pc:∀o∈ops.toList,o.dst≠some dS){Post:Fr->Hp->Prop}(hP:∀F F' h,Da F F'->Post F h->Post F' h):∀(n:Nat) (l:List Nat) {F:Fr} {h:Hp},l.Nodup->NX C cl ops Post (n+1) l F h->∀i∈l,Ei ops l i=true->
  ∃o e h1,ops[i]?=some o/\Dz C cl ops o F h=.ok (e,h1)/\(EB C o=true->h1=h)/\NX C cl ops Post n (l.erase i) (Aq F o.dst e) h1
 |n,[],F,h,_,_,i,hi,_=>by cases hi
 |0,k::l,F,h,_,hx,i,hi,hu=>by
  rcases hx with ⟨_,_,_,_,_,_,_,h5⟩|hx
  ·exact h5.elim
  ·exact hx i hi hu
 |n+1,k::l,F,h,hn,hx,i,hi,hu=>by
  rcases hx with ⟨b,ob,eb,hb,KU,Am,sY,gW⟩|hx
  ·obtain⟨f1,⟨rp,f2,f3⟩,f4⟩:=PG KU;rw[Am] at f2
   injection f2 with f2
   subst f2
   by_cases oE:i=b
   ·subst oE
    exact⟨ob,eb,h,Am,sY,fun _=>rfl,gW⟩
   ·have IP:i∈(k::l).erase b:=(List.mem_erase_of_ne oE).2 hi
    have sU:∀j∈(k::l).erase b,j∈k::l:=fun j hj=>List.mem_of_mem_erase hj
    obtain⟨o,e,h1,k1,k2,k3,k4⟩:=Qd hd pc hP n _ (hn.erase b) gW i IP (MZ sU hu)
    have sX:Dz C cl ops ob F h1=.ok (eb,h1):=by
     rcases f4 with h4|f4
     ·exact Vh (h4 ob Am) sY h1
     have wZ:EB C o=true:=by
      rcases f4 i hi with h4|h4|h4
      ·exact absurd h4 oE
      ·exact h4 o k1
      ·rw[Hh hu b hb] at h4;cases h4
     rw[k3 wZ];exact sY
    have SW:(∀t∈o.looksAt ops,ob.dst≠some t)/\(∀t∈ob.looksAt ops,o.dst≠some t)/\∀x,ob.dst=some x->o.dst≠some x:=by
     rcases Nat.lt_or_gt_of_ne oE with As|As
     ·rcases PZ hd k1 Am As with h5|h5
      ·rw[Hh f1 i hi] at h5;cases h5
      ·obtain⟨a1,a2,a3⟩:=Oper.apart_spec h5
       exact⟨fun t ht e=>a3 t e ht,fun t ht e=>a1 t e ht,fun x hx IM=>a2 x IM hx⟩
     ·rcases PZ hd Am k1 As with h5|h5
      ·rw[Hh hu b hb] at h5;cases h5
      ·obtain⟨a1,a2,a3⟩:=Oper.apart_spec h5
       exact⟨fun t ht e=>a1 t e ht,fun t ht e=>a3 t e ht,fun x hx IM=>a2 x hx IM⟩
    obtain⟨p1,p2,p3⟩:=SW
    have sh:ob∈ops.toList:=by simpa using Array.mem_of_getElem? Am
    have X9:o∈ops.toList:=by simpa using Array.mem_of_getElem? k1
    have oq:∀{x y:Oper} {ey:Bool×AV} {g:Hp},(∀t∈x.looksAt ops,y.dst≠some t)->(∀z,y.dst=some z->x.dst≠some z)->y∈ops.toList->Dz C cl ops x (Aq F y.dst ey) g=Dz C cl ops x F g:=by
     intro x y ey g hl gi hy
     refine Bs x (fun t ht=>Az (hl t ht)) (.inr (Az (pc y hy))) (.inr fun z hz=>Az fun e=> ?_)
     have:x.dst=some z:=by
      unfold II at hz;split at hz
      ·exact hz
      ·cases hz
     exact gi z e this
    have GI:Dz C cl ops o F h=.ok (e,h1):=by rw[<-oq p1 p3 sh (ey:=eb)];exact k2
    have JL:Dz C cl ops ob (Aq F o.dst e) h1=.ok (eb,h1):=by rw[oq p2 (fun z hz nV=>p3 z nV hz) X9];exact sX
    refine⟨o,e,h1,k1,GI,k3,?_⟩
    have Gd:b∈(k::l).erase i:=(List.mem_erase_of_ne (fun e=>oE e.symm)).2 hb
    cases hl:(k::l).erase i with
    |nil=>rw[hl] at Gd;cases Gd
    |cons k' l'=>
     refine .inl ⟨b,ob,eb,by rw[<-hl];exact Gd,?_,Am,JL,?_⟩
     ·rw[<-hl]
      exact Za (fun j hj=>List.mem_of_mem_erase hj) KU
     ·rw[<-hl,List.erase_comm];exact KS hP n _ (Da.fw p3) k4
  ·obtain⟨o,e,h1,k1,k2,k3,k4⟩:=hx i hi hu;exact⟨o,e,h1,k1,k2,k3,k4⟩
theorem Us {s t:List Nat}{i:Nat}(h:(s++i::t).Nodup):(s++i::t).erase i=s++t:=by
 rw[List.nodup_append] at h
 rw[List.erase_append_right _ (fun hi=>h.2.2 i hi i (by simp) rfl)]
 simp
theorem Y8 (hI:∀w w',I w->Below B0 w w'->I w')(DZ:∀d,MY C I B0 (cl d))(hd:LH ops=true)
  {n:Nat} (Gs:(ops.toList.all fun o=>FE n o.dst)=true) {Post:Fr->Hp->Prop} (hP:∀F F' h,Da F F'->Post F h->Post F' h) {Q:Exit->Act->World->Prop}:
  ∀(fuel:Nat) (listed:Array Bool) (F:Fr) (E:Env) (a:Act),listed.size=ops.size->KT ops listed->(rest ops listed).length=fuel->
   NX C cl ops Post (fuel+1) (rest ops listed) F E.h->Good C.G I B0 E->AO E F a->n<=a.tmps.size->
   (∀G E' a',Post G E'.h->Step C.G I B0 E E'->AO E' G a'->a'.tmps.size=a.tmps.size->a'.defers=a.defers->Q .normal a' E'.w)->wpAny C.P .any ops Q fuel listed a E.w:=by
 intro fuel
 induction fuel with
 |zero=>
  intro listed F E a hs hc hl hx H hf hn hQ;have hr:rest ops listed=[]:=List.eq_nil_of_length_eq_zero hl;rw[hr] at hx;refine⟨?_,hQ F E a hx (Step.refl H) hf rfl rfl⟩
  cases ID:Region.ready .any ops listed with
  |nil=>rfl
  |cons i l=>
   have:i∈rest ops listed:=ES (by rw[ID];simp)
   rw[hr] at this;cases this
 |succ fuel ih=>
  intro listed F E a hs hc hl hx H hf hn hQ
  refine⟨fun ID=>absurd ID (J6 (fun j o ho=>(My hd ho).2.2) hs (by intro h;rw[h] at hl;cases hl)),fun i hi=> ?_⟩
  obtain⟨s,t,DI⟩:=List.append_of_mem (ES hi);obtain⟨o,ho,O8,Dk,Dd,QA,fV,Mm,wI⟩:=Fc hs hc hi DI
  have YA:(rest ops listed).Nodup:=(Fb (ops:=ops) listed).imp fun h=>Nat.ne_of_lt h
  obtain⟨o',e,h1,k1,k2,k3,k4⟩:=Qd hd (PY Gs) hP (fuel+1) (rest ops listed) YA hx i (ES hi) (List.all_eq_true.2 fun j hj=>by rw[wI j hj];rfl)
  rw[ho] at k1
  injection k1 with k1
  subst k1;have di:=(My hd ho).2.1
  have PD:Cx (IS o) o=o.dst:=by unfold Cx;rw[di];cases IS o<;>rfl
  have QE:FE n o.dst=true:=List.all_eq_true.1 Gs _ (by simpa using Array.mem_of_getElem? ho)
  refine JC hI (DZ _) ho QE k2 H hf hn fun E' a' S Gn F7 CC FD=> ?_
  rw[PD] at F7
  have FD:=FD.resolve_left (by rw[di];simp)
  refine ih _ _ E' a' (by simpa using hs) fV ?_ ?_ S.Cg F7 (by rw[CC];exact hn) fun G aC iI hp S' SU E9 MI=>hQ G aC iI hp (S.trans S') SU (E9.trans CC) (MI.trans FD)
  ·rw[Mm];rw[DI] at hl;simp at hl⊢;omega
  ·rw[Mm,<-Us (DI▸YA),<-DI,Gn];exact k4
theorem Py (hI:∀w w',I w->Below B0 w w'->I w')(hm:C.P.follows .mixedOrders=true)(DZ:∀d,MY C I B0 (cl d))(hd:LH ops=true)
  {n:Nat} (Gs:(ops.toList.all fun o=>FE n o.dst)=true) {Q:Exit->Act->World->Prop} {id:Nat} {F G:Fr} {h':Hp} {E:Env} {a:Act}
  (hx:Is C cl ops F E.h=.ok (G,h')) (H:Good C.G I B0 E) (hf:AO E F a) (hn:n<=a.tmps.size)
  (hQ:∀E' a',Step C.G I B0 E E'->E'.h=h'->AO E' G a'->a'.tmps.size=a.tmps.size->a'.defers=a.defers->Q .normal a' E'.w):(Code.region id ops true).wp C.P Q a E.w:=by
 refine wp_region_any hm ?_
 have hb:∀B,Below B E.w {E.w with drawn:=E.w.drawn+1}:=fun B=>⟨rfl,rfl,rfl,Nat.le_refl _,fun _ _=>rfl⟩
 have S:=LZ hI H (w':={E.w with drawn:=E.w.drawn+1}) (hb _) rfl
 unfold Is at hx;split at hx
 ·rename_i G1 h1 hr;split at hx
  ·rename_i te;simp only[Except.ok.injEq,Prod.mk.injEq] at hx;obtain⟨rfl,rfl⟩:=hx;have dJ:=@of_decide_eq_true _ (Classical.propDecidable _) te
   refine Y8 hI DZ hd Gs (Post:=fun G' h2=>(∀n,lk G' n=lk G1 n)/\h2=h1) (fun F F' h he hp=>⟨fun n=>(he n).symm.trans (hp.1 n),hp.2⟩) ops.size _ F {E with w:={E.w with drawn:=E.w.drawn+1}} a (by simp) (KM ops) (by rw[HK];simp)
    (by rw[HK];exact dJ) S.Cg (AO.mono S.le hf) hn fun G' E' a' hp S' F7 hs FD=>hQ E' a' (S.trans S') hp.2 (F7.eq fun n=>hp.1 n) hs FD
  ·cases hx
 ·cases hx
end
end Go.Ai
