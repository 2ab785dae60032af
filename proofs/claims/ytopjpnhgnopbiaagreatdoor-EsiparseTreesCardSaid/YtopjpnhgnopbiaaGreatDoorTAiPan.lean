/-
  Runs that end in a panic: what gives up, with what, and what is left of memory. No statement about the program is made here.
-/
import Derived.Test.YtopjpnhgnopbiaaGreatDoorTAiCtr
set_option linter.unusedVariables false
set_option linter.unusedSimpArgs false
set_option linter.unnecessarySimpa false
namespace Go.Ai
open Go.RowKit
abbrev PX :=Int×Int
abbrev GB :=FuncId->List AV->Option PX
def MV (C:Bh)(PK:FuncId->List AV->Hp->PX->Hp->Prop)(o:Oper)(F:Fr)(h:Hp)(x:PX)(h':Hp):Prop:=
 match o.op with
 |.call {callee:=.value y,args,argTypes:=_}=>
  ∃k first cap vs,ev C.G F y=(true,.fn (.func k) first cap)/\MP C.G F args.toList=(true,vs)/\C.ident k=false/\PK k (first++vs++cap) h x h'
 |_=>False
def Kn (draw:Bool)(F:Fr):Fr:=match draw with
 |true=>[(dS,lk F dS)]
 |false=>F
def I6 (C:Bh)(PK:FuncId->List AV->Hp->PX->Hp->Prop)(ops:Array Oper)(draw:Bool):Nat->List Oper->Fr->Hp->PX->Fr->Hp->Prop
 |_,[],_,_,_,_,_=>False
 |i,o::os,F,h,x,F',h'=>(A6 C ops draw i=false/\guardOf ops F o=some true/\F'=Kn draw F/\MV C PK o F h x h')\/
   ∃e h1,(∃n0,∀n,n0<=n->AW C (call C (A6 C ops draw i) n) ops (A6 C ops draw i) o F h=.ok (e,h1))/\EH C ops draw i F h h1=true/\I6 C PK ops draw (i+1) os (Aq F (Cx (A6 C ops draw i) o) e) h1 x F' h'
mutual
def EV (C:Bh)(PF:GB):Nat->FuncId->Code->Fr->Hp->PX->Fr->Hp->Prop
 |0,_,_,_,_,_,_,_=>False
 |n+1,f,c,F,h,x,F',h'=>
  match c with
  |.seq a b=>EV C PF n f a F h x F' h'\/∃F1 h1,DG C f a F h .normal F1 h1/\EV C PF n f b F1 h1 x F' h'
  |.cond y a b=>∃t,ev C.G F y=(true,.bool t)/\EV C PF n f (match t with|true=>a|false=>b) F h x F' h'
  |.block _ a=>EV C PF n f a F h x F' h'
  |.loop a=>EV C PF n f a F h x F' h'\/∃F1 h1,DG C f a F h .normal F1 h1/\
    EV C PF n f (.loop a) (match C.FB f with|true=>Cv h.length h1 F1|false=>F1) (match C.FB f with|true=>(h1.take h.length).map (AL h.length h1)|false=>h1) x F' h'
  |.region id ops draw=>(draw&&C.Gq f id)=false/\((!C.Cs f&&Eo ops.toList)||(draw&& !SL ops.toList (IK (FH ops draw) h.length ((C.live f id).map fun s=>(s,lk F s)))))=false/\I6 C (MW C PF n) ops draw 0 ops.toList (IK (FH ops draw) h.length ((C.live f id).map fun s=>(s,lk F s))) (Pv (FH ops draw) h) x F' h'
  |_=>False
def MW (C:Bh)(PF:GB):Nat->FuncId->List AV->Hp->PX->Hp->Prop
  | 0,_,_,_,_,_=>False
  | n+1,k,vs,h,x,h'=>
    (PF k vs=some x/\h'=h)\/
    (C.ok k=true/\C.Cy k=none/\C.E7 k=none/\C.Cs k=false/\∃fn c,C.P.funcs[k]?=some fn/\fn.body=some c/\
      ((C.heap k=true/\∃F1 h1,EV C PF n k c (DY 0 vs) h x F1 h1/\h'=(h1.take h.length).map (AL h.length h1))\/
       (C.heap k=false/\∃F1 h1,EV C PF n k c (DY 0 (AP 0 [] vs)) [] x F1 h1/\h'=h)))
end
section
variable {C:Bh}{I:World->Prop}{B0:Nat}
def jS (G:Nat->Option (List AV))(I:World->Prop)(B0:Nat)(ch:PX->List PanicEntry)(E:Env)(x:PX)(h':Hp)(e:Ending)(w':World):Prop:=
 e=.panicked (ch x)/\∃E',E'.w=w'/\Step G I B0 E E'/\E'.h=h'
def Zw (C:Bh)(I:World->Prop)(B0:Nat)(ch:PX->List PanicEntry)(PK:FuncId->List AV->Hp->PX->Hp->Prop):Prop:=
 ∀k vs h x h',PK k vs h x h'->Callee C.P k/\∀(E:Env) (args:List Value),E.h=h->Good C.G I B0 E->BJ E vs args->Calls C.P k args.toArray E.w (jS C.G I B0 ch E x h')
def iK (C:Bh)(I:World->Prop)(B0:Nat)(ch:PX->List PanicEntry)(PF:GB):Prop:=
 ∀k vs x,PF k vs=some x->Callee C.P k/\∀(E:Env) (args:List Value),Good C.G I B0 E->BJ E vs args->Calls C.P k args.toArray E.w (jS C.G I B0 ch E x E.h)
theorem Xd {ch:PX->List PanicEntry}{PK:FuncId->List AV->Hp->PX->Hp->Prop}(lA:Zw C I B0 ch PK){ops:Array Oper}{Q:Exit->Act->World->Prop}{K:Act->World->Prop}{i:Nat}{o:Oper}(ho:ops[i]?=some o){F:Fr}{x:PX}{h':Hp}{E:Env}{a:Act}
  (hg:guardOf ops F o=some true) (hx:MV C PK o F E.h x h') (H:Good C.G I B0 E) (hf:AO E F a) (hQ:∀E',Step C.G I B0 E E'->E'.h=h'->Q (.panic (ch x)) a E'.w):wpOp C.P ops Q i K a E.w:=by
 simp only[wpOp,ho];rw[H8 hf hg,if_pos rfl];refine .inl ?_;unfold MV at hx;split at hx
 ·rename_i y args _ Bc
  obtain⟨k,first,cap,vs,MH,dh,hid,hk⟩:=hx
  obtain⟨fa,ca,lv,Qq,Mn⟩:=Aj H hf MH rfl
  have CV:=Sc H hf args.toList (by rw[dh])
  rw[dh] at CV;have CE:=BJ.append (BJ.append Qq CV) Mn
  have Im:fa++args.map a.eval++ca=(fa.toList++args.toList.map a.eval++ca.toList).toArray:=by
   apply Array.ext';simp
  obtain⟨⟨fn,Mp,hb,Ky⟩,We⟩:=lA k _ _ _ _ hk;have hc:=We E _ rfl H CE
  have Ub:(execOp a.eval o).run C.P E.w=.ok (.enter k (fa.toList++args.toList.map a.eval++ca.toList).toArray) E.w:=by
   obtain⟨d,op,ty,pos,after,gd⟩:=o;simp only at Bc;subst Bc;simp only[execOp,resolve,lv,Deferred.ofValue,Sem.run_bind,Sem.run_pure,Result.andThen_ok,invoke,callFunc,run_program,Mp,Ky,hb,Im];rfl
  unfold Oper.wp;rw[Ub,Oper.upon_enter]
  refine hc.mono fun e w' UT=> ?_
  obtain⟨rfl,E1,rfl,S,KH⟩:=UT;exact hQ E1 S KH
 ·exact hx.elim
theorem Y6 (hI:∀w w',I w->Below B0 w w'->I w')(DZ:∀n,MY C I B0 (call C false n)){ch:PX->List PanicEntry}{PK:FuncId->List AV->Hp->PX->Hp->Prop}(lA:Zw C I B0 ch PK){ops:Array Oper}{n:Nat}{Q:Exit->Act->World->Prop}:
  ∀(l:List Nat) (j:Nat) (F:Fr) (h:Hp) (x:PX) (F':Fr) (h':Hp),((Gz ops l).all fun o=>FE n o.dst)=true->I6 C PK ops false j (Gz ops l) F h x F' h'->∀(E:Env) (a:Act),E.h=h->Good C.G I B0 E->AO E F a->n<=a.tmps.size->
   (∀E' a',Step C.G I B0 E E'->E'.h=h'->AO E' F' a'->a'.tmps.size=a.tmps.size->(Eo (Gz ops l)=true\/a'.defers=a.defers)->Q (.panic (ch x)) a' E'.w)->wpOps C.P ops Q l a E.w:=by
 intro l
 induction l with
 |nil=>
  intro j F h x F' h' _ hx;exact hx.elim
 |cons i l ih=>
  intro j F h x F' h' Gs hx E a hE H hf hn hQ;subst hE;rw[wpOps_cons]
  cases ho:ops[i]? with
  |none=>
   have:Gz ops (i::l)=Gz ops l:=by simp[Gz,ho]
   rw[this] at hx Gs;simp only[wpOp,ho];rw[this] at hQ;exact ih j F E.h x F' h' Gs hx E a rfl H hf hn hQ
  |some o=>
   have:Gz ops (i::l)=o::Gz ops l:=by simp[Gz,ho]
   rw[this] at hx Gs hQ;rw[List.all_cons,Bool.and_eq_true] at Gs;have td:A6 C ops false j=false:=rfl;simp only[I6,td,Kn,true_and] at hx
   rcases hx with ⟨hg,rfl,hx⟩|⟨e,h1,⟨n0,hs⟩,_,hx⟩
   ·exact Xd lA ho hg hx H hf fun E1 S KH=>hQ E1 a S KH (AO.mono S.le hf) rfl (.inr rfl)
   ·exact JC hI (DZ n0) ho Gs.1 (hs n0 (Nat.le_refl _)) H hf hn fun E' a' S Gn F7 CC FD=>
     ih _ _ _ x F' h' Gs.2 hx E' a' Gn S.Cg F7 (by rw[CC];exact hn) fun aC iI S' Wh SU E9 MI=>hQ aC iI (S.trans S') Wh SU (E9.trans CC) (by
      rcases FD with ⟨_,h2⟩|FD
      ·exact .inl (by simp[Eo,h2])
      ·rcases MI with h2|MI
       ·exact .inl (by simp only[Eo] at h2⊢;simp[h2])
       ·exact .inr (MI.trans FD))
theorem OT {PK:FuncId->List AV->Hp->PX->Hp->Prop}{ops:Array Oper}{o:Oper}{F F':Fr}{h:Hp}{x:PX}{h':Hp}(he:∀t∈o.looksAt ops,lk F t=lk F' t)(hx:MV C PK o F h x h'):MV C PK o F' h x h':=by
 unfold MV at hx⊢;split at hx
 ·rename_i y args CG Bc
  obtain⟨k,first,cap,vs,h1,h2,h3,h4⟩:=hx
  have hm:∀z∈o.op.operands,ev C.G F z=ev C.G F' z:=fun z hz=>Um fun t ht=>he t (by
   subst ht
   exact List.mem_append_left _ (List.mem_filterMap.2 ⟨.tmp t,by simpa using hz,rfl⟩))
  rw[Bc] at hm
  have e1:ev C.G F y=ev C.G F' y:=hm y (by simp[Op.operands,Call.operands])
  have e2:MP C.G F args.toList=MP C.G F' args.toList:=JP fun z hz=>hm z (by simp[Op.operands,Call.operands];exact .inr (by simpa using hz))
  refine⟨k,first,cap,vs,?_,?_,h3,h4⟩
  ·rw[<-e1];exact h1
  ·rw[<-e2];exact h2
 ·exact hx.elim
theorem OS {PK:FuncId->List AV->Hp->PX->Hp->Prop}{ops:Array Oper}{x:PX}{F':Fr}{h':Hp}:∀(os:List Oper) (i:Nat) {F:Fr} {h:Hp},(∀j,os[j]?=ops[i+j]?)->I6 C PK ops true i os F h x F' h'->
  ∃A m B o F1 h1,List.range' i os.length=A++m::B/\ops[m]?=some o/\GW C ops m=true/\(∃n0,∀n,n0<=n->Bt C (fun d=>call C d n) ops A F h=.ok (F1,h1))/\MV C PK o F1 h1 x h'/\F'=Kn true F1
 |[],i,F,h,_,hx=>hx.elim
 |o::os,i,F,h,Sx,hx=>by
  have ho:ops[i]?=some o:=by simpa using(Sx 0).symm
  simp only[I6] at hx;rw[List.length_cons,List.range'_succ]
  rcases hx with ⟨Wc,hg,rfl,hx⟩|⟨e,h1,⟨n0,hs⟩,hm,hx⟩
  ·have fT:GW C ops i=true:=by
    cases fT:GW C ops i with
    |true=>rfl
    |false=>rw[Fk fT] at Wc;cases Wc
   exact⟨[],i,_,o,F,h,rfl,ho,fT,⟨0,fun n _=>rfl⟩,hx,rfl⟩
  ·obtain⟨A,m,B,om,F1,h2,k1,k2,k3,⟨m0,k4⟩,k5,k6⟩:=OS os (i+1) (fun j=>by rw[show i+1+j=i+(j+1) by omega,<-Sx (j+1)];simp) hx
   refine⟨i::A,m,B,om,F1,h2,by rw[k1];rfl,k2,k3,⟨n0+m0,fun n hn=> ?_⟩,k5,k6⟩
   exact(CZ ho).2 ⟨e,h1,hs n (by omega),hm,k4 n (by omega)⟩
theorem Zs (hI:∀w w',I w->Below B0 w w'->I w'){cl:Bool->FuncId->List AV->Hp->Except (List Nat) (AV×Hp)}(DZ:∀d,MY C I B0 (cl d))(HD:He (cl true)){ops:Array Oper}(hd:HH C.P ops=true)
  {ch:PX->List PanicEntry} {PK:FuncId->List AV->Hp->PX->Hp->Prop} (lA:Zw C I B0 ch PK) {n:Nat} (Gs:(ops.toList.all fun o=>FE n o.dst)=true) {Q:Exit->Act->World->Prop} {m:Nat} {om:Oper} (X9:ops[m]?=some om) (si:GW C ops m=true) {x:PX} {h':Hp}:
  ∀(fuel:Nat) (listed:Array Bool) (A B:List Nat) (F F1:Fr) (h1:Hp) (E:Env) (a:Act),listed.size=ops.size->KT ops listed->(rest ops listed).length=fuel->rest ops listed=A++m::B->
   VR ops.toList F->Bt C cl ops A F E.h=.ok (F1,h1)->MV C PK om F1 h1 x h'->Good C.G I B0 E->AO E F a->n<=a.tmps.size->
   (∀E' a',Step C.G I B0 E E'->E'.h=h'->AO E' (Kn true F1) a'->a'.tmps.size=a.tmps.size->a'.defers=a.defers->Q (.panic (ch x)) a' E'.w)->wpAny C.P .any ops Q fuel listed a E.w:=by
 obtain⟨yu,Hq,PE,Gc,tj⟩:=HQ si;rw[X9] at Hq
 injection Hq with Hq
 subst Hq;obtain⟨_,ki,FD⟩:=Hr PE;intro fuel
 induction fuel with
 |zero=>
  intro listed A B F F1 h1 E a hs hc hl hr;rw[hr] at hl;simp at hl
 |succ fuel ih=>
  intro listed A B F F1 h1 E a hs hc hl hr Wg hx nz H hf hn hQ
  refine⟨fun ID=>absurd ID (J6 (fun j o ho=>LG hd ho) hs (by intro h;rw[h] at hl;cases hl)),fun i hi=> ?_⟩
  have lq:=ES hi;rw[hr] at lq;have Xz:=Fb (ops:=ops) listed;rw[hr,List.pairwise_append,List.pairwise_cons] at Xz
  rcases List.mem_append.1 lq with xH|sy
  ·obtain⟨s,t,rfl⟩:=List.append_of_mem xH
   obtain⟨o,ho,O8,Dk,Dd,QA,fV,Mm,_⟩:=Fc hs hc hi (s:=s) (t:=t++m::B) (by rw[hr];simp)
   obtain⟨e,h2,sV,G1,HA,Z8⟩:=UP HD hd (PY Gs) ho Dk Dd QA O8 Wg hx
   refine OL hI DZ Gs ho Wg sV H hf hn fun E' a' S Gn F7 lD CC FD=> ?_
   subst Gn
   refine ih _ (s++t) B _ G1 h1 E' a' (by simpa using hs) fV ?_ (by rw[Mm];simp) lD HA (OT (ops:=ops) (fun u _=>Z8 u) nz) S.Cg F7 (by rw[CC];exact hn) fun aC iI S' Wh SU E9 MI=>
    hQ aC iI (S.trans S') Wh (SU.eq fun n=>by simp only[Kn];rw[Z8 dS]) (E9.trans CC) (MI.trans FD)
   rw[Mm];rw[hr] at hl;simp at hl⊢;omega
  ·rcases List.mem_cons.1 sy with rfl|sy
   ·obtain⟨o,ho,O8,Dk,Dd,QA,fV,Mm,_⟩:=Fc hs hc hi hr;rw[X9] at ho
    injection ho with ho
    subst ho
    have VJ:∀k∈A,GW C ops k=false:=by
     intro k hk
     cases hm:GW C ops k with
     |false=>rfl
     |true=>
      obtain⟨_,_,_,_,h4⟩:=HQ hm;have:=h4 i (Dd k hk) O8;rw[QA k hk] at this;cases this
    rw[Cw A VJ] at hx
    obtain⟨r1,r2⟩:=Fi HD A (fun k hk=>(Gc k (Dd k hk)).resolve_left (by rw[QA k hk];simp)) hx
    subst r1
    have UU:∀k∈A,∀x,ops[k]?=some x->x.apart ops om=true:=by
     intro k hk x VN
     rcases Mx hd VN X9 (Dd k hk) with hb|SW
     ·have:=QA k hk;unfold DQ at this;rw[hb] at this;cases this
     ·exact SW.1
    have US:∀u,u∈om.looksAt ops->lk F1 u=lk F u:=fun u hu=>r2 u fun k hk x VN nZ=>(Oper.apart_spec (UU k hk x VN)).1 u nZ hu
    have hS:lk F1 dS=lk F dS:=r2 dS fun k hk x VN=>PY Gs x (by simpa using Array.mem_of_getElem? VN)
    refine Xd lA X9 (F:=F) (by simp[guardOf,ki]) (OT US nz) H hf fun E1 S KH=>hQ E1 a S KH ?_ rfl rfl
    have LS:=AO.mono S.le hf
    refine⟨fun u=> ?_,?_⟩
    ·simp only[Kn,lk]
     cases hb:Nat.beq dS u with
     |true=>
      have:=Nat.eq_of_beq_eq_true hb;subst this;simp only[cond_true];rw[hS];exact LS.1 dS
     |false=>simp only[cond_false];exact⟨fun _=>trivial,fun h=>by cases h⟩
    ·simp only[Kn,lk,Nat.beq_refl,cond_true];rw[hS];exact LS.2
   ·have fT:m<i:=Xz.2.1.1 i sy;obtain⟨s,t,DI⟩:=List.append_of_mem (ES hi);obtain⟨o,ho,O8,_,_,_,_,_,kM⟩:=Fc hs hc hi DI
    have h1:=kM m (by rw[hr];simp)
    rw[tj i fT O8] at h1;cases h1
theorem Pw (hI:∀w w',I w->Below B0 w w'->I w')(hm:C.P.follows .mixedOrders=true)(DZ:∀n d,MY C I B0 (call C d n))(HD:∀n,He (call C true n)){ops:Array Oper}(hd:HH C.P ops=true)
  {ch:PX->List PanicEntry} {PK:FuncId->List AV->Hp->PX->Hp->Prop} (lA:Zw C I B0 ch PK) {n:Nat} (Gs:(ops.toList.all fun o=>FE n o.dst)=true) {Q:Exit->Act->World->Prop} {id:Nat} {F F':Fr} {x:PX} {h':Hp} {E:Env} {a:Act}
  (Wg:VR ops.toList F) (hx:I6 C PK ops true 0 ops.toList F E.h x F' h') (H:Good C.G I B0 E) (hf:AO E F a) (hn:n<=a.tmps.size)
  (hQ:∀E' a',Step C.G I B0 E E'->E'.h=h'->AO E' F' a'->a'.tmps.size=a.tmps.size->a'.defers=a.defers->Q (.panic (ch x)) a' E'.w):(Code.region id ops true).wp C.P Q a E.w:=by
 refine wp_region_any hm ?_
 have hb:∀B,Below B E.w {E.w with drawn:=E.w.drawn+1}:=fun B=>⟨rfl,rfl,rfl,Nat.le_refl _,fun _ _=>rfl⟩
 have S:=LZ hI H (w':={E.w with drawn:=E.w.drawn+1}) (hb _) rfl
 obtain⟨A,m,B,om,F1,h1,k1,k2,k3,⟨n0,k4⟩,k5,rfl⟩:=OS ops.toList 0 (fun j=>by simp) hx
 rw[<-List.range_eq_range',Array.length_toList] at k1
 exact Zs hI (cl:=fun d=>call C d n0) (DZ n0) (HD n0) hd lA Gs k2 k3 ops.size _ A B F F1 h1 {E with w:={E.w with drawn:=E.w.drawn+1}} a (by simp) (KM ops) (by rw[HK];simp) (by rw[HK];exact k1) Wg
  (k4 n0 (Nat.le_refl _)) k5 S.Cg (AO.mono S.le hf) hn fun E' a' S'=>hQ E' a' (S.trans S')
def Pr (C:Bh)(I:World->Prop)(B0:Nat)(ch:PX->List PanicEntry)(PF:GB)(n:Nat):Prop:=
 ∀(f:FuncId) (c:Code) (F:Fr) (h:Hp) (x:PX) (F':Fr) (h':Hp) (m:Nat),EV C PF n f c F h x F' h'->Bj C.P m (C.Gq f) c=true->∀(E:Env) (a:Act),E.h=h->Good C.G I B0 E->AO E F a->m<=a.tmps.size->
  ∀Q:Exit->Act->World->Prop,(∀E' a',Step C.G I B0 E E'->E'.h=h'->AO E' F' a'->a'.tmps.size=a.tmps.size->(C.Cs f=true\/a'.defers=a.defers)->Q (.panic (ch x)) a' E'.w)->c.wp C.P Q a E.w
theorem OU (S0:Sound C I B0){ch:PX->List PanicEntry}{PF:GB}:∀(n:Nat),(∀m,m<n->Pr C I B0 ch PF m)->
  ∀(f:FuncId) (c:Code) (F:Fr) (h:Hp) (x:PX) (F':Fr) (h':Hp) (m:Nat),EV C PF n f (.loop c) F h x F' h'->Bj C.P m (C.Gq f) c=true->∀(E:Env) (a:Act),E.h=h->Good C.G I B0 E->AO E F a->m<=a.tmps.size->
  ∀Q:Exit->Act->World->Prop,(∀E' a',Step C.G I B0 E E'->E'.h=h'->AO E' F' a'->a'.tmps.size=a.tmps.size->(C.Cs f=true\/a'.defers=a.defers)->Q (.panic (ch x)) a' E'.w)->Code.rounds C.P c Q n a E.w
 |0,_,f,c,F,h,x,F',h',m,hx,_=>by simp[EV] at hx
 |n+1,ih,f,c,F,h,x,F',h',m,hx,BD=>by
  intro E a hE H hf hm Q hQ;rw[rounds_succ];simp only[EV] at hx
  rcases hx with hx|⟨F1,h1,⟨n0,he⟩,hx⟩
  ·exact ih n (Nat.lt_succ_self n) f c F h x F' h' m hx BD E a hE H hf hm _ hQ
  ·refine Pp S0 n0 f c F h .normal F1 h1 m (he n0 (Nat.le_refl _)) BD E a hE H hf hm _ fun E1 a1 S1 KH LS GI SV=> ?_
   have ug:=OU S0 n (fun k hk=>ih k (Nat.lt_succ_of_lt hk)) f c
   cases ht:C.FB f with
   |false=>
    rw[ht] at hx
    exact ug F1 h1 x F' h' m hx BD E1 a1 KH S1.Cg LS (by rw[GI];exact hm) Q fun E2 a2 S2 NU S7 JL Ud=>hQ E2 a2 (S1.trans S2) NU S7 (JL.trans GI) (DT.trans' Ud SV)
   |true=>
    rw[ht] at hx;subst hE;subst KH;obtain⟨K,S'⟩:=Lb H S1 S0.IC
    exact ug _ _ x F' h' m hx BD {E1 with h:=(E1.h.take E.h.length).map (AL E.h.length E1.h)} a1 rfl S'.Cg (Qy K LS) (by rw[GI];exact hm) Q
     fun E2 a2 S2 NU S7 JL Ud=>hQ E2 a2 (S'.trans S2) NU S7 (JL.trans GI) (DT.trans' Ud SV)
theorem gB (S0:Sound C I B0){ch:PX->List PanicEntry}{PF:GB}{n:Nat}(ih:∀m,m<n->Pr C I B0 ch PF m)(uh:∀m,m<n->Zw C I B0 ch (MW C PF m)):Pr C I B0 ch PF n:=by
 intro f c F h x F' h' m hx BD E a hE H hf hm Q hQ
 cases n with
 |zero=>simp[EV] at hx
 |succ n=>
  have Qo:=ih n (Nat.lt_succ_self n)
  cases c with
  |seq p q=>
   simp only[Bj,Bool.and_eq_true] at BD;simp only[EV] at hx
   rcases hx with hx|⟨F1,h1,⟨n0,he⟩,hx⟩
   ·exact wp_seq (Qo f p F h x F' h' m hx BD.1 E a hE H hf hm _ hQ)
   ·refine wp_seq (Pp S0 n0 f p F h .normal F1 h1 m (he n0 (Nat.le_refl _)) BD.1 E a hE H hf hm _ fun E1 a1 S1 KH LS GI SV=> ?_)
    exact Qo f q F1 h1 x F' h' m hx BD.2 E1 a1 KH S1.Cg LS (by rw[GI];exact hm) Q fun E2 a2 S2 NU S7 JL Ud=>hQ E2 a2 (S1.trans S2) NU S7 (JL.trans GI) (DT.trans' Ud SV)
  |cond y p q=>
   simp only[Bj,Bool.and_eq_true] at BD;simp only[EV] at hx;obtain⟨t,MH,hx⟩:=hx;have hv:a.eval y=.bool t:=Aj H hf MH rfl
   cases t with
   |true=>exact wp_cond_true hv (Qo f p F h x F' h' m hx BD.1 E a hE H hf hm Q hQ)
   |false=>exact wp_cond_false hv (Qo f q F h x F' h' m hx BD.2 E a hE H hf hm Q hQ)
  |block id p=>
   simp only[Bj] at BD;simp only[EV] at hx;exact wp_block (Qo f p F h x F' h' m hx BD E a hE H hf hm _ hQ)
  |loop p=>
   simp only[Bj] at BD;exact wp_loop_rounds (n+1) (OU S0 (n+1) ih f p F h x F' h' m hx BD E a hE H hf hm Q hQ)
  |region id ops draw=>
   simp only[Bj,Bool.and_eq_true] at BD;simp only[EV] at hx;obtain⟨CE,Wd,hx⟩:=hx;rw[Bool.or_eq_false_iff] at Wd;obtain⟨gi,kb⟩:=Wd;subst hE;obtain⟨E0,T0,nd,s6,oJ⟩:=Vp S0.hI (FH ops draw) H (WJ hf (C.live f id)) (TX BD.1)
   have hQ:∀E' a',Step C.G I B0 E0 E'->E'.h=h'->AO E' F' a'->a'.tmps.size=a.tmps.size->_:=fun E' a' S=>hQ E' a' (T0.trans S)
   have H:=T0.Cg;rw[<-s6] at hx;rw[<-nd]
   cases draw with
   |true=>
    exact Pw S0.hI S0.mixed (fun n d=>LK S0 d n) (fun n=>Pg n) (by
     have h1:C.Gq f id=false:=by simpa using CE
     have h2:=BD.2;rw[h1] at h2
     simpa using h2) (uh n (Nat.lt_succ_self n)) BD.1 (cJ (by simpa using kb)) hx H oJ hm fun E' a' S Gn F7 hs hd=>hQ E' a' S Gn F7 hs (.inr hd)
   |false=>
    have SQ:=Lf ops ops.size (Nat.le_refl _)
    rw[List.take_of_length_le (by simp)] at SQ
    refine wp_region (Y6 S0.hI (fun n=>LK S0 false n) (uh n (Nat.lt_succ_self n)) (List.range ops.size) 0 _ E0.h x F' h' (by rw[SQ];exact BD.1) (by rw[SQ];exact hx) E0 a rfl H oJ hm fun E' a' S Gn F7 hs hd=>hQ E' a' S Gn F7 hs ?_)
    rcases hd with h2|hd
    ·rw[SQ] at h2;rw[h2,Bool.and_true,Bool.not_eq_false'] at gi;exact .inl gi
    ·exact .inr hd
  |_=>simp[EV] at hx
theorem gA (S0:Sound C I B0){ch:PX->List PanicEntry}{PF:GB}(oR:iK C I B0 ch PF){n:Nat}(ih:∀m,m<n->Pr C I B0 ch PF m):Zw C I B0 ch (MW C PF n):=by
 intro k vs h x h' hx
 cases n with
 |zero=>simp[MW] at hx
 |succ n=>
  simp only[MW] at hx
  rcases hx with ⟨hp,rfl⟩|⟨BD,S6,hp,FD,fn,c,Mp,hb,hx⟩
  ·obtain⟨h1,h2⟩:=oR k vs x hp
   refine⟨h1,fun E args hE H CV=> ?_⟩
   subst hE;exact h2 E args H CV
  ·refine⟨S0.fns k BD,fun E args hE H CV=>calls_of_wp Mp hb ?_⟩
   have Il:=S0.YP k fn c BD S6 hp Mp hb
   have CC:fn.ntmps<=(args.toArray++Array.replicate (fn.ntmps-args.toArray.size) undef).size:=by simp;omega
   rcases hx with ⟨hh,F1,h1,hx,rfl⟩|⟨hh,F1,h1,hx,rfl⟩
   ·refine ih n (Nat.lt_succ_self n) k c _ h x F1 h1 fn.ntmps hx Il E _ hE H (LQ CV fn.ntmps) CC _ fun E' a' S Gn F7 _ hd=> ?_
    obtain⟨K,S'⟩:=Lb H S S0.IC;rw[Gn,hE] at S'
    exact⟨hd.resolve_left (by rw[FD];simp),rfl,{E' with h:=(h1.take h.length).map (AL h.length h1)},rfl,S',rfl⟩
   ·have H1:=Hs H S0.IC;have Io:=BJ.cut (Pc (E:=E)) vs args CV
    refine ih n (Nat.lt_succ_self n) k c _ [] x F1 h1 fn.ntmps hx Il (fresh E) _ rfl H1 (LQ Io fn.ntmps) CC _ fun E' a' S Gn F7 _ hd=> ?_
    exact⟨hd.resolve_left (by rw[FD];simp),rfl,{E with w:=E'.w},rfl,Jx S0.hI H S.below,hE⟩
theorem fy (S0:Sound C I B0){ch:PX->List PanicEntry}{PF:GB}(oR:iK C I B0 ch PF):∀n,Pr C I B0 ch PF n:=by
 intro n
 induction n using Nat.strongRecOn with
 |_ n ih=>exact gB S0 ih fun m hm=>gA S0 oR fun k hk=>ih k (Nat.lt_trans hk hm)
end
end Go.Ai
