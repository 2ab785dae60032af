/-
  Runs that end in a panic: what gives up, with what, and what is left of memory. No statement about the program is made here.
-/
import Derived.Test.YtopjpnhgnopbiaaGreatDoorAAiCtr
set_option linter.unusedVariables false
set_option linter.unusedSimpArgs false
set_option linter.unnecessarySimpa false
namespace Go.Ai
open Go.RowKit
abbrev PX :=Int×Int
abbrev G7 :=FuncId->List AV->Option PX
def OA (C:Bm)(PK:FuncId->List AV->Hp->PX->Hp->Prop)(o:Oper)(F:Fr)(h:Hp)(x:PX)(h':Hp):Prop:=
 match o.op with
 |.call {callee:=.value y,args,argTypes:=_}=>
  ∃k first cap vs,ev C.G F y=(true,.fn (.func k) first cap)/\Nw C.G F args.toList=(true,vs)/\C.ident k=false/\PK k (first++vs++cap) h x h'
 |_=>False
def MC (draw:Bool)(F:Fr):Fr:=match draw with
 |true=>[(dS,lk F dS)]
 |false=>F
def KH (C:Bm)(PK:FuncId->List AV->Hp->PX->Hp->Prop)(ops:Array Oper)(draw:Bool):Nat->List Oper->Fr->Hp->PX->Fr->Hp->Prop
 |_,[],_,_,_,_,_=>False
 |i,o::os,F,h,x,F',h'=>(BB C ops draw i=false/\guardOf ops F o=some true/\F'=MC draw F/\OA C PK o F h x h')\/
   ∃e h1,(∃n0,∀n,n0<=n->AW C (call C (BB C ops draw i) n) ops (BB C ops draw i) o F h=.ok (e,h1))/\Ek C ops draw i F h h1=true/\KH C PK ops draw (i+1) os (Av F (DF (BB C ops draw i) o) e) h1 x F' h'
mutual
def E6 (C:Bm)(PF:G7):Nat->FuncId->Code->Fr->Hp->PX->Fr->Hp->Prop
 |0,_,_,_,_,_,_,_=>False
 |n+1,f,c,F,h,x,F',h'=>
  match c with
  |.seq a b=>E6 C PF n f a F h x F' h'\/∃F1 h1,DQ C f a F h .normal F1 h1/\E6 C PF n f b F1 h1 x F' h'
  |.cond y a b=>∃t,ev C.G F y=(true,.bool t)/\E6 C PF n f (match t with|true=>a|false=>b) F h x F' h'
  |.block _ a=>E6 C PF n f a F h x F' h'
  |.loop a=>E6 C PF n f a F h x F' h'\/∃F1 h1,DQ C f a F h .normal F1 h1/\
    E6 C PF n f (.loop a) (match C.Fv f with|true=>DC h.length h1 F1|false=>F1) (match C.Fv f with|true=>(h1.take h.length).map (AN h.length h1)|false=>h1) x F' h'
  |.region id ops draw=>(draw&&C.Hk f id)=false/\((!C.C9 f&&Fb ops.toList)||(draw&& !Ui ops.toList (JW (GA ops draw) h.length ((C.live f id).map fun s=>(s,lk F s)))))=false/\KH C (OB C PF n) ops draw 0 ops.toList (JW (GA ops draw) h.length ((C.live f id).map fun s=>(s,lk F s))) (Rz (GA ops draw) h) x F' h'
  |_=>False
def OB (C:Bm)(PF:G7):Nat->FuncId->List AV->Hp->PX->Hp->Prop
  | 0,_,_,_,_,_=>False
  | n+1,k,vs,h,x,h'=>
    (PF k vs=some x/\h'=h)\/
    (C.ok k=true/\C.Cr k=none/\C.FM k=none/\C.C9 k=false/\∃fn c,C.P.funcs[k]?=some fn/\fn.body=some c/\
      ((C.heap k=true/\∃F1 h1,E6 C PF n k c (Dz 0 vs) h x F1 h1/\h'=(h1.take h.length).map (AN h.length h1))\/
       (C.heap k=false/\∃F1 h1,E6 C PF n k c (Dz 0 (AQ 0 [] vs)) [] x F1 h1/\h'=h)))
end
section
variable {C:Bm}{I:World->Prop}{B0:Nat}
def mX (G:Nat->Option (List AV))(I:World->Prop)(B0:Nat)(ch:PX->List PanicEntry)(E:Env)(x:PX)(h':Hp)(e:Ending)(w':World):Prop:=
 e=.panicked (ch x)/\∃E',E'.w=w'/\Step G I B0 E E'/\E'.h=h'
def dv (C:Bm)(I:World->Prop)(B0:Nat)(ch:PX->List PanicEntry)(PK:FuncId->List AV->Hp->PX->Hp->Prop):Prop:=
 ∀k vs h x h',PK k vs h x h'->Callee C.P k/\∀(E:Env) (args:List Value),E.h=h->Good C.G I B0 E->BT E vs args->Calls C.P k args.toArray E.w (mX C.G I B0 ch E x h')
def lW (C:Bm)(I:World->Prop)(B0:Nat)(ch:PX->List PanicEntry)(PF:G7):Prop:=
 ∀k vs x,PF k vs=some x->Callee C.P k/\∀(E:Env) (args:List Value),Good C.G I B0 E->BT E vs args->Calls C.P k args.toArray E.w (mX C.G I B0 ch E x E.h)
theorem aQ {ch:PX->List PanicEntry}{PK:FuncId->List AV->Hp->PX->Hp->Prop}(pB:dv C I B0 ch PK){ops:Array Oper}{Q:Exit->Act->World->Prop}{K:Act->World->Prop}{i:Nat}{o:Oper}(ho:ops[i]?=some o){F:Fr}{x:PX}{h':Hp}{E:Env}{a:Act}
  (hg:guardOf ops F o=some true) (hx:OA C PK o F E.h x h') (H:Good C.G I B0 E) (hf:AR E F a) (hQ:∀E',Step C.G I B0 E E'->E'.h=h'->Q (.panic (ch x)) a E'.w):wpOp C.P ops Q i K a E.w:=by
 simp only[wpOp,ho];rw[JG hf hg,if_pos rfl];refine .inl ?_;unfold OA at hx;split at hx
 ·rename_i y args _ Bo
  obtain⟨k,first,cap,vs,Nl,iU,hid,hk⟩:=hx
  obtain⟨fa,ca,qH,TE,OV⟩:=Ah H hf Nl rfl
  have Cd:=U7 H hf args.toList (by rw[iU])
  rw[iU] at Cd;have CG:=BT.append (BT.append TE Cd) OV
  have Jy:fa++args.map a.eval++ca=(fa.toList++args.toList.map a.eval++ca.toList).toArray:=by
   apply Array.ext';simp
  obtain⟨⟨fn,OX,hb,MN⟩,ZK⟩:=pB k _ _ _ _ hk;have hc:=ZK E _ rfl H CG
  have W7:(execOp a.eval o).run C.P E.w=.ok (.enter k (fa.toList++args.toList.map a.eval++ca.toList).toArray) E.w:=by
   obtain⟨d,op,ty,pos,after,gd⟩:=o;simp only at Bo;subst Bo;simp only[execOp,resolve,qH,Deferred.ofValue,Sem.run_bind,Sem.run_pure,Result.andThen_ok,invoke,callFunc,run_program,OX,MN,hb,Jy];rfl
  unfold Oper.wp;rw[W7,Oper.upon_enter]
  refine hc.mono fun e w' Ww=> ?_
  obtain⟨rfl,E1,rfl,S,LV⟩:=Ww;exact hQ E1 S LV
 ·exact hx.elim
theorem cV (hI:∀w w',I w->Below B0 w w'->I w')(DS:∀n,OD C I B0 (call C false n)){ch:PX->List PanicEntry}{PK:FuncId->List AV->Hp->PX->Hp->Prop}(pB:dv C I B0 ch PK){ops:Array Oper}{n:Nat}{Q:Exit->Act->World->Prop}:
  ∀(l:List Nat) (j:Nat) (F:Fr) (h:Hp) (x:PX) (F':Fr) (h':Hp),((H9 ops l).all fun o=>F6 n o.dst)=true->KH C PK ops false j (H9 ops l) F h x F' h'->∀(E:Env) (a:Act),E.h=h->Good C.G I B0 E->AR E F a->n<=a.tmps.size->
   (∀E' a',Step C.G I B0 E E'->E'.h=h'->AR E' F' a'->a'.tmps.size=a.tmps.size->(Fb (H9 ops l)=true\/a'.defers=a.defers)->Q (.panic (ch x)) a' E'.w)->wpOps C.P ops Q l a E.w:=by
 intro l
 induction l with
 |nil=>
  intro j F h x F' h' _ hx;exact hx.elim
 |cons i l ih=>
  intro j F h x F' h' Hw hx E a hE H hf hn hQ;subst hE;rw[wpOps_cons]
  cases ho:ops[i]? with
  |none=>
   have:H9 ops (i::l)=H9 ops l:=by simp[H9,ho]
   rw[this] at hx Hw;simp only[wpOp,ho];rw[this] at hQ;exact ih j F E.h x F' h' Hw hx E a rfl H hf hn hQ
  |some o=>
   have:H9 ops (i::l)=o::H9 ops l:=by simp[H9,ho]
   rw[this] at hx Hw hQ;rw[List.all_cons,Bool.and_eq_true] at Hw;have xc:BB C ops false j=false:=rfl;simp only[KH,xc,MC,true_and] at hx
   rcases hx with ⟨hg,rfl,hx⟩|⟨e,h1,⟨n0,hs⟩,_,hx⟩
   ·exact aQ pB ho hg hx H hf fun E1 S LV=>hQ E1 a S LV (AR.mono S.le hf) rfl (.inr rfl)
   ·exact KN hI (DS n0) ho Hw.1 (hs n0 (Nat.le_refl _)) H hf hn fun E' a' S Hg FO CD Fy=>
     ih _ _ _ x F' h' Hw.2 hx E' a' Hg S.Co FO (by rw[CD];exact hn) fun eF lU S' ZN Uv Fs Nn=>hQ eF lU (S.trans S') ZN Uv (Fs.trans CD) (by
      rcases Fy with ⟨_,h2⟩|Fy
      ·exact .inl (by simp[Fb,h2])
      ·rcases Nn with h2|Nn
       ·exact .inl (by simp only[Fb] at h2⊢;simp[h2])
       ·exact .inr (Nn.trans Fy))
theorem QZ {PK:FuncId->List AV->Hp->PX->Hp->Prop}{ops:Array Oper}{o:Oper}{F F':Fr}{h:Hp}{x:PX}{h':Hp}(he:∀t∈o.looksAt ops,lk F t=lk F' t)(hx:OA C PK o F h x h'):OA C PK o F' h x h':=by
 unfold OA at hx⊢;split at hx
 ·rename_i y args Xe Bo
  obtain⟨k,first,cap,vs,h1,h2,h3,h4⟩:=hx
  have hm:∀z∈o.op.operands,ev C.G F z=ev C.G F' z:=fun z hz=>XH fun t ht=>he t (by
   subst ht
   exact List.mem_append_left _ (List.mem_filterMap.2 ⟨.tmp t,by simpa using hz,rfl⟩))
  rw[Bo] at hm
  have e1:ev C.G F y=ev C.G F' y:=hm y (by simp[Op.operands,Call.operands])
  have e2:Nw C.G F args.toList=Nw C.G F' args.toList:=Ka fun z hz=>hm z (by simp[Op.operands,Call.operands];exact .inr (by simpa using hz))
  refine⟨k,first,cap,vs,?_,?_,h3,h4⟩
  ·rw[<-e1];exact h1
  ·rw[<-e2];exact h2
 ·exact hx.elim
theorem QY {PK:FuncId->List AV->Hp->PX->Hp->Prop}{ops:Array Oper}{x:PX}{F':Fr}{h':Hp}:∀(os:List Oper) (i:Nat) {F:Fr} {h:Hp},(∀j,os[j]?=ops[i+j]?)->KH C PK ops true i os F h x F' h'->
  ∃A m B o F1 h1,List.range' i os.length=A++m::B/\ops[m]?=some o/\HP C ops m=true/\(∃n0,∀n,n0<=n->Bv C (fun d=>call C d n) ops A F h=.ok (F1,h1))/\OA C PK o F1 h1 x h'/\F'=MC true F1
 |[],i,F,h,_,hx=>hx.elim
 |o::os,i,F,h,VV,hx=>by
  have ho:ops[i]?=some o:=by simpa using(VV 0).symm
  simp only[KH] at hx;rw[List.length_cons,List.range'_succ]
  rcases hx with ⟨ZG,hg,rfl,hx⟩|⟨e,h1,⟨n0,hs⟩,hm,hx⟩
  ·have jm:HP C ops i=true:=by
    cases jm:HP C ops i with
    |true=>rfl
    |false=>rw[Gg jm] at ZG;cases ZG
   exact⟨[],i,_,o,F,h,rfl,ho,jm,⟨0,fun n _=>rfl⟩,hx,rfl⟩
  ·obtain⟨A,m,B,om,F1,h2,k1,k2,k3,⟨m0,k4⟩,k5,k6⟩:=QY os (i+1) (fun j=>by rw[show i+1+j=i+(j+1) by omega,<-VV (j+1)];simp) hx
   refine⟨i::A,m,B,om,F1,h2,by rw[k1];rfl,k2,k3,⟨n0+m0,fun n hn=> ?_⟩,k5,k6⟩
   exact(Cg ho).2 ⟨e,h1,hs n (by omega),hm,k4 n (by omega)⟩
theorem dn (hI:∀w w',I w->Below B0 w w'->I w'){cl:Bool->FuncId->List AV->Hp->Except (List Nat) (AV×Hp)}(DS:∀d,OD C I B0 (cl d))(HD:Io (cl true)){ops:Array Oper}(hd:II C.P ops=true)
  {ch:PX->List PanicEntry} {PK:FuncId->List AV->Hp->PX->Hp->Prop} (pB:dv C I B0 ch PK) {n:Nat} (Hw:(ops.toList.all fun o=>F6 n o.dst)=true) {Q:Exit->Act->World->Prop} {m:Nat} {om:Oper} (bH:ops[m]?=some om) (wg:HP C ops m=true) {x:PX} {h':Hp}:
  ∀(fuel:Nat) (listed:Array Bool) (A B:List Nat) (F F1:Fr) (h1:Hp) (E:Env) (a:Act),listed.size=ops.size->Lj ops listed->(rest ops listed).length=fuel->rest ops listed=A++m::B->
   Xt ops.toList F->Bv C cl ops A F E.h=.ok (F1,h1)->OA C PK om F1 h1 x h'->Good C.G I B0 E->AR E F a->n<=a.tmps.size->
   (∀E' a',Step C.G I B0 E E'->E'.h=h'->AR E' (MC true F1) a'->a'.tmps.size=a.tmps.size->a'.defers=a.defers->Q (.panic (ch x)) a' E'.w)->wpAny C.P .any ops Q fuel listed a E.w:=by
 obtain⟨om',I6,RH,HU,xh⟩:=IZ wg;rw[bH] at I6
 injection I6 with I6
 subst I6;obtain⟨_,oh,Fy⟩:=I7 RH;intro fuel
 induction fuel with
 |zero=>
  intro listed A B F F1 h1 E a hs hc hl hr;rw[hr] at hl;simp at hl
 |succ fuel ih=>
  intro listed A B F F1 h1 E a hs hc hl hr ZM hx sS H hf hn hQ
  refine⟨fun JN=>absurd JN (LJ (fun j o ho=>Me hd ho) hs (by intro h;rw[h] at hl;cases hl)),fun i hi=> ?_⟩
  have qD:=Ew hi;rw[hr] at qD;have bC:=GZ (ops:=ops) listed;rw[hr,List.pairwise_append,List.pairwise_cons] at bC
  rcases List.mem_append.1 qD with hiA|wu
  ·obtain⟨s,t,rfl⟩:=List.append_of_mem hiA
   obtain⟨o,ho,RC,EF,D8,SE,jo,OU,_⟩:=Ga hs hc hi (s:=s) (t:=t++m::B) (by rw[hr];simp)
   obtain⟨e,h2,wR,G1,IC,qK⟩:=Ws HD hd (RY Hw) ho EF D8 SE RC ZM hx
   refine QR hI DS Hw ho ZM wR H hf hn fun E' a' S Hg FO pF CD Fy=> ?_
   subst Hg
   refine ih _ (s++t) B _ G1 h1 E' a' (by simpa using hs) jo ?_ (by rw[OU];simp) pF IC (QZ (ops:=ops) (fun u _=>qK u) sS) S.Co FO (by rw[CD];exact hn) fun eF lU S' ZN Uv Fs Nn=>
    hQ eF lU (S.trans S') ZN (Uv.eq fun n=>by simp only[MC];rw[qK dS]) (Fs.trans CD) (Nn.trans Fy)
   rw[OU];rw[hr] at hl;simp at hl⊢;omega
  ·rcases List.mem_cons.1 wu with rfl|wu
   ·obtain⟨o,ho,RC,EF,D8,SE,jo,OU,_⟩:=Ga hs hc hi hr;rw[bH] at ho
    injection ho with ho
    subst ho
    have TG:∀k∈A,HP C ops k=false:=by
     intro k hk
     cases hm:HP C ops k with
     |false=>rfl
     |true=>
      obtain⟨_,_,_,_,h4⟩:=IZ hm;have:=h4 i (D8 k hk) RC;rw[SE k hk] at this;cases this
    rw[DE A TG] at hx
    obtain⟨r1,r2⟩:=Ge HD A (fun k hk=>(HU k (D8 k hk)).resolve_left (by rw[SE k hk];simp)) hx
    subst r1
    have Wy:∀k∈A,∀x,ops[k]?=some x->x.apart ops om=true:=by
     intro k hk x Xp
     rcases Oh hd Xp bH (D8 k hk) with hb|Uw
     ·have:=SE k hk;unfold Dj at this;rw[hb] at this;cases this
     ·exact Uw.1
    have Wv:∀u,u∈om.looksAt ops->lk F1 u=lk F u:=fun u hu=>r2 u fun k hk x Xp ry=>(Oper.apart_spec (Wy k hk x Xp)).1 u ry hu
    have hS:lk F1 dS=lk F dS:=r2 dS fun k hk x Xp=>RY Hw x (by simpa using Array.mem_of_getElem? Xp)
    refine aQ pB bH (F:=F) (by simp[guardOf,oh]) (QZ Wv sS) H hf fun E1 S LV=>hQ E1 a S LV ?_ rfl rfl
    have Jb:=AR.mono S.le hf
    refine⟨fun u=> ?_,?_⟩
    ·simp only[MC,lk]
     cases hb:Nat.beq dS u with
     |true=>
      have:=Nat.eq_of_beq_eq_true hb;subst this;simp only[cond_true];rw[hS];exact Jb.1 dS
     |false=>simp only[cond_false];exact⟨fun _=>trivial,fun h=>by cases h⟩
    ·simp only[MC,lk,Nat.beq_refl,cond_true];rw[hS];exact Jb.2
   ·have jm:m<i:=bC.2.1.1 i wu;obtain⟨s,t,DH⟩:=List.append_of_mem (Ew hi);obtain⟨o,ho,RC,_,_,_,_,_,oH⟩:=Ga hs hc hi DH
    have h1:=oH m (by rw[hr];simp)
    rw[xh i jm RC] at h1;cases h1
theorem R6 (hI:∀w w',I w->Below B0 w w'->I w')(hm:C.P.follows .mixedOrders=true)(DS:∀n d,OD C I B0 (call C d n))(HD:∀n,Io (call C true n)){ops:Array Oper}(hd:II C.P ops=true)
  {ch:PX->List PanicEntry} {PK:FuncId->List AV->Hp->PX->Hp->Prop} (pB:dv C I B0 ch PK) {n:Nat} (Hw:(ops.toList.all fun o=>F6 n o.dst)=true) {Q:Exit->Act->World->Prop} {id:Nat} {F F':Fr} {x:PX} {h':Hp} {E:Env} {a:Act}
  (ZM:Xt ops.toList F) (hx:KH C PK ops true 0 ops.toList F E.h x F' h') (H:Good C.G I B0 E) (hf:AR E F a) (hn:n<=a.tmps.size)
  (hQ:∀E' a',Step C.G I B0 E E'->E'.h=h'->AR E' F' a'->a'.tmps.size=a.tmps.size->a'.defers=a.defers->Q (.panic (ch x)) a' E'.w):(Code.region id ops true).wp C.P Q a E.w:=by
 refine wp_region_any hm ?_
 have hb:∀B,Below B E.w {E.w with drawn:=E.w.drawn+1}:=fun B=>⟨rfl,rfl,rfl,Nat.le_refl _,fun _ _=>rfl⟩
 have S:=M9 hI H (w':={E.w with drawn:=E.w.drawn+1}) (hb _) rfl
 obtain⟨A,m,B,om,F1,h1,k1,k2,k3,⟨n0,k4⟩,k5,rfl⟩:=QY ops.toList 0 (fun j=>by simp) hx
 rw[<-List.range_eq_range',Array.length_toList] at k1
 exact dn hI (cl:=fun d=>call C d n0) (DS n0) (HD n0) hd pB Hw k2 k3 ops.size _ A B F F1 h1 {E with w:={E.w with drawn:=E.w.drawn+1}} a (by simp) (Lb ops) (by rw[IS];simp) (by rw[IS];exact k1) ZM
  (k4 n0 (Nat.le_refl _)) k5 S.Co (AR.mono S.le hf) hn fun E' a' S'=>hQ E' a' (S.trans S')
def Rw (C:Bm)(I:World->Prop)(B0:Nat)(ch:PX->List PanicEntry)(PF:G7)(n:Nat):Prop:=
 ∀(f:FuncId) (c:Code) (F:Fr) (h:Hp) (x:PX) (F':Fr) (h':Hp) (m:Nat),E6 C PF n f c F h x F' h'->Bn C.P m (C.Hk f) c=true->∀(E:Env) (a:Act),E.h=h->Good C.G I B0 E->AR E F a->m<=a.tmps.size->
  ∀Q:Exit->Act->World->Prop,(∀E' a',Step C.G I B0 E E'->E'.h=h'->AR E' F' a'->a'.tmps.size=a.tmps.size->(C.C9 f=true\/a'.defers=a.defers)->Q (.panic (ch x)) a' E'.w)->c.wp C.P Q a E.w
theorem Qa (S0:Sound C I B0){ch:PX->List PanicEntry}{PF:G7}:∀(n:Nat),(∀m,m<n->Rw C I B0 ch PF m)->
  ∀(f:FuncId) (c:Code) (F:Fr) (h:Hp) (x:PX) (F':Fr) (h':Hp) (m:Nat),E6 C PF n f (.loop c) F h x F' h'->Bn C.P m (C.Hk f) c=true->∀(E:Env) (a:Act),E.h=h->Good C.G I B0 E->AR E F a->m<=a.tmps.size->
  ∀Q:Exit->Act->World->Prop,(∀E' a',Step C.G I B0 E E'->E'.h=h'->AR E' F' a'->a'.tmps.size=a.tmps.size->(C.C9 f=true\/a'.defers=a.defers)->Q (.panic (ch x)) a' E'.w)->Code.rounds C.P c Q n a E.w
 |0,_,f,c,F,h,x,F',h',m,hx,_=>by simp[E6] at hx
 |n+1,ih,f,c,F,h,x,F',h',m,hx,Bk=>by
  intro E a hE H hf hm Q hQ;rw[rounds_succ];simp only[E6] at hx
  rcases hx with hx|⟨F1,h1,⟨n0,he⟩,hx⟩
  ·exact ih n (Nat.lt_succ_self n) f c F h x F' h' m hx Bk E a hE H hf hm _ hQ
  ·refine Rt S0 n0 f c F h .normal F1 h1 m (he n0 (Nat.le_refl _)) Bk E a hE H hf hm _ fun E1 a1 S1 LV Jb Hf OZ=> ?_
   have ye:=Qa S0 n (fun k hk=>ih k (Nat.lt_succ_of_lt hk)) f c
   cases ht:C.Fv f with
   |false=>
    rw[ht] at hx
    exact ye F1 h1 x F' h' m hx Bk E1 a1 LV S1.Co Jb (by rw[Hf];exact hm) Q fun E2 a2 S2 PN Uu Ku Jc=>hQ E2 a2 (S1.trans S2) PN Uu (Ku.trans Hf) (DT.trans' Jc OZ)
   |true=>
    rw[ht] at hx;subst hE;subst LV;obtain⟨K,S'⟩:=NB H S1 S0.JL
    exact ye _ _ x F' h' m hx Bk {E1 with h:=(E1.h.take E.h.length).map (AN E.h.length E1.h)} a1 rfl S'.Co (TP K Jb) (by rw[Hf];exact hm) Q
     fun E2 a2 S2 PN Uu Ku Jc=>hQ E2 a2 (S'.trans S2) PN Uu (Ku.trans Hf) (DT.trans' Jc OZ)
theorem kK (S0:Sound C I B0){ch:PX->List PanicEntry}{PF:G7}{n:Nat}(ih:∀m,m<n->Rw C I B0 ch PF m)(yf:∀m,m<n->dv C I B0 ch (OB C PF m)):Rw C I B0 ch PF n:=by
 intro f c F h x F' h' m hx Bk E a hE H hf hm Q hQ
 cases n with
 |zero=>simp[E6] at hx
 |succ n=>
  have TB:=ih n (Nat.lt_succ_self n)
  cases c with
  |seq p q=>
   simp only[Bn,Bool.and_eq_true] at Bk;simp only[E6] at hx
   rcases hx with hx|⟨F1,h1,⟨n0,he⟩,hx⟩
   ·exact wp_seq (TB f p F h x F' h' m hx Bk.1 E a hE H hf hm _ hQ)
   ·refine wp_seq (Rt S0 n0 f p F h .normal F1 h1 m (he n0 (Nat.le_refl _)) Bk.1 E a hE H hf hm _ fun E1 a1 S1 LV Jb Hf OZ=> ?_)
    exact TB f q F1 h1 x F' h' m hx Bk.2 E1 a1 LV S1.Co Jb (by rw[Hf];exact hm) Q fun E2 a2 S2 PN Uu Ku Jc=>hQ E2 a2 (S1.trans S2) PN Uu (Ku.trans Hf) (DT.trans' Jc OZ)
  |cond y p q=>
   simp only[Bn,Bool.and_eq_true] at Bk;simp only[E6] at hx;obtain⟨t,Nl,hx⟩:=hx;have hv:a.eval y=.bool t:=Ah H hf Nl rfl
   cases t with
   |true=>exact wp_cond_true hv (TB f p F h x F' h' m hx Bk.1 E a hE H hf hm Q hQ)
   |false=>exact wp_cond_false hv (TB f q F h x F' h' m hx Bk.2 E a hE H hf hm Q hQ)
  |block id p=>
   simp only[Bn] at Bk;simp only[E6] at hx;exact wp_block (TB f p F h x F' h' m hx Bk E a hE H hf hm _ hQ)
  |loop p=>
   simp only[Bn] at Bk;exact wp_loop_rounds (n+1) (Qa S0 (n+1) ih f p F h x F' h' m hx Bk E a hE H hf hm Q hQ)
  |region id ops draw=>
   simp only[Bn,Bool.and_eq_true] at Bk;simp only[E6] at hx;obtain⟨CG,ZH,hx⟩:=hx;rw[Bool.or_eq_false_iff] at ZH;obtain⟨bK,oX⟩:=ZH;subst hE;obtain⟨E0,T0,sA,wv,eE⟩:=YR S0.hI (GA ops draw) H (Yr hf (C.live f id)) (Vv Bk.1)
   have hQ:∀E' a',Step C.G I B0 E0 E'->E'.h=h'->AR E' F' a'->a'.tmps.size=a.tmps.size->_:=fun E' a' S=>hQ E' a' (T0.trans S)
   have H:=T0.Co;rw[<-wv] at hx;rw[<-sA]
   cases draw with
   |true=>
    exact R6 S0.hI S0.mixed (fun n d=>Mk S0 d n) (fun n=>Rl n) (by
     have h1:C.Hk f id=false:=by simpa using CG
     have h2:=Bk.2;rw[h1] at h2
     simpa using h2) (yf n (Nat.lt_succ_self n)) Bk.1 (gJ (by simpa using oX)) hx H eE hm fun E' a' S Hg FO hs hd=>hQ E' a' S Hg FO hs (.inr hd)
   |false=>
    have Uq:=NF ops ops.size (Nat.le_refl _)
    rw[List.take_of_length_le (by simp)] at Uq
    refine wp_region (cV S0.hI (fun n=>Mk S0 false n) (yf n (Nat.lt_succ_self n)) (List.range ops.size) 0 _ E0.h x F' h' (by rw[Uq];exact Bk.1) (by rw[Uq];exact hx) E0 a rfl H eE hm fun E' a' S Hg FO hs hd=>hQ E' a' S Hg FO hs ?_)
    rcases hd with h2|hd
    ·rw[Uq] at h2;rw[h2,Bool.and_true,Bool.not_eq_false'] at bK;exact .inl bK
    ·exact .inr hd
  |_=>simp[E6] at hx
theorem kJ (S0:Sound C I B0){ch:PX->List PanicEntry}{PF:G7}(ss:lW C I B0 ch PF){n:Nat}(ih:∀m,m<n->Rw C I B0 ch PF m):dv C I B0 ch (OB C PF n):=by
 intro k vs h x h' hx
 cases n with
 |zero=>simp[OB] at hx
 |succ n=>
  simp only[OB] at hx
  rcases hx with ⟨hp,rfl⟩|⟨Bk,VX,hp,Fy,fn,c,OX,hb,hx⟩
  ·obtain⟨h1,h2⟩:=ss k vs x hp
   refine⟨h1,fun E args hE H Cd=> ?_⟩
   subst hE;exact h2 E args H Cd
  ·refine⟨S0.fns k Bk,fun E args hE H Cd=>calls_of_wp OX hb ?_⟩
   have Jx:=S0.bX k fn c Bk VX hp OX hb
   have CD:fn.ntmps<=(args.toArray++Array.replicate (fn.ntmps-args.toArray.size) undef).size:=by simp;omega
   rcases hx with ⟨hh,F1,h1,hx,rfl⟩|⟨hh,F1,h1,hx,rfl⟩
   ·refine ih n (Nat.lt_succ_self n) k c _ h x F1 h1 fn.ntmps hx Jx E _ hE H (Mq Cd fn.ntmps) CD _ fun E' a' S Hg FO _ hd=> ?_
    obtain⟨K,S'⟩:=NB H S S0.JL;rw[Hg,hE] at S'
    exact⟨hd.resolve_left (by rw[Fy];simp),rfl,{E' with h:=(h1.take h.length).map (AN h.length h1)},rfl,S',rfl⟩
   ·have H1:=I8 H S0.JL;have Jz:=BT.cut (Re (E:=E)) vs args Cd
    refine ih n (Nat.lt_succ_self n) k c _ [] x F1 h1 fn.ntmps hx Jx (fresh E) _ rfl H1 (Mq Jz fn.ntmps) CD _ fun E' a' S Hg FO _ hd=> ?_
    exact⟨hd.resolve_left (by rw[Fy];simp),rfl,{E with w:=E'.w},rfl,LF S0.hI H S.below,hE⟩
theorem kH (S0:Sound C I B0){ch:PX->List PanicEntry}{PF:G7}(ss:lW C I B0 ch PF):∀n,Rw C I B0 ch PF n:=by
 intro n
 induction n using Nat.strongRecOn with
 |_ n ih=>exact kK S0 ih fun m hm=>kJ S0 ss fun k hk=>ih k (Nat.lt_trans hk hm)
end
end Go.Ai
