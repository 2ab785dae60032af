/-
  Runs that end in a panic: what gives up, with what, and what is left of memory. No statement about the program is made here.
-/
import Derived.Test.YtopjpnhgnopbiaaGreatDoorAiCtr
set_option linter.unusedVariables false
set_option linter.unusedSimpArgs false
set_option linter.unnecessarySimpa false
namespace Go.Ai
open Go.RowKit
abbrev PX :=Int×Int
abbrev HC :=FuncId->List AV->Option PX
def OE (C:Bm)(PK:FuncId->List AV->Hp->PX->Hp->Prop)(o:Oper)(F:Fr)(h:Hp)(x:PX)(h':Hp):Prop:=
 match o.op with
 |.call {callee:=.value y,args,argTypes:=_}=>
  ∃k first cap vs,ev C.G F y=(true,.fn (.func k) first cap)/\N6 C.G F args.toList=(true,vs)/\C.ident k=false/\PK k (first++vs++cap) h x h'
 |_=>False
def MH (draw:Bool)(F:Fr):Fr:=match draw with
 |true=>[(dS,lk F dS)]
 |false=>F
def KL (C:Bm)(PK:FuncId->List AV->Hp->PX->Hp->Prop)(ops:Array Oper)(draw:Bool):Nat->List Oper->Fr->Hp->PX->Fr->Hp->Prop
 |_,[],_,_,_,_,_=>False
 |i,o::os,F,h,x,F',h'=>(BB C ops draw i=false/\guardOf ops F o=some true/\F'=MH draw F/\OE C PK o F h x h')\/
   ∃e h1,(∃n0,∀n,n0<=n->AW C (call C (BB C ops draw i) n) ops (BB C ops draw i) o F h=.ok (e,h1))/\Ep C ops draw i F h h1=true/\KL C PK ops draw (i+1) os (Av F (DG (BB C ops draw i) o) e) h1 x F' h'
mutual
def FA (C:Bm)(PF:HC):Nat->FuncId->Code->Fr->Hp->PX->Fr->Hp->Prop
 |0,_,_,_,_,_,_,_=>False
 |n+1,f,c,F,h,x,F',h'=>
  match c with
  |.seq a b=>FA C PF n f a F h x F' h'\/∃F1 h1,DR C f a F h .normal F1 h1/\FA C PF n f b F1 h1 x F' h'
  |.cond y a b=>∃t,ev C.G F y=(true,.bool t)/\FA C PF n f (match t with|true=>a|false=>b) F h x F' h'
  |.block _ a=>FA C PF n f a F h x F' h'
  |.loop a=>FA C PF n f a F h x F' h'\/∃F1 h1,DR C f a F h .normal F1 h1/\
    FA C PF n f (.loop a) (match C.Fy f with|true=>DD h.length h1 F1|false=>F1) (match C.Fy f with|true=>(h1.take h.length).map (AO h.length h1)|false=>h1) x F' h'
  |.region id ops draw=>(draw&&C.Ho f id)=false/\((!C.DA f&&Fg ops.toList)||(draw&& !Uj ops.toList (JZ (GD ops draw) h.length ((C.live f id).map fun s=>(s,lk F s)))))=false/\KL C (OF C PF n) ops draw 0 ops.toList (JZ (GD ops draw) h.length ((C.live f id).map fun s=>(s,lk F s))) (R7 (GD ops draw) h) x F' h'
  |_=>False
def OF (C:Bm)(PF:HC):Nat->FuncId->List AV->Hp->PX->Hp->Prop
  | 0,_,_,_,_,_=>False
  | n+1,k,vs,h,x,h'=>
    (PF k vs=some x/\h'=h)\/
    (C.ok k=true/\C.Cq k=none/\C.FP k=none/\C.DA k=false/\∃fn c,C.P.funcs[k]?=some fn/\fn.body=some c/\
      ((C.heap k=true/\∃F1 h1,FA C PF n k c (D8 0 vs) h x F1 h1/\h'=(h1.take h.length).map (AO h.length h1))\/
       (C.heap k=false/\∃F1 h1,FA C PF n k c (D8 0 (AQ 0 [] vs)) [] x F1 h1/\h'=h)))
end
section
variable {C:Bm}{I:World->Prop}{B0:Nat}
def mr (G:Nat->Option (List AV))(I:World->Prop)(B0:Nat)(ch:PX->List PanicEntry)(E:Env)(x:PX)(h':Hp)(e:Ending)(w':World):Prop:=
 e=.panicked (ch x)/\∃E',E'.w=w'/\Step G I B0 E E'/\E'.h=h'
def eC (C:Bm)(I:World->Prop)(B0:Nat)(ch:PX->List PanicEntry)(PK:FuncId->List AV->Hp->PX->Hp->Prop):Prop:=
 ∀k vs h x h',PK k vs h x h'->Callee C.P k/\∀(E:Env) (args:List Value),E.h=h->Good C.G I B0 E->BU E vs args->Calls C.P k args.toArray E.w (mr C.G I B0 ch E x h')
def lu (C:Bm)(I:World->Prop)(B0:Nat)(ch:PX->List PanicEntry)(PF:HC):Prop:=
 ∀k vs x,PF k vs=some x->Callee C.P k/\∀(E:Env) (args:List Value),Good C.G I B0 E->BU E vs args->Calls C.P k args.toArray E.w (mr C.G I B0 ch E x E.h)
theorem aX {ch:PX->List PanicEntry}{PK:FuncId->List AV->Hp->PX->Hp->Prop}(pR:eC C I B0 ch PK){ops:Array Oper}{Q:Exit->Act->World->Prop}{K:Act->World->Prop}{i:Nat}{o:Oper}(ho:ops[i]?=some o){F:Fr}{x:PX}{h':Hp}{E:Env}{a:Act}
  (hg:guardOf ops F o=some true) (hx:OE C PK o F E.h x h') (H:Good C.G I B0 E) (hf:AR E F a) (hQ:∀E',Step C.G I B0 E E'->E'.h=h'->Q (.panic (ch x)) a E'.w):wpOp C.P ops Q i K a E.w:=by
 simp only[wpOp,ho];rw[JJ hf hg,if_pos rfl];refine .inl ?_;unfold OE at hx;split at hx
 ·rename_i y args _ Bo
  obtain⟨k,first,cap,vs,Nr,iq,hid,hk⟩:=hx
  obtain⟨fa,ca,qU,TF,OZ⟩:=Ah H hf Nr rfl
  have Cd:=U8 H hf args.toList (by rw[iq])
  rw[iq] at Cd;have CG:=BU.append (BU.append TF Cd) OZ
  have J7:fa++args.map a.eval++ca=(fa.toList++args.toList.map a.eval++ca.toList).toArray:=by
   apply Array.ext';simp
  obtain⟨⟨fn,Ob,hb,MS⟩,ZQ⟩:=pR k _ _ _ _ hk;have hc:=ZQ E _ rfl H CG
  have W9:(execOp a.eval o).run C.P E.w=.ok (.enter k (fa.toList++args.toList.map a.eval++ca.toList).toArray) E.w:=by
   obtain⟨d,op,ty,pos,after,gd⟩:=o;simp only at Bo;subst Bo;simp only[execOp,resolve,qU,Deferred.ofValue,Sem.run_bind,Sem.run_pure,Result.andThen_ok,invoke,callFunc,run_program,Ob,MS,hb,J7];rfl
  unfold Oper.wp;rw[W9,Oper.upon_enter]
  refine hc.mono fun e w' Wy=> ?_
  obtain⟨rfl,E1,rfl,S,LZ⟩:=Wy;exact hQ E1 S LZ
 ·exact hx.elim
theorem cc (hI:∀w w',I w->Below B0 w w'->I w')(DU:∀n,OH C I B0 (call C false n)){ch:PX->List PanicEntry}{PK:FuncId->List AV->Hp->PX->Hp->Prop}(pR:eC C I B0 ch PK){ops:Array Oper}{n:Nat}{Q:Exit->Act->World->Prop}:
  ∀(l:List Nat) (j:Nat) (F:Fr) (h:Hp) (x:PX) (F':Fr) (h':Hp),((IB ops l).all fun o=>F9 n o.dst)=true->KL C PK ops false j (IB ops l) F h x F' h'->∀(E:Env) (a:Act),E.h=h->Good C.G I B0 E->AR E F a->n<=a.tmps.size->
   (∀E' a',Step C.G I B0 E E'->E'.h=h'->AR E' F' a'->a'.tmps.size=a.tmps.size->(Fg (IB ops l)=true\/a'.defers=a.defers)->Q (.panic (ch x)) a' E'.w)->wpOps C.P ops Q l a E.w:=by
 intro l
 induction l with
 |nil=>
  intro j F h x F' h' _ hx;exact hx.elim
 |cons i l ih=>
  intro j F h x F' h' Hy hx E a hE H hf hn hQ;subst hE;rw[wpOps_cons]
  cases ho:ops[i]? with
  |none=>
   have:IB ops (i::l)=IB ops l:=by simp[IB,ho]
   rw[this] at hx Hy;simp only[wpOp,ho];rw[this] at hQ;exact ih j F E.h x F' h' Hy hx E a rfl H hf hn hQ
  |some o=>
   have:IB ops (i::l)=o::IB ops l:=by simp[IB,ho]
   rw[this] at hx Hy hQ;rw[List.all_cons,Bool.and_eq_true] at Hy;have xv:BB C ops false j=false:=rfl;simp only[KL,xv,MH,true_and] at hx
   rcases hx with ⟨hg,rfl,hx⟩|⟨e,h1,⟨n0,hs⟩,_,hx⟩
   ·exact aX pR ho hg hx H hf fun E1 S LZ=>hQ E1 a S LZ (AR.mono S.le hf) rfl (.inr rfl)
   ·exact KS hI (DU n0) ho Hy.1 (hs n0 (Nat.le_refl _)) H hf hn fun E' a' S Hl FT CD F7=>
     ih _ _ _ x F' h' Hy.2 hx E' a' Hl S.Cn FT (by rw[CD];exact hn) fun eM lq S' ZT Uw Fv Ns=>hQ eM lq (S.trans S') ZT Uw (Fv.trans CD) (by
      rcases F7 with ⟨_,h2⟩|F7
      ·exact .inl (by simp[Fg,h2])
      ·rcases Ns with h2|Ns
       ·exact .inl (by simp only[Fg] at h2⊢;simp[h2])
       ·exact .inr (Ns.trans F7))
theorem Qc {PK:FuncId->List AV->Hp->PX->Hp->Prop}{ops:Array Oper}{o:Oper}{F F':Fr}{h:Hp}{x:PX}{h':Hp}(he:∀t∈o.looksAt ops,lk F t=lk F' t)(hx:OE C PK o F h x h'):OE C PK o F' h x h':=by
 unfold OE at hx⊢;split at hx
 ·rename_i y args Xg Bo
  obtain⟨k,first,cap,vs,h1,h2,h3,h4⟩:=hx
  have hm:∀z∈o.op.operands,ev C.G F z=ev C.G F' z:=fun z hz=>XJ fun t ht=>he t (by
   subst ht
   exact List.mem_append_left _ (List.mem_filterMap.2 ⟨.tmp t,by simpa using hz,rfl⟩))
  rw[Bo] at hm
  have e1:ev C.G F y=ev C.G F' y:=hm y (by simp[Op.operands,Call.operands])
  have e2:N6 C.G F args.toList=N6 C.G F' args.toList:=Kf fun z hz=>hm z (by simp[Op.operands,Call.operands];exact .inr (by simpa using hz))
  refine⟨k,first,cap,vs,?_,?_,h3,h4⟩
  ·rw[<-e1];exact h1
  ·rw[<-e2];exact h2
 ·exact hx.elim
theorem Qb {PK:FuncId->List AV->Hp->PX->Hp->Prop}{ops:Array Oper}{x:PX}{F':Fr}{h':Hp}:∀(os:List Oper) (i:Nat) {F:Fr} {h:Hp},(∀j,os[j]?=ops[i+j]?)->KL C PK ops true i os F h x F' h'->
  ∃A m B o F1 h1,List.range' i os.length=A++m::B/\ops[m]?=some o/\HU C ops m=true/\(∃n0,∀n,n0<=n->Bx C (fun d=>call C d n) ops A F h=.ok (F1,h1))/\OE C PK o F1 h1 x h'/\F'=MH true F1
 |[],i,F,h,_,hx=>hx.elim
 |o::os,i,F,h,VW,hx=>by
  have ho:ops[i]?=some o:=by simpa using(VW 0).symm
  simp only[KL] at hx;rw[List.length_cons,List.range'_succ]
  rcases hx with ⟨ZM,hg,rfl,hx⟩|⟨e,h1,⟨n0,hs⟩,hm,hx⟩
  ·have j3:HU C ops i=true:=by
    cases j3:HU C ops i with
    |true=>rfl
    |false=>rw[Gj j3] at ZM;cases ZM
   exact⟨[],i,_,o,F,h,rfl,ho,j3,⟨0,fun n _=>rfl⟩,hx,rfl⟩
  ·obtain⟨A,m,B,om,F1,h2,k1,k2,k3,⟨m0,k4⟩,k5,k6⟩:=Qb os (i+1) (fun j=>by rw[show i+1+j=i+(j+1) by omega,<-VW (j+1)];simp) hx
   refine⟨i::A,m,B,om,F1,h2,by rw[k1];rfl,k2,k3,⟨n0+m0,fun n hn=> ?_⟩,k5,k6⟩
   exact(Cf ho).2 ⟨e,h1,hs n (by omega),hm,k4 n (by omega)⟩
theorem dy (hI:∀w w',I w->Below B0 w w'->I w'){cl:Bool->FuncId->List AV->Hp->Except (List Nat) (AV×Hp)}(DU:∀d,OH C I B0 (cl d))(HI:Ir (cl true)){ops:Array Oper}(hd:IK C.P ops=true)
  {ch:PX->List PanicEntry} {PK:FuncId->List AV->Hp->PX->Hp->Prop} (pR:eC C I B0 ch PK) {n:Nat} (Hy:(ops.toList.all fun o=>F9 n o.dst)=true) {Q:Exit->Act->World->Prop} {m:Nat} {om:Oper} (bN:ops[m]?=some om) (xA:HU C ops m=true) {x:PX} {h':Hp}:
  ∀(fuel:Nat) (listed:Array Bool) (A B:List Nat) (F F1:Fr) (h1:Hp) (E:Env) (a:Act),listed.size=ops.size->Ln ops listed->(rest ops listed).length=fuel->rest ops listed=A++m::B->
   Xv ops.toList F->Bx C cl ops A F E.h=.ok (F1,h1)->OE C PK om F1 h1 x h'->Good C.G I B0 E->AR E F a->n<=a.tmps.size->
   (∀E' a',Step C.G I B0 E E'->E'.h=h'->AR E' (MH true F1) a'->a'.tmps.size=a.tmps.size->a'.defers=a.defers->Q (.panic (ch x)) a' E'.w)->wpAny C.P .any ops Q fuel listed a E.w:=by
 obtain⟨om',I9,RL,HZ,yA⟩:=Ib xA;rw[bN] at I9
 injection I9 with I9
 subst I9;obtain⟨_,pB,F7⟩:=JA RL;intro fuel
 induction fuel with
 |zero=>
  intro listed A B F F1 h1 E a hs hc hl hr;rw[hr] at hl;simp at hl
 |succ fuel ih=>
  intro listed A B F F1 h1 E a hs hc hl hr ZS hx sf H hf hn hQ
  refine⟨fun JQ=>absurd JQ (LN (fun j o ho=>Mj hd ho) hs (by intro h;rw[h] at hl;cases hl)),fun i hi=> ?_⟩
  have qR:=E7 hi;rw[hr] at qR;have bI:=Gc (ops:=ops) listed;rw[hr,List.pairwise_append,List.pairwise_cons] at bI
  rcases List.mem_append.1 qR with hiA|xI
  ·obtain⟨s,t,rfl⟩:=List.append_of_mem hiA
   obtain⟨o,ho,RE,EJ,EB,SG,j5,OY,_⟩:=Gd hs hc hi (s:=s) (t:=t++m::B) (by rw[hr];simp)
   obtain⟨e,h2,wj,G1,IE,qX⟩:=Wu HI hd (Ra Hy) ho EJ EB SG RE ZS hx
   refine QU hI DU Hy ho ZS wj H hf hn fun E' a' S Hl FT pU CD F7=> ?_
   subst Hl
   refine ih _ (s++t) B _ G1 h1 E' a' (by simpa using hs) j5 ?_ (by rw[OY];simp) pU IE (Qc (ops:=ops) (fun u _=>qX u) sf) S.Cn FT (by rw[CD];exact hn) fun eM lq S' ZT Uw Fv Ns=>
    hQ eM lq (S.trans S') ZT (Uw.eq fun n=>by simp only[MH];rw[qX dS]) (Fv.trans CD) (Ns.trans F7)
   rw[OY];rw[hr] at hl;simp at hl⊢;omega
  ·rcases List.mem_cons.1 xI with rfl|xI
   ·obtain⟨o,ho,RE,EJ,EB,SG,j5,OY,_⟩:=Gd hs hc hi hr;rw[bN] at ho
    injection ho with ho
    subst ho
    have TH:∀k∈A,HU C ops k=false:=by
     intro k hk
     cases hm:HU C ops k with
     |false=>rfl
     |true=>
      obtain⟨_,_,_,_,h4⟩:=Ib hm;have:=h4 i (EB k hk) RE;rw[SG k hk] at this;cases this
    rw[DF A TH] at hx
    obtain⟨r1,r2⟩:=Gh HI A (fun k hk=>(HZ k (EB k hk)).resolve_left (by rw[SG k hk];simp)) hx
    subst r1
    have W5:∀k∈A,∀x,ops[k]?=some x->x.apart ops om=true:=by
     intro k hk x Xr
     rcases Ol hd Xr bN (EB k hk) with hb|Ux
     ·have:=SG k hk;unfold Dl at this;rw[hb] at this;cases this
     ·exact Ux.1
    have Wx:∀u,u∈om.looksAt ops->lk F1 u=lk F u:=fun u hu=>r2 u fun k hk x Xr sK=>(Oper.apart_spec (W5 k hk x Xr)).1 u sK hu
    have hS:lk F1 dS=lk F dS:=r2 dS fun k hk x Xr=>Ra Hy x (by simpa using Array.mem_of_getElem? Xr)
    refine aX pR bN (F:=F) (by simp[guardOf,pB]) (Qc Wx sf) H hf fun E1 S LZ=>hQ E1 a S LZ ?_ rfl rfl
    have Je:=AR.mono S.le hf
    refine⟨fun u=> ?_,?_⟩
    ·simp only[MH,lk]
     cases hb:Nat.beq dS u with
     |true=>
      have:=Nat.eq_of_beq_eq_true hb;subst this;simp only[cond_true];rw[hS];exact Je.1 dS
     |false=>simp only[cond_false];exact⟨fun _=>trivial,fun h=>by cases h⟩
    ·simp only[MH,lk,Nat.beq_refl,cond_true];rw[hS];exact Je.2
   ·have j3:m<i:=bI.2.1.1 i xI;obtain⟨s,t,DI⟩:=List.append_of_mem (E7 hi);obtain⟨o,ho,RE,_,_,_,_,_,oW⟩:=Gd hs hc hi DI
    have h1:=oW m (by rw[hr];simp)
    rw[yA i j3 RE] at h1;cases h1
theorem R8 (hI:∀w w',I w->Below B0 w w'->I w')(hm:C.P.follows .mixedOrders=true)(DU:∀n d,OH C I B0 (call C d n))(HI:∀n,Ir (call C true n)){ops:Array Oper}(hd:IK C.P ops=true)
  {ch:PX->List PanicEntry} {PK:FuncId->List AV->Hp->PX->Hp->Prop} (pR:eC C I B0 ch PK) {n:Nat} (Hy:(ops.toList.all fun o=>F9 n o.dst)=true) {Q:Exit->Act->World->Prop} {id:Nat} {F F':Fr} {x:PX} {h':Hp} {E:Env} {a:Act}
  (ZS:Xv ops.toList F) (hx:KL C PK ops true 0 ops.toList F E.h x F' h') (H:Good C.G I B0 E) (hf:AR E F a) (hn:n<=a.tmps.size)
  (hQ:∀E' a',Step C.G I B0 E E'->E'.h=h'->AR E' F' a'->a'.tmps.size=a.tmps.size->a'.defers=a.defers->Q (.panic (ch x)) a' E'.w):(Code.region id ops true).wp C.P Q a E.w:=by
 refine wp_region_any hm ?_
 have hb:∀B,Below B E.w {E.w with drawn:=E.w.drawn+1}:=fun B=>⟨rfl,rfl,rfl,Nat.le_refl _,fun _ _=>rfl⟩
 have S:=NF hI H (w':={E.w with drawn:=E.w.drawn+1}) (hb _) rfl
 obtain⟨A,m,B,om,F1,h1,k1,k2,k3,⟨n0,k4⟩,k5,rfl⟩:=Qb ops.toList 0 (fun j=>by simp) hx
 rw[<-List.range_eq_range',Array.length_toList] at k1
 exact dy hI (cl:=fun d=>call C d n0) (DU n0) (HI n0) hd pR Hy k2 k3 ops.size _ A B F F1 h1 {E with w:={E.w with drawn:=E.w.drawn+1}} a (by simp) (Lg ops) (by rw[IU];simp) (by rw[IU];exact k1) ZS
  (k4 n0 (Nat.le_refl _)) k5 S.Cn (AR.mono S.le hf) hn fun E' a' S'=>hQ E' a' (S.trans S')
def Ry (C:Bm)(I:World->Prop)(B0:Nat)(ch:PX->List PanicEntry)(PF:HC)(n:Nat):Prop:=
 ∀(f:FuncId) (c:Code) (F:Fr) (h:Hp) (x:PX) (F':Fr) (h':Hp) (m:Nat),FA C PF n f c F h x F' h'->Bn C.P m (C.Ho f) c=true->∀(E:Env) (a:Act),E.h=h->Good C.G I B0 E->AR E F a->m<=a.tmps.size->
  ∀Q:Exit->Act->World->Prop,(∀E' a',Step C.G I B0 E E'->E'.h=h'->AR E' F' a'->a'.tmps.size=a.tmps.size->(C.DA f=true\/a'.defers=a.defers)->Q (.panic (ch x)) a' E'.w)->c.wp C.P Q a E.w
theorem Qd (S0:Sound C I B0){ch:PX->List PanicEntry}{PF:HC}:∀(n:Nat),(∀m,m<n->Ry C I B0 ch PF m)->
  ∀(f:FuncId) (c:Code) (F:Fr) (h:Hp) (x:PX) (F':Fr) (h':Hp) (m:Nat),FA C PF n f (.loop c) F h x F' h'->Bn C.P m (C.Ho f) c=true->∀(E:Env) (a:Act),E.h=h->Good C.G I B0 E->AR E F a->m<=a.tmps.size->
  ∀Q:Exit->Act->World->Prop,(∀E' a',Step C.G I B0 E E'->E'.h=h'->AR E' F' a'->a'.tmps.size=a.tmps.size->(C.DA f=true\/a'.defers=a.defers)->Q (.panic (ch x)) a' E'.w)->Code.rounds C.P c Q n a E.w
 |0,_,f,c,F,h,x,F',h',m,hx,_=>by simp[FA] at hx
 |n+1,ih,f,c,F,h,x,F',h',m,hx,Bk=>by
  intro E a hE H hf hm Q hQ;rw[rounds_succ];simp only[FA] at hx
  rcases hx with hx|⟨F1,h1,⟨n0,he⟩,hx⟩
  ·exact ih n (Nat.lt_succ_self n) f c F h x F' h' m hx Bk E a hE H hf hm _ hQ
  ·refine Rv S0 n0 f c F h .normal F1 h1 m (he n0 (Nat.le_refl _)) Bk E a hE H hf hm _ fun E1 a1 S1 LZ Je Hk Od=> ?_
   have yx:=Qd S0 n (fun k hk=>ih k (Nat.lt_succ_of_lt hk)) f c
   cases ht:C.Fy f with
   |false=>
    rw[ht] at hx
    exact yx F1 h1 x F' h' m hx Bk E1 a1 LZ S1.Cn Je (by rw[Hk];exact hm) Q fun E2 a2 S2 PS Uv Ky Jf=>hQ E2 a2 (S1.trans S2) PS Uv (Ky.trans Hk) (DT.trans' Jf Od)
   |true=>
    rw[ht] at hx;subst hE;subst LZ;obtain⟨K,S'⟩:=NH H S1 S0.JO
    exact yx _ _ x F' h' m hx Bk {E1 with h:=(E1.h.take E.h.length).map (AO E.h.length E1.h)} a1 rfl S'.Cn (TQ K Je) (by rw[Hk];exact hm) Q
     fun E2 a2 S2 PS Uv Ky Jf=>hQ E2 a2 (S'.trans S2) PS Uv (Ky.trans Hk) (DT.trans' Jf Od)
theorem kd (S0:Sound C I B0){ch:PX->List PanicEntry}{PF:HC}{n:Nat}(ih:∀m,m<n->Ry C I B0 ch PF m)(yy:∀m,m<n->eC C I B0 ch (OF C PF m)):Ry C I B0 ch PF n:=by
 intro f c F h x F' h' m hx Bk E a hE H hf hm Q hQ
 cases n with
 |zero=>simp[FA] at hx
 |succ n=>
  have TC:=ih n (Nat.lt_succ_self n)
  cases c with
  |seq p q=>
   simp only[Bn,Bool.and_eq_true] at Bk;simp only[FA] at hx
   rcases hx with hx|⟨F1,h1,⟨n0,he⟩,hx⟩
   ·exact wp_seq (TC f p F h x F' h' m hx Bk.1 E a hE H hf hm _ hQ)
   ·refine wp_seq (Rv S0 n0 f p F h .normal F1 h1 m (he n0 (Nat.le_refl _)) Bk.1 E a hE H hf hm _ fun E1 a1 S1 LZ Je Hk Od=> ?_)
    exact TC f q F1 h1 x F' h' m hx Bk.2 E1 a1 LZ S1.Cn Je (by rw[Hk];exact hm) Q fun E2 a2 S2 PS Uv Ky Jf=>hQ E2 a2 (S1.trans S2) PS Uv (Ky.trans Hk) (DT.trans' Jf Od)
  |cond y p q=>
   simp only[Bn,Bool.and_eq_true] at Bk;simp only[FA] at hx;obtain⟨t,Nr,hx⟩:=hx;have hv:a.eval y=.bool t:=Ah H hf Nr rfl
   cases t with
   |true=>exact wp_cond_true hv (TC f p F h x F' h' m hx Bk.1 E a hE H hf hm Q hQ)
   |false=>exact wp_cond_false hv (TC f q F h x F' h' m hx Bk.2 E a hE H hf hm Q hQ)
  |block id p=>
   simp only[Bn] at Bk;simp only[FA] at hx;exact wp_block (TC f p F h x F' h' m hx Bk E a hE H hf hm _ hQ)
  |loop p=>
   simp only[Bn] at Bk;exact wp_loop_rounds (n+1) (Qd S0 (n+1) ih f p F h x F' h' m hx Bk E a hE H hf hm Q hQ)
  |region id ops draw=>
   simp only[Bn,Bool.and_eq_true] at Bk;simp only[FA] at hx;obtain⟨CG,ZN,hx⟩:=hx;rw[Bool.or_eq_false_iff] at ZN;obtain⟨bQ,o6⟩:=ZN;subst hE;obtain⟨E0,T0,sN,xJ,eL⟩:=YX S0.hI (GD ops draw) H (Yx hf (C.live f id)) (Vx Bk.1)
   have hQ:∀E' a',Step C.G I B0 E0 E'->E'.h=h'->AR E' F' a'->a'.tmps.size=a.tmps.size->_:=fun E' a' S=>hQ E' a' (T0.trans S)
   have H:=T0.Cn;rw[<-xJ] at hx;rw[<-sN]
   cases draw with
   |true=>
    exact R8 S0.hI S0.mixed (fun n d=>Mp S0 d n) (fun n=>Rn n) (by
     have h1:C.Ho f id=false:=by simpa using CG
     have h2:=Bk.2;rw[h1] at h2
     simpa using h2) (yy n (Nat.lt_succ_self n)) Bk.1 (gV (by simpa using o6)) hx H eL hm fun E' a' S Hl FT hs hd=>hQ E' a' S Hl FT hs (.inr hd)
   |false=>
    have Ur:=NK ops ops.size (Nat.le_refl _)
    rw[List.take_of_length_le (by simp)] at Ur
    refine wp_region (cc S0.hI (fun n=>Mp S0 false n) (yy n (Nat.lt_succ_self n)) (List.range ops.size) 0 _ E0.h x F' h' (by rw[Ur];exact Bk.1) (by rw[Ur];exact hx) E0 a rfl H eL hm fun E' a' S Hl FT hs hd=>hQ E' a' S Hl FT hs ?_)
    rcases hd with h2|hd
    ·rw[Ur] at h2;rw[h2,Bool.and_true,Bool.not_eq_false'] at bQ;exact .inl bQ
    ·exact .inr hd
  |_=>simp[FA] at hx
theorem kb (S0:Sound C I B0){ch:PX->List PanicEntry}{PF:HC}(tH:lu C I B0 ch PF){n:Nat}(ih:∀m,m<n->Ry C I B0 ch PF m):eC C I B0 ch (OF C PF n):=by
 intro k vs h x h' hx
 cases n with
 |zero=>simp[OF] at hx
 |succ n=>
  simp only[OF] at hx
  rcases hx with ⟨hp,rfl⟩|⟨Bk,VY,hp,F7,fn,c,Ob,hb,hx⟩
  ·obtain⟨h1,h2⟩:=tH k vs x hp
   refine⟨h1,fun E args hE H Cd=> ?_⟩
   subst hE;exact h2 E args H Cd
  ·refine⟨S0.fns k Bk,fun E args hE H Cd=>calls_of_wp Ob hb ?_⟩
   have J6:=S0.bh k fn c Bk VY hp Ob hb
   have CD:fn.ntmps<=(args.toArray++Array.replicate (fn.ntmps-args.toArray.size) undef).size:=by simp;omega
   rcases hx with ⟨hh,F1,h1,hx,rfl⟩|⟨hh,F1,h1,hx,rfl⟩
   ·refine ih n (Nat.lt_succ_self n) k c _ h x F1 h1 fn.ntmps hx J6 E _ hE H (Mv Cd fn.ntmps) CD _ fun E' a' S Hl FT _ hd=> ?_
    obtain⟨K,S'⟩:=NH H S S0.JO;rw[Hl,hE] at S'
    exact⟨hd.resolve_left (by rw[F7];simp),rfl,{E' with h:=(h1.take h.length).map (AO h.length h1)},rfl,S',rfl⟩
   ·have H1:=JB H S0.JO;have J8:=BU.cut (Rh (E:=E)) vs args Cd
    refine ih n (Nat.lt_succ_self n) k c _ [] x F1 h1 fn.ntmps hx J6 (fresh E) _ rfl H1 (Mv J8 fn.ntmps) CD _ fun E' a' S Hl FT _ hd=> ?_
    exact⟨hd.resolve_left (by rw[F7];simp),rfl,{E with w:=E'.w},rfl,LJ S0.hI H S.below,hE⟩
theorem kZ (S0:Sound C I B0){ch:PX->List PanicEntry}{PF:HC}(tH:lu C I B0 ch PF):∀n,Ry C I B0 ch PF n:=by
 intro n
 induction n using Nat.strongRecOn with
 |_ n ih=>exact kd S0 ih fun m hm=>kb S0 tH fun k hk=>ih k (Nat.lt_trans hk hm)
end
end Go.Ai
