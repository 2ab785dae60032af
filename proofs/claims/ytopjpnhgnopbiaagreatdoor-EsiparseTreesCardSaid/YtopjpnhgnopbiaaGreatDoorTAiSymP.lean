/-
  Symbolic runs of functions that may give up. No statement about the program is made here.
-/
import Derived.Test.YtopjpnhgnopbiaaGreatDoorTAiPan
set_option linter.unusedVariables false
set_option linter.unusedSimpArgs false
set_option linter.unnecessarySimpa false
namespace Go.Ai
open Go.RowKit
structure QP where
 pf:GB
 q:Fr->Hp->Prop
 p:Fr->PX->Hp->Prop
abbrev H7 :=List AV->Hp->(AV->Hp->Prop)->(PX->Hp->Prop)->Prop
structure VE where
 t:Zv
 p:FuncId->Option H7
def IU (C:Bh)(PF:GB)(k:Nat)(t:H7):Prop:=∀l h K KP,t (B7 C k l) h K KP->(∃v h',Jn C false k l h v h'/\K v h')\/∃n x h',MW C PF n k l h x h'/\KP x h'
structure B8 (C:Bh) (PF:GB) (T:VE):Prop where
 t:AK C T.t
 p:∀k t,T.p k=some t->IU C PF k t
def BR (C:Bh)(f:FuncId)(body:Code)(Q:QP):List Fm->XT->Fr->Hp->Prop
 |[],_,_,_=>False
 |.code p::st,.normal,F,h=>(∃n x F' h',EV C Q.pf n f (Ab body p) F h x F' h'/\Q.p F' x h')\/∃x F' h',DG C f (Ab body p) F h x F' h'/\BR C f body Q st x F' h'
 |.loop p m::st,.normal,F,h=>
  (∃n x F' h',EV C Q.pf n f (Ab body p) (match C.FB f with|true=>Cv m h F|false=>F) (match C.FB f with|true=>(h.take m).map (AL m h)|false=>h) x F' h'/\Q.p F' x h')\/
  ∃x F' h',DG C f (Ab body p) (match C.FB f with|true=>Cv m h F|false=>F) (match C.FB f with|true=>(h.take m).map (AL m h)|false=>h) x F' h'/\BR C f body Q st x F' h'
 |.ops p i::st,.normal,F,h=>match Ab body p with
  |.region _ ops draw=>(∃n x F' h',I6 C (MW C Q.pf n) ops draw i (ops.toList.drop i) F h x F' h'/\Q.p F' x h')\/∃F' h',pH C ops draw i (ops.toList.drop i) F h F' h'/\BR C f body Q st .normal F' h'
  |_=>False
 |.block id::st,.exit i,F,h=>bif Nat.beq i id then BR C f body Q st .normal F h else BR C f body Q st (.exit i) F h
 |.scope p::st,.goto l,F,h=>False
 |_::st,x,F,h=>BR C f body Q st x F h
def FU (C:Bh)(f:FuncId)(body:Code)(Q:QP)(st:List Fm)(x:XT)(F:Fr)(h:Hp):Prop:=AE C f body Q.q st x F h\/BR C f body Q st x F h
section
variable {C:Bh}{f:FuncId}{body:Code}{Q:QP}{st:List Fm}{p:List Nat}{F F':Fr}{h h':Hp}
theorem bp {x:XT}(hc:DG C f (Ab body p) F h x F' h')(k:BR C f body Q st x F' h'):BR C f body Q (.code p::st) .normal F h:=.inr ⟨x,F',h',hc,k⟩
theorem Ny {x:XT}(hc:DG C f (Ab body p) F h x F' h')(k:FU C f body Q st x F' h'):FU C f body Q (.code p::st) .normal F h:=k.imp (CN hc) (bp hc)
theorem Wt {a b:Code}{F1:Fr}{h1:Hp}{x:XT}(h0:DG C f a F h .normal F1 h1)(h2:DG C f b F1 h1 x F' h'):DG C f (.seq a b) F h x F' h':=by
 obtain⟨n0,hx⟩:=h0;obtain⟨m0,hy⟩:=h2
 refine⟨n0+m0+1,fun n hn=> ?_⟩
 obtain⟨m,rfl⟩:∃m,n=m+1:=⟨n-1,by omega⟩
 simp only[exec,hx m (by omega),hy m (by omega)]
theorem Ws {a b:Code}{x:XT}(h0:DG C f a F h x F' h')(hx:x≠.normal):DG C f (.seq a b) F h x F' h':=by
 obtain⟨n0,h0⟩:=h0
 refine⟨n0+1,fun n hn=> ?_⟩
 obtain⟨m,rfl⟩:∃m,n=m+1:=⟨n-1,by omega⟩
 simp only[exec,h0 m (by omega)]
 cases x<;>simp_all
theorem fx {a b:Code}(hc:Ab body p=.seq a b)(k:BR C f body Q (.code (0::p):: .code (1::p)::st) .normal F h):BR C f body Q (.code p::st) .normal F h:=by
 have h0:Ab body (0::p)=a:=by simp[Ab,child,hc]
 have LU:Ab body (1::p)=b:=by simp[Ab,child,hc]
 simp only[BR,h0,LU,hc] at k⊢
 rcases k with ⟨n,x,F1,h1,k,q⟩|⟨x,F1,h1,hx,k⟩
 ·exact .inl ⟨n+1,x,F1,h1,.inl k,q⟩
 ·cases x with
  |normal=>
   simp only[BR,LU] at k
   rcases k with ⟨n,y,F2,h2,k,q⟩|⟨y,F2,h2,hy,k⟩
   ·exact .inl ⟨n+1,y,F2,h2,.inr ⟨F1,h1,hx,k⟩,q⟩
   ·exact .inr ⟨y,F2,h2,Wt hx hy,k⟩
  |_=>
   simp only[BR] at k
   exact .inr ⟨_,F1,h1,Ws hx (by simp),k⟩
theorem Th {y:Operand}{a b:Code}{t:Bool}(hc:Ab body p=.cond y a b)(hy:ev C.G F y=(true,.bool t))
  (k:BR C f body Q (.code ((match t with|true=>0|false=>1)::p)::st) .normal F h):BR C f body Q (.code p::st) .normal F h:=by
 have key:∀(i:Nat) (d:Code),Ab body (i::p)=d->(∀m,exec C f m d F h=exec C f (m+1) (.cond y a b) F h)->(∀n x F' h',EV C Q.pf n f d F h x F' h'->EV C Q.pf (n+1) f (.cond y a b) F h x F' h')->BR C f body Q (.code (i::p)::st) .normal F h->BR C f body Q (.code p::st) .normal F h:=by
  intro i d h0 h1 h2 k;simp only[BR,h0,hc] at k⊢
  rcases k with ⟨n,x,F1,LU,k,q⟩|⟨x,F1,LU,⟨n0,hx⟩,k⟩
  ·exact .inl ⟨n+1,x,F1,LU,h2 _ _ _ _ k,q⟩
  ·refine .inr ⟨x,F1,LU,⟨n0+1,fun n hn=> ?_⟩,k⟩
   obtain⟨m,rfl⟩:∃m,n=m+1:=⟨n-1,by omega⟩
   rw[<-h1]
   exact hx m (by omega)
 cases t with
 |true=>exact key 0 a (by simp[Ab,child,hc]) (fun m=>by simp only[exec,hy]) (fun n x F' h' k=>⟨true,hy,k⟩) k
 |false=>exact key 1 b (by simp[Ab,child,hc]) (fun m=>by simp only[exec,hy]) (fun n x F' h' k=>⟨false,hy,k⟩) k
theorem Sb {id:Nat}{a:Code}(h0:DG C f a F h (.exit id) F' h'):DG C f (.block id a) F h .normal F' h':=by
 obtain⟨n0,h0⟩:=h0
 refine⟨n0+1,fun n hn=> ?_⟩
 obtain⟨m,rfl⟩:∃m,n=m+1:=⟨n-1,by omega⟩
 simp only[exec,h0 m (by omega),Nat.beq_refl,cond_true]
theorem K5 {id:Nat}{a:Code}{x:XT}(h0:DG C f a F h x F' h')(hx:∀i,x=.exit i->Nat.beq i id=false):DG C f (.block id a) F h x F' h':=by
 obtain⟨n0,h0⟩:=h0
 refine⟨n0+1,fun n hn=> ?_⟩
 obtain⟨m,rfl⟩:∃m,n=m+1:=⟨n-1,by omega⟩
 simp only[exec,h0 m (by omega)]
 cases x with
 |exit i=>simp only[hx i rfl,cond_false]
 |_=>rfl
theorem Y5 {id:Nat}{a:Code}(hc:Ab body p=.block id a)(k:BR C f body Q (.code (0::p):: .block id::st) .normal F h):BR C f body Q (.code p::st) .normal F h:=by
 have h0:Ab body (0::p)=a:=by simp[Ab,child,hc]
 simp only[BR,h0,hc] at k⊢
 rcases k with ⟨n,x,F1,h1,k,q⟩|⟨x,F1,h1,hx,k⟩
 ·exact .inl ⟨n+1,x,F1,h1,k,q⟩
 ·cases x with
  |exit i=>
   simp only[BR] at k
   cases hb:Nat.beq i id with
   |true=>
    rw[hb] at k;have:=Nat.eq_of_beq_eq_true hb;subst this;exact .inr ⟨.normal,F1,h1,Sb hx,k⟩
   |false=>
    rw[hb] at k
    exact .inr ⟨.exit i,F1,h1,K5 hx (fun j e=>by injection e with e;subst e;exact hb),k⟩
  |_=>
   simp only[BR] at k
   exact .inr ⟨_,F1,h1,K5 hx (fun j e=>by cases e),k⟩
theorem Tg {a:Code}(hc:Ab body p=.loop a)(k:BR C f body Q (.code (0::p):: .loop p h.length::st) .normal F h):BR C f body Q (.code p::st) .normal F h:=by
 have h0:Ab body (0::p)=a:=by simp[Ab,child,hc]
 simp only[BR,h0,hc] at k⊢
 rcases k with ⟨n,x,F1,h1,k,q⟩|⟨x,F1,h1,hx,k⟩
 ·exact .inl ⟨n+1,x,F1,h1,.inl k,q⟩
 ·cases x with
  |normal=>
   simp only[BR,hc] at k
   rcases k with ⟨n,y,F2,h2,k,q⟩|⟨y,F2,h2,⟨m0,hy⟩,k⟩
   ·exact .inl ⟨n+1,y,F2,h2,.inr ⟨F1,h1,hx,k⟩,q⟩
   ·obtain⟨n0,hx⟩:=hx
    refine .inr ⟨y,F2,h2,⟨n0+m0+1,fun n hn=> ?_⟩,k⟩
    obtain⟨m,rfl⟩:∃m,n=m+1:=⟨n-1,by omega⟩
    have hy:=hy m (by omega)
    cases ht:C.FB f<;>rw[ht] at hy<;>simp only[exec,hx m (by omega),ht]<;>exact hy
  |_=>
   simp only[BR] at k;obtain⟨n0,hx⟩:=hx
   refine .inr ⟨_,F1,h1,⟨n0+1,fun n hn=> ?_⟩,k⟩
   obtain⟨m,rfl⟩:∃m,n=m+1:=⟨n-1,by omega⟩
   simp only[exec,hx m (by omega)]
theorem Vt {id:Nat}{ops:Array Oper}{draw:Bool}(hc:Ab body p=.region id ops draw)(CE:(draw&&C.Gq f id)=false)(FD:((!C.Cs f&&Eo ops.toList)||(draw&& !SL ops.toList (IK (FH ops draw) h.length ((C.live f id).map fun s=>(s,lk F s)))))=false)(k:BR C f body Q (.ops p 0::st) .normal (IK (FH ops draw) h.length ((C.live f id).map fun s=>(s,lk F s))) (Pv (FH ops draw) h)):BR C f body Q (.code p::st) .normal F h:=by
 simp only[BR,hc,List.drop_zero] at k⊢
 rcases k with ⟨n,x,F1,h1,k,q⟩|⟨F1,h1,⟨n0,hx⟩,k⟩
 ·exact .inl ⟨n+1,x,F1,h1,⟨CE,FD,k⟩,q⟩
 ·refine .inr ⟨.normal,F1,h1,⟨n0+1,fun n hn=> ?_⟩,k⟩
  obtain⟨m,rfl⟩:∃m,n=m+1:=⟨n-1,by omega⟩
  have:=hx m (by omega)
  simp only[exec,CE,FD,this]
theorem YN {ops:Array Oper}{i:Nat}{o:Oper}(ho:ops[i]?=some o):ops.toList.drop i=o::ops.toList.drop (i+1):=by
 have hi:i<ops.toList.length:=by
  have:=(Array.getElem?_eq_some_iff.1 ho).1;simpa using this
 have Eh:ops.toList[i]=o:=by
  have:=(Array.getElem?_eq_some_iff.1 ho).2;simpa using this
 rw[List.drop_eq_getElem_cons hi,Eh]
theorem Vu {i id:Nat}{ops:Array Oper}{draw:Bool}{o:Oper}{e:Bool×AV}(hc:Ab body p=.region id ops draw)(ho:ops[i]?=some o)
  (hs:∃n0,∀n,n0<=n->AW C (call C (A6 C ops draw i) n) ops (A6 C ops draw i) o F h=.ok (e,h')) (hm:EH C ops draw i F h h'=true) (k:BR C f body Q (.ops p (i+1)::st) .normal (Aq F (Cx (A6 C ops draw i) o) e) h'):BR C f body Q (.ops p i::st) .normal F h:=by
 simp only[BR,hc] at k⊢;rw[YN ho]
 rcases k with ⟨n,x,F1,h1,k,q⟩|⟨F1,h1,⟨m0,hx⟩,k⟩
 ·exact .inl ⟨n,x,F1,h1,.inr ⟨e,h',hs,hm,k⟩,q⟩
 ·obtain⟨n0,hs⟩:=hs
  refine .inr ⟨F1,h1,⟨n0+m0,fun n hn=> ?_⟩,k⟩
  simp only[C9,hs n (by omega),hm]
  exact hx n (by omega)
theorem bm {i id:Nat}{ops:Array Oper}{draw:Bool}{o:Oper}(hc:Ab body p=.region id ops draw)(ho:ops[i]?=some o)(td:A6 C ops draw i=false)(hg:guardOf ops F o=some true){n:Nat}{x:PX}
  (hp:MV C (MW C Q.pf n) o F h x h') (hq:Q.p (Kn draw F) x h'):BR C f body Q (.ops p i::st) .normal F h:=by
 simp only[BR,hc];rw[YN ho];exact .inl ⟨n,x,_,h',.inl ⟨td,hg,rfl,hp⟩,hq⟩
theorem Tf {i id:Nat}{ops:Array Oper}{draw:Bool}(hc:Ab body p=.region id ops draw)(ho:ops[i]?=none)(k:BR C f body Q st .normal F h):BR C f body Q (.ops p i::st) .normal F h:=by
 simp only[BR,hc]
 refine .inr ⟨F,h,⟨0,fun n _=> ?_⟩,k⟩
 have:ops.toList.length<=i:=by
  have:=Array.getElem?_eq_none_iff.1 ho;simpa using this
 rw[List.drop_of_length_le this];rfl
theorem UI {F:Fr}{ls:List Nat}{s:Nat}(hs:s∈ls):lk (ls.map fun t=>(t,lk F t)) s=lk F s:=by
 have:=List.map_inj_left.1 (Ih F ls) s hs;simpa using this
theorem W5 (c:Code)(m:Nat)(h:Hp)(F:Fr):Gh C f c (Cv m h (Gh C f c F))=Gh C f c (Cv m h F):=by
 cases hr:Es c with
 |none=>simp only[Gh,hr]
 |some id=>
  simp only[Gh,hr]
  refine List.map_congr_left fun s hs=> ?_
  rw[GG,GG,UI hs]
theorem Ll {PF:GB}{n:Nat}{c:Code}{F:Fr}{h:Hp}{x:PX}{F':Fr}{h':Hp}:EV C PF n f c (Gh C f c F) h x F' h'↔EV C PF n f c F h x F' h':=by
 have key:∀(n:Nat) (c:Code) (F:Fr) (id:Nat),Es c=some id->(EV C PF n f c ((C.live f id).map fun s=>(s,lk F s)) h x F' h'↔EV C PF n f c F h x F' h'):=by
  intro n
  induction n with
  |zero=>intro c F id _;simp[EV]
  |succ n ih=>
   intro c F id hc
   cases c<;>simp only[Es] at hc
   case seq a b=>
    simp only[EV,ih a F id hc]
    have:∀x1 F1 h1,DG C f a ((C.live f id).map fun s=>(s,lk F s)) h x1 F1 h1↔DG C f a F h x1 F1 h1:=fun x1 F1 h1=>by simp only[DG,HF _ a F h hc]
    simp only[this]
   case block i a=>simp only[EV,ih a F id hc]
   case loop a=>
    simp only[EV,ih a F id hc]
    have:∀x1 F1 h1,DG C f a ((C.live f id).map fun s=>(s,lk F s)) h x1 F1 h1↔DG C f a F h x1 F1 h1:=fun x1 F1 h1=>by simp only[DG,HF _ a F h hc]
    simp only[this]
   case region i ops draw=>
    injection hc with hc
    subst hc;simp only[EV,Ih]
   all_goals cases hc
 unfold Gh;split
 ·exact key n c F _ (by assumption)
 ·exact Iff.rfl
theorem bo (k:BR C f body Q (.code p::st) .normal (Gh C f (Ab body p) F) h):BR C f body Q (.code p::st) .normal F h:=by
 simp only[BR] at k⊢
 rcases k with ⟨n,x,F1,h1,k,q⟩|⟨x,F1,h1,⟨n0,hx⟩,k⟩
 ·exact .inl ⟨n,x,F1,h1,Ll.1 k,q⟩
 ·exact .inr ⟨x,F1,h1,⟨n0,fun n hn=>by rw[<-MO n _ F h];exact hx n hn⟩,k⟩
end
def eP (C:Bh)(T:VE)(draw:Bool)(F:Fr)(h:Hp)(o:Oper)(next:(Bool×AV)->Hp->Prop)(Ti:Bool->PX->Hp->Prop):Prop:=
 match o.op with
 |.call {callee:=.value x,args,argTypes:=_}=>
  match ev C.G F x,MP C.G F args.toList with
  |(true,.fn (.func k) first cap),(true,vs)=>
   match C.ident k,first++vs++cap with
   |true,[v]=>next (true,v) h
   |true,_=>False
   |false,l=>
    match draw&&((C.Cy k).isSome||C.heap k) with
    |true=>False
    |false=>match T.p k with
     |some t=>t (B7 C k l) h (fun v h'=>next (true,v) h') (fun x h'=>Ti (!draw) x h')
     |none=>match T.t k with
      |some t=>t (B7 C k l) h fun v h'=>next (true,v) h'
      |none=>False
  |_,_=>False
 |.defer {callee:=.value x,args,argTypes:=_}=>
  match draw|| !Dj o||o.dst.isSome|| !args.toList.isEmpty,ev C.G F x,lk F dS with
  |false,(true,.fn f first cap),(_,.Cs l)=>next (true,.Cs (.fn f first cap::l)) h
  |_,_,_=>False
 |_=>
  match Bg C (draw||o.guard.isSome) F h o with
  |some (g,e,h')=>AU g (next e h')
  |none=>False
def Wy (C:Bh)(T:VE)(draw:Bool)(F:Fr)(h:Hp)(o:Oper)(s:Option (List Sh))(next:(Bool×AV)->Hp->Prop)(Ti:Bool->PX->Hp->Prop):Prop:=
 match s with
 |some s=>match cq o.op with
  |true=>Xs C F h o s next
  |false=>match cn o.op with
   |true=>Xn C F h o next
   |false=>SP C draw F h o s next
 |none=>eP C T draw F h o next Ti
def Hz (C:Bh)(T:VE)(draw:Bool)(ops:Array Oper)(F:Fr)(h:Hp)(o:Oper)(s:Option (List Sh))(next:(Bool×AV)->Hp->Prop)(Ti:Bool->PX->Hp->Prop):Prop:=
 match Ef C.P draw ops o F h with
 |some (.ok (e,h'))=>next e h'
 |some (.error _)=>False
 |none=>Wy C T draw F h o s next Ti
def DS (C:Bh)(f:FuncId)(body:Code)(T:VE)(pl:XL)(Q:QP):Nat->List Fm->XT->Fr->Hp->Prop
 |0,st,x,F,h=>FU C f body Q st x F h
 |n+1,[],x,F,h=>match cr x with|true=>Q.q F h|false=>False
 |n+1,.code p::st,.normal,F,h=>
  match WQ pl.oi p with
  |true=>FU C f body Q (.code p::st) .normal (Gh C f (Ab body p) F) h
  |false=>
   match Ab body p with
   |.skip=>DS C f body T pl Q n st .normal F h
   |.ret=>DS C f body T pl Q n st .ret F h
   |.exit id=>DS C f body T pl Q n st (.exit id) F h
   |.seq _ _=>DS C f body T pl Q n (.code (0::p):: .code (1::p)::st) .normal F h
   |.cond y _ _=>
    match ev C.G F y with
    |(true,.bool b)=>Ad b (DS C f body T pl Q n (.code (0::p)::st) .normal (Yo F y true) h) (DS C f body T pl Q n (.code (1::p)::st) .normal (Yo F y false) h)
    |_=>False
   |.block id _=>DS C f body T pl Q n (.code (0::p):: .block id::st) .normal F h
   |.loop _=>DS C f body T pl Q n (.code (0::p):: .loop p h.length::st) .normal F h
   |.region id ops draw=>match draw&&C.Gq f id with
    |true=>False
    |false=>match(!C.Cs f&&Eo ops.toList)||(draw&& !SL ops.toList (IK (FH ops draw) h.length ((C.live f id).map fun s=>(s,lk F s)))) with
    |true=>False
    |false=>DS C f body T pl Q n (.ops p 0::st) .normal (IK (FH ops draw) h.length ((C.live f id).map fun s=>(s,lk F s))) (Pv (FH ops draw) h)
   |_=>False
 |n+1,.loop p m::st,.normal,F,h=>match C.FB f with
  |false=>DS C f body T pl Q n (.code p::st) .normal F h
  |true=>match C.Nw f with
   |true=>DS C f body T pl Q n (.code p::st) .normal (Cv m h (Gh C f (Ab body p) F)) ((h.take m).map (AL m h))
   |false=>AU (cO m (RY m (Gh C f (Ab body p) F))&&UG m (KX m (h.take m)))
    (DS C f body T pl Q n (.code p::st) .normal (RY m (Gh C f (Ab body p) F)) (KX m (h.take m)))
 |n+1,.block id::st,.exit i,F,h=>match Nat.beq i id with|true=>DS C f body T pl Q n st .normal F h|false=>DS C f body T pl Q n st (.exit i) F h
 |n+1,.scope p::st,.goto l,F,h=>False
 |n+1,.ops p i::st,.normal,F,h=>
  match Ab body p with
  |.region _ ops draw=>
   match ops[i]? with
   |none=>DS C f body T pl Q n st .normal F h
   |some o=>
    match o.guard with
    |none=>Hz C T (A6 C ops draw i) ops F h o (GX pl.Gy p i) (fun e h'=>Zx C ops draw i F h h' (DS C f body T pl Q n (.ops p (i+1)::st) .normal (Aq F (Cx (A6 C ops draw i) o) e) h')) fun g x h'=>AU g (Q.p (Kn draw F) x h')
    |some (j,want)=>
     match(ops[j]?).bind (·.dst) with
     |none=>False
     |some d=>
      match lk F d with
      |(true,.bool b)=>
       Ad b
        (match want with
        |true=>Hz C T (A6 C ops draw i) ops (IJ F d true) h o (GX pl.Gy p i) (fun e h'=>DS C f body T pl Q n (.ops p (i+1)::st) .normal (Aq (IJ F d true) o.dst e) h') fun g x h'=>AU g (Q.p (Kn draw (IJ F d true)) x h')
        |false=>DS C f body T pl Q n (.ops p (i+1)::st) .normal (Aq (IJ F d true) o.dst (false,.top)) h)
        (match want with
        |true=>DS C f body T pl Q n (.ops p (i+1)::st) .normal (Aq (IJ F d false) o.dst (false,.top)) h
        |false=>Hz C T (A6 C ops draw i) ops (IJ F d false) h o (GX pl.Gy p i) (fun e h'=>DS C f body T pl Q n (.ops p (i+1)::st) .normal (Aq (IJ F d false) o.dst e) h') fun g x h'=>AU g (Q.p (Kn draw (IJ F d false)) x h'))
      |(false,_)=>DS C f body T pl Q n (.ops p (i+1)::st) .normal (Aq F o.dst (false,.top)) h
      |_=>False
  |_=>False
 |n+1,_::st,x,F,h=>DS C f body T pl Q n st x F h
section
variable {C:Bh}{f:FuncId}{body:Code}{T:VE}{pl:XL}{Q:QP}
def fM (C:Bh)(PF:GB)(draw:Bool)(F:Fr)(h:Hp)(o:Oper)(next:(Bool×AV)->Hp->Prop)(Ti:Bool->PX->Hp->Prop):Prop:=
 (∃e h',(∃n0,∀n,n0<=n->BA C (call C draw n) draw o F h=.ok (e,h'))/\next e h')\/∃n x h',MV C (MW C PF n) o F h x h'/\Ti (!draw) x h'
theorem eO {PF:GB}(hT:B8 C PF T){draw:Bool}{F:Fr}{h:Hp}{o:Oper}{next:(Bool×AV)->Hp->Prop}{Ti:Bool->PX->Hp->Prop}(hd:eP C T draw F h o next Ti):fM C PF draw F h o next Ti:=by
 unfold eP at hd;split at hd
 ·rename_i x args ts Bc;split at hd
  ·rename_i k first cap vs hx dE
   split at hd
   ·rename_i v hid hl
    refine .inl ⟨(true,v),h,⟨0,fun n _=> ?_⟩,hd⟩
    simp only[BA,Bc,hx,dE,hid,hl]
   ·exact hd.elim
   ·rename_i hid;split at hd
    ·exact hd.elim
    ·rename_i Wc
     have ret:∀{v h'},Jn C false k (first++vs++cap) h v h'->next (true,v) h'->fM C PF draw F h o next Ti:=fun {v h'} hc hn=>by
      obtain⟨n0,hc⟩:=hc
      refine .inl ⟨(true,v),h',⟨n0,fun n hn=> ?_⟩,hn⟩
      have DZ:call C draw n k (first++vs++cap) h=.ok (v,h'):=by
       cases draw with
       |false=>exact hc n hn
       |true=>rw[RN (by simpa using Wc)];exact hc n hn
      simp only[BA,Bc,hx,dE,hid,DZ]
     cases Qp:T.p k with
     |some t=>
      rw[Qp] at hd
      rcases hT.p k t Qp _ _ _ _ hd with ⟨v,h',hc,hn⟩|⟨n,y,h',hk,hn⟩
      ·exact ret hc hn
      ·refine .inr ⟨n,y,h',?_,hn⟩;unfold MV;simp only[Bc]
       exact⟨k,first,cap,vs,hx,dE,hid,hk⟩
     |none=>
      rw[Qp] at hd;simp only at hd
      cases ht:T.t k with
      |none=>rw[ht] at hd;exact hd.elim
      |some t=>
       rw[ht] at hd;obtain⟨v,h',hc,hn⟩:=hT.t k t ht _ _ _ hd;exact ret hc hn
  ·exact hd.elim
 ·rename_i x args ts Bc;split at hd
  ·rename_i fn first cap b l hc hx hl
   refine .inl ⟨_,h,⟨0,fun n _=> ?_⟩,hd⟩
   simp only[BA,Bc,hc,hx,hl]
  ·exact hd.elim
 ·rename_i Bc dK;split at hd
  ·rename_i g e h' MH;obtain⟨rfl,hn⟩:=Dw hd
   refine .inl ⟨e,h',⟨0,fun n _=> ?_⟩,hn⟩
   obtain⟨dst,op,ty,pos,after,gd⟩:=o;unfold BA;split
   ·rename_i x args ts MF;exact absurd MF (Bc x args ts)
   ·rename_i x args ts MF;exact absurd MF (dK x args ts)
   ·simp only[MH]
  ·exact hd.elim
theorem Zh {PF:GB}(hT:B8 C PF T){draw:Bool}{F:Fr}{h:Hp}{o:Oper}{s:Option (List Sh)}{next:(Bool×AV)->Hp->Prop}{Ti:Bool->PX->Hp->Prop}(hd:Wy C T draw F h o s next Ti):fM C PF draw F h o next Ti:=by
 cases s with
 |none=>exact eO hT hd
 |some s=>
  simp only[Wy] at hd;split at hd
  ·exact .inl (UH hd)
  ·split at hd
   ·exact .inl (UC hd)
   ·exact .inl (Qn hd)
theorem Pa {PF:GB}(hT:B8 C PF T){draw:Bool}{ops:Array Oper}{F:Fr}{h:Hp}{o:Oper}{s:Option (List Sh)}{next:(Bool×AV)->Hp->Prop}{Ti:Bool->PX->Hp->Prop}(hd:Hz C T draw ops F h o s next Ti):
  (∃e h',(∃n0,∀n,n0<=n->(match Ef C.P draw ops o F h with|some r=>r|none=>BA C (call C draw n) draw o F h)=.ok (e,h'))/\next e h')\/∃n x h',MV C (MW C PF n) o F h x h'/\Ti (!draw) x h':=by
 unfold Hz at hd
 cases F6:Ef C.P draw ops o F h with
 |none=>rw[F6] at hd;exact Zh hT hd
 |some r=>
  rw[F6] at hd
  cases r with
  |error x=>exact hd.elim
  |ok r=>exact .inl ⟨r.1,r.2,⟨0,fun n _=>rfl⟩,hd⟩
theorem Dp (hT:B8 C Q.pf T):∀(n:Nat) (st:List Fm) (x:XT) (F:Fr) (h:Hp),DS C f body T pl Q n st x F h->FU C f body Q st x F h:=by
 intro n
 induction n with
 |zero=>intro st x F h hu;exact hu
 |succ n ih=>
  intro st x F h hu
  cases st with
  |nil=>
   simp only[DS] at hu;split at hu
   ·exact .inl ⟨by assumption,hu⟩
   ·exact hu.elim
  |cons fm st=>
   have pass:(∀p m i,¬(fm=.code p/\x=.normal)/\¬(fm=.loop p m/\x=.normal)/\¬(fm=.ops p m/\x=.normal)/\¬(fm=.block m/\x=.exit i)/\¬(fm=.scope p/\x=.goto i))->FU C f body Q st x F h->FU C f body Q (fm::st) x F h:=by
    intro hn k
    cases fm<;>cases x<;>first
     |exact k.imp (fun k=>by simpa only[AE] using k) (fun k=>by simpa only[BR] using k)
     |exact absurd ⟨rfl,rfl⟩ (hn _ 0 0).1
     |exact absurd ⟨rfl,rfl⟩ (hn _ _ 0).2.1
     |exact absurd ⟨rfl,rfl⟩ (hn _ _ 0).2.2.1
     |exact absurd ⟨rfl,rfl⟩ (hn [] _ _).2.2.2.1
     |exact absurd ⟨rfl,rfl⟩ (hn _ 0 _).2.2.2.2
   cases fm with
   |code p=>
    cases x with
    |normal=>
     simp only[DS] at hu;split at hu
     ·exact hu.imp Ug bo
     ·split at hu
      ·rename_i hc
       exact Ny (Mw fun m=>by rw[hc];rfl) (ih _ _ _ _ hu)
      ·rename_i hc
       exact Ny (Mw fun m=>by rw[hc];rfl) (ih _ _ _ _ hu)
      ·rename_i hc
       exact Ny (Mw fun m=>by rw[hc];rfl) (ih _ _ _ _ hu)
      ·rename_i hc;exact(ih _ _ _ _ hu).imp (YF hc) (fx hc)
      ·rename_i y a b hc;split at hu
       ·rename_i t hy
        have Ox:Yo F y t=F:=by
         cases y with
         |tmp s=>exact Kg hy
         |_=>rfl
        cases t with
        |true=>simp only[Ad] at hu;rw[Ox] at hu;exact(ih _ _ _ _ hu).imp (PR (t:=true) hc hy) (Th (t:=true) hc hy)
        |false=>simp only[Ad] at hu;rw[Ox] at hu;exact(ih _ _ _ _ hu).imp (PR (t:=false) hc hy) (Th (t:=false) hc hy)
       ·exact hu.elim
      ·rename_i hc;exact(ih _ _ _ _ hu).imp (Q8 hc) (Y5 hc)
      ·rename_i hc;exact(ih _ _ _ _ hu).imp (K4 hc) (Tg hc)
      ·rename_i hc;split at hu
       ·exact hu.elim
       ·rename_i CE;split at hu
        ·exact hu.elim
        ·rename_i FD;exact(ih _ _ _ _ hu).imp (PQ hc CE FD) (Vt hc CE FD)
      ·exact hu.elim
    |_=>
     simp only[DS] at hu
     exact pass (fun p m i=>by simp) (ih _ _ _ _ hu)
   |block id=>
    cases x with
    |exit i=>
     simp only[DS] at hu
     cases hb:Nat.beq i id with
     |true=>
      rw[hb] at hu
      exact(ih _ _ _ _ hu).imp (fun k=>by simp only[AE,hb,cond_true];exact k) (fun k=>by simp only[BR,hb,cond_true];exact k)
     |false=>
      rw[hb] at hu
      exact(ih _ _ _ _ hu).imp (fun k=>by simp only[AE,hb,cond_false];exact k) (fun k=>by simp only[BR,hb,cond_false];exact k)
    |_=>
     simp only[DS] at hu
     exact pass (fun p m i=>by simp) (ih _ _ _ _ hu)
   |loop p m=>
    cases x with
    |normal=>
     simp only[DS] at hu
     cases ht:C.FB f with
     |false=>
      rw[ht] at hu
      refine(ih (.code p::st) .normal F h hu).imp (fun k=> ?_) fun k=> ?_
      ·simp only[AE,ht];exact k
      ·simp only[BR,ht];exact k
     |true=>
      rw[ht] at hu;simp only at hu
      have hk:FU C f body Q (.code p::st) .normal (Cv m h (Gh C f (Ab body p) F)) ((h.take m).map (AL m h)):=by
       cases Sw:C.Nw f with
       |true=>rw[Sw] at hu;exact ih (.code p::st) .normal _ _ hu
       |false=>
        rw[Sw] at hu;obtain⟨hl,hu⟩:=Dw hu;rw[Bool.and_eq_true] at hl;have hk:=ih (.code p::st) .normal _ _ hu;rw[<-RX m h hl.1,<-Nx m h hl.2] at hk;exact hk
      refine hk.imp (fun hk=> ?_) fun hk=> ?_
      ·simp only[AE,ht];obtain⟨x1,F1,h1,⟨n0,hx⟩,k⟩:=hk
       refine⟨x1,F1,h1,⟨n0,fun n hn=> ?_⟩,k⟩
       rw[<-hx n hn];exact(MN n _ m h F _).symm
      ·simp only[BR,ht] at hk⊢;have MJ:=W5 (C:=C) (f:=f) (Ab body p) m h F
       rcases hk with ⟨n,y,F1,h1,k,q⟩|⟨x1,F1,h1,⟨n0,hx⟩,k⟩
       ·refine .inl ⟨n,y,F1,h1,?_,q⟩;rw[<-Ll,MJ,Ll] at k;exact k
       ·refine .inr ⟨x1,F1,h1,⟨n0,fun n hn=> ?_⟩,k⟩
        rw[<-hx n hn];exact(MN n _ m h F _).symm
    |_=>
     simp only[DS] at hu
     exact pass (fun p m i=>by simp) (ih _ _ _ _ hu)
   |scope p=>
    cases x with
    |goto l=>simp only[DS] at hu
    |_=>
     simp only[DS] at hu
     exact pass (fun p m i=>by simp) (ih _ _ _ _ hu)
   |ops p i=>
    cases x with
    |normal=>
     simp only[DS] at hu;split at hu
     ·rename_i id ops draw hc;split at hu
      ·rename_i ho;exact(ih _ _ _ _ hu).imp (Ms hc ho) (Tf hc ho)
      ·rename_i o ho
       have fit:∀F,guardOf ops F o=some true->∀{m y h'},MV C (MW C Q.pf m) o F h y h'->AU (!(A6 C ops draw i)) (Q.p (Kn draw F) y h')->FU C f body Q (.ops p i::st) .normal F h:=by
        intro F hg m y h' hp hn;obtain⟨Wc,hq⟩:=Dw hn;simp only[Bool.not_eq_true'] at Wc;exact .inr (bm hc ho Wc hg hp hq)
       have done:∀F,guardOf ops F o=some true->Hz C T (A6 C ops draw i) ops F h o (GX pl.Gy p i) (fun e h'=>Zx C ops draw i F h h' (DS C f body T pl Q n (.ops p (i+1)::st) .normal (Aq F (Cx (A6 C ops draw i) o) e) h')) (fun g x h'=>AU g (Q.p (Kn draw F) x h'))->FU C f body Q (.ops p i::st) .normal F h:=by
        intro F hg hd
        rcases Pa (ops:=ops) hT hd with ⟨e,h',⟨n0,hs⟩,hn⟩|⟨m,y,h',hp,hn⟩
        ·obtain⟨hm,hn⟩:=Xm hn
         have FC:∃n0,∀n,n0<=n->AW C (call C (A6 C ops draw i) n) ops (A6 C ops draw i) o F h=.ok (e,h'):=⟨n0,fun n hn=>by simp only[AW,hg];exact hs n hn⟩
         exact(ih _ _ _ _ hn).imp (MM hc ho FC hm) (Vu hc ho FC hm)
        ·exact fit F hg hp hn
       have Uv:∀F,o.guard.isSome=true->guardOf ops F o=some true->Hz C T (A6 C ops draw i) ops F h o (GX pl.Gy p i) (fun e h'=>DS C f body T pl Q n (.ops p (i+1)::st) .normal (Aq F (Cx (A6 C ops draw i) o) e) h') (fun g x h'=>AU g (Q.p (Kn draw F) x h'))->FU C f body Q (.ops p i::st) .normal F h:=by
        intro F Hf hg hd
        rcases Pa (ops:=ops) hT hd with ⟨e,h',⟨n0,hs⟩,hn⟩|⟨m,y,h',hp,hn⟩
        ·have FC:∃n0,∀n,n0<=n->AW C (call C (A6 C ops draw i) n) ops (A6 C ops draw i) o F h=.ok (e,h'):=⟨n0,fun n hn=>by simp only[AW,hg];exact hs n hn⟩
         exact(ih _ _ _ _ hn).imp (MM hc ho FC (EX ho Hf)) (Vu hc ho FC (EX ho Hf))
        ·exact fit F hg hp hn
       have PD:o.guard.isSome=true->Cx (A6 C ops draw i) o=o.dst:=by
        intro Hf
        have:Dj o=false:=by
         unfold Dj;split
         ·rename_i ki;rw[ki] at Hf;cases Hf
         ·rfl
        cases A6 C ops draw i<;>simp[Cx,this]
       have left:∀F,o.guard.isSome=true->guardOf ops F o=some false->DS C f body T pl Q n (.ops p (i+1)::st) .normal (Aq F o.dst (false,.top)) h->FU C f body Q (.ops p i::st) .normal F h:=by
        intro F Hf hg hd;rw[<-PD Hf] at hd
        have FC:∃n0,∀n,n0<=n->AW C (call C (A6 C ops draw i) n) ops (A6 C ops draw i) o F h=.ok ((false,.top),h):=⟨0,fun n hn=>by simp only[AW,hg]⟩
        exact(ih _ _ _ _ hd).imp (MM hc ho FC (EX ho Hf)) (Vu hc ho FC (EX ho Hf))
       split at hu
       ·rename_i Qt
        exact done F (by simp only[guardOf,Qt]) hu
       ·rename_i j want Qt
        have Hf:o.guard.isSome=true:=by rw[Qt];rfl
        rw[<-PD Hf] at hu;split at hu
        ·exact hu.elim
        ·rename_i d hj;split at hu
         ·rename_i b hl;have Ox:=Kg hl
          have hg:guardOf ops F o=some (b==want):=by simp[guardOf,Qt,hj,hl]
          cases b with
          |true=>
           simp only[Ad] at hu;rw[Ox] at hu
           cases want with
           |true=>exact Uv F Hf (by rw[hg];rfl) hu
           |false=>exact left F Hf (by rw[hg];rfl) (by rw[<-PD Hf];exact hu)
          |false=>
           simp only[Ad] at hu;rw[Ox] at hu
           cases want with
           |true=>exact left F Hf (by rw[hg];rfl) (by rw[<-PD Hf];exact hu)
           |false=>exact Uv F Hf (by rw[hg];rfl) hu
         ·rename_i v hl
          refine left F Hf ?_ (by rw[<-PD Hf];exact hu)
          simp only[guardOf,Qt,hj,hl]
          cases v<;>rfl
         ·exact hu.elim
     ·exact hu.elim
    |_=>
     simp only[DS] at hu
     exact pass (fun p m i=>by simp) (ih _ _ _ _ hu)
end
end Go.Ai
namespace Go.Ai
section
variable {C:Bh}{f:FuncId}{body:Code}{T:VE}{pl:XL}{Q:QP}
theorem Iu (hT:B8 C Q.pf T)(n:Nat){p:List Nat}{st:List Fm}{F:Fr}{h:Hp}(hc:cp (Ab body p)=true)(hu:DS C f body T pl Q n (.code (0::p):: .loop p h.length::st) .normal F h):FU C f body Q (.code p::st) .normal F h:=by
 cases hb:Ab body p with
 |loop a=>exact(Dp hT n _ _ _ _ hu).imp (K4 hb) (Tg hb)
 |_=>rw[hb] at hc;cases hc
theorem Ej {PF:GB}:∀p∈([]:List (Nat×H7)),IU C PF p.1 p.2:=fun _ h=>by cases h
theorem BL {PF:GB}{k:Nat}{t:H7}{l:List (Nat×H7)}(h1:IU C PF k t)(h2:∀p∈l,IU C PF p.1 p.2):∀p∈(k,t)::l,IU C PF p.1 p.2:=fun p hp=>by
 rcases List.mem_cons.1 hp with rfl|hp
 ·exact h1
 ·exact h2 p hp
def DW (l:List (Nat×Ci))(m:List (Nat×H7)):VE:=⟨Af l,fun f=>GY f m⟩
theorem Ev {PF:GB}{l:List (Nat×Ci)}{m:List (Nat×H7)}(h1:∀p∈l,CP C p.1 p.2)(h2:∀p∈m,IU C PF p.1 p.2):B8 C PF (DW l m):=⟨AX h1,fun k t ht=>h2 (k,t) (FL ht)⟩
def Fa (P:Program)(fn:Func)(PF:GB)(n:Nat)(K:AV->Hp->Prop)(KP:PX->Hp->Prop):QP:=⟨PF,AQ P fn n K,fun _ x h'=>KP x ((h'.take n).map (AL n h'))⟩
theorem Ec {PF:GB}{k:Nat}{fn:Func}{t:H7}(hp:Bl C k fn)(H:∀vs h K KP,t vs h K KP->FU C k (AD fn) (Fa C.P fn PF h.length K KP) [.code []] .normal (DY 0 vs) h):IU C PF k t:=by
 intro l h K KP ht;obtain⟨h1,h2,h3,h4,h5,h6⟩:=hp;simp only[Bool.and_eq_true,Bool.not_eq_true'] at h1
 have ha:B7 C k l=l:=by simp[B7,h6]
 rw[ha] at ht
 rcases H _ _ _ _ ht with he|he
 ·exact .inl (Jl h1.1.1.1 h2 h3 h4 (Ed h5) h6 h1.1.1.2 h1.1.2 (Option.isNone_iff_eq_none.1 h1.2) (by rw[ha];exact he))
 ·right;simp only[BR,Ab] at he
  rcases he with ⟨n,x,F',h',hx,hq⟩|⟨_,_,_,_,hf⟩
  ·exact⟨n+1,x,_,by
    simp only[MW]
    exact .inr ⟨h1.1.1.1,h2,h3,h1.1.1.2,fn,_,h4,Ed h5,.inl ⟨h6,F',h',hx,rfl⟩⟩,hq⟩
  ·exact hf.elim
end
end Go.Ai
