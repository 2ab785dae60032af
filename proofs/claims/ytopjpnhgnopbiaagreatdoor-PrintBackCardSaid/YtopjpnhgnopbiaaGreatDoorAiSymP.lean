/-
  Symbolic runs of functions that may give up. No statement about the program is made here.
-/
import Derived.Test.YtopjpnhgnopbiaaGreatDoorAiPan
set_option linter.unusedVariables false
set_option linter.unusedSimpArgs false
set_option linter.unnecessarySimpa false
namespace Go.Ai
open Go.RowKit
structure QP where
 pf:HC
 q:Fr->Hp->Prop
 p:Fr->PX->Hp->Prop
abbrev JI :=List AV->Hp->(AV->Hp->Prop)->(PX->Hp->Prop)->Prop
structure Xm where
 t:eB
 p:FuncId->Option JI
def Jj (C:Bm)(PF:HC)(k:Nat)(t:JI):Prop:=∀l h K KP,t (B8 C k l) h K KP->(∃v h',K8 C false k l h v h'/\K v h')\/∃n x h',OF C PF n k l h x h'/\KP x h'
structure B9 (C:Bm) (PF:HC) (T:Xm):Prop where
 t:AL C T.t
 p:∀k t,T.p k=some t->Jj C PF k t
def Bc (C:Bm)(f:FuncId)(body:Code)(Q:QP):List Fm->XT->Fr->Hp->Prop
 |[],_,_,_=>False
 |.code p::st,.normal,F,h=>(∃n x F' h',FA C Q.pf n f (Ab body p) F h x F' h'/\Q.p F' x h')\/∃x F' h',DR C f (Ab body p) F h x F' h'/\Bc C f body Q st x F' h'
 |.loop p m::st,.normal,F,h=>
  (∃n x F' h',FA C Q.pf n f (Ab body p) (match C.Fy f with|true=>DD m h F|false=>F) (match C.Fy f with|true=>(h.take m).map (AO m h)|false=>h) x F' h'/\Q.p F' x h')\/
  ∃x F' h',DR C f (Ab body p) (match C.Fy f with|true=>DD m h F|false=>F) (match C.Fy f with|true=>(h.take m).map (AO m h)|false=>h) x F' h'/\Bc C f body Q st x F' h'
 |.ops p i::st,.normal,F,h=>match Ab body p with
  |.region _ ops draw=>(∃n x F' h',KL C (OF C Q.pf n) ops draw i (ops.toList.drop i) F h x F' h'/\Q.p F' x h')\/∃F' h',tm C ops draw i (ops.toList.drop i) F h F' h'/\Bc C f body Q st .normal F' h'
  |_=>False
 |.block id::st,.exit i,F,h=>bif Nat.beq i id then Bc C f body Q st .normal F h else Bc C f body Q st (.exit i) F h
 |.scope p::st,.goto l,F,h=>False
 |_::st,x,F,h=>Bc C f body Q st x F h
def GR (C:Bm)(f:FuncId)(body:Code)(Q:QP)(st:List Fm)(x:XT)(F:Fr)(h:Hp):Prop:=AF C f body Q.q st x F h\/Bc C f body Q st x F h
section
variable {C:Bm}{f:FuncId}{body:Code}{Q:QP}{st:List Fm}{p:List Nat}{F F':Fr}{h h':Hp}
theorem gB {x:XT}(hc:DR C f (Ab body p) F h x F' h')(k:Bc C f body Q st x F' h'):Bc C f body Q (.code p::st) .normal F h:=.inr ⟨x,F',h',hc,k⟩
theorem P6 {x:XT}(hc:DR C f (Ab body p) F h x F' h')(k:GR C f body Q st x F' h'):GR C f body Q (.code p::st) .normal F h:=k.imp (CP hc) (gB hc)
theorem Zd {a b:Code}{F1:Fr}{h1:Hp}{x:XT}(h0:DR C f a F h .normal F1 h1)(h2:DR C f b F1 h1 x F' h'):DR C f (.seq a b) F h x F' h':=by
 obtain⟨n0,hx⟩:=h0;obtain⟨m0,hy⟩:=h2
 refine⟨n0+m0+1,fun n hn=> ?_⟩
 obtain⟨m,rfl⟩:∃m,n=m+1:=⟨n-1,by omega⟩
 simp only[exec,hx m (by omega),hy m (by omega)]
theorem Zc {a b:Code}{x:XT}(h0:DR C f a F h x F' h')(hx:x≠.normal):DR C f (.seq a b) F h x F' h':=by
 obtain⟨n0,h0⟩:=h0
 refine⟨n0+1,fun n hn=> ?_⟩
 obtain⟨m,rfl⟩:∃m,n=m+1:=⟨n-1,by omega⟩
 simp only[exec,h0 m (by omega)]
 cases x<;>simp_all
theorem kY {a b:Code}(hc:Ab body p=.seq a b)(k:Bc C f body Q (.code (0::p):: .code (1::p)::st) .normal F h):Bc C f body Q (.code p::st) .normal F h:=by
 have h0:Ab body (0::p)=a:=by simp[Ab,child,hc]
 have Lp:Ab body (1::p)=b:=by simp[Ab,child,hc]
 simp only[Bc,h0,Lp,hc] at k⊢
 rcases k with ⟨n,x,F1,h1,k,q⟩|⟨x,F1,h1,hx,k⟩
 ·exact .inl ⟨n+1,x,F1,h1,.inl k,q⟩
 ·cases x with
  |normal=>
   simp only[Bc,Lp] at k
   rcases k with ⟨n,y,F2,h2,k,q⟩|⟨y,F2,h2,hy,k⟩
   ·exact .inl ⟨n+1,y,F2,h2,.inr ⟨F1,h1,hx,k⟩,q⟩
   ·exact .inr ⟨y,F2,h2,Zd hx hy,k⟩
  |_=>
   simp only[Bc] at k
   exact .inr ⟨_,F1,h1,Zc hx (by simp),k⟩
theorem WC {y:Operand}{a b:Code}{t:Bool}(hc:Ab body p=.cond y a b)(hy:ev C.G F y=(true,.bool t))
  (k:Bc C f body Q (.code ((match t with|true=>0|false=>1)::p)::st) .normal F h):Bc C f body Q (.code p::st) .normal F h:=by
 have key:∀(i:Nat) (d:Code),Ab body (i::p)=d->(∀m,exec C f m d F h=exec C f (m+1) (.cond y a b) F h)->(∀n x F' h',FA C Q.pf n f d F h x F' h'->FA C Q.pf (n+1) f (.cond y a b) F h x F' h')->Bc C f body Q (.code (i::p)::st) .normal F h->Bc C f body Q (.code p::st) .normal F h:=by
  intro i d h0 h1 h2 k;simp only[Bc,h0,hc] at k⊢
  rcases k with ⟨n,x,F1,Lp,k,q⟩|⟨x,F1,Lp,⟨n0,hx⟩,k⟩
  ·exact .inl ⟨n+1,x,F1,Lp,h2 _ _ _ _ k,q⟩
  ·refine .inr ⟨x,F1,Lp,⟨n0+1,fun n hn=> ?_⟩,k⟩
   obtain⟨m,rfl⟩:∃m,n=m+1:=⟨n-1,by omega⟩
   rw[<-h1]
   exact hx m (by omega)
 cases t with
 |true=>exact key 0 a (by simp[Ab,child,hc]) (fun m=>by simp only[exec,hy]) (fun n x F' h' k=>⟨true,hy,k⟩) k
 |false=>exact key 1 b (by simp[Ab,child,hc]) (fun m=>by simp only[exec,hy]) (fun n x F' h' k=>⟨false,hy,k⟩) k
theorem U7 {id:Nat}{a:Code}(h0:DR C f a F h (.exit id) F' h'):DR C f (.block id a) F h .normal F' h':=by
 obtain⟨n0,h0⟩:=h0
 refine⟨n0+1,fun n hn=> ?_⟩
 obtain⟨m,rfl⟩:∃m,n=m+1:=⟨n-1,by omega⟩
 simp only[exec,h0 m (by omega),Nat.beq_refl,cond_true]
theorem Ma {id:Nat}{a:Code}{x:XT}(h0:DR C f a F h x F' h')(hx:∀i,x=.exit i->Nat.beq i id=false):DR C f (.block id a) F h x F' h':=by
 obtain⟨n0,h0⟩:=h0
 refine⟨n0+1,fun n hn=> ?_⟩
 obtain⟨m,rfl⟩:∃m,n=m+1:=⟨n-1,by omega⟩
 simp only[exec,h0 m (by omega)]
 cases x with
 |exit i=>simp only[hx i rfl,cond_false]
 |_=>rfl
theorem cb {id:Nat}{a:Code}(hc:Ab body p=.block id a)(k:Bc C f body Q (.code (0::p):: .block id::st) .normal F h):Bc C f body Q (.code p::st) .normal F h:=by
 have h0:Ab body (0::p)=a:=by simp[Ab,child,hc]
 simp only[Bc,h0,hc] at k⊢
 rcases k with ⟨n,x,F1,h1,k,q⟩|⟨x,F1,h1,hx,k⟩
 ·exact .inl ⟨n+1,x,F1,h1,k,q⟩
 ·cases x with
  |exit i=>
   simp only[Bc] at k
   cases hb:Nat.beq i id with
   |true=>
    rw[hb] at k;have:=Nat.eq_of_beq_eq_true hb;subst this;exact .inr ⟨.normal,F1,h1,U7 hx,k⟩
   |false=>
    rw[hb] at k
    exact .inr ⟨.exit i,F1,h1,Ma hx (fun j e=>by injection e with e;subst e;exact hb),k⟩
  |_=>
   simp only[Bc] at k
   exact .inr ⟨_,F1,h1,Ma hx (fun j e=>by cases e),k⟩
theorem WB {a:Code}(hc:Ab body p=.loop a)(k:Bc C f body Q (.code (0::p):: .loop p h.length::st) .normal F h):Bc C f body Q (.code p::st) .normal F h:=by
 have h0:Ab body (0::p)=a:=by simp[Ab,child,hc]
 simp only[Bc,h0,hc] at k⊢
 rcases k with ⟨n,x,F1,h1,k,q⟩|⟨x,F1,h1,hx,k⟩
 ·exact .inl ⟨n+1,x,F1,h1,.inl k,q⟩
 ·cases x with
  |normal=>
   simp only[Bc,hc] at k
   rcases k with ⟨n,y,F2,h2,k,q⟩|⟨y,F2,h2,⟨m0,hy⟩,k⟩
   ·exact .inl ⟨n+1,y,F2,h2,.inr ⟨F1,h1,hx,k⟩,q⟩
   ·obtain⟨n0,hx⟩:=hx
    refine .inr ⟨y,F2,h2,⟨n0+m0+1,fun n hn=> ?_⟩,k⟩
    obtain⟨m,rfl⟩:∃m,n=m+1:=⟨n-1,by omega⟩
    have hy:=hy m (by omega)
    cases ht:C.Fy f<;>rw[ht] at hy<;>simp only[exec,hx m (by omega),ht]<;>exact hy
  |_=>
   simp only[Bc] at k;obtain⟨n0,hx⟩:=hx
   refine .inr ⟨_,F1,h1,⟨n0+1,fun n hn=> ?_⟩,k⟩
   obtain⟨m,rfl⟩:∃m,n=m+1:=⟨n-1,by omega⟩
   simp only[exec,hx m (by omega)]
theorem Yc {id:Nat}{ops:Array Oper}{draw:Bool}(hc:Ab body p=.region id ops draw)(CG:(draw&&C.Ho f id)=false)(F7:((!C.DA f&&Fg ops.toList)||(draw&& !Uj ops.toList (JZ (GD ops draw) h.length ((C.live f id).map fun s=>(s,lk F s)))))=false)(k:Bc C f body Q (.ops p 0::st) .normal (JZ (GD ops draw) h.length ((C.live f id).map fun s=>(s,lk F s))) (R7 (GD ops draw) h)):Bc C f body Q (.code p::st) .normal F h:=by
 simp only[Bc,hc,List.drop_zero] at k⊢
 rcases k with ⟨n,x,F1,h1,k,q⟩|⟨F1,h1,⟨n0,hx⟩,k⟩
 ·exact .inl ⟨n+1,x,F1,h1,⟨CG,F7,k⟩,q⟩
 ·refine .inr ⟨.normal,F1,h1,⟨n0+1,fun n hn=> ?_⟩,k⟩
  obtain⟨m,rfl⟩:∃m,n=m+1:=⟨n-1,by omega⟩
  have:=hx m (by omega)
  simp only[exec,CG,F7,this]
theorem bf {ops:Array Oper}{i:Nat}{o:Oper}(ho:ops[i]?=some o):ops.toList.drop i=o::ops.toList.drop (i+1):=by
 have hi:i<ops.toList.length:=by
  have:=(Array.getElem?_eq_some_iff.1 ho).1;simpa using this
 have FQ:ops.toList[i]=o:=by
  have:=(Array.getElem?_eq_some_iff.1 ho).2;simpa using this
 rw[List.drop_eq_getElem_cons hi,FQ]
theorem Yd {i id:Nat}{ops:Array Oper}{draw:Bool}{o:Oper}{e:Bool×AV}(hc:Ab body p=.region id ops draw)(ho:ops[i]?=some o)
  (hs:∃n0,∀n,n0<=n->AW C (call C (BB C ops draw i) n) ops (BB C ops draw i) o F h=.ok (e,h')) (hm:Ep C ops draw i F h h'=true) (k:Bc C f body Q (.ops p (i+1)::st) .normal (Av F (DG (BB C ops draw i) o) e) h'):Bc C f body Q (.ops p i::st) .normal F h:=by
 simp only[Bc,hc] at k⊢;rw[bf ho]
 rcases k with ⟨n,x,F1,h1,k,q⟩|⟨F1,h1,⟨m0,hx⟩,k⟩
 ·exact .inl ⟨n,x,F1,h1,.inr ⟨e,h',hs,hm,k⟩,q⟩
 ·obtain⟨n0,hs⟩:=hs
  refine .inr ⟨F1,h1,⟨n0+m0,fun n hn=> ?_⟩,k⟩
  simp only[DJ,hs n (by omega),hm]
  exact hx n (by omega)
theorem fz {i id:Nat}{ops:Array Oper}{draw:Bool}{o:Oper}(hc:Ab body p=.region id ops draw)(ho:ops[i]?=some o)(xv:BB C ops draw i=false)(hg:guardOf ops F o=some true){n:Nat}{x:PX}
  (hp:OE C (OF C Q.pf n) o F h x h') (hq:Q.p (MH draw F) x h'):Bc C f body Q (.ops p i::st) .normal F h:=by
 simp only[Bc,hc];rw[bf ho];exact .inl ⟨n,x,_,h',.inl ⟨xv,hg,rfl,hp⟩,hq⟩
theorem WA {i id:Nat}{ops:Array Oper}{draw:Bool}(hc:Ab body p=.region id ops draw)(ho:ops[i]?=none)(k:Bc C f body Q st .normal F h):Bc C f body Q (.ops p i::st) .normal F h:=by
 simp only[Bc,hc]
 refine .inr ⟨F,h,⟨0,fun n _=> ?_⟩,k⟩
 have:ops.toList.length<=i:=by
  have:=Array.getElem?_eq_none_iff.1 ho;simpa using this
 rw[List.drop_of_length_le this];rfl
theorem Wk {F:Fr}{ls:List Nat}{s:Nat}(hs:s∈ls):lk (ls.map fun t=>(t,lk F t)) s=lk F s:=by
 have:=List.map_inj_left.1 (Jt F ls) s hs;simpa using this
theorem Zn (c:Code)(m:Nat)(h:Hp)(F:Fr):Hf C f c (DD m h (Hf C f c F))=Hf C f c (DD m h F):=by
 cases hr:Fj c with
 |none=>simp only[Hf,hr]
 |some id=>
  simp only[Hf,hr]
  refine List.map_congr_left fun s hs=> ?_
  rw[HH,HH,Wk hs]
theorem NS {PF:HC}{n:Nat}{c:Code}{F:Fr}{h:Hp}{x:PX}{F':Fr}{h':Hp}:FA C PF n f c (Hf C f c F) h x F' h'↔FA C PF n f c F h x F' h':=by
 have key:∀(n:Nat) (c:Code) (F:Fr) (id:Nat),Fj c=some id->(FA C PF n f c ((C.live f id).map fun s=>(s,lk F s)) h x F' h'↔FA C PF n f c F h x F' h'):=by
  intro n
  induction n with
  |zero=>intro c F id _;simp[FA]
  |succ n ih=>
   intro c F id hc
   cases c<;>simp only[Fj] at hc
   case seq a b=>
    simp only[FA,ih a F id hc]
    have:∀x1 F1 h1,DR C f a ((C.live f id).map fun s=>(s,lk F s)) h x1 F1 h1↔DR C f a F h x1 F1 h1:=fun x1 F1 h1=>by simp only[DR,II _ a F h hc]
    simp only[this]
   case block i a=>simp only[FA,ih a F id hc]
   case loop a=>
    simp only[FA,ih a F id hc]
    have:∀x1 F1 h1,DR C f a ((C.live f id).map fun s=>(s,lk F s)) h x1 F1 h1↔DR C f a F h x1 F1 h1:=fun x1 F1 h1=>by simp only[DR,II _ a F h hc]
    simp only[this]
   case region i ops draw=>
    injection hc with hc
    subst hc;simp only[FA,Jt]
   all_goals cases hc
 unfold Hf;split
 ·exact key n c F _ (by assumption)
 ·exact Iff.rfl
theorem gA (k:Bc C f body Q (.code p::st) .normal (Hf C f (Ab body p) F) h):Bc C f body Q (.code p::st) .normal F h:=by
 simp only[Bc] at k⊢
 rcases k with ⟨n,x,F1,h1,k,q⟩|⟨x,F1,h1,⟨n0,hx⟩,k⟩
 ·exact .inl ⟨n,x,F1,h1,NS.1 k,q⟩
 ·exact .inr ⟨x,F1,h1,⟨n0,fun n hn=>by rw[<-Nz n _ F h];exact hx n hn⟩,k⟩
end
def jU (C:Bm)(T:Xm)(draw:Bool)(F:Fr)(h:Hp)(o:Oper)(next:(Bool×AV)->Hp->Prop)(WD:Bool->PX->Hp->Prop):Prop:=
 match o.op with
 |.call {callee:=.value x,args,argTypes:=_}=>
  match ev C.G F x,N6 C.G F args.toList with
  |(true,.fn (.func k) first cap),(true,vs)=>
   match C.ident k,first++vs++cap with
   |true,[v]=>next (true,v) h
   |true,_=>False
   |false,l=>
    match draw&&((C.Cq k).isSome||C.heap k) with
    |true=>False
    |false=>match T.p k with
     |some t=>t (B8 C k l) h (fun v h'=>next (true,v) h') (fun x h'=>WD (!draw) x h')
     |none=>match T.t k with
      |some t=>t (B8 C k l) h fun v h'=>next (true,v) h'
      |none=>False
  |_,_=>False
 |.defer {callee:=.value x,args,argTypes:=_}=>
  match draw|| !EI o||o.dst.isSome|| !args.toList.isEmpty,ev C.G F x,lk F dS with
  |false,(true,.fn f first cap),(_,.DA l)=>next (true,.DA (.fn f first cap::l)) h
  |_,_,_=>False
 |_=>
  match Bl C (draw||o.guard.isSome) F h o with
  |some (g,e,h')=>AS g (next e h')
  |none=>False
def Zj (C:Bm)(T:Xm)(draw:Bool)(F:Fr)(h:Hp)(o:Oper)(s:Option (List Sh))(next:(Bool×AV)->Hp->Prop)(WD:Bool->PX->Hp->Prop):Prop:=
 match s with
 |some s=>match hY o.op with
  |true=>ax C F h o s next
  |false=>match hH o.op with
   |true=>aq C F h o next
   |false=>Up C draw F h o s next
 |none=>jU C T draw F h o next WD
def JH (C:Bm)(T:Xm)(draw:Bool)(ops:Array Oper)(F:Fr)(h:Hp)(o:Oper)(s:Option (List Sh))(next:(Bool×AV)->Hp->Prop)(WD:Bool->PX->Hp->Prop):Prop:=
 match FO C.P draw ops o F h with
 |some (.ok (e,h'))=>next e h'
 |some (.error _)=>False
 |none=>Zj C T draw F h o s next WD
def Dn (C:Bm)(f:FuncId)(body:Code)(T:Xm)(pl:aA)(Q:QP):Nat->List Fm->XT->Fr->Hp->Prop
 |0,st,x,F,h=>GR C f body Q st x F h
 |n+1,[],x,F,h=>match hZ x with|true=>Q.q F h|false=>False
 |n+1,.code p::st,.normal,F,h=>
  match Y9 pl.tQ p with
  |true=>GR C f body Q (.code p::st) .normal (Hf C f (Ab body p) F) h
  |false=>
   match Ab body p with
   |.skip=>Dn C f body T pl Q n st .normal F h
   |.ret=>Dn C f body T pl Q n st .ret F h
   |.exit id=>Dn C f body T pl Q n st (.exit id) F h
   |.seq _ _=>Dn C f body T pl Q n (.code (0::p):: .code (1::p)::st) .normal F h
   |.cond y _ _=>
    match ev C.G F y with
    |(true,.bool b)=>Ap b (Dn C f body T pl Q n (.code (0::p)::st) .normal (cO F y true) h) (Dn C f body T pl Q n (.code (1::p)::st) .normal (cO F y false) h)
    |_=>False
   |.block id _=>Dn C f body T pl Q n (.code (0::p):: .block id::st) .normal F h
   |.loop _=>Dn C f body T pl Q n (.code (0::p):: .loop p h.length::st) .normal F h
   |.region id ops draw=>match draw&&C.Ho f id with
    |true=>False
    |false=>match(!C.DA f&&Fg ops.toList)||(draw&& !Uj ops.toList (JZ (GD ops draw) h.length ((C.live f id).map fun s=>(s,lk F s)))) with
    |true=>False
    |false=>Dn C f body T pl Q n (.ops p 0::st) .normal (JZ (GD ops draw) h.length ((C.live f id).map fun s=>(s,lk F s))) (R7 (GD ops draw) h)
   |_=>False
 |n+1,.loop p m::st,.normal,F,h=>match C.Fy f with
  |false=>Dn C f body T pl Q n (.code p::st) .normal F h
  |true=>match C.Px f with
   |true=>Dn C f body T pl Q n (.code p::st) .normal (DD m h (Hf C f (Ab body p) F)) ((h.take m).map (AO m h))
   |false=>AS (ga m (Ty m (Hf C f (Ab body p) F))&&Wh m (Lt m (h.take m)))
    (Dn C f body T pl Q n (.code p::st) .normal (Ty m (Hf C f (Ab body p) F)) (Lt m (h.take m)))
 |n+1,.block id::st,.exit i,F,h=>match Nat.beq i id with|true=>Dn C f body T pl Q n st .normal F h|false=>Dn C f body T pl Q n st (.exit i) F h
 |n+1,.scope p::st,.goto l,F,h=>False
 |n+1,.ops p i::st,.normal,F,h=>
  match Ab body p with
  |.region _ ops draw=>
   match ops[i]? with
   |none=>Dn C f body T pl Q n st .normal F h
   |some o=>
    match o.guard with
    |none=>JH C T (BB C ops draw i) ops F h o (HV pl.IA p i) (fun e h'=>eD C ops draw i F h h' (Dn C f body T pl Q n (.ops p (i+1)::st) .normal (Av F (DG (BB C ops draw i) o) e) h')) fun g x h'=>AS g (Q.p (MH draw F) x h')
    |some (j,want)=>
     match(ops[j]?).bind (·.dst) with
     |none=>False
     |some d=>
      match lk F d with
      |(true,.bool b)=>
       Ap b
        (match want with
        |true=>JH C T (BB C ops draw i) ops (JY F d true) h o (HV pl.IA p i) (fun e h'=>Dn C f body T pl Q n (.ops p (i+1)::st) .normal (Av (JY F d true) o.dst e) h') fun g x h'=>AS g (Q.p (MH draw (JY F d true)) x h')
        |false=>Dn C f body T pl Q n (.ops p (i+1)::st) .normal (Av (JY F d true) o.dst (false,.top)) h)
        (match want with
        |true=>Dn C f body T pl Q n (.ops p (i+1)::st) .normal (Av (JY F d false) o.dst (false,.top)) h
        |false=>JH C T (BB C ops draw i) ops (JY F d false) h o (HV pl.IA p i) (fun e h'=>Dn C f body T pl Q n (.ops p (i+1)::st) .normal (Av (JY F d false) o.dst e) h') fun g x h'=>AS g (Q.p (MH draw (JY F d false)) x h'))
      |(false,_)=>Dn C f body T pl Q n (.ops p (i+1)::st) .normal (Av F o.dst (false,.top)) h
      |_=>False
  |_=>False
 |n+1,_::st,x,F,h=>Dn C f body T pl Q n st x F h
section
variable {C:Bm}{f:FuncId}{body:Code}{T:Xm}{pl:aA}{Q:QP}
def j1 (C:Bm)(PF:HC)(draw:Bool)(F:Fr)(h:Hp)(o:Oper)(next:(Bool×AV)->Hp->Prop)(WD:Bool->PX->Hp->Prop):Prop:=
 (∃e h',(∃n0,∀n,n0<=n->BF C (call C draw n) draw o F h=.ok (e,h'))/\next e h')\/∃n x h',OE C (OF C PF n) o F h x h'/\WD (!draw) x h'
theorem jT {PF:HC}(hT:B9 C PF T){draw:Bool}{F:Fr}{h:Hp}{o:Oper}{next:(Bool×AV)->Hp->Prop}{WD:Bool->PX->Hp->Prop}(hd:jU C T draw F h o next WD):j1 C PF draw F h o next WD:=by
 unfold jU at hd;split at hd
 ·rename_i x args ts Bo;split at hd
  ·rename_i k first cap vs hx iK
   split at hd
   ·rename_i v hid hl
    refine .inl ⟨(true,v),h,⟨0,fun n _=> ?_⟩,hd⟩
    simp only[BF,Bo,hx,iK,hid,hl]
   ·exact hd.elim
   ·rename_i hid;split at hd
    ·exact hd.elim
    ·rename_i ZM
     have ret:∀{v h'},K8 C false k (first++vs++cap) h v h'->next (true,v) h'->j1 C PF draw F h o next WD:=fun {v h'} hc hn=>by
      obtain⟨n0,hc⟩:=hc
      refine .inl ⟨(true,v),h',⟨n0,fun n hn=> ?_⟩,hn⟩
      have DU:call C draw n k (first++vs++cap) h=.ok (v,h'):=by
       cases draw with
       |false=>exact hc n hn
       |true=>rw[Th (by simpa using ZM)];exact hc n hn
      simp only[BF,Bo,hx,iK,hid,DU]
     cases TD:T.p k with
     |some t=>
      rw[TD] at hd
      rcases hT.p k t TD _ _ _ _ hd with ⟨v,h',hc,hn⟩|⟨n,y,h',hk,hn⟩
      ·exact ret hc hn
      ·refine .inr ⟨n,y,h',?_,hn⟩;unfold OE;simp only[Bo]
       exact⟨k,first,cap,vs,hx,iK,hid,hk⟩
     |none=>
      rw[TD] at hd;simp only at hd
      cases ht:T.t k with
      |none=>rw[ht] at hd;exact hd.elim
      |some t=>
       rw[ht] at hd;obtain⟨v,h',hc,hn⟩:=hT.t k t ht _ _ _ hd;exact ret hc hn
  ·exact hd.elim
 ·rename_i x args ts Bo;split at hd
  ·rename_i fn first cap b l hc hx hl
   refine .inl ⟨_,h,⟨0,fun n _=> ?_⟩,hd⟩
   simp only[BF,Bo,hc,hx,hl]
  ·exact hd.elim
 ·rename_i Bo iR;split at hd
  ·rename_i g e h' Nr;obtain⟨rfl,hn⟩:=EV hd
   refine .inl ⟨e,h',⟨0,fun n _=> ?_⟩,hn⟩
   obtain⟨dst,op,ty,pos,after,gd⟩:=o;unfold BF;split
   ·rename_i x args ts Np;exact absurd Np (Bo x args ts)
   ·rename_i x args ts Np;exact absurd Np (iR x args ts)
   ·simp only[Nr]
  ·exact hd.elim
theorem de {PF:HC}(hT:B9 C PF T){draw:Bool}{F:Fr}{h:Hp}{o:Oper}{s:Option (List Sh)}{next:(Bool×AV)->Hp->Prop}{WD:Bool->PX->Hp->Prop}(hd:Zj C T draw F h o s next WD):j1 C PF draw F h o next WD:=by
 cases s with
 |none=>exact jT hT hd
 |some s=>
  simp only[Zj] at hd;split at hd
  ·exact .inl (Wj hd)
  ·split at hd
   ·exact .inl (Wd hd)
   ·exact .inl (TB hd)
theorem Rc {PF:HC}(hT:B9 C PF T){draw:Bool}{ops:Array Oper}{F:Fr}{h:Hp}{o:Oper}{s:Option (List Sh)}{next:(Bool×AV)->Hp->Prop}{WD:Bool->PX->Hp->Prop}(hd:JH C T draw ops F h o s next WD):
  (∃e h',(∃n0,∀n,n0<=n->(match FO C.P draw ops o F h with|some r=>r|none=>BF C (call C draw n) draw o F h)=.ok (e,h'))/\next e h')\/∃n x h',OE C (OF C PF n) o F h x h'/\WD (!draw) x h':=by
 unfold JH at hd
 cases G8:FO C.P draw ops o F h with
 |none=>rw[G8] at hd;exact de hT hd
 |some r=>
  rw[G8] at hd
  cases r with
  |error x=>exact hd.elim
  |ok r=>exact .inl ⟨r.1,r.2,⟨0,fun n _=>rfl⟩,hd⟩
theorem EN (hT:B9 C Q.pf T):∀(n:Nat) (st:List Fm) (x:XT) (F:Fr) (h:Hp),Dn C f body T pl Q n st x F h->GR C f body Q st x F h:=by
 intro n
 induction n with
 |zero=>intro st x F h hu;exact hu
 |succ n ih=>
  intro st x F h hu
  cases st with
  |nil=>
   simp only[Dn] at hu;split at hu
   ·exact .inl ⟨by assumption,hu⟩
   ·exact hu.elim
  |cons fm st=>
   have pass:(∀p m i,¬(fm=.code p/\x=.normal)/\¬(fm=.loop p m/\x=.normal)/\¬(fm=.ops p m/\x=.normal)/\¬(fm=.block m/\x=.exit i)/\¬(fm=.scope p/\x=.goto i))->GR C f body Q st x F h->GR C f body Q (fm::st) x F h:=by
    intro hn k
    cases fm<;>cases x<;>first
     |exact k.imp (fun k=>by simpa only[AF] using k) (fun k=>by simpa only[Bc] using k)
     |exact absurd ⟨rfl,rfl⟩ (hn _ 0 0).1
     |exact absurd ⟨rfl,rfl⟩ (hn _ _ 0).2.1
     |exact absurd ⟨rfl,rfl⟩ (hn _ _ 0).2.2.1
     |exact absurd ⟨rfl,rfl⟩ (hn [] _ _).2.2.2.1
     |exact absurd ⟨rfl,rfl⟩ (hn _ 0 _).2.2.2.2
   cases fm with
   |code p=>
    cases x with
    |normal=>
     simp only[Dn] at hu;split at hu
     ·exact hu.imp XF gA
     ·split at hu
      ·rename_i hc
       exact P6 (Ok fun m=>by rw[hc];rfl) (ih _ _ _ _ hu)
      ·rename_i hc
       exact P6 (Ok fun m=>by rw[hc];rfl) (ih _ _ _ _ hu)
      ·rename_i hc
       exact P6 (Ok fun m=>by rw[hc];rfl) (ih _ _ _ _ hu)
      ·rename_i hc;exact(ih _ _ _ _ hu).imp (bU hc) (kY hc)
      ·rename_i y a b hc;split at hu
       ·rename_i t hy
        have RA:cO F y t=F:=by
         cases y with
         |tmp s=>exact MB hy
         |_=>rfl
        cases t with
        |true=>simp only[Ap] at hu;rw[RA] at hu;exact(ih _ _ _ _ hu).imp (RV (t:=true) hc hy) (WC (t:=true) hc hy)
        |false=>simp only[Ap] at hu;rw[RA] at hu;exact(ih _ _ _ _ hu).imp (RV (t:=false) hc hy) (WC (t:=false) hc hy)
       ·exact hu.elim
      ·rename_i hc;exact(ih _ _ _ _ hu).imp (TT hc) (cb hc)
      ·rename_i hc;exact(ih _ _ _ _ hu).imp (MZ hc) (WB hc)
      ·rename_i hc;split at hu
       ·exact hu.elim
       ·rename_i CG;split at hu
        ·exact hu.elim
        ·rename_i F7;exact(ih _ _ _ _ hu).imp (RU hc CG F7) (Yc hc CG F7)
      ·exact hu.elim
    |_=>
     simp only[Dn] at hu
     exact pass (fun p m i=>by simp) (ih _ _ _ _ hu)
   |block id=>
    cases x with
    |exit i=>
     simp only[Dn] at hu
     cases hb:Nat.beq i id with
     |true=>
      rw[hb] at hu
      exact(ih _ _ _ _ hu).imp (fun k=>by simp only[AF,hb,cond_true];exact k) (fun k=>by simp only[Bc,hb,cond_true];exact k)
     |false=>
      rw[hb] at hu
      exact(ih _ _ _ _ hu).imp (fun k=>by simp only[AF,hb,cond_false];exact k) (fun k=>by simp only[Bc,hb,cond_false];exact k)
    |_=>
     simp only[Dn] at hu
     exact pass (fun p m i=>by simp) (ih _ _ _ _ hu)
   |loop p m=>
    cases x with
    |normal=>
     simp only[Dn] at hu
     cases ht:C.Fy f with
     |false=>
      rw[ht] at hu
      refine(ih (.code p::st) .normal F h hu).imp (fun k=> ?_) fun k=> ?_
      ·simp only[AF,ht];exact k
      ·simp only[Bc,ht];exact k
     |true=>
      rw[ht] at hu;simp only at hu
      have hk:GR C f body Q (.code p::st) .normal (DD m h (Hf C f (Ab body p) F)) ((h.take m).map (AO m h)):=by
       cases VV:C.Px f with
       |true=>rw[VV] at hu;exact ih (.code p::st) .normal _ _ hu
       |false=>
        rw[VV] at hu;obtain⟨hl,hu⟩:=EV hu;rw[Bool.and_eq_true] at hl;have hk:=ih (.code p::st) .normal _ _ hu;rw[<-Tx m h hl.1,<-Py m h hl.2] at hk;exact hk
      refine hk.imp (fun hk=> ?_) fun hk=> ?_
      ·simp only[AF,ht];obtain⟨x1,F1,h1,⟨n0,hx⟩,k⟩:=hk
       refine⟨x1,F1,h1,⟨n0,fun n hn=> ?_⟩,k⟩
       rw[<-hx n hn];exact(Ny n _ m h F _).symm
      ·simp only[Bc,ht] at hk⊢;have ZP:=Zn (C:=C) (f:=f) (Ab body p) m h F
       rcases hk with ⟨n,y,F1,h1,k,q⟩|⟨x1,F1,h1,⟨n0,hx⟩,k⟩
       ·refine .inl ⟨n,y,F1,h1,?_,q⟩;rw[<-NS,ZP,NS] at k;exact k
       ·refine .inr ⟨x1,F1,h1,⟨n0,fun n hn=> ?_⟩,k⟩
        rw[<-hx n hn];exact(Ny n _ m h F _).symm
    |_=>
     simp only[Dn] at hu
     exact pass (fun p m i=>by simp) (ih _ _ _ _ hu)
   |scope p=>
    cases x with
    |goto l=>simp only[Dn] at hu
    |_=>
     simp only[Dn] at hu
     exact pass (fun p m i=>by simp) (ih _ _ _ _ hu)
   |ops p i=>
    cases x with
    |normal=>
     simp only[Dn] at hu;split at hu
     ·rename_i id ops draw hc;split at hu
      ·rename_i ho;exact(ih _ _ _ _ hu).imp (Og hc ho) (WA hc ho)
      ·rename_i o ho
       have fit:∀F,guardOf ops F o=some true->∀{m y h'},OE C (OF C Q.pf m) o F h y h'->AS (!(BB C ops draw i)) (Q.p (MH draw F) y h')->GR C f body Q (.ops p i::st) .normal F h:=by
        intro F hg m y h' hp hn;obtain⟨ZM,hq⟩:=EV hn;simp only[Bool.not_eq_true'] at ZM;exact .inr (fz hc ho ZM hg hp hq)
       have done:∀F,guardOf ops F o=some true->JH C T (BB C ops draw i) ops F h o (HV pl.IA p i) (fun e h'=>eD C ops draw i F h h' (Dn C f body T pl Q n (.ops p (i+1)::st) .normal (Av F (DG (BB C ops draw i) o) e) h')) (fun g x h'=>AS g (Q.p (MH draw F) x h'))->GR C f body Q (.ops p i::st) .normal F h:=by
        intro F hg hd
        rcases Rc (ops:=ops) hT hd with ⟨e,h',⟨n0,hs⟩,hn⟩|⟨m,y,h',hp,hn⟩
        ·obtain⟨hm,hn⟩:=ak hn
         have Jk:∃n0,∀n,n0<=n->AW C (call C (BB C ops draw i) n) ops (BB C ops draw i) o F h=.ok (e,h'):=⟨n0,fun n hn=>by simp only[AW,hg];exact hs n hn⟩
         exact(ih _ _ _ _ hn).imp (Nw hc ho Jk hm) (Yd hc ho Jk hm)
        ·exact fit F hg hp hn
       have XS:∀F,o.guard.isSome=true->guardOf ops F o=some true->JH C T (BB C ops draw i) ops F h o (HV pl.IA p i) (fun e h'=>Dn C f body T pl Q n (.ops p (i+1)::st) .normal (Av F (DG (BB C ops draw i) o) e) h') (fun g x h'=>AS g (Q.p (MH draw F) x h'))->GR C f body Q (.ops p i::st) .normal F h:=by
        intro F It hg hd
        rcases Rc (ops:=ops) hT hd with ⟨e,h',⟨n0,hs⟩,hn⟩|⟨m,y,h',hp,hn⟩
        ·have Jk:∃n0,∀n,n0<=n->AW C (call C (BB C ops draw i) n) ops (BB C ops draw i) o F h=.ok (e,h'):=⟨n0,fun n hn=>by simp only[AW,hg];exact hs n hn⟩
         exact(ih _ _ _ _ hn).imp (Nw hc ho Jk (FE ho It)) (Yd hc ho Jk (FE ho It))
        ·exact fit F hg hp hn
       have RJ:o.guard.isSome=true->DG (BB C ops draw i) o=o.dst:=by
        intro It
        have:EI o=false:=by
         unfold EI;split
         ·rename_i pB;rw[pB] at It;cases It
         ·rfl
        cases BB C ops draw i<;>simp[DG,this]
       have left:∀F,o.guard.isSome=true->guardOf ops F o=some false->Dn C f body T pl Q n (.ops p (i+1)::st) .normal (Av F o.dst (false,.top)) h->GR C f body Q (.ops p i::st) .normal F h:=by
        intro F It hg hd;rw[<-RJ It] at hd
        have Jk:∃n0,∀n,n0<=n->AW C (call C (BB C ops draw i) n) ops (BB C ops draw i) o F h=.ok ((false,.top),h):=⟨0,fun n hn=>by simp only[AW,hg]⟩
        exact(ih _ _ _ _ hd).imp (Nw hc ho Jk (FE ho It)) (Yd hc ho Jk (FE ho It))
       split at hu
       ·rename_i TL
        exact done F (by simp only[guardOf,TL]) hu
       ·rename_i j want TL
        have It:o.guard.isSome=true:=by rw[TL];rfl
        rw[<-RJ It] at hu;split at hu
        ·exact hu.elim
        ·rename_i d hj;split at hu
         ·rename_i b hl;have RA:=MB hl
          have hg:guardOf ops F o=some (b==want):=by simp[guardOf,TL,hj,hl]
          cases b with
          |true=>
           simp only[Ap] at hu;rw[RA] at hu
           cases want with
           |true=>exact XS F It (by rw[hg];rfl) hu
           |false=>exact left F It (by rw[hg];rfl) (by rw[<-RJ It];exact hu)
          |false=>
           simp only[Ap] at hu;rw[RA] at hu
           cases want with
           |true=>exact left F It (by rw[hg];rfl) (by rw[<-RJ It];exact hu)
           |false=>exact XS F It (by rw[hg];rfl) hu
         ·rename_i v hl
          refine left F It ?_ (by rw[<-RJ It];exact hu)
          simp only[guardOf,TL,hj,hl]
          cases v<;>rfl
         ·exact hu.elim
     ·exact hu.elim
    |_=>
     simp only[Dn] at hu
     exact pass (fun p m i=>by simp) (ih _ _ _ _ hu)
end
end Go.Ai
namespace Go.Ai
section
variable {C:Bm}{f:FuncId}{body:Code}{T:Xm}{pl:aA}{Q:QP}
theorem KE (hT:B9 C Q.pf T)(n:Nat){p:List Nat}{st:List Fm}{F:Fr}{h:Hp}(hc:hO (Ab body p)=true)(hu:Dn C f body T pl Q n (.code (0::p):: .loop p h.length::st) .normal F h):GR C f body Q (.code p::st) .normal F h:=by
 cases hb:Ab body p with
 |loop a=>exact(EN hT n _ _ _ _ hu).imp (MZ hb) (WB hb)
 |_=>rw[hb] at hc;cases hc
theorem FW {PF:HC}:∀p∈([]:List (Nat×JI)),Jj C PF p.1 p.2:=fun _ h=>by cases h
theorem BV {PF:HC}{k:Nat}{t:JI}{l:List (Nat×JI)}(h1:Jj C PF k t)(h2:∀p∈l,Jj C PF p.1 p.2):∀p∈(k,t)::l,Jj C PF p.1 p.2:=fun p hp=>by
 rcases List.mem_cons.1 hp with rfl|hp
 ·exact h1
 ·exact h2 p hp
def Du (l:List (Nat×Ce))(m:List (Nat×JI)):Xm:=⟨Ac l,fun f=>HW f m⟩
theorem Fo {PF:HC}{l:List (Nat×Ce)}{m:List (Nat×JI)}(h1:∀p∈l,CQ C p.1 p.2)(h2:∀p∈m,Jj C PF p.1 p.2):B9 C PF (Du l m):=⟨AY h1,fun k t ht=>h2 (k,t) (EU ht)⟩
def Gb (P:Program)(fn:Func)(PF:HC)(n:Nat)(K:AV->Hp->Prop)(KP:PX->Hp->Prop):QP:=⟨PF,AX P fn n K,fun _ x h'=>KP x ((h'.take n).map (AO n h'))⟩
theorem FL {PF:HC}{k:Nat}{fn:Func}{t:JI}(hp:BW C k fn)(H:∀vs h K KP,t vs h K KP->GR C k (AB fn) (Gb C.P fn PF h.length K KP) [.code []] .normal (D8 0 vs) h):Jj C PF k t:=by
 intro l h K KP ht;obtain⟨h1,h2,h3,h4,h5,h6⟩:=hp;simp only[Bool.and_eq_true,Bool.not_eq_true'] at h1
 have ha:B8 C k l=l:=by simp[B8,h6]
 rw[ha] at ht
 rcases H _ _ _ _ ht with he|he
 ·exact .inl (K4 h1.1.1.1 h2 h3 h4 (GP h5) h6 h1.1.1.2 h1.1.2 (Option.isNone_iff_eq_none.1 h1.2) (by rw[ha];exact he))
 ·right;simp only[Bc,Ab] at he
  rcases he with ⟨n,x,F',h',hx,hq⟩|⟨_,_,_,_,hf⟩
  ·exact⟨n+1,x,_,by
    simp only[OF]
    exact .inr ⟨h1.1.1.1,h2,h3,h1.1.1.2,fn,_,h4,GP h5,.inl ⟨h6,F',h',hx,rfl⟩⟩,hq⟩
  ·exact hf.elim
end
end Go.Ai
