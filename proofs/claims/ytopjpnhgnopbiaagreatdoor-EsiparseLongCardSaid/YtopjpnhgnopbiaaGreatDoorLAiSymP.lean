/-
  Symbolic runs of functions that may give up. No statement about the program is made here.
-/
import Derived.Test.YtopjpnhgnopbiaaGreatDoorLAiPan
set_option linter.unusedVariables false
set_option linter.unusedSimpArgs false
set_option linter.unnecessarySimpa false
namespace Go.Ai
open Go.RowKit
structure QP where
 pf:GD
 q:Fr->Hp->Prop
 p:Fr->PX->Hp->Prop
abbrev H9 :=List AV->Hp->(AV->Hp->Prop)->(PX->Hp->Prop)->Prop
structure VL where
 t:Zy
 p:FuncId->Option H9
def IX (C:Bh)(PF:GD)(k:Nat)(t:H9):Prop:=∀l h K KP,t (B7 C k l) h K KP->(∃v h',Jp C false k l h v h'/\K v h')\/∃n x h',Mb C PF n k l h x h'/\KP x h'
structure B8 (C:Bh) (PF:GD) (T:VL):Prop where
 t:AJ C T.t
 p:∀k t,T.p k=some t->IX C PF k t
def BS (C:Bh)(f:FuncId)(body:Code)(Q:QP):List Fm->XT->Fr->Hp->Prop
 |[],_,_,_=>False
 |.code p::st,.normal,F,h=>(∃n x F' h',EV C Q.pf n f (Ac body p) F h x F' h'/\Q.p F' x h')\/∃x F' h',DH C f (Ac body p) F h x F' h'/\BS C f body Q st x F' h'
 |.loop p m::st,.normal,F,h=>
  (∃n x F' h',EV C Q.pf n f (Ac body p) (match C.FD f with|true=>Cv m h F|false=>F) (match C.FD f with|true=>(h.take m).map (AN m h)|false=>h) x F' h'/\Q.p F' x h')\/
  ∃x F' h',DH C f (Ac body p) (match C.FD f with|true=>Cv m h F|false=>F) (match C.FD f with|true=>(h.take m).map (AN m h)|false=>h) x F' h'/\BS C f body Q st x F' h'
 |.ops p i::st,.normal,F,h=>match Ac body p with
  |.region _ ops draw=>(∃n x F' h',I9 C (Mb C Q.pf n) ops draw i (ops.toList.drop i) F h x F' h'/\Q.p F' x h')\/∃F' h',pU C ops draw i (ops.toList.drop i) F h F' h'/\BS C f body Q st .normal F' h'
  |_=>False
 |.block id::st,.exit i,F,h=>bif Nat.beq i id then BS C f body Q st .normal F h else BS C f body Q st (.exit i) F h
 |.scope p::st,.goto l,F,h=>False
 |_::st,x,F,h=>BS C f body Q st x F h
def FW (C:Bh)(f:FuncId)(body:Code)(Q:QP)(st:List Fm)(x:XT)(F:Fr)(h:Hp):Prop:=AE C f body Q.q st x F h\/BS C f body Q st x F h
section
variable {C:Bh}{f:FuncId}{body:Code}{Q:QP}{st:List Fm}{p:List Nat}{F F':Fr}{h h':Hp}
theorem cA {x:XT}(hc:DH C f (Ac body p) F h x F' h')(k:BS C f body Q st x F' h'):BS C f body Q (.code p::st) .normal F h:=.inr ⟨x,F',h',hc,k⟩
theorem OA {x:XT}(hc:DH C f (Ac body p) F h x F' h')(k:FW C f body Q st x F' h'):FW C f body Q (.code p::st) .normal F h:=k.imp (CN hc) (cA hc)
theorem Wz {a b:Code}{F1:Fr}{h1:Hp}{x:XT}(h0:DH C f a F h .normal F1 h1)(h2:DH C f b F1 h1 x F' h'):DH C f (.seq a b) F h x F' h':=by
 obtain⟨n0,hx⟩:=h0;obtain⟨m0,hy⟩:=h2
 refine⟨n0+m0+1,fun n hn=> ?_⟩
 obtain⟨m,rfl⟩:∃m,n=m+1:=⟨n-1,by omega⟩
 simp only[exec,hx m (by omega),hy m (by omega)]
theorem Wy {a b:Code}{x:XT}(h0:DH C f a F h x F' h')(hx:x≠.normal):DH C f (.seq a b) F h x F' h':=by
 obtain⟨n0,h0⟩:=h0
 refine⟨n0+1,fun n hn=> ?_⟩
 obtain⟨m,rfl⟩:∃m,n=m+1:=⟨n-1,by omega⟩
 simp only[exec,h0 m (by omega)]
 cases x<;>simp_all
theorem gH {a b:Code}(hc:Ac body p=.seq a b)(k:BS C f body Q (.code (0::p):: .code (1::p)::st) .normal F h):BS C f body Q (.code p::st) .normal F h:=by
 have h0:Ac body (0::p)=a:=by simp[Ac,child,hc]
 have LY:Ac body (1::p)=b:=by simp[Ac,child,hc]
 simp only[BS,h0,LY,hc] at k⊢
 rcases k with ⟨n,x,F1,h1,k,q⟩|⟨x,F1,h1,hx,k⟩
 ·exact .inl ⟨n+1,x,F1,h1,.inl k,q⟩
 ·cases x with
  |normal=>
   simp only[BS,LY] at k
   rcases k with ⟨n,y,F2,h2,k,q⟩|⟨y,F2,h2,hy,k⟩
   ·exact .inl ⟨n+1,y,F2,h2,.inr ⟨F1,h1,hx,k⟩,q⟩
   ·exact .inr ⟨y,F2,h2,Wz hx hy,k⟩
  |_=>
   simp only[BS] at k
   exact .inr ⟨_,F1,h1,Wy hx (by simp),k⟩
theorem Tm {y:Operand}{a b:Code}{t:Bool}(hc:Ac body p=.cond y a b)(hy:ev C.G F y=(true,.bool t))
  (k:BS C f body Q (.code ((match t with|true=>0|false=>1)::p)::st) .normal F h):BS C f body Q (.code p::st) .normal F h:=by
 have key:∀(i:Nat) (d:Code),Ac body (i::p)=d->(∀m,exec C f m d F h=exec C f (m+1) (.cond y a b) F h)->(∀n x F' h',EV C Q.pf n f d F h x F' h'->EV C Q.pf (n+1) f (.cond y a b) F h x F' h')->BS C f body Q (.code (i::p)::st) .normal F h->BS C f body Q (.code p::st) .normal F h:=by
  intro i d h0 h1 h2 k;simp only[BS,h0,hc] at k⊢
  rcases k with ⟨n,x,F1,LY,k,q⟩|⟨x,F1,LY,⟨n0,hx⟩,k⟩
  ·exact .inl ⟨n+1,x,F1,LY,h2 _ _ _ _ k,q⟩
  ·refine .inr ⟨x,F1,LY,⟨n0+1,fun n hn=> ?_⟩,k⟩
   obtain⟨m,rfl⟩:∃m,n=m+1:=⟨n-1,by omega⟩
   rw[<-h1]
   exact hx m (by omega)
 cases t with
 |true=>exact key 0 a (by simp[Ac,child,hc]) (fun m=>by simp only[exec,hy]) (fun n x F' h' k=>⟨true,hy,k⟩) k
 |false=>exact key 1 b (by simp[Ac,child,hc]) (fun m=>by simp only[exec,hy]) (fun n x F' h' k=>⟨false,hy,k⟩) k
theorem Sg {id:Nat}{a:Code}(h0:DH C f a F h (.exit id) F' h'):DH C f (.block id a) F h .normal F' h':=by
 obtain⟨n0,h0⟩:=h0
 refine⟨n0+1,fun n hn=> ?_⟩
 obtain⟨m,rfl⟩:∃m,n=m+1:=⟨n-1,by omega⟩
 simp only[exec,h0 m (by omega),Nat.beq_refl,cond_true]
theorem K9 {id:Nat}{a:Code}{x:XT}(h0:DH C f a F h x F' h')(hx:∀i,x=.exit i->Nat.beq i id=false):DH C f (.block id a) F h x F' h':=by
 obtain⟨n0,h0⟩:=h0
 refine⟨n0+1,fun n hn=> ?_⟩
 obtain⟨m,rfl⟩:∃m,n=m+1:=⟨n-1,by omega⟩
 simp only[exec,h0 m (by omega)]
 cases x with
 |exit i=>simp only[hx i rfl,cond_false]
 |_=>rfl
theorem Y8 {id:Nat}{a:Code}(hc:Ac body p=.block id a)(k:BS C f body Q (.code (0::p):: .block id::st) .normal F h):BS C f body Q (.code p::st) .normal F h:=by
 have h0:Ac body (0::p)=a:=by simp[Ac,child,hc]
 simp only[BS,h0,hc] at k⊢
 rcases k with ⟨n,x,F1,h1,k,q⟩|⟨x,F1,h1,hx,k⟩
 ·exact .inl ⟨n+1,x,F1,h1,k,q⟩
 ·cases x with
  |exit i=>
   simp only[BS] at k
   cases hb:Nat.beq i id with
   |true=>
    rw[hb] at k;have:=Nat.eq_of_beq_eq_true hb;subst this;exact .inr ⟨.normal,F1,h1,Sg hx,k⟩
   |false=>
    rw[hb] at k
    exact .inr ⟨.exit i,F1,h1,K9 hx (fun j e=>by injection e with e;subst e;exact hb),k⟩
  |_=>
   simp only[BS] at k
   exact .inr ⟨_,F1,h1,K9 hx (fun j e=>by cases e),k⟩
theorem Tl {a:Code}(hc:Ac body p=.loop a)(k:BS C f body Q (.code (0::p):: .loop p h.length::st) .normal F h):BS C f body Q (.code p::st) .normal F h:=by
 have h0:Ac body (0::p)=a:=by simp[Ac,child,hc]
 simp only[BS,h0,hc] at k⊢
 rcases k with ⟨n,x,F1,h1,k,q⟩|⟨x,F1,h1,hx,k⟩
 ·exact .inl ⟨n+1,x,F1,h1,.inl k,q⟩
 ·cases x with
  |normal=>
   simp only[BS,hc] at k
   rcases k with ⟨n,y,F2,h2,k,q⟩|⟨y,F2,h2,⟨m0,hy⟩,k⟩
   ·exact .inl ⟨n+1,y,F2,h2,.inr ⟨F1,h1,hx,k⟩,q⟩
   ·obtain⟨n0,hx⟩:=hx
    refine .inr ⟨y,F2,h2,⟨n0+m0+1,fun n hn=> ?_⟩,k⟩
    obtain⟨m,rfl⟩:∃m,n=m+1:=⟨n-1,by omega⟩
    have hy:=hy m (by omega)
    cases ht:C.FD f<;>rw[ht] at hy<;>simp only[exec,hx m (by omega),ht]<;>exact hy
  |_=>
   simp only[BS] at k;obtain⟨n0,hx⟩:=hx
   refine .inr ⟨_,F1,h1,⟨n0+1,fun n hn=> ?_⟩,k⟩
   obtain⟨m,rfl⟩:∃m,n=m+1:=⟨n-1,by omega⟩
   simp only[exec,hx m (by omega)]
theorem Vz {id:Nat}{ops:Array Oper}{draw:Bool}(hc:Ac body p=.region id ops draw)(CE:(draw&&C.Gt f id)=false)(FF:((!C.Cs f&&Er ops.toList)||(draw&& !SQ ops.toList (IM (FJ ops draw) h.length ((C.live f id).map fun s=>(s,lk F s)))))=false)(k:BS C f body Q (.ops p 0::st) .normal (IM (FJ ops draw) h.length ((C.live f id).map fun s=>(s,lk F s))) (P6 (FJ ops draw) h)):BS C f body Q (.code p::st) .normal F h:=by
 simp only[BS,hc,List.drop_zero] at k⊢
 rcases k with ⟨n,x,F1,h1,k,q⟩|⟨F1,h1,⟨n0,hx⟩,k⟩
 ·exact .inl ⟨n+1,x,F1,h1,⟨CE,FF,k⟩,q⟩
 ·refine .inr ⟨.normal,F1,h1,⟨n0+1,fun n hn=> ?_⟩,k⟩
  obtain⟨m,rfl⟩:∃m,n=m+1:=⟨n-1,by omega⟩
  have:=hx m (by omega)
  simp only[exec,CE,FF,this]
theorem YR {ops:Array Oper}{i:Nat}{o:Oper}(ho:ops[i]?=some o):ops.toList.drop i=o::ops.toList.drop (i+1):=by
 have hi:i<ops.toList.length:=by
  have:=(Array.getElem?_eq_some_iff.1 ho).1;simpa using this
 have Eh:ops.toList[i]=o:=by
  have:=(Array.getElem?_eq_some_iff.1 ho).2;simpa using this
 rw[List.drop_eq_getElem_cons hi,Eh]
theorem V5 {i id:Nat}{ops:Array Oper}{draw:Bool}{o:Oper}{e:Bool×AV}(hc:Ac body p=.region id ops draw)(ho:ops[i]?=some o)
  (hs:∃n0,∀n,n0<=n->AW C (call C (A6 C ops draw i) n) ops (A6 C ops draw i) o F h=.ok (e,h')) (hm:EI C ops draw i F h h'=true) (k:BS C f body Q (.ops p (i+1)::st) .normal (Aq F (Cx (A6 C ops draw i) o) e) h'):BS C f body Q (.ops p i::st) .normal F h:=by
 simp only[BS,hc] at k⊢;rw[YR ho]
 rcases k with ⟨n,x,F1,h1,k,q⟩|⟨F1,h1,⟨m0,hx⟩,k⟩
 ·exact .inl ⟨n,x,F1,h1,.inr ⟨e,h',hs,hm,k⟩,q⟩
 ·obtain⟨n0,hs⟩:=hs
  refine .inr ⟨F1,h1,⟨n0+m0,fun n hn=> ?_⟩,k⟩
  simp only[C9,hs n (by omega),hm]
  exact hx n (by omega)
theorem bx {i id:Nat}{ops:Array Oper}{draw:Bool}{o:Oper}(hc:Ac body p=.region id ops draw)(ho:ops[i]?=some o)(tv:A6 C ops draw i=false)(hg:guardOf ops F o=some true){n:Nat}{x:PX}
  (hp:Ma C (Mb C Q.pf n) o F h x h') (hq:Q.p (Kp draw F) x h'):BS C f body Q (.ops p i::st) .normal F h:=by
 simp only[BS,hc];rw[YR ho];exact .inl ⟨n,x,_,h',.inl ⟨tv,hg,rfl,hp⟩,hq⟩
theorem Tk {i id:Nat}{ops:Array Oper}{draw:Bool}(hc:Ac body p=.region id ops draw)(ho:ops[i]?=none)(k:BS C f body Q st .normal F h):BS C f body Q (.ops p i::st) .normal F h:=by
 simp only[BS,hc]
 refine .inr ⟨F,h,⟨0,fun n _=> ?_⟩,k⟩
 have:ops.toList.length<=i:=by
  have:=Array.getElem?_eq_none_iff.1 ho;simpa using this
 rw[List.drop_of_length_le this];rfl
theorem UN {F:Fr}{ls:List Nat}{s:Nat}(hs:s∈ls):lk (ls.map fun t=>(t,lk F t)) s=lk F s:=by
 have:=List.map_inj_left.1 (Ik F ls) s hs;simpa using this
theorem XB (c:Code)(m:Nat)(h:Hp)(F:Fr):Gj C f c (Cv m h (Gj C f c F))=Gj C f c (Cv m h F):=by
 cases hr:Eu c with
 |none=>simp only[Gj,hr]
 |some id=>
  simp only[Gj,hr]
  refine List.map_congr_left fun s hs=> ?_
  rw[GI,GI,UN hs]
theorem Lr {PF:GD}{n:Nat}{c:Code}{F:Fr}{h:Hp}{x:PX}{F':Fr}{h':Hp}:EV C PF n f c (Gj C f c F) h x F' h'↔EV C PF n f c F h x F' h':=by
 have key:∀(n:Nat) (c:Code) (F:Fr) (id:Nat),Eu c=some id->(EV C PF n f c ((C.live f id).map fun s=>(s,lk F s)) h x F' h'↔EV C PF n f c F h x F' h'):=by
  intro n
  induction n with
  |zero=>intro c F id _;simp[EV]
  |succ n ih=>
   intro c F id hc
   cases c<;>simp only[Eu] at hc
   case seq a b=>
    simp only[EV,ih a F id hc]
    have:∀x1 F1 h1,DH C f a ((C.live f id).map fun s=>(s,lk F s)) h x1 F1 h1↔DH C f a F h x1 F1 h1:=fun x1 F1 h1=>by simp only[DH,HG _ a F h hc]
    simp only[this]
   case block i a=>simp only[EV,ih a F id hc]
   case loop a=>
    simp only[EV,ih a F id hc]
    have:∀x1 F1 h1,DH C f a ((C.live f id).map fun s=>(s,lk F s)) h x1 F1 h1↔DH C f a F h x1 F1 h1:=fun x1 F1 h1=>by simp only[DH,HG _ a F h hc]
    simp only[this]
   case region i ops draw=>
    injection hc with hc
    subst hc;simp only[EV,Ik]
   all_goals cases hc
 unfold Gj;split
 ·exact key n c F _ (by assumption)
 ·exact Iff.rfl
theorem bz (k:BS C f body Q (.code p::st) .normal (Gj C f (Ac body p) F) h):BS C f body Q (.code p::st) .normal F h:=by
 simp only[BS] at k⊢
 rcases k with ⟨n,x,F1,h1,k,q⟩|⟨x,F1,h1,⟨n0,hx⟩,k⟩
 ·exact .inl ⟨n,x,F1,h1,Lr.1 k,q⟩
 ·exact .inr ⟨x,F1,h1,⟨n0,fun n hn=>by rw[<-MT n _ F h];exact hx n hn⟩,k⟩
end
def eV (C:Bh)(T:VL)(draw:Bool)(F:Fr)(h:Hp)(o:Oper)(next:(Bool×AV)->Hp->Prop)(Tn:Bool->PX->Hp->Prop):Prop:=
 match o.op with
 |.call {callee:=.value x,args,argTypes:=_}=>
  match ev C.G F x,MU C.G F args.toList with
  |(true,.fn (.func k) first cap),(true,vs)=>
   match C.ident k,first++vs++cap with
   |true,[v]=>next (true,v) h
   |true,_=>False
   |false,l=>
    match draw&&((C.Cz k).isSome||C.heap k) with
    |true=>False
    |false=>match T.p k with
     |some t=>t (B7 C k l) h (fun v h'=>next (true,v) h') (fun x h'=>Tn (!draw) x h')
     |none=>match T.t k with
      |some t=>t (B7 C k l) h fun v h'=>next (true,v) h'
      |none=>False
  |_,_=>False
 |.defer {callee:=.value x,args,argTypes:=_}=>
  match draw|| !Dk o||o.dst.isSome|| !args.toList.isEmpty,ev C.G F x,lk F dS with
  |false,(true,.fn f first cap),(_,.Cs l)=>next (true,.Cs (.fn f first cap::l)) h
  |_,_,_=>False
 |_=>
  match Bg C (draw||o.guard.isSome) F h o with
  |some (g,e,h')=>AS g (next e h')
  |none=>False
def W9 (C:Bh)(T:VL)(draw:Bool)(F:Fr)(h:Hp)(o:Oper)(s:Option (List Sh))(next:(Bool×AV)->Hp->Prop)(Tn:Bool->PX->Hp->Prop):Prop:=
 match s with
 |some s=>match dA o.op with
  |true=>Xw C F h o s next
  |false=>match cw o.op with
   |true=>Xr C F h o next
   |false=>SV C draw F h o s next
 |none=>eV C T draw F h o next Tn
def H7 (C:Bh)(T:VL)(draw:Bool)(ops:Array Oper)(F:Fr)(h:Hp)(o:Oper)(s:Option (List Sh))(next:(Bool×AV)->Hp->Prop)(Tn:Bool->PX->Hp->Prop):Prop:=
 match Ef C.P draw ops o F h with
 |some (.ok (e,h'))=>next e h'
 |some (.error _)=>False
 |none=>W9 C T draw F h o s next Tn
def DU (C:Bh)(f:FuncId)(body:Code)(T:VL)(pl:XP)(Q:QP):Nat->List Fm->XT->Fr->Hp->Prop
 |0,st,x,F,h=>FW C f body Q st x F h
 |n+1,[],x,F,h=>match dB x with|true=>Q.q F h|false=>False
 |n+1,.code p::st,.normal,F,h=>
  match WW pl.pB p with
  |true=>FW C f body Q (.code p::st) .normal (Gj C f (Ac body p) F) h
  |false=>
   match Ac body p with
   |.skip=>DU C f body T pl Q n st .normal F h
   |.ret=>DU C f body T pl Q n st .ret F h
   |.exit id=>DU C f body T pl Q n st (.exit id) F h
   |.seq _ _=>DU C f body T pl Q n (.code (0::p):: .code (1::p)::st) .normal F h
   |.cond y _ _=>
    match ev C.G F y with
    |(true,.bool b)=>Ad b (DU C f body T pl Q n (.code (0::p)::st) .normal (Yr F y true) h) (DU C f body T pl Q n (.code (1::p)::st) .normal (Yr F y false) h)
    |_=>False
   |.block id _=>DU C f body T pl Q n (.code (0::p):: .block id::st) .normal F h
   |.loop _=>DU C f body T pl Q n (.code (0::p):: .loop p h.length::st) .normal F h
   |.region id ops draw=>match draw&&C.Gt f id with
    |true=>False
    |false=>match(!C.Cs f&&Er ops.toList)||(draw&& !SQ ops.toList (IM (FJ ops draw) h.length ((C.live f id).map fun s=>(s,lk F s)))) with
    |true=>False
    |false=>DU C f body T pl Q n (.ops p 0::st) .normal (IM (FJ ops draw) h.length ((C.live f id).map fun s=>(s,lk F s))) (P6 (FJ ops draw) h)
   |_=>False
 |n+1,.loop p m::st,.normal,F,h=>match C.FD f with
  |false=>DU C f body T pl Q n (.code p::st) .normal F h
  |true=>match C.N8 f with
   |true=>DU C f body T pl Q n (.code p::st) .normal (Cv m h (Gj C f (Ac body p) F)) ((h.take m).map (AN m h))
   |false=>AS (cU m (Rd m (Gj C f (Ac body p) F))&&UL m (Ka m (h.take m)))
    (DU C f body T pl Q n (.code p::st) .normal (Rd m (Gj C f (Ac body p) F)) (Ka m (h.take m)))
 |n+1,.block id::st,.exit i,F,h=>match Nat.beq i id with|true=>DU C f body T pl Q n st .normal F h|false=>DU C f body T pl Q n st (.exit i) F h
 |n+1,.scope p::st,.goto l,F,h=>False
 |n+1,.ops p i::st,.normal,F,h=>
  match Ac body p with
  |.region _ ops draw=>
   match ops[i]? with
   |none=>DU C f body T pl Q n st .normal F h
   |some o=>
    match o.guard with
    |none=>H7 C T (A6 C ops draw i) ops F h o (GZ pl.G7 p i) (fun e h'=>Z5 C ops draw i F h h' (DU C f body T pl Q n (.ops p (i+1)::st) .normal (Aq F (Cx (A6 C ops draw i) o) e) h')) fun g x h'=>AS g (Q.p (Kp draw F) x h')
    |some (j,want)=>
     match(ops[j]?).bind (·.dst) with
     |none=>False
     |some d=>
      match lk F d with
      |(true,.bool b)=>
       Ad b
        (match want with
        |true=>H7 C T (A6 C ops draw i) ops (IL F d true) h o (GZ pl.G7 p i) (fun e h'=>DU C f body T pl Q n (.ops p (i+1)::st) .normal (Aq (IL F d true) o.dst e) h') fun g x h'=>AS g (Q.p (Kp draw (IL F d true)) x h')
        |false=>DU C f body T pl Q n (.ops p (i+1)::st) .normal (Aq (IL F d true) o.dst (false,.top)) h)
        (match want with
        |true=>DU C f body T pl Q n (.ops p (i+1)::st) .normal (Aq (IL F d false) o.dst (false,.top)) h
        |false=>H7 C T (A6 C ops draw i) ops (IL F d false) h o (GZ pl.G7 p i) (fun e h'=>DU C f body T pl Q n (.ops p (i+1)::st) .normal (Aq (IL F d false) o.dst e) h') fun g x h'=>AS g (Q.p (Kp draw (IL F d false)) x h'))
      |(false,_)=>DU C f body T pl Q n (.ops p (i+1)::st) .normal (Aq F o.dst (false,.top)) h
      |_=>False
  |_=>False
 |n+1,_::st,x,F,h=>DU C f body T pl Q n st x F h
section
variable {C:Bh}{f:FuncId}{body:Code}{T:VL}{pl:XP}{Q:QP}
def fV (C:Bh)(PF:GD)(draw:Bool)(F:Fr)(h:Hp)(o:Oper)(next:(Bool×AV)->Hp->Prop)(Tn:Bool->PX->Hp->Prop):Prop:=
 (∃e h',(∃n0,∀n,n0<=n->BB C (call C draw n) draw o F h=.ok (e,h'))/\next e h')\/∃n x h',Ma C (Mb C PF n) o F h x h'/\Tn (!draw) x h'
theorem eU {PF:GD}(hT:B8 C PF T){draw:Bool}{F:Fr}{h:Hp}{o:Oper}{next:(Bool×AV)->Hp->Prop}{Tn:Bool->PX->Hp->Prop}(hd:eV C T draw F h o next Tn):fV C PF draw F h o next Tn:=by
 unfold eV at hd;split at hd
 ·rename_i x args ts Bc;split at hd
  ·rename_i k first cap vs hx dK
   split at hd
   ·rename_i v hid hl
    refine .inl ⟨(true,v),h,⟨0,fun n _=> ?_⟩,hd⟩
    simp only[BB,Bc,hx,dK,hid,hl]
   ·exact hd.elim
   ·rename_i hid;split at hd
    ·exact hd.elim
    ·rename_i Wi
     have ret:∀{v h'},Jp C false k (first++vs++cap) h v h'->next (true,v) h'->fV C PF draw F h o next Tn:=fun {v h'} hc hn=>by
      obtain⟨n0,hc⟩:=hc
      refine .inl ⟨(true,v),h',⟨n0,fun n hn=> ?_⟩,hn⟩
      have Da:call C draw n k (first++vs++cap) h=.ok (v,h'):=by
       cases draw with
       |false=>exact hc n hn
       |true=>rw[RS (by simpa using Wi)];exact hc n hn
      simp only[BB,Bc,hx,dK,hid,Da]
     cases Qu:T.p k with
     |some t=>
      rw[Qu] at hd
      rcases hT.p k t Qu _ _ _ _ hd with ⟨v,h',hc,hn⟩|⟨n,y,h',hk,hn⟩
      ·exact ret hc hn
      ·refine .inr ⟨n,y,h',?_,hn⟩;unfold Ma;simp only[Bc]
       exact⟨k,first,cap,vs,hx,dK,hid,hk⟩
     |none=>
      rw[Qu] at hd;simp only at hd
      cases ht:T.t k with
      |none=>rw[ht] at hd;exact hd.elim
      |some t=>
       rw[ht] at hd;obtain⟨v,h',hc,hn⟩:=hT.t k t ht _ _ _ hd;exact ret hc hn
  ·exact hd.elim
 ·rename_i x args ts Bc;split at hd
  ·rename_i fn first cap b l hc hx hl
   refine .inl ⟨_,h,⟨0,fun n _=> ?_⟩,hd⟩
   simp only[BB,Bc,hc,hx,hl]
  ·exact hd.elim
 ·rename_i Bc dR;split at hd
  ·rename_i g e h' MM;obtain⟨rfl,hn⟩:=Dx hd
   refine .inl ⟨e,h',⟨0,fun n _=> ?_⟩,hn⟩
   obtain⟨dst,op,ty,pos,after,gd⟩:=o;unfold BB;split
   ·rename_i x args ts MK;exact absurd MK (Bc x args ts)
   ·rename_i x args ts MK;exact absurd MK (dR x args ts)
   ·simp only[MM]
  ·exact hd.elim
theorem Zk {PF:GD}(hT:B8 C PF T){draw:Bool}{F:Fr}{h:Hp}{o:Oper}{s:Option (List Sh)}{next:(Bool×AV)->Hp->Prop}{Tn:Bool->PX->Hp->Prop}(hd:W9 C T draw F h o s next Tn):fV C PF draw F h o next Tn:=by
 cases s with
 |none=>exact eU hT hd
 |some s=>
  simp only[W9] at hd;split at hd
  ·exact .inl (UM hd)
  ·split at hd
   ·exact .inl (UH hd)
   ·exact .inl (Qs hd)
theorem Pf {PF:GD}(hT:B8 C PF T){draw:Bool}{ops:Array Oper}{F:Fr}{h:Hp}{o:Oper}{s:Option (List Sh)}{next:(Bool×AV)->Hp->Prop}{Tn:Bool->PX->Hp->Prop}(hd:H7 C T draw ops F h o s next Tn):
  (∃e h',(∃n0,∀n,n0<=n->(match Ef C.P draw ops o F h with|some r=>r|none=>BB C (call C draw n) draw o F h)=.ok (e,h'))/\next e h')\/∃n x h',Ma C (Mb C PF n) o F h x h'/\Tn (!draw) x h':=by
 unfold H7 at hd
 cases F8:Ef C.P draw ops o F h with
 |none=>rw[F8] at hd;exact Zk hT hd
 |some r=>
  rw[F8] at hd
  cases r with
  |error x=>exact hd.elim
  |ok r=>exact .inl ⟨r.1,r.2,⟨0,fun n _=>rfl⟩,hd⟩
theorem Dq (hT:B8 C Q.pf T):∀(n:Nat) (st:List Fm) (x:XT) (F:Fr) (h:Hp),DU C f body T pl Q n st x F h->FW C f body Q st x F h:=by
 intro n
 induction n with
 |zero=>intro st x F h hu;exact hu
 |succ n ih=>
  intro st x F h hu
  cases st with
  |nil=>
   simp only[DU] at hu;split at hu
   ·exact .inl ⟨by assumption,hu⟩
   ·exact hu.elim
  |cons fm st=>
   have pass:(∀p m i,¬(fm=.code p/\x=.normal)/\¬(fm=.loop p m/\x=.normal)/\¬(fm=.ops p m/\x=.normal)/\¬(fm=.block m/\x=.exit i)/\¬(fm=.scope p/\x=.goto i))->FW C f body Q st x F h->FW C f body Q (fm::st) x F h:=by
    intro hn k
    cases fm<;>cases x<;>first
     |exact k.imp (fun k=>by simpa only[AE] using k) (fun k=>by simpa only[BS] using k)
     |exact absurd ⟨rfl,rfl⟩ (hn _ 0 0).1
     |exact absurd ⟨rfl,rfl⟩ (hn _ _ 0).2.1
     |exact absurd ⟨rfl,rfl⟩ (hn _ _ 0).2.2.1
     |exact absurd ⟨rfl,rfl⟩ (hn [] _ _).2.2.2.1
     |exact absurd ⟨rfl,rfl⟩ (hn _ 0 _).2.2.2.2
   cases fm with
   |code p=>
    cases x with
    |normal=>
     simp only[DU] at hu;split at hu
     ·exact hu.imp Ul bz
     ·split at hu
      ·rename_i hc
       exact OA (M7 fun m=>by rw[hc];rfl) (ih _ _ _ _ hu)
      ·rename_i hc
       exact OA (M7 fun m=>by rw[hc];rfl) (ih _ _ _ _ hu)
      ·rename_i hc
       exact OA (M7 fun m=>by rw[hc];rfl) (ih _ _ _ _ hu)
      ·rename_i hc;exact(ih _ _ _ _ hu).imp (YJ hc) (gH hc)
      ·rename_i y a b hc;split at hu
       ·rename_i t hy
        have O8:Yr F y t=F:=by
         cases y with
         |tmp s=>exact Kj hy
         |_=>rfl
        cases t with
        |true=>simp only[Ad] at hu;rw[O8] at hu;exact(ih _ _ _ _ hu).imp (PW (t:=true) hc hy) (Tm (t:=true) hc hy)
        |false=>simp only[Ad] at hu;rw[O8] at hu;exact(ih _ _ _ _ hu).imp (PW (t:=false) hc hy) (Tm (t:=false) hc hy)
       ·exact hu.elim
      ·rename_i hc;exact(ih _ _ _ _ hu).imp (RD hc) (Y8 hc)
      ·rename_i hc;exact(ih _ _ _ _ hu).imp (K8 hc) (Tl hc)
      ·rename_i hc;split at hu
       ·exact hu.elim
       ·rename_i CE;split at hu
        ·exact hu.elim
        ·rename_i FF;exact(ih _ _ _ _ hu).imp (PV hc CE FF) (Vz hc CE FF)
      ·exact hu.elim
    |_=>
     simp only[DU] at hu
     exact pass (fun p m i=>by simp) (ih _ _ _ _ hu)
   |block id=>
    cases x with
    |exit i=>
     simp only[DU] at hu
     cases hb:Nat.beq i id with
     |true=>
      rw[hb] at hu
      exact(ih _ _ _ _ hu).imp (fun k=>by simp only[AE,hb,cond_true];exact k) (fun k=>by simp only[BS,hb,cond_true];exact k)
     |false=>
      rw[hb] at hu
      exact(ih _ _ _ _ hu).imp (fun k=>by simp only[AE,hb,cond_false];exact k) (fun k=>by simp only[BS,hb,cond_false];exact k)
    |_=>
     simp only[DU] at hu
     exact pass (fun p m i=>by simp) (ih _ _ _ _ hu)
   |loop p m=>
    cases x with
    |normal=>
     simp only[DU] at hu
     cases ht:C.FD f with
     |false=>
      rw[ht] at hu
      refine(ih (.code p::st) .normal F h hu).imp (fun k=> ?_) fun k=> ?_
      ·simp only[AE,ht];exact k
      ·simp only[BS,ht];exact k
     |true=>
      rw[ht] at hu;simp only at hu
      have hk:FW C f body Q (.code p::st) .normal (Cv m h (Gj C f (Ac body p) F)) ((h.take m).map (AN m h)):=by
       cases S9:C.N8 f with
       |true=>rw[S9] at hu;exact ih (.code p::st) .normal _ _ hu
       |false=>
        rw[S9] at hu;obtain⟨hl,hu⟩:=Dx hu;rw[Bool.and_eq_true] at hl;have hk:=ih (.code p::st) .normal _ _ hu;rw[<-Rc m h hl.1,<-N9 m h hl.2] at hk;exact hk
      refine hk.imp (fun hk=> ?_) fun hk=> ?_
      ·simp only[AE,ht];obtain⟨x1,F1,h1,⟨n0,hx⟩,k⟩:=hk
       refine⟨x1,F1,h1,⟨n0,fun n hn=> ?_⟩,k⟩
       rw[<-hx n hn];exact(MS n _ m h F _).symm
      ·simp only[BS,ht] at hk⊢;have MO:=XB (C:=C) (f:=f) (Ac body p) m h F
       rcases hk with ⟨n,y,F1,h1,k,q⟩|⟨x1,F1,h1,⟨n0,hx⟩,k⟩
       ·refine .inl ⟨n,y,F1,h1,?_,q⟩;rw[<-Lr,MO,Lr] at k;exact k
       ·refine .inr ⟨x1,F1,h1,⟨n0,fun n hn=> ?_⟩,k⟩
        rw[<-hx n hn];exact(MS n _ m h F _).symm
    |_=>
     simp only[DU] at hu
     exact pass (fun p m i=>by simp) (ih _ _ _ _ hu)
   |scope p=>
    cases x with
    |goto l=>simp only[DU] at hu
    |_=>
     simp only[DU] at hu
     exact pass (fun p m i=>by simp) (ih _ _ _ _ hu)
   |ops p i=>
    cases x with
    |normal=>
     simp only[DU] at hu;split at hu
     ·rename_i id ops draw hc;split at hu
      ·rename_i ho;exact(ih _ _ _ _ hu).imp (Mx hc ho) (Tk hc ho)
      ·rename_i o ho
       have fit:∀F,guardOf ops F o=some true->∀{m y h'},Ma C (Mb C Q.pf m) o F h y h'->AS (!(A6 C ops draw i)) (Q.p (Kp draw F) y h')->FW C f body Q (.ops p i::st) .normal F h:=by
        intro F hg m y h' hp hn;obtain⟨Wi,hq⟩:=Dx hn;simp only[Bool.not_eq_true'] at Wi;exact .inr (bx hc ho Wi hg hp hq)
       have done:∀F,guardOf ops F o=some true->H7 C T (A6 C ops draw i) ops F h o (GZ pl.G7 p i) (fun e h'=>Z5 C ops draw i F h h' (DU C f body T pl Q n (.ops p (i+1)::st) .normal (Aq F (Cx (A6 C ops draw i) o) e) h')) (fun g x h'=>AS g (Q.p (Kp draw F) x h'))->FW C f body Q (.ops p i::st) .normal F h:=by
        intro F hg hd
        rcases Pf (ops:=ops) hT hd with ⟨e,h',⟨n0,hs⟩,hn⟩|⟨m,y,h',hp,hn⟩
        ·obtain⟨hm,hn⟩:=Xq hn
         have FE:∃n0,∀n,n0<=n->AW C (call C (A6 C ops draw i) n) ops (A6 C ops draw i) o F h=.ok (e,h'):=⟨n0,fun n hn=>by simp only[AW,hg];exact hs n hn⟩
         exact(ih _ _ _ _ hn).imp (MR hc ho FE hm) (V5 hc ho FE hm)
        ·exact fit F hg hp hn
       have U5:∀F,o.guard.isSome=true->guardOf ops F o=some true->H7 C T (A6 C ops draw i) ops F h o (GZ pl.G7 p i) (fun e h'=>DU C f body T pl Q n (.ops p (i+1)::st) .normal (Aq F (Cx (A6 C ops draw i) o) e) h') (fun g x h'=>AS g (Q.p (Kp draw F) x h'))->FW C f body Q (.ops p i::st) .normal F h:=by
        intro F Hg hg hd
        rcases Pf (ops:=ops) hT hd with ⟨e,h',⟨n0,hs⟩,hn⟩|⟨m,y,h',hp,hn⟩
        ·have FE:∃n0,∀n,n0<=n->AW C (call C (A6 C ops draw i) n) ops (A6 C ops draw i) o F h=.ok (e,h'):=⟨n0,fun n hn=>by simp only[AW,hg];exact hs n hn⟩
         exact(ih _ _ _ _ hn).imp (MR hc ho FE (EX ho Hg)) (V5 hc ho FE (EX ho Hg))
        ·exact fit F hg hp hn
       have PJ:o.guard.isSome=true->Cx (A6 C ops draw i) o=o.dst:=by
        intro Hg
        have:Dk o=false:=by
         unfold Dk;split
         ·rename_i kx;rw[kx] at Hg;cases Hg
         ·rfl
        cases A6 C ops draw i<;>simp[Cx,this]
       have left:∀F,o.guard.isSome=true->guardOf ops F o=some false->DU C f body T pl Q n (.ops p (i+1)::st) .normal (Aq F o.dst (false,.top)) h->FW C f body Q (.ops p i::st) .normal F h:=by
        intro F Hg hg hd;rw[<-PJ Hg] at hd
        have FE:∃n0,∀n,n0<=n->AW C (call C (A6 C ops draw i) n) ops (A6 C ops draw i) o F h=.ok ((false,.top),h):=⟨0,fun n hn=>by simp only[AW,hg]⟩
        exact(ih _ _ _ _ hd).imp (MR hc ho FE (EX ho Hg)) (V5 hc ho FE (EX ho Hg))
       split at hu
       ·rename_i Qy
        exact done F (by simp only[guardOf,Qy]) hu
       ·rename_i j want Qy
        have Hg:o.guard.isSome=true:=by rw[Qy];rfl
        rw[<-PJ Hg] at hu;split at hu
        ·exact hu.elim
        ·rename_i d hj;split at hu
         ·rename_i b hl;have O8:=Kj hl
          have hg:guardOf ops F o=some (b==want):=by simp[guardOf,Qy,hj,hl]
          cases b with
          |true=>
           simp only[Ad] at hu;rw[O8] at hu
           cases want with
           |true=>exact U5 F Hg (by rw[hg];rfl) hu
           |false=>exact left F Hg (by rw[hg];rfl) (by rw[<-PJ Hg];exact hu)
          |false=>
           simp only[Ad] at hu;rw[O8] at hu
           cases want with
           |true=>exact left F Hg (by rw[hg];rfl) (by rw[<-PJ Hg];exact hu)
           |false=>exact U5 F Hg (by rw[hg];rfl) hu
         ·rename_i v hl
          refine left F Hg ?_ (by rw[<-PJ Hg];exact hu)
          simp only[guardOf,Qy,hj,hl]
          cases v<;>rfl
         ·exact hu.elim
     ·exact hu.elim
    |_=>
     simp only[DU] at hu
     exact pass (fun p m i=>by simp) (ih _ _ _ _ hu)
end
end Go.Ai
namespace Go.Ai
section
variable {C:Bh}{f:FuncId}{body:Code}{T:VL}{pl:XP}{Q:QP}
theorem Ix (hT:B8 C Q.pf T)(n:Nat){p:List Nat}{st:List Fm}{F:Fr}{h:Hp}(hc:cz (Ac body p)=true)(hu:DU C f body T pl Q n (.code (0::p):: .loop p h.length::st) .normal F h):FW C f body Q (.code p::st) .normal F h:=by
 cases hb:Ac body p with
 |loop a=>exact(Dq hT n _ _ _ _ hu).imp (K8 hb) (Tl hb)
 |_=>rw[hb] at hc;cases hc
theorem Ej {PF:GD}:∀p∈([]:List (Nat×H9)),IX C PF p.1 p.2:=fun _ h=>by cases h
theorem BM {PF:GD}{k:Nat}{t:H9}{l:List (Nat×H9)}(h1:IX C PF k t)(h2:∀p∈l,IX C PF p.1 p.2):∀p∈(k,t)::l,IX C PF p.1 p.2:=fun p hp=>by
 rcases List.mem_cons.1 hp with rfl|hp
 ·exact h1
 ·exact h2 p hp
def DX (l:List (Nat×Ci))(m:List (Nat×H9)):VL:=⟨Ae l,fun f=>Ga f m⟩
theorem Ey {PF:GD}{l:List (Nat×Ci)}{m:List (Nat×H9)}(h1:∀p∈l,CO C p.1 p.2)(h2:∀p∈m,IX C PF p.1 p.2):B8 C PF (DX l m):=⟨AX h1,fun k t ht=>h2 (k,t) (FN ht)⟩
def Fc (P:Program)(fn:Func)(PF:GD)(n:Nat)(K:AV->Hp->Prop)(KP:PX->Hp->Prop):QP:=⟨PF,AR P fn n K,fun _ x h'=>KP x ((h'.take n).map (AN n h'))⟩
theorem Ec {PF:GD}{k:Nat}{fn:Func}{t:H9}(hp:Bl C k fn)(H:∀vs h K KP,t vs h K KP->FW C k (AD fn) (Fc C.P fn PF h.length K KP) [.code []] .normal (DZ 0 vs) h):IX C PF k t:=by
 intro l h K KP ht;obtain⟨h1,h2,h3,h4,h5,h6⟩:=hp;simp only[Bool.and_eq_true,Bool.not_eq_true'] at h1
 have ha:B7 C k l=l:=by simp[B7,h6]
 rw[ha] at ht
 rcases H _ _ _ _ ht with he|he
 ·exact .inl (Jn h1.1.1.1 h2 h3 h4 (Ed h5) h6 h1.1.1.2 h1.1.2 (Option.isNone_iff_eq_none.1 h1.2) (by rw[ha];exact he))
 ·right;simp only[BS,Ac] at he
  rcases he with ⟨n,x,F',h',hx,hq⟩|⟨_,_,_,_,hf⟩
  ·exact⟨n+1,x,_,by
    simp only[Mb]
    exact .inr ⟨h1.1.1.1,h2,h3,h1.1.1.2,fn,_,h4,Ed h5,.inl ⟨h6,F',h',hx,rfl⟩⟩,hq⟩
  ·exact hf.elim
end
end Go.Ai
