/-
  Symbolic runs of functions that may give up. No statement about the program is made here.
-/
import Derived.Test.YtopjpnhgnopbiaaGreatDoorAAiPan
set_option linter.unusedVariables false
set_option linter.unusedSimpArgs false
set_option linter.unnecessarySimpa false
namespace Go.Ai
open Go.RowKit
structure QP where
 pf:G7
 q:Fr->Hp->Prop
 p:Fr->PX->Hp->Prop
abbrev JF :=List AV->Hp->(AV->Hp->Prop)->(PX->Hp->Prop)->Prop
structure Xk where
 t:dt
 p:FuncId->Option JF
def Jg (C:Bm)(PF:G7)(k:Nat)(t:JF):Prop:=∀l h K KP,t (B8 C k l) h K KP->(∃v h',K4 C false k l h v h'/\K v h')\/∃n x h',OB C PF n k l h x h'/\KP x h'
structure B9 (C:Bm) (PF:G7) (T:Xk):Prop where
 t:AL C T.t
 p:∀k t,T.p k=some t->Jg C PF k t
def Bc (C:Bm)(f:FuncId)(body:Code)(Q:QP):List Fm->XT->Fr->Hp->Prop
 |[],_,_,_=>False
 |.code p::st,.normal,F,h=>(∃n x F' h',E6 C Q.pf n f (Aa body p) F h x F' h'/\Q.p F' x h')\/∃x F' h',DQ C f (Aa body p) F h x F' h'/\Bc C f body Q st x F' h'
 |.loop p m::st,.normal,F,h=>
  (∃n x F' h',E6 C Q.pf n f (Aa body p) (match C.Fv f with|true=>DC m h F|false=>F) (match C.Fv f with|true=>(h.take m).map (AN m h)|false=>h) x F' h'/\Q.p F' x h')\/
  ∃x F' h',DQ C f (Aa body p) (match C.Fv f with|true=>DC m h F|false=>F) (match C.Fv f with|true=>(h.take m).map (AN m h)|false=>h) x F' h'/\Bc C f body Q st x F' h'
 |.ops p i::st,.normal,F,h=>match Aa body p with
  |.region _ ops draw=>(∃n x F' h',KH C (OB C Q.pf n) ops draw i (ops.toList.drop i) F h x F' h'/\Q.p F' x h')\/∃F' h',tU C ops draw i (ops.toList.drop i) F h F' h'/\Bc C f body Q st .normal F' h'
  |_=>False
 |.block id::st,.exit i,F,h=>bif Nat.beq i id then Bc C f body Q st .normal F h else Bc C f body Q st (.exit i) F h
 |.scope p::st,.goto l,F,h=>False
 |_::st,x,F,h=>Bc C f body Q st x F h
def GN (C:Bm)(f:FuncId)(body:Code)(Q:QP)(st:List Fm)(x:XT)(F:Fr)(h:Hp):Prop:=AF C f body Q.q st x F h\/Bc C f body Q st x F h
section
variable {C:Bm}{f:FuncId}{body:Code}{Q:QP}{st:List Fm}{p:List Nat}{F F':Fr}{h h':Hp}
theorem fq {x:XT}(hc:DQ C f (Aa body p) F h x F' h')(k:Bc C f body Q st x F' h'):Bc C f body Q (.code p::st) .normal F h:=.inr ⟨x,F',h',hc,k⟩
theorem Px {x:XT}(hc:DQ C f (Aa body p) F h x F' h')(k:GN C f body Q st x F' h'):GN C f body Q (.code p::st) .normal F h:=k.imp (CQ hc) (fq hc)
theorem ZX {a b:Code}{F1:Fr}{h1:Hp}{x:XT}(h0:DQ C f a F h .normal F1 h1)(h2:DQ C f b F1 h1 x F' h'):DQ C f (.seq a b) F h x F' h':=by
 obtain⟨n0,hx⟩:=h0;obtain⟨m0,hy⟩:=h2
 refine⟨n0+m0+1,fun n hn=> ?_⟩
 obtain⟨m,rfl⟩:∃m,n=m+1:=⟨n-1,by omega⟩
 simp only[exec,hx m (by omega),hy m (by omega)]
theorem ZW {a b:Code}{x:XT}(h0:DQ C f a F h x F' h')(hx:x≠.normal):DQ C f (.seq a b) F h x F' h':=by
 obtain⟨n0,h0⟩:=h0
 refine⟨n0+1,fun n hn=> ?_⟩
 obtain⟨m,rfl⟩:∃m,n=m+1:=⟨n-1,by omega⟩
 simp only[exec,h0 m (by omega)]
 cases x<;>simp_all
theorem kG {a b:Code}(hc:Aa body p=.seq a b)(k:Bc C f body Q (.code (0::p):: .code (1::p)::st) .normal F h):Bc C f body Q (.code p::st) .normal F h:=by
 have h0:Aa body (0::p)=a:=by simp[Aa,child,hc]
 have Ll:Aa body (1::p)=b:=by simp[Aa,child,hc]
 simp only[Bc,h0,Ll,hc] at k⊢
 rcases k with ⟨n,x,F1,h1,k,q⟩|⟨x,F1,h1,hx,k⟩
 ·exact .inl ⟨n+1,x,F1,h1,.inl k,q⟩
 ·cases x with
  |normal=>
   simp only[Bc,Ll] at k
   rcases k with ⟨n,y,F2,h2,k,q⟩|⟨y,F2,h2,hy,k⟩
   ·exact .inl ⟨n+1,y,F2,h2,.inr ⟨F1,h1,hx,k⟩,q⟩
   ·exact .inr ⟨y,F2,h2,ZX hx hy,k⟩
  |_=>
   simp only[Bc] at k
   exact .inr ⟨_,F1,h1,ZW hx (by simp),k⟩
theorem WA {y:Operand}{a b:Code}{t:Bool}(hc:Aa body p=.cond y a b)(hy:ev C.G F y=(true,.bool t))
  (k:Bc C f body Q (.code ((match t with|true=>0|false=>1)::p)::st) .normal F h):Bc C f body Q (.code p::st) .normal F h:=by
 have key:∀(i:Nat) (d:Code),Aa body (i::p)=d->(∀m,exec C f m d F h=exec C f (m+1) (.cond y a b) F h)->(∀n x F' h',E6 C Q.pf n f d F h x F' h'->E6 C Q.pf (n+1) f (.cond y a b) F h x F' h')->Bc C f body Q (.code (i::p)::st) .normal F h->Bc C f body Q (.code p::st) .normal F h:=by
  intro i d h0 h1 h2 k;simp only[Bc,h0,hc] at k⊢
  rcases k with ⟨n,x,F1,Ll,k,q⟩|⟨x,F1,Ll,⟨n0,hx⟩,k⟩
  ·exact .inl ⟨n+1,x,F1,Ll,h2 _ _ _ _ k,q⟩
  ·refine .inr ⟨x,F1,Ll,⟨n0+1,fun n hn=> ?_⟩,k⟩
   obtain⟨m,rfl⟩:∃m,n=m+1:=⟨n-1,by omega⟩
   rw[<-h1]
   exact hx m (by omega)
 cases t with
 |true=>exact key 0 a (by simp[Aa,child,hc]) (fun m=>by simp only[exec,hy]) (fun n x F' h' k=>⟨true,hy,k⟩) k
 |false=>exact key 1 b (by simp[Aa,child,hc]) (fun m=>by simp only[exec,hy]) (fun n x F' h' k=>⟨false,hy,k⟩) k
theorem U6 {id:Nat}{a:Code}(h0:DQ C f a F h (.exit id) F' h'):DQ C f (.block id a) F h .normal F' h':=by
 obtain⟨n0,h0⟩:=h0
 refine⟨n0+1,fun n hn=> ?_⟩
 obtain⟨m,rfl⟩:∃m,n=m+1:=⟨n-1,by omega⟩
 simp only[exec,h0 m (by omega),Nat.beq_refl,cond_true]
theorem MV {id:Nat}{a:Code}{x:XT}(h0:DQ C f a F h x F' h')(hx:∀i,x=.exit i->Nat.beq i id=false):DQ C f (.block id a) F h x F' h':=by
 obtain⟨n0,h0⟩:=h0
 refine⟨n0+1,fun n hn=> ?_⟩
 obtain⟨m,rfl⟩:∃m,n=m+1:=⟨n-1,by omega⟩
 simp only[exec,h0 m (by omega)]
 cases x with
 |exit i=>simp only[hx i rfl,cond_false]
 |_=>rfl
theorem cU {id:Nat}{a:Code}(hc:Aa body p=.block id a)(k:Bc C f body Q (.code (0::p):: .block id::st) .normal F h):Bc C f body Q (.code p::st) .normal F h:=by
 have h0:Aa body (0::p)=a:=by simp[Aa,child,hc]
 simp only[Bc,h0,hc] at k⊢
 rcases k with ⟨n,x,F1,h1,k,q⟩|⟨x,F1,h1,hx,k⟩
 ·exact .inl ⟨n+1,x,F1,h1,k,q⟩
 ·cases x with
  |exit i=>
   simp only[Bc] at k
   cases hb:Nat.beq i id with
   |true=>
    rw[hb] at k;have:=Nat.eq_of_beq_eq_true hb;subst this;exact .inr ⟨.normal,F1,h1,U6 hx,k⟩
   |false=>
    rw[hb] at k
    exact .inr ⟨.exit i,F1,h1,MV hx (fun j e=>by injection e with e;subst e;exact hb),k⟩
  |_=>
   simp only[Bc] at k
   exact .inr ⟨_,F1,h1,MV hx (fun j e=>by cases e),k⟩
theorem V9 {a:Code}(hc:Aa body p=.loop a)(k:Bc C f body Q (.code (0::p):: .loop p h.length::st) .normal F h):Bc C f body Q (.code p::st) .normal F h:=by
 have h0:Aa body (0::p)=a:=by simp[Aa,child,hc]
 simp only[Bc,h0,hc] at k⊢
 rcases k with ⟨n,x,F1,h1,k,q⟩|⟨x,F1,h1,hx,k⟩
 ·exact .inl ⟨n+1,x,F1,h1,.inl k,q⟩
 ·cases x with
  |normal=>
   simp only[Bc,hc] at k
   rcases k with ⟨n,y,F2,h2,k,q⟩|⟨y,F2,h2,⟨m0,hy⟩,k⟩
   ·exact .inl ⟨n+1,y,F2,h2,.inr ⟨F1,h1,hx,k⟩,q⟩
   ·obtain⟨n0,hx⟩:=hx
    refine .inr ⟨y,F2,h2,⟨n0+m0+1,fun n hn=> ?_⟩,k⟩
    obtain⟨m,rfl⟩:∃m,n=m+1:=⟨n-1,by omega⟩
    have hy:=hy m (by omega)
    cases ht:C.Fv f<;>rw[ht] at hy<;>simp only[exec,hx m (by omega),ht]<;>exact hy
  |_=>
   simp only[Bc] at k;obtain⟨n0,hx⟩:=hx
   refine .inr ⟨_,F1,h1,⟨n0+1,fun n hn=> ?_⟩,k⟩
   obtain⟨m,rfl⟩:∃m,n=m+1:=⟨n-1,by omega⟩
   simp only[exec,hx m (by omega)]
theorem YW {id:Nat}{ops:Array Oper}{draw:Bool}(hc:Aa body p=.region id ops draw)(CG:(draw&&C.Hk f id)=false)(Fy:((!C.C9 f&&Fb ops.toList)||(draw&& !Ui ops.toList (JW (GA ops draw) h.length ((C.live f id).map fun s=>(s,lk F s)))))=false)(k:Bc C f body Q (.ops p 0::st) .normal (JW (GA ops draw) h.length ((C.live f id).map fun s=>(s,lk F s))) (Rz (GA ops draw) h)):Bc C f body Q (.code p::st) .normal F h:=by
 simp only[Bc,hc,List.drop_zero] at k⊢
 rcases k with ⟨n,x,F1,h1,k,q⟩|⟨F1,h1,⟨n0,hx⟩,k⟩
 ·exact .inl ⟨n+1,x,F1,h1,⟨CG,Fy,k⟩,q⟩
 ·refine .inr ⟨.normal,F1,h1,⟨n0+1,fun n hn=> ?_⟩,k⟩
  obtain⟨m,rfl⟩:∃m,n=m+1:=⟨n-1,by omega⟩
  have:=hx m (by omega)
  simp only[exec,CG,Fy,this]
theorem bV {ops:Array Oper}{i:Nat}{o:Oper}(ho:ops[i]?=some o):ops.toList.drop i=o::ops.toList.drop (i+1):=by
 have hi:i<ops.toList.length:=by
  have:=(Array.getElem?_eq_some_iff.1 ho).1;simpa using this
 have FN:ops.toList[i]=o:=by
  have:=(Array.getElem?_eq_some_iff.1 ho).2;simpa using this
 rw[List.drop_eq_getElem_cons hi,FN]
theorem YX {i id:Nat}{ops:Array Oper}{draw:Bool}{o:Oper}{e:Bool×AV}(hc:Aa body p=.region id ops draw)(ho:ops[i]?=some o)
  (hs:∃n0,∀n,n0<=n->AW C (call C (BB C ops draw i) n) ops (BB C ops draw i) o F h=.ok (e,h')) (hm:Ek C ops draw i F h h'=true) (k:Bc C f body Q (.ops p (i+1)::st) .normal (Av F (DF (BB C ops draw i) o) e) h'):Bc C f body Q (.ops p i::st) .normal F h:=by
 simp only[Bc,hc] at k⊢;rw[bV ho]
 rcases k with ⟨n,x,F1,h1,k,q⟩|⟨F1,h1,⟨m0,hx⟩,k⟩
 ·exact .inl ⟨n,x,F1,h1,.inr ⟨e,h',hs,hm,k⟩,q⟩
 ·obtain⟨n0,hs⟩:=hs
  refine .inr ⟨F1,h1,⟨n0+m0,fun n hn=> ?_⟩,k⟩
  simp only[DI,hs n (by omega),hm]
  exact hx n (by omega)
theorem fo {i id:Nat}{ops:Array Oper}{draw:Bool}{o:Oper}(hc:Aa body p=.region id ops draw)(ho:ops[i]?=some o)(xc:BB C ops draw i=false)(hg:guardOf ops F o=some true){n:Nat}{x:PX}
  (hp:OA C (OB C Q.pf n) o F h x h') (hq:Q.p (MC draw F) x h'):Bc C f body Q (.ops p i::st) .normal F h:=by
 simp only[Bc,hc];rw[bV ho];exact .inl ⟨n,x,_,h',.inl ⟨xc,hg,rfl,hp⟩,hq⟩
theorem V8 {i id:Nat}{ops:Array Oper}{draw:Bool}(hc:Aa body p=.region id ops draw)(ho:ops[i]?=none)(k:Bc C f body Q st .normal F h):Bc C f body Q (.ops p i::st) .normal F h:=by
 simp only[Bc,hc]
 refine .inr ⟨F,h,⟨0,fun n _=> ?_⟩,k⟩
 have:ops.toList.length<=i:=by
  have:=Array.getElem?_eq_none_iff.1 ho;simpa using this
 rw[List.drop_of_length_le this];rfl
theorem Wi {F:Fr}{ls:List Nat}{s:Nat}(hs:s∈ls):lk (ls.map fun t=>(t,lk F t)) s=lk F s:=by
 have:=List.map_inj_left.1 (Jq F ls) s hs;simpa using this
theorem Zh (c:Code)(m:Nat)(h:Hp)(F:Fr):Ha C f c (DC m h (Ha C f c F))=Ha C f c (DC m h F):=by
 cases hr:Ff c with
 |none=>simp only[Ha,hr]
 |some id=>
  simp only[Ha,hr]
  refine List.map_congr_left fun s hs=> ?_
  rw[HC,HC,Wi hs]
theorem NO {PF:G7}{n:Nat}{c:Code}{F:Fr}{h:Hp}{x:PX}{F':Fr}{h':Hp}:E6 C PF n f c (Ha C f c F) h x F' h'↔E6 C PF n f c F h x F' h':=by
 have key:∀(n:Nat) (c:Code) (F:Fr) (id:Nat),Ff c=some id->(E6 C PF n f c ((C.live f id).map fun s=>(s,lk F s)) h x F' h'↔E6 C PF n f c F h x F' h'):=by
  intro n
  induction n with
  |zero=>intro c F id _;simp[E6]
  |succ n ih=>
   intro c F id hc
   cases c<;>simp only[Ff] at hc
   case seq a b=>
    simp only[E6,ih a F id hc]
    have:∀x1 F1 h1,DQ C f a ((C.live f id).map fun s=>(s,lk F s)) h x1 F1 h1↔DQ C f a F h x1 F1 h1:=fun x1 F1 h1=>by simp only[DQ,IG _ a F h hc]
    simp only[this]
   case block i a=>simp only[E6,ih a F id hc]
   case loop a=>
    simp only[E6,ih a F id hc]
    have:∀x1 F1 h1,DQ C f a ((C.live f id).map fun s=>(s,lk F s)) h x1 F1 h1↔DQ C f a F h x1 F1 h1:=fun x1 F1 h1=>by simp only[DQ,IG _ a F h hc]
    simp only[this]
   case region i ops draw=>
    injection hc with hc
    subst hc;simp only[E6,Jq]
   all_goals cases hc
 unfold Ha;split
 ·exact key n c F _ (by assumption)
 ·exact Iff.rfl
theorem fp (k:Bc C f body Q (.code p::st) .normal (Ha C f (Aa body p) F) h):Bc C f body Q (.code p::st) .normal F h:=by
 simp only[Bc] at k⊢
 rcases k with ⟨n,x,F1,h1,k,q⟩|⟨x,F1,h1,⟨n0,hx⟩,k⟩
 ·exact .inl ⟨n,x,F1,h1,NO.1 k,q⟩
 ·exact .inr ⟨x,F1,h1,⟨n0,fun n hn=>by rw[<-Nv n _ F h];exact hx n hn⟩,k⟩
end
def jG (C:Bm)(T:Xk)(draw:Bool)(F:Fr)(h:Hp)(o:Oper)(next:(Bool×AV)->Hp->Prop)(WB:Bool->PX->Hp->Prop):Prop:=
 match o.op with
 |.call {callee:=.value x,args,argTypes:=_}=>
  match ev C.G F x,Nw C.G F args.toList with
  |(true,.fn (.func k) first cap),(true,vs)=>
   match C.ident k,first++vs++cap with
   |true,[v]=>next (true,v) h
   |true,_=>False
   |false,l=>
    match draw&&((C.Cr k).isSome||C.heap k) with
    |true=>False
    |false=>match T.p k with
     |some t=>t (B8 C k l) h (fun v h'=>next (true,v) h') (fun x h'=>WB (!draw) x h')
     |none=>match T.t k with
      |some t=>t (B8 C k l) h fun v h'=>next (true,v) h'
      |none=>False
  |_,_=>False
 |.defer {callee:=.value x,args,argTypes:=_}=>
  match draw|| !EE o||o.dst.isSome|| !args.toList.isEmpty,ev C.G F x,lk F dS with
  |false,(true,.fn f first cap),(_,.C9 l)=>next (true,.C9 (.fn f first cap::l)) h
  |_,_,_=>False
 |_=>
  match Bl C (draw||o.guard.isSome) F h o with
  |some (g,e,h')=>AS g (next e h')
  |none=>False
def Zd (C:Bm)(T:Xk)(draw:Bool)(F:Fr)(h:Hp)(o:Oper)(s:Option (List Sh))(next:(Bool×AV)->Hp->Prop)(WB:Bool->PX->Hp->Prop):Prop:=
 match s with
 |some s=>match gl o.op with
  |true=>ah C F h o s next
  |false=>match gj o.op with
   |true=>ae C F h o next
   |false=>Uo C draw F h o s next
 |none=>jG C T draw F h o next WB
def JE (C:Bm)(T:Xk)(draw:Bool)(ops:Array Oper)(F:Fr)(h:Hp)(o:Oper)(s:Option (List Sh))(next:(Bool×AV)->Hp->Prop)(WB:Bool->PX->Hp->Prop):Prop:=
 match FL C.P draw ops o F h with
 |some (.ok (e,h'))=>next e h'
 |some (.error _)=>False
 |none=>Zd C T draw F h o s next WB
def Dl (C:Bm)(f:FuncId)(body:Code)(T:Xk)(pl:Z6)(Q:QP):Nat->List Fm->XT->Fr->Hp->Prop
 |0,st,x,F,h=>GN C f body Q st x F h
 |n+1,[],x,F,h=>match gm x with|true=>Q.q F h|false=>False
 |n+1,.code p::st,.normal,F,h=>
  match Yy pl.tD p with
  |true=>GN C f body Q (.code p::st) .normal (Ha C f (Aa body p) F) h
  |false=>
   match Aa body p with
   |.skip=>Dl C f body T pl Q n st .normal F h
   |.ret=>Dl C f body T pl Q n st .ret F h
   |.exit id=>Dl C f body T pl Q n st (.exit id) F h
   |.seq _ _=>Dl C f body T pl Q n (.code (0::p):: .code (1::p)::st) .normal F h
   |.cond y _ _=>
    match ev C.G F y with
    |(true,.bool b)=>Ap b (Dl C f body T pl Q n (.code (0::p)::st) .normal (cI F y true) h) (Dl C f body T pl Q n (.code (1::p)::st) .normal (cI F y false) h)
    |_=>False
   |.block id _=>Dl C f body T pl Q n (.code (0::p):: .block id::st) .normal F h
   |.loop _=>Dl C f body T pl Q n (.code (0::p):: .loop p h.length::st) .normal F h
   |.region id ops draw=>match draw&&C.Hk f id with
    |true=>False
    |false=>match(!C.C9 f&&Fb ops.toList)||(draw&& !Ui ops.toList (JW (GA ops draw) h.length ((C.live f id).map fun s=>(s,lk F s)))) with
    |true=>False
    |false=>Dl C f body T pl Q n (.ops p 0::st) .normal (JW (GA ops draw) h.length ((C.live f id).map fun s=>(s,lk F s))) (Rz (GA ops draw) h)
   |_=>False
 |n+1,.loop p m::st,.normal,F,h=>match C.Fv f with
  |false=>Dl C f body T pl Q n (.code p::st) .normal F h
  |true=>match C.Pr f with
   |true=>Dl C f body T pl Q n (.code p::st) .normal (DC m h (Ha C f (Aa body p) F)) ((h.take m).map (AN m h))
   |false=>AS (gO m (Tw m (Ha C f (Aa body p) F))&&Wf m (Ln m (h.take m)))
    (Dl C f body T pl Q n (.code p::st) .normal (Tw m (Ha C f (Aa body p) F)) (Ln m (h.take m)))
 |n+1,.block id::st,.exit i,F,h=>match Nat.beq i id with|true=>Dl C f body T pl Q n st .normal F h|false=>Dl C f body T pl Q n st (.exit i) F h
 |n+1,.scope p::st,.goto l,F,h=>False
 |n+1,.ops p i::st,.normal,F,h=>
  match Aa body p with
  |.region _ ops draw=>
   match ops[i]? with
   |none=>Dl C f body T pl Q n st .normal F h
   |some o=>
    match o.guard with
    |none=>JE C T (BB C ops draw i) ops F h o (HQ pl.H8 p i) (fun e h'=>dw C ops draw i F h h' (Dl C f body T pl Q n (.ops p (i+1)::st) .normal (Av F (DF (BB C ops draw i) o) e) h')) fun g x h'=>AS g (Q.p (MC draw F) x h')
    |some (j,want)=>
     match(ops[j]?).bind (·.dst) with
     |none=>False
     |some d=>
      match lk F d with
      |(true,.bool b)=>
       Ap b
        (match want with
        |true=>JE C T (BB C ops draw i) ops (JV F d true) h o (HQ pl.H8 p i) (fun e h'=>Dl C f body T pl Q n (.ops p (i+1)::st) .normal (Av (JV F d true) o.dst e) h') fun g x h'=>AS g (Q.p (MC draw (JV F d true)) x h')
        |false=>Dl C f body T pl Q n (.ops p (i+1)::st) .normal (Av (JV F d true) o.dst (false,.top)) h)
        (match want with
        |true=>Dl C f body T pl Q n (.ops p (i+1)::st) .normal (Av (JV F d false) o.dst (false,.top)) h
        |false=>JE C T (BB C ops draw i) ops (JV F d false) h o (HQ pl.H8 p i) (fun e h'=>Dl C f body T pl Q n (.ops p (i+1)::st) .normal (Av (JV F d false) o.dst e) h') fun g x h'=>AS g (Q.p (MC draw (JV F d false)) x h'))
      |(false,_)=>Dl C f body T pl Q n (.ops p (i+1)::st) .normal (Av F o.dst (false,.top)) h
      |_=>False
  |_=>False
 |n+1,_::st,x,F,h=>Dl C f body T pl Q n st x F h
section
variable {C:Bm}{f:FuncId}{body:Code}{T:Xk}{pl:Z6}{Q:QP}
def jk (C:Bm)(PF:G7)(draw:Bool)(F:Fr)(h:Hp)(o:Oper)(next:(Bool×AV)->Hp->Prop)(WB:Bool->PX->Hp->Prop):Prop:=
 (∃e h',(∃n0,∀n,n0<=n->BF C (call C draw n) draw o F h=.ok (e,h'))/\next e h')\/∃n x h',OA C (OB C PF n) o F h x h'/\WB (!draw) x h'
theorem jF {PF:G7}(hT:B9 C PF T){draw:Bool}{F:Fr}{h:Hp}{o:Oper}{next:(Bool×AV)->Hp->Prop}{WB:Bool->PX->Hp->Prop}(hd:jG C T draw F h o next WB):jk C PF draw F h o next WB:=by
 unfold jG at hd;split at hd
 ·rename_i x args ts Bo;split at hd
  ·rename_i k first cap vs hx hC
   split at hd
   ·rename_i v hid hl
    refine .inl ⟨(true,v),h,⟨0,fun n _=> ?_⟩,hd⟩
    simp only[BF,Bo,hx,hC,hid,hl]
   ·exact hd.elim
   ·rename_i hid;split at hd
    ·exact hd.elim
    ·rename_i ZG
     have ret:∀{v h'},K4 C false k (first++vs++cap) h v h'->next (true,v) h'->jk C PF draw F h o next WB:=fun {v h'} hc hn=>by
      obtain⟨n0,hc⟩:=hc
      refine .inl ⟨(true,v),h',⟨n0,fun n hn=> ?_⟩,hn⟩
      have DS:call C draw n k (first++vs++cap) h=.ok (v,h'):=by
       cases draw with
       |false=>exact hc n hn
       |true=>rw[Tg (by simpa using ZG)];exact hc n hn
      simp only[BF,Bo,hx,hC,hid,DS]
     cases TC:T.p k with
     |some t=>
      rw[TC] at hd
      rcases hT.p k t TC _ _ _ _ hd with ⟨v,h',hc,hn⟩|⟨n,y,h',hk,hn⟩
      ·exact ret hc hn
      ·refine .inr ⟨n,y,h',?_,hn⟩;unfold OA;simp only[Bo]
       exact⟨k,first,cap,vs,hx,hC,hid,hk⟩
     |none=>
      rw[TC] at hd;simp only at hd
      cases ht:T.t k with
      |none=>rw[ht] at hd;exact hd.elim
      |some t=>
       rw[ht] at hd;obtain⟨v,h',hc,hn⟩:=hT.t k t ht _ _ _ hd;exact ret hc hn
  ·exact hd.elim
 ·rename_i x args ts Bo;split at hd
  ·rename_i fn first cap b l hc hx hl
   refine .inl ⟨_,h,⟨0,fun n _=> ?_⟩,hd⟩
   simp only[BF,Bo,hc,hx,hl]
  ·exact hd.elim
 ·rename_i Bo iB;split at hd
  ·rename_i g e h' Nl;obtain⟨rfl,hn⟩:=ER hd
   refine .inl ⟨e,h',⟨0,fun n _=> ?_⟩,hn⟩
   obtain⟨dst,op,ty,pos,after,gd⟩:=o;unfold BF;split
   ·rename_i x args ts Nj;exact absurd Nj (Bo x args ts)
   ·rename_i x args ts Nj;exact absurd Nj (iB x args ts)
   ·simp only[Nl]
  ·exact hd.elim
theorem dW {PF:G7}(hT:B9 C PF T){draw:Bool}{F:Fr}{h:Hp}{o:Oper}{s:Option (List Sh)}{next:(Bool×AV)->Hp->Prop}{WB:Bool->PX->Hp->Prop}(hd:Zd C T draw F h o s next WB):jk C PF draw F h o next WB:=by
 cases s with
 |none=>exact jF hT hd
 |some s=>
  simp only[Zd] at hd;split at hd
  ·exact .inl (Wh hd)
  ·split at hd
   ·exact .inl (Wb hd)
   ·exact .inl (TA hd)
theorem Ra {PF:G7}(hT:B9 C PF T){draw:Bool}{ops:Array Oper}{F:Fr}{h:Hp}{o:Oper}{s:Option (List Sh)}{next:(Bool×AV)->Hp->Prop}{WB:Bool->PX->Hp->Prop}(hd:JE C T draw ops F h o s next WB):
  (∃e h',(∃n0,∀n,n0<=n->(match FL C.P draw ops o F h with|some r=>r|none=>BF C (call C draw n) draw o F h)=.ok (e,h'))/\next e h')\/∃n x h',OA C (OB C PF n) o F h x h'/\WB (!draw) x h':=by
 unfold JE at hd
 cases Gx:FL C.P draw ops o F h with
 |none=>rw[Gx] at hd;exact dW hT hd
 |some r=>
  rw[Gx] at hd
  cases r with
  |error x=>exact hd.elim
  |ok r=>exact .inl ⟨r.1,r.2,⟨0,fun n _=>rfl⟩,hd⟩
theorem EJ (hT:B9 C Q.pf T):∀(n:Nat) (st:List Fm) (x:XT) (F:Fr) (h:Hp),Dl C f body T pl Q n st x F h->GN C f body Q st x F h:=by
 intro n
 induction n with
 |zero=>intro st x F h hu;exact hu
 |succ n ih=>
  intro st x F h hu
  cases st with
  |nil=>
   simp only[Dl] at hu;split at hu
   ·exact .inl ⟨by assumption,hu⟩
   ·exact hu.elim
  |cons fm st=>
   have pass:(∀p m i,¬(fm=.code p/\x=.normal)/\¬(fm=.loop p m/\x=.normal)/\¬(fm=.ops p m/\x=.normal)/\¬(fm=.block m/\x=.exit i)/\¬(fm=.scope p/\x=.goto i))->GN C f body Q st x F h->GN C f body Q (fm::st) x F h:=by
    intro hn k
    cases fm<;>cases x<;>first
     |exact k.imp (fun k=>by simpa only[AF] using k) (fun k=>by simpa only[Bc] using k)
     |exact absurd ⟨rfl,rfl⟩ (hn _ 0 0).1
     |exact absurd ⟨rfl,rfl⟩ (hn _ _ 0).2.1
     |exact absurd ⟨rfl,rfl⟩ (hn _ _ 0).2.2.1
     |exact absurd ⟨rfl,rfl⟩ (hn [] _ _).2.2.2.1
     |exact absurd ⟨rfl,rfl⟩ (hn _ 0 _).2.2.2.2
   cases fm with
   |code p=>
    cases x with
    |normal=>
     simp only[Dl] at hu;split at hu
     ·exact hu.imp XD fp
     ·split at hu
      ·rename_i hc
       exact Px (Og fun m=>by rw[hc];rfl) (ih _ _ _ _ hu)
      ·rename_i hc
       exact Px (Og fun m=>by rw[hc];rfl) (ih _ _ _ _ hu)
      ·rename_i hc
       exact Px (Og fun m=>by rw[hc];rfl) (ih _ _ _ _ hu)
      ·rename_i hc;exact(ih _ _ _ _ hu).imp (bO hc) (kG hc)
      ·rename_i y a b hc;split at hu
       ·rename_i t hy
        have Q8:cI F y t=F:=by
         cases y with
         |tmp s=>exact Ly hy
         |_=>rfl
        cases t with
        |true=>simp only[Ap] at hu;rw[Q8] at hu;exact(ih _ _ _ _ hu).imp (RT (t:=true) hc hy) (WA (t:=true) hc hy)
        |false=>simp only[Ap] at hu;rw[Q8] at hu;exact(ih _ _ _ _ hu).imp (RT (t:=false) hc hy) (WA (t:=false) hc hy)
       ·exact hu.elim
      ·rename_i hc;exact(ih _ _ _ _ hu).imp (TS hc) (cU hc)
      ·rename_i hc;exact(ih _ _ _ _ hu).imp (MU hc) (V9 hc)
      ·rename_i hc;split at hu
       ·exact hu.elim
       ·rename_i CG;split at hu
        ·exact hu.elim
        ·rename_i Fy;exact(ih _ _ _ _ hu).imp (RS hc CG Fy) (YW hc CG Fy)
      ·exact hu.elim
    |_=>
     simp only[Dl] at hu
     exact pass (fun p m i=>by simp) (ih _ _ _ _ hu)
   |block id=>
    cases x with
    |exit i=>
     simp only[Dl] at hu
     cases hb:Nat.beq i id with
     |true=>
      rw[hb] at hu
      exact(ih _ _ _ _ hu).imp (fun k=>by simp only[AF,hb,cond_true];exact k) (fun k=>by simp only[Bc,hb,cond_true];exact k)
     |false=>
      rw[hb] at hu
      exact(ih _ _ _ _ hu).imp (fun k=>by simp only[AF,hb,cond_false];exact k) (fun k=>by simp only[Bc,hb,cond_false];exact k)
    |_=>
     simp only[Dl] at hu
     exact pass (fun p m i=>by simp) (ih _ _ _ _ hu)
   |loop p m=>
    cases x with
    |normal=>
     simp only[Dl] at hu
     cases ht:C.Fv f with
     |false=>
      rw[ht] at hu
      refine(ih (.code p::st) .normal F h hu).imp (fun k=> ?_) fun k=> ?_
      ·simp only[AF,ht];exact k
      ·simp only[Bc,ht];exact k
     |true=>
      rw[ht] at hu;simp only at hu
      have hk:GN C f body Q (.code p::st) .normal (DC m h (Ha C f (Aa body p) F)) ((h.take m).map (AN m h)):=by
       cases VU:C.Pr f with
       |true=>rw[VU] at hu;exact ih (.code p::st) .normal _ _ hu
       |false=>
        rw[VU] at hu;obtain⟨hl,hu⟩:=ER hu;rw[Bool.and_eq_true] at hl;have hk:=ih (.code p::st) .normal _ _ hu;rw[<-Tv m h hl.1,<-Pv m h hl.2] at hk;exact hk
      refine hk.imp (fun hk=> ?_) fun hk=> ?_
      ·simp only[AF,ht];obtain⟨x1,F1,h1,⟨n0,hx⟩,k⟩:=hk
       refine⟨x1,F1,h1,⟨n0,fun n hn=> ?_⟩,k⟩
       rw[<-hx n hn];exact(Nu n _ m h F _).symm
      ·simp only[Bc,ht] at hk⊢;have ZJ:=Zh (C:=C) (f:=f) (Aa body p) m h F
       rcases hk with ⟨n,y,F1,h1,k,q⟩|⟨x1,F1,h1,⟨n0,hx⟩,k⟩
       ·refine .inl ⟨n,y,F1,h1,?_,q⟩;rw[<-NO,ZJ,NO] at k;exact k
       ·refine .inr ⟨x1,F1,h1,⟨n0,fun n hn=> ?_⟩,k⟩
        rw[<-hx n hn];exact(Nu n _ m h F _).symm
    |_=>
     simp only[Dl] at hu
     exact pass (fun p m i=>by simp) (ih _ _ _ _ hu)
   |scope p=>
    cases x with
    |goto l=>simp only[Dl] at hu
    |_=>
     simp only[Dl] at hu
     exact pass (fun p m i=>by simp) (ih _ _ _ _ hu)
   |ops p i=>
    cases x with
    |normal=>
     simp only[Dl] at hu;split at hu
     ·rename_i id ops draw hc;split at hu
      ·rename_i ho;exact(ih _ _ _ _ hu).imp (Oc hc ho) (V8 hc ho)
      ·rename_i o ho
       have fit:∀F,guardOf ops F o=some true->∀{m y h'},OA C (OB C Q.pf m) o F h y h'->AS (!(BB C ops draw i)) (Q.p (MC draw F) y h')->GN C f body Q (.ops p i::st) .normal F h:=by
        intro F hg m y h' hp hn;obtain⟨ZG,hq⟩:=ER hn;simp only[Bool.not_eq_true'] at ZG;exact .inr (fo hc ho ZG hg hp hq)
       have done:∀F,guardOf ops F o=some true->JE C T (BB C ops draw i) ops F h o (HQ pl.H8 p i) (fun e h'=>dw C ops draw i F h h' (Dl C f body T pl Q n (.ops p (i+1)::st) .normal (Av F (DF (BB C ops draw i) o) e) h')) (fun g x h'=>AS g (Q.p (MC draw F) x h'))->GN C f body Q (.ops p i::st) .normal F h:=by
        intro F hg hd
        rcases Ra (ops:=ops) hT hd with ⟨e,h',⟨n0,hs⟩,hn⟩|⟨m,y,h',hp,hn⟩
        ·obtain⟨hm,hn⟩:=aZ hn
         have Jh:∃n0,∀n,n0<=n->AW C (call C (BB C ops draw i) n) ops (BB C ops draw i) o F h=.ok (e,h'):=⟨n0,fun n hn=>by simp only[AW,hg];exact hs n hn⟩
         exact(ih _ _ _ _ hn).imp (Ns hc ho Jh hm) (YX hc ho Jh hm)
        ·exact fit F hg hp hn
       have XQ:∀F,o.guard.isSome=true->guardOf ops F o=some true->JE C T (BB C ops draw i) ops F h o (HQ pl.H8 p i) (fun e h'=>Dl C f body T pl Q n (.ops p (i+1)::st) .normal (Av F (DF (BB C ops draw i) o) e) h') (fun g x h'=>AS g (Q.p (MC draw F) x h'))->GN C f body Q (.ops p i::st) .normal F h:=by
        intro F Iq hg hd
        rcases Ra (ops:=ops) hT hd with ⟨e,h',⟨n0,hs⟩,hn⟩|⟨m,y,h',hp,hn⟩
        ·have Jh:∃n0,∀n,n0<=n->AW C (call C (BB C ops draw i) n) ops (BB C ops draw i) o F h=.ok (e,h'):=⟨n0,fun n hn=>by simp only[AW,hg];exact hs n hn⟩
         exact(ih _ _ _ _ hn).imp (Ns hc ho Jh (FB ho Iq)) (YX hc ho Jh (FB ho Iq))
        ·exact fit F hg hp hn
       have RG:o.guard.isSome=true->DF (BB C ops draw i) o=o.dst:=by
        intro Iq
        have:EE o=false:=by
         unfold EE;split
         ·rename_i oh;rw[oh] at Iq;cases Iq
         ·rfl
        cases BB C ops draw i<;>simp[DF,this]
       have left:∀F,o.guard.isSome=true->guardOf ops F o=some false->Dl C f body T pl Q n (.ops p (i+1)::st) .normal (Av F o.dst (false,.top)) h->GN C f body Q (.ops p i::st) .normal F h:=by
        intro F Iq hg hd;rw[<-RG Iq] at hd
        have Jh:∃n0,∀n,n0<=n->AW C (call C (BB C ops draw i) n) ops (BB C ops draw i) o F h=.ok ((false,.top),h):=⟨0,fun n hn=>by simp only[AW,hg]⟩
        exact(ih _ _ _ _ hd).imp (Ns hc ho Jh (FB ho Iq)) (YX hc ho Jh (FB ho Iq))
       split at hu
       ·rename_i TK
        exact done F (by simp only[guardOf,TK]) hu
       ·rename_i j want TK
        have Iq:o.guard.isSome=true:=by rw[TK];rfl
        rw[<-RG Iq] at hu;split at hu
        ·exact hu.elim
        ·rename_i d hj;split at hu
         ·rename_i b hl;have Q8:=Ly hl
          have hg:guardOf ops F o=some (b==want):=by simp[guardOf,TK,hj,hl]
          cases b with
          |true=>
           simp only[Ap] at hu;rw[Q8] at hu
           cases want with
           |true=>exact XQ F Iq (by rw[hg];rfl) hu
           |false=>exact left F Iq (by rw[hg];rfl) (by rw[<-RG Iq];exact hu)
          |false=>
           simp only[Ap] at hu;rw[Q8] at hu
           cases want with
           |true=>exact left F Iq (by rw[hg];rfl) (by rw[<-RG Iq];exact hu)
           |false=>exact XQ F Iq (by rw[hg];rfl) hu
         ·rename_i v hl
          refine left F Iq ?_ (by rw[<-RG Iq];exact hu)
          simp only[guardOf,TK,hj,hl]
          cases v<;>rfl
         ·exact hu.elim
     ·exact hu.elim
    |_=>
     simp only[Dl] at hu
     exact pass (fun p m i=>by simp) (ih _ _ _ _ hu)
end
end Go.Ai
namespace Go.Ai
section
variable {C:Bm}{f:FuncId}{body:Code}{T:Xk}{pl:Z6}{Q:QP}
theorem KB (hT:B9 C Q.pf T)(n:Nat){p:List Nat}{st:List Fm}{F:Fr}{h:Hp}(hc:gk (Aa body p)=true)(hu:Dl C f body T pl Q n (.code (0::p):: .loop p h.length::st) .normal F h):GN C f body Q (.code p::st) .normal F h:=by
 cases hb:Aa body p with
 |loop a=>exact(EJ hT n _ _ _ _ hu).imp (MU hb) (V9 hb)
 |_=>rw[hb] at hc;cases hc
theorem FR {PF:G7}:∀p∈([]:List (Nat×JF)),Jg C PF p.1 p.2:=fun _ h=>by cases h
theorem BU {PF:G7}{k:Nat}{t:JF}{l:List (Nat×JF)}(h1:Jg C PF k t)(h2:∀p∈l,Jg C PF p.1 p.2):∀p∈(k,t)::l,Jg C PF p.1 p.2:=fun p hp=>by
 rcases List.mem_cons.1 hp with rfl|hp
 ·exact h1
 ·exact h2 p hp
def Dr (l:List (Nat×Ce))(m:List (Nat×JF)):Xk:=⟨Ac l,fun f=>HR f m⟩
theorem Fi {PF:G7}{l:List (Nat×Ce)}{m:List (Nat×JF)}(h1:∀p∈l,CR C p.1 p.2)(h2:∀p∈m,Jg C PF p.1 p.2):B9 C PF (Dr l m):=⟨AY h1,fun k t ht=>h2 (k,t) (EP ht)⟩
def GY (P:Program)(fn:Func)(PF:G7)(n:Nat)(K:AV->Hp->Prop)(KP:PX->Hp->Prop):QP:=⟨PF,AX P fn n K,fun _ x h'=>KP x ((h'.take n).map (AN n h'))⟩
theorem FI {PF:G7}{k:Nat}{fn:Func}{t:JF}(hp:BV C k fn)(H:∀vs h K KP,t vs h K KP->GN C k (AB fn) (GY C.P fn PF h.length K KP) [.code []] .normal (Dz 0 vs) h):Jg C PF k t:=by
 intro l h K KP ht;obtain⟨h1,h2,h3,h4,h5,h6⟩:=hp;simp only[Bool.and_eq_true,Bool.not_eq_true'] at h1
 have ha:B8 C k l=l:=by simp[B8,h6]
 rw[ha] at ht
 rcases H _ _ _ _ ht with he|he
 ·exact .inl (Kz h1.1.1.1 h2 h3 h4 (GL h5) h6 h1.1.1.2 h1.1.2 (Option.isNone_iff_eq_none.1 h1.2) (by rw[ha];exact he))
 ·right;simp only[Bc,Aa] at he
  rcases he with ⟨n,x,F',h',hx,hq⟩|⟨_,_,_,_,hf⟩
  ·exact⟨n+1,x,_,by
    simp only[OB]
    exact .inr ⟨h1.1.1.1,h2,h3,h1.1.1.2,fn,_,h4,GL h5,.inl ⟨h6,F',h',hx,rfl⟩⟩,hq⟩
  ·exact hf.elim
end
end Go.Ai
