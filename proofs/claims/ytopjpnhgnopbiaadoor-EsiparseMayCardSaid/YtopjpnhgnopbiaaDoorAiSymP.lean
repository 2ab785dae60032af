/-
  Symbolic runs of functions that may give up. No statement about the program is made here.
-/
import Derived.Test.YtopjpnhgnopbiaaDoorAiPan
set_option linter.unusedVariables false
set_option linter.unusedSimpArgs false
set_option linter.unnecessarySimpa false
namespace Go.Ai
open Go.RowKit
structure QP where
 pf:PFun
 q:Fr→Hp→Prop
 p:Fr→PX→Hp→Prop
abbrev ConP :=List AV→Hp→(AV→Hp→Prop)→(PX→Hp→Prop)→Prop
structure TabP where
 t:Tab
 p:FuncId→Option ConP
def COkP (C:Cfg)(PF:PFun)(k:Nat)(t:ConP):Prop:=∀l h K KP,t (argsOf C k l) h K KP→(∃v h',CallR C false k l h v h'∧K v h')∨∃n x h',PanK C PF n k l h x h'∧KP x h'
structure TabPOk (C:Cfg) (PF:PFun) (T:TabP):Prop where
 t:TabOk C T.t
 p:∀k t,T.p k=some t→COkP C PF k t
def ToPan (C:Cfg)(f:FuncId)(body:Code)(Q:QP):List Fm→XT→Fr→Hp→Prop
 |[],_,_,_=>False
 |.code p::st,.normal,F,h=>(∃n x F' h',PanC C Q.pf n f (codeAt body p) F h x F' h'∧Q.p F' x h')∨∃x F' h',ExecR C f (codeAt body p) F h x F' h'∧ToPan C f body Q st x F' h'
 |.loop p m::st,.normal,F,h=>
  (∃n x F' h',PanC C Q.pf n f (codeAt body p) (match C.trunc f with|true=>stripF m h F|false=>F) (match C.trunc f with|true=>(h.take m).map (stripB m h)|false=>h) x F' h'∧Q.p F' x h')∨
  ∃x F' h',ExecR C f (codeAt body p) (match C.trunc f with|true=>stripF m h F|false=>F) (match C.trunc f with|true=>(h.take m).map (stripB m h)|false=>h) x F' h'∧ToPan C f body Q st x F' h'
 |.ops p i::st,.normal,F,h=>match codeAt body p with
  |.region _ ops draw=>(∃n x F' h',PanOps C (PanK C Q.pf n) ops draw i (ops.toList.drop i) F h x F' h'∧Q.p F' x h')∨∃F' h',OpsR C ops draw i (ops.toList.drop i) F h F' h'∧ToPan C f body Q st .normal F' h'
  |_=>False
 |.block id::st,.exit i,F,h=>bif Nat.beq i id then ToPan C f body Q st .normal F h else ToPan C f body Q st (.exit i) F h
 |.scope p::st,.goto l,F,h=>False
 |_::st,x,F,h=>ToPan C f body Q st x F h
def ToE (C:Cfg)(f:FuncId)(body:Code)(Q:QP)(st:List Fm)(x:XT)(F:Fr)(h:Hp):Prop:=ToEnd C f body Q.q st x F h∨ToPan C f body Q st x F h
section
variable {C:Cfg}{f:FuncId}{body:Code}{Q:QP}{st:List Fm}{p:List Nat}{F F':Fr}{h h':Hp}
theorem pan_code {x:XT}(hc:ExecR C f (codeAt body p) F h x F' h')(k:ToPan C f body Q st x F' h'):ToPan C f body Q (.code p::st) .normal F h:=.inr ⟨x,F',h',hc,k⟩
theorem toe_code {x:XT}(hc:ExecR C f (codeAt body p) F h x F' h')(k:ToE C f body Q st x F' h'):ToE C f body Q (.code p::st) .normal F h:=k.imp (fin_code hc) (pan_code hc)
theorem exec_seq_n {a b:Code}{F1:Fr}{h1:Hp}{x:XT}(h0:ExecR C f a F h .normal F1 h1)(h2:ExecR C f b F1 h1 x F' h'):ExecR C f (.seq a b) F h x F' h':=by
 obtain⟨n0,hx⟩:=h0;obtain⟨m0,hy⟩:=h2
 refine⟨n0+m0+1,fun n hn=> ?_⟩
 obtain⟨m,rfl⟩:∃m,n=m+1:=⟨n-1,by omega⟩
 simp only[exec,hx m (by omega),hy m (by omega)]
theorem exec_seq_x {a b:Code}{x:XT}(h0:ExecR C f a F h x F' h')(hx:x≠.normal):ExecR C f (.seq a b) F h x F' h':=by
 obtain⟨n0,h0⟩:=h0
 refine⟨n0+1,fun n hn=> ?_⟩
 obtain⟨m,rfl⟩:∃m,n=m+1:=⟨n-1,by omega⟩
 simp only[exec,h0 m (by omega)]
 cases x<;>simp_all
theorem pan_seq {a b:Code}(hc:codeAt body p=.seq a b)(k:ToPan C f body Q (.code (0::p):: .code (1::p)::st) .normal F h):ToPan C f body Q (.code p::st) .normal F h:=by
 have h0:codeAt body (0::p)=a:=by simp[codeAt,child,hc]
 have h1':codeAt body (1::p)=b:=by simp[codeAt,child,hc]
 simp only[ToPan,h0,h1',hc] at k⊢
 rcases k with ⟨n,x,F1,h1,k,q⟩|⟨x,F1,h1,hx,k⟩
 ·exact .inl ⟨n+1,x,F1,h1,.inl k,q⟩
 ·cases x with
  |normal=>
   simp only[ToPan,h1'] at k
   rcases k with ⟨n,y,F2,h2,k,q⟩|⟨y,F2,h2,hy,k⟩
   ·exact .inl ⟨n+1,y,F2,h2,.inr ⟨F1,h1,hx,k⟩,q⟩
   ·exact .inr ⟨y,F2,h2,exec_seq_n hx hy,k⟩
  |_=>
   simp only[ToPan] at k
   exact .inr ⟨_,F1,h1,exec_seq_x hx (by simp),k⟩
theorem pan_cond {y:Operand}{a b:Code}{t:Bool}(hc:codeAt body p=.cond y a b)(hy:ev C.G F y=(true,.bool t))
  (k:ToPan C f body Q (.code ((match t with|true=>0|false=>1)::p)::st) .normal F h):ToPan C f body Q (.code p::st) .normal F h:=by
 have key:∀(i:Nat) (d:Code),codeAt body (i::p)=d→(∀m,exec C f m d F h=exec C f (m+1) (.cond y a b) F h)→(∀n x F' h',PanC C Q.pf n f d F h x F' h'→PanC C Q.pf (n+1) f (.cond y a b) F h x F' h')→ToPan C f body Q (.code (i::p)::st) .normal F h→ToPan C f body Q (.code p::st) .normal F h:=by
  intro i d h0 h1 h2 k;simp only[ToPan,h0,hc] at k⊢
  rcases k with ⟨n,x,F1,h1',k,q⟩|⟨x,F1,h1',⟨n0,hx⟩,k⟩
  ·exact .inl ⟨n+1,x,F1,h1',h2 _ _ _ _ k,q⟩
  ·refine .inr ⟨x,F1,h1',⟨n0+1,fun n hn=> ?_⟩,k⟩
   obtain⟨m,rfl⟩:∃m,n=m+1:=⟨n-1,by omega⟩
   rw[←h1]
   exact hx m (by omega)
 cases t with
 |true=>exact key 0 a (by simp[codeAt,child,hc]) (fun m=>by simp only[exec,hy]) (fun n x F' h' k=>⟨true,hy,k⟩) k
 |false=>exact key 1 b (by simp[codeAt,child,hc]) (fun m=>by simp only[exec,hy]) (fun n x F' h' k=>⟨false,hy,k⟩) k
theorem exec_block_e {id:Nat}{a:Code}(h0:ExecR C f a F h (.exit id) F' h'):ExecR C f (.block id a) F h .normal F' h':=by
 obtain⟨n0,h0⟩:=h0
 refine⟨n0+1,fun n hn=> ?_⟩
 obtain⟨m,rfl⟩:∃m,n=m+1:=⟨n-1,by omega⟩
 simp only[exec,h0 m (by omega),Nat.beq_refl,cond_true]
theorem exec_block_x {id:Nat}{a:Code}{x:XT}(h0:ExecR C f a F h x F' h')(hx:∀i,x=.exit i→Nat.beq i id=false):ExecR C f (.block id a) F h x F' h':=by
 obtain⟨n0,h0⟩:=h0
 refine⟨n0+1,fun n hn=> ?_⟩
 obtain⟨m,rfl⟩:∃m,n=m+1:=⟨n-1,by omega⟩
 simp only[exec,h0 m (by omega)]
 cases x with
 |exit i=>simp only[hx i rfl,cond_false]
 |_=>rfl
theorem pan_block {id:Nat}{a:Code}(hc:codeAt body p=.block id a)(k:ToPan C f body Q (.code (0::p):: .block id::st) .normal F h):ToPan C f body Q (.code p::st) .normal F h:=by
 have h0:codeAt body (0::p)=a:=by simp[codeAt,child,hc]
 simp only[ToPan,h0,hc] at k⊢
 rcases k with ⟨n,x,F1,h1,k,q⟩|⟨x,F1,h1,hx,k⟩
 ·exact .inl ⟨n+1,x,F1,h1,k,q⟩
 ·cases x with
  |exit i=>
   simp only[ToPan] at k
   cases hb:Nat.beq i id with
   |true=>
    rw[hb] at k;have:=Nat.eq_of_beq_eq_true hb;subst this;exact .inr ⟨.normal,F1,h1,exec_block_e hx,k⟩
   |false=>
    rw[hb] at k
    exact .inr ⟨.exit i,F1,h1,exec_block_x hx (fun j e=>by injection e with e;subst e;exact hb),k⟩
  |_=>
   simp only[ToPan] at k
   exact .inr ⟨_,F1,h1,exec_block_x hx (fun j e=>by cases e),k⟩
theorem pan_loop {a:Code}(hc:codeAt body p=.loop a)(k:ToPan C f body Q (.code (0::p):: .loop p h.length::st) .normal F h):ToPan C f body Q (.code p::st) .normal F h:=by
 have h0:codeAt body (0::p)=a:=by simp[codeAt,child,hc]
 simp only[ToPan,h0,hc] at k⊢
 rcases k with ⟨n,x,F1,h1,k,q⟩|⟨x,F1,h1,hx,k⟩
 ·exact .inl ⟨n+1,x,F1,h1,.inl k,q⟩
 ·cases x with
  |normal=>
   simp only[ToPan,hc] at k
   rcases k with ⟨n,y,F2,h2,k,q⟩|⟨y,F2,h2,⟨m0,hy⟩,k⟩
   ·exact .inl ⟨n+1,y,F2,h2,.inr ⟨F1,h1,hx,k⟩,q⟩
   ·obtain⟨n0,hx⟩:=hx
    refine .inr ⟨y,F2,h2,⟨n0+m0+1,fun n hn=> ?_⟩,k⟩
    obtain⟨m,rfl⟩:∃m,n=m+1:=⟨n-1,by omega⟩
    have hy:=hy m (by omega)
    cases ht:C.trunc f<;>rw[ht] at hy<;>simp only[exec,hx m (by omega),ht]<;>exact hy
  |_=>
   simp only[ToPan] at k;obtain⟨n0,hx⟩:=hx
   refine .inr ⟨_,F1,h1,⟨n0+1,fun n hn=> ?_⟩,k⟩
   obtain⟨m,rfl⟩:∃m,n=m+1:=⟨n-1,by omega⟩
   simp only[exec,hx m (by omega)]
theorem pan_region {id:Nat}{ops:Array Oper}{draw:Bool}(hc:codeAt body p=.region id ops draw)(hall:(draw&&C.allD f id)=false)(hdf:((!C.dfr f&&hasDef ops.toList)||(draw&& !lsOk ops.toList (resF (resL ops draw) h.length ((C.live f id).map fun s=>(s,lk F s)))))=false)(k:ToPan C f body Q (.ops p 0::st) .normal (resF (resL ops draw) h.length ((C.live f id).map fun s=>(s,lk F s))) (resH (resL ops draw) h)):ToPan C f body Q (.code p::st) .normal F h:=by
 simp only[ToPan,hc,List.drop_zero] at k⊢
 rcases k with ⟨n,x,F1,h1,k,q⟩|⟨F1,h1,⟨n0,hx⟩,k⟩
 ·exact .inl ⟨n+1,x,F1,h1,⟨hall,hdf,k⟩,q⟩
 ·refine .inr ⟨.normal,F1,h1,⟨n0+1,fun n hn=> ?_⟩,k⟩
  obtain⟨m,rfl⟩:∃m,n=m+1:=⟨n-1,by omega⟩
  have:=hx m (by omega)
  simp only[exec,hall,hdf,this]
theorem drop_op {ops:Array Oper}{i:Nat}{o:Oper}(ho:ops[i]?=some o):ops.toList.drop i=o::ops.toList.drop (i+1):=by
 have hi:i<ops.toList.length:=by
  have:=(Array.getElem?_eq_some_iff.1 ho).1;simpa using this
 have hget:ops.toList[i]=o:=by
  have:=(Array.getElem?_eq_some_iff.1 ho).2;simpa using this
 rw[List.drop_eq_getElem_cons hi,hget]
theorem pan_op {i id:Nat}{ops:Array Oper}{draw:Bool}{o:Oper}{e:Bool×AV}(hc:codeAt body p=.region id ops draw)(ho:ops[i]?=some o)
  (hs:∃n0,∀n,n0≤n→stepOp C (call C (drawI C ops draw i) n) ops (drawI C ops draw i) o F h=.ok (e,h')) (hm:midOk C ops draw i F h h'=true) (k:ToPan C f body Q (.ops p (i+1)::st) .normal (putF F (dstW (drawI C ops draw i) o) e) h'):ToPan C f body Q (.ops p i::st) .normal F h:=by
 simp only[ToPan,hc] at k⊢;rw[drop_op ho]
 rcases k with ⟨n,x,F1,h1,k,q⟩|⟨F1,h1,⟨m0,hx⟩,k⟩
 ·exact .inl ⟨n,x,F1,h1,.inr ⟨e,h',hs,hm,k⟩,q⟩
 ·obtain⟨n0,hs⟩:=hs
  refine .inr ⟨F1,h1,⟨n0+m0,fun n hn=> ?_⟩,k⟩
  simp only[execReg,hs n (by omega),hm]
  exact hx n (by omega)
theorem pan_here {i id:Nat}{ops:Array Oper}{draw:Bool}{o:Oper}(hc:codeAt body p=.region id ops draw)(ho:ops[i]?=some o)(hdi:drawI C ops draw i=false)(hg:guardOf ops F o=some true){n:Nat}{x:PX}
  (hp:PanO C (PanK C Q.pf n) o F h x h') (hq:Q.p (panF draw F) x h'):ToPan C f body Q (.ops p i::st) .normal F h:=by
 simp only[ToPan,hc];rw[drop_op ho];exact .inl ⟨n,x,_,h',.inl ⟨hdi,hg,rfl,hp⟩,hq⟩
theorem pan_ops_end {i id:Nat}{ops:Array Oper}{draw:Bool}(hc:codeAt body p=.region id ops draw)(ho:ops[i]?=none)(k:ToPan C f body Q st .normal F h):ToPan C f body Q (.ops p i::st) .normal F h:=by
 simp only[ToPan,hc]
 refine .inr ⟨F,h,⟨0,fun n _=> ?_⟩,k⟩
 have:ops.toList.length≤i:=by
  have:=Array.getElem?_eq_none_iff.1 ho;simpa using this
 rw[List.drop_of_length_le this];rfl
theorem lk_map_live {F:Fr}{ls:List Nat}{s:Nat}(hs:s∈ls):lk (ls.map fun t=>(t,lk F t)) s=lk F s:=by
 have:=List.map_inj_left.1 (lk_restrict F ls) s hs;simpa using this
theorem cutF_strip (c:Code)(m:Nat)(h:Hp)(F:Fr):cutF C f c (stripF m h (cutF C f c F))=cutF C f c (stripF m h F):=by
 cases hr:firstReg c with
 |none=>simp only[cutF,hr]
 |some id=>
  simp only[cutF,hr]
  refine List.map_congr_left fun s hs=> ?_
  rw[lk_stripF,lk_stripF,lk_map_live hs]
theorem panC_cutF {PF:PFun}{n:Nat}{c:Code}{F:Fr}{h:Hp}{x:PX}{F':Fr}{h':Hp}:PanC C PF n f c (cutF C f c F) h x F' h'↔PanC C PF n f c F h x F' h':=by
 have key:∀(n:Nat) (c:Code) (F:Fr) (id:Nat),firstReg c=some id→(PanC C PF n f c ((C.live f id).map fun s=>(s,lk F s)) h x F' h'↔PanC C PF n f c F h x F' h'):=by
  intro n
  induction n with
  |zero=>intro c F id _;simp[PanC]
  |succ n ih=>
   intro c F id hc
   cases c<;>simp only[firstReg] at hc
   case seq a b=>
    simp only[PanC,ih a F id hc]
    have:∀x1 F1 h1,ExecR C f a ((C.live f id).map fun s=>(s,lk F s)) h x1 F1 h1↔ExecR C f a F h x1 F1 h1:=fun x1 F1 h1=>by simp only[ExecR,exec_restrict _ a F h hc]
    simp only[this]
   case block i a=>simp only[PanC,ih a F id hc]
   case loop a=>
    simp only[PanC,ih a F id hc]
    have:∀x1 F1 h1,ExecR C f a ((C.live f id).map fun s=>(s,lk F s)) h x1 F1 h1↔ExecR C f a F h x1 F1 h1:=fun x1 F1 h1=>by simp only[ExecR,exec_restrict _ a F h hc]
    simp only[this]
   case region i ops draw=>
    injection hc with hc
    subst hc;simp only[PanC,lk_restrict]
   all_goals cases hc
 unfold cutF;split
 ·exact key n c F _ (by assumption)
 ·exact Iff.rfl
theorem pan_cutF (k:ToPan C f body Q (.code p::st) .normal (cutF C f (codeAt body p) F) h):ToPan C f body Q (.code p::st) .normal F h:=by
 simp only[ToPan] at k⊢
 rcases k with ⟨n,x,F1,h1,k,q⟩|⟨x,F1,h1,⟨n0,hx⟩,k⟩
 ·exact .inl ⟨n,x,F1,h1,panC_cutF.1 k,q⟩
 ·exact .inr ⟨x,F1,h1,⟨n0,fun n hn=>by rw[←exec_cutF n _ F h];exact hx n hn⟩,k⟩
end
def doOpP (C:Cfg)(T:TabP)(draw:Bool)(F:Fr)(h:Hp)(o:Oper)(next:(Bool×AV)→Hp→Prop)(pan:Bool→PX→Hp→Prop):Prop:=
 match o.op with
 |.call {callee:=.value x,args,argTypes:=_}=>
  match ev C.G F x,evs C.G F args.toList with
  |(true,.fn (.func k) first cap),(true,vs)=>
   match C.ident k,first++vs++cap with
   |true,[v]=>next (true,v) h
   |true,_=>False
   |false,l=>
    match draw&&((C.hprim k).isSome||C.heap k) with
    |true=>False
    |false=>match T.p k with
     |some t=>t (argsOf C k l) h (fun v h'=>next (true,v) h') (fun x h'=>pan (!draw) x h')
     |none=>match T.t k with
      |some t=>t (argsOf C k l) h fun v h'=>next (true,v) h'
      |none=>False
  |_,_=>False
 |.defer {callee:=.value x,args,argTypes:=_}=>
  match draw|| !isDef o||o.dst.isSome|| !args.toList.isEmpty,ev C.G F x,lk F dS with
  |false,(true,.fn f first cap),(_,.dfr l)=>next (true,.dfr (.fn f first cap::l)) h
  |_,_,_=>False
 |_=>
  match evalX C (draw||o.guard.isSome) F h o with
  |some (g,e,h')=>gAnd g (next e h')
  |none=>False
def doOpSP (C:Cfg)(T:TabP)(draw:Bool)(F:Fr)(h:Hp)(o:Oper)(s:Option (List Sh))(next:(Bool×AV)→Hp→Prop)(pan:Bool→PX→Hp→Prop):Prop:=
 match s with
 |some s=>match isLoad o.op with
  |true=>loadS C F h o s next
  |false=>match isMake o.op with
   |true=>makeS C F h o next
   |false=>indexS C draw F h o s next
 |none=>doOpP C T draw F h o next pan
def doTwoSP (C:Cfg)(T:TabP)(draw:Bool)(ops:Array Oper)(F:Fr)(h:Hp)(o:Oper)(s:Option (List Sh))(next:(Bool×AV)→Hp→Prop)(pan:Bool→PX→Hp→Prop):Prop:=
 match twoG C.P draw ops o F h with
 |some (.ok (e,h'))=>next e h'
 |some (.error _)=>False
 |none=>doOpSP C T draw F h o s next pan
def unrP (C:Cfg)(f:FuncId)(body:Code)(T:TabP)(pl:Plan)(Q:QP):Nat→List Fm→XT→Fr→Hp→Prop
 |0,st,x,F,h=>ToE C f body Q st x F h
 |n+1,[],x,F,h=>match isEnd x with|true=>Q.q F h|false=>False
 |n+1,.code p::st,.normal,F,h=>
  match inCuts pl.cuts p with
  |true=>ToE C f body Q (.code p::st) .normal (cutF C f (codeAt body p) F) h
  |false=>
   match codeAt body p with
   |.skip=>unrP C f body T pl Q n st .normal F h
   |.ret=>unrP C f body T pl Q n st .ret F h
   |.exit id=>unrP C f body T pl Q n st (.exit id) F h
   |.seq _ _=>unrP C f body T pl Q n (.code (0::p):: .code (1::p)::st) .normal F h
   |.cond y _ _=>
    match ev C.G F y with
    |(true,.bool b)=>ifP b (unrP C f body T pl Q n (.code (0::p)::st) .normal (setO F y true) h) (unrP C f body T pl Q n (.code (1::p)::st) .normal (setO F y false) h)
    |_=>False
   |.block id _=>unrP C f body T pl Q n (.code (0::p):: .block id::st) .normal F h
   |.loop _=>unrP C f body T pl Q n (.code (0::p):: .loop p h.length::st) .normal F h
   |.region id ops draw=>match draw&&C.allD f id with
    |true=>False
    |false=>match(!C.dfr f&&hasDef ops.toList)||(draw&& !lsOk ops.toList (resF (resL ops draw) h.length ((C.live f id).map fun s=>(s,lk F s)))) with
    |true=>False
    |false=>unrP C f body T pl Q n (.ops p 0::st) .normal (resF (resL ops draw) h.length ((C.live f id).map fun s=>(s,lk F s))) (resH (resL ops draw) h)
   |_=>False
 |n+1,.loop p m::st,.normal,F,h=>match C.trunc f with
  |false=>unrP C f body T pl Q n (.code p::st) .normal F h
  |true=>match C.truncS f with
   |true=>unrP C f body T pl Q n (.code p::st) .normal (stripF m h (cutF C f (codeAt body p) F)) ((h.take m).map (stripB m h))
   |false=>gAnd (lowF m (topF m (cutF C f (codeAt body p) F))&&lowBs m (topBs m (h.take m)))
    (unrP C f body T pl Q n (.code p::st) .normal (topF m (cutF C f (codeAt body p) F)) (topBs m (h.take m)))
 |n+1,.block id::st,.exit i,F,h=>match Nat.beq i id with|true=>unrP C f body T pl Q n st .normal F h|false=>unrP C f body T pl Q n st (.exit i) F h
 |n+1,.scope p::st,.goto l,F,h=>False
 |n+1,.ops p i::st,.normal,F,h=>
  match codeAt body p with
  |.region _ ops draw=>
   match ops[i]? with
   |none=>unrP C f body T pl Q n st .normal F h
   |some o=>
    match o.guard with
    |none=>doTwoSP C T (drawI C ops draw i) ops F h o (lookSh pl.shapes p i) (fun e h'=>MidP C ops draw i F h h' (unrP C f body T pl Q n (.ops p (i+1)::st) .normal (putF F (dstW (drawI C ops draw i) o) e) h')) fun g x h'=>gAnd g (Q.p (panF draw F) x h')
    |some (j,want)=>
     match(ops[j]?).bind (·.dst) with
     |none=>False
     |some d=>
      match lk F d with
      |(true,.bool b)=>
       ifP b
        (match want with
        |true=>doTwoSP C T (drawI C ops draw i) ops (setF F d true) h o (lookSh pl.shapes p i) (fun e h'=>unrP C f body T pl Q n (.ops p (i+1)::st) .normal (putF (setF F d true) o.dst e) h') fun g x h'=>gAnd g (Q.p (panF draw (setF F d true)) x h')
        |false=>unrP C f body T pl Q n (.ops p (i+1)::st) .normal (putF (setF F d true) o.dst (false,.top)) h)
        (match want with
        |true=>unrP C f body T pl Q n (.ops p (i+1)::st) .normal (putF (setF F d false) o.dst (false,.top)) h
        |false=>doTwoSP C T (drawI C ops draw i) ops (setF F d false) h o (lookSh pl.shapes p i) (fun e h'=>unrP C f body T pl Q n (.ops p (i+1)::st) .normal (putF (setF F d false) o.dst e) h') fun g x h'=>gAnd g (Q.p (panF draw (setF F d false)) x h'))
      |(false,_)=>unrP C f body T pl Q n (.ops p (i+1)::st) .normal (putF F o.dst (false,.top)) h
      |_=>False
  |_=>False
 |n+1,_::st,x,F,h=>unrP C f body T pl Q n st x F h
section
variable {C:Cfg}{f:FuncId}{body:Code}{T:TabP}{pl:Plan}{Q:QP}
def OpOut (C:Cfg)(PF:PFun)(draw:Bool)(F:Fr)(h:Hp)(o:Oper)(next:(Bool×AV)→Hp→Prop)(pan:Bool→PX→Hp→Prop):Prop:=
 (∃e h',(∃n0,∀n,n0≤n→stepGo C (call C draw n) draw o F h=.ok (e,h'))∧next e h')∨∃n x h',PanO C (PanK C PF n) o F h x h'∧pan (!draw) x h'
theorem doOpP_ok {PF:PFun}(hT:TabPOk C PF T){draw:Bool}{F:Fr}{h:Hp}{o:Oper}{next:(Bool×AV)→Hp→Prop}{pan:Bool→PX→Hp→Prop}(hd:doOpP C T draw F h o next pan):OpOut C PF draw F h o next pan:=by
 unfold doOpP at hd;split at hd
 ·rename_i x args ts hop;split at hd
  ·rename_i k first cap vs hx hvs
   split at hd
   ·rename_i v hid hl
    refine .inl ⟨(true,v),h,⟨0,fun n _=> ?_⟩,hd⟩
    simp only[stepGo,hop,hx,hvs,hid,hl]
   ·exact hd.elim
   ·rename_i hid;split at hd
    ·exact hd.elim
    ·rename_i hdr
     have ret:∀{v h'},CallR C false k (first++vs++cap) h v h'→next (true,v) h'→OpOut C PF draw F h o next pan:=fun {v h'} hc hn=>by
      obtain⟨n0,hc⟩:=hc
      refine .inl ⟨(true,v),h',⟨n0,fun n hn=> ?_⟩,hn⟩
      have hcl:call C draw n k (first++vs++cap) h=.ok (v,h'):=by
       cases draw with
       |false=>exact hc n hn
       |true=>rw[call_draw (by simpa using hdr)];exact hc n hn
      simp only[stepGo,hop,hx,hvs,hid,hcl]
     cases htp:T.p k with
     |some t=>
      rw[htp] at hd
      rcases hT.p k t htp _ _ _ _ hd with ⟨v,h',hc,hn⟩|⟨n,y,h',hk,hn⟩
      ·exact ret hc hn
      ·refine .inr ⟨n,y,h',?_,hn⟩;unfold PanO;simp only[hop]
       exact⟨k,first,cap,vs,hx,hvs,hid,hk⟩
     |none=>
      rw[htp] at hd;simp only at hd
      cases ht:T.t k with
      |none=>rw[ht] at hd;exact hd.elim
      |some t=>
       rw[ht] at hd;obtain⟨v,h',hc,hn⟩:=hT.t k t ht _ _ _ hd;exact ret hc hn
  ·exact hd.elim
 ·rename_i x args ts hop;split at hd
  ·rename_i fn first cap b l hc hx hl
   refine .inl ⟨_,h,⟨0,fun n _=> ?_⟩,hd⟩
   simp only[stepGo,hop,hc,hx,hl]
  ·exact hd.elim
 ·rename_i hop hop2;split at hd
  ·rename_i g e h' hev;obtain⟨rfl,hn⟩:=gAnd_elim hd
   refine .inl ⟨e,h',⟨0,fun n _=> ?_⟩,hn⟩
   obtain⟨dst,op,ty,pos,after,gd⟩:=o;unfold stepGo;split
   ·rename_i x args ts hop';exact absurd hop' (hop x args ts)
   ·rename_i x args ts hop';exact absurd hop' (hop2 x args ts)
   ·simp only[hev]
  ·exact hd.elim
theorem doOpSP_ok {PF:PFun}(hT:TabPOk C PF T){draw:Bool}{F:Fr}{h:Hp}{o:Oper}{s:Option (List Sh)}{next:(Bool×AV)→Hp→Prop}{pan:Bool→PX→Hp→Prop}(hd:doOpSP C T draw F h o s next pan):OpOut C PF draw F h o next pan:=by
 cases s with
 |none=>exact doOpP_ok hT hd
 |some s=>
  simp only[doOpSP] at hd;split at hd
  ·exact .inl (loadS_ok hd)
  ·split at hd
   ·exact .inl (makeS_ok hd)
   ·exact .inl (indexS_ok hd)
theorem doTwoSP_ok {PF:PFun}(hT:TabPOk C PF T){draw:Bool}{ops:Array Oper}{F:Fr}{h:Hp}{o:Oper}{s:Option (List Sh)}{next:(Bool×AV)→Hp→Prop}{pan:Bool→PX→Hp→Prop}(hd:doTwoSP C T draw ops F h o s next pan):
  (∃e h',(∃n0,∀n,n0≤n→(match twoG C.P draw ops o F h with|some r=>r|none=>stepGo C (call C draw n) draw o F h)=.ok (e,h'))∧next e h')∨∃n x h',PanO C (PanK C PF n) o F h x h'∧pan (!draw) x h':=by
 unfold doTwoSP at hd
 cases htw:twoG C.P draw ops o F h with
 |none=>rw[htw] at hd;exact doOpSP_ok hT hd
 |some r=>
  rw[htw] at hd
  cases r with
  |error x=>exact hd.elim
  |ok r=>exact .inl ⟨r.1,r.2,⟨0,fun n _=>rfl⟩,hd⟩
theorem unrP_ok (hT:TabPOk C Q.pf T):∀(n:Nat) (st:List Fm) (x:XT) (F:Fr) (h:Hp),unrP C f body T pl Q n st x F h→ToE C f body Q st x F h:=by
 intro n
 induction n with
 |zero=>intro st x F h hu;exact hu
 |succ n ih=>
  intro st x F h hu
  cases st with
  |nil=>
   simp only[unrP] at hu;split at hu
   ·exact .inl ⟨by assumption,hu⟩
   ·exact hu.elim
  |cons fm st=>
   have pass:(∀p m i,¬(fm=.code p∧x=.normal)∧¬(fm=.loop p m∧x=.normal)∧¬(fm=.ops p m∧x=.normal)∧¬(fm=.block m∧x=.exit i)∧¬(fm=.scope p∧x=.goto i))→ToE C f body Q st x F h→ToE C f body Q (fm::st) x F h:=by
    intro hn k
    cases fm<;>cases x<;>first
     |exact k.imp (fun k=>by simpa only[ToEnd] using k) (fun k=>by simpa only[ToPan] using k)
     |exact absurd ⟨rfl,rfl⟩ (hn _ 0 0).1
     |exact absurd ⟨rfl,rfl⟩ (hn _ _ 0).2.1
     |exact absurd ⟨rfl,rfl⟩ (hn _ _ 0).2.2.1
     |exact absurd ⟨rfl,rfl⟩ (hn [] _ _).2.2.2.1
     |exact absurd ⟨rfl,rfl⟩ (hn _ 0 _).2.2.2.2
   cases fm with
   |code p=>
    cases x with
    |normal=>
     simp only[unrP] at hu;split at hu
     ·exact hu.imp fin_cutF pan_cutF
     ·split at hu
      ·rename_i hc
       exact toe_code (exec1 fun m=>by rw[hc];rfl) (ih _ _ _ _ hu)
      ·rename_i hc
       exact toe_code (exec1 fun m=>by rw[hc];rfl) (ih _ _ _ _ hu)
      ·rename_i hc
       exact toe_code (exec1 fun m=>by rw[hc];rfl) (ih _ _ _ _ hu)
      ·rename_i hc;exact(ih _ _ _ _ hu).imp (fin_seq hc) (pan_seq hc)
      ·rename_i y a b hc;split at hu
       ·rename_i t hy
        have hset:setO F y t=F:=by
         cases y with
         |tmp s=>exact setF_eq hy
         |_=>rfl
        cases t with
        |true=>simp only[ifP] at hu;rw[hset] at hu;exact(ih _ _ _ _ hu).imp (fin_cond (t:=true) hc hy) (pan_cond (t:=true) hc hy)
        |false=>simp only[ifP] at hu;rw[hset] at hu;exact(ih _ _ _ _ hu).imp (fin_cond (t:=false) hc hy) (pan_cond (t:=false) hc hy)
       ·exact hu.elim
      ·rename_i hc;exact(ih _ _ _ _ hu).imp (fin_block hc) (pan_block hc)
      ·rename_i hc;exact(ih _ _ _ _ hu).imp (fin_loop hc) (pan_loop hc)
      ·rename_i hc;split at hu
       ·exact hu.elim
       ·rename_i hall;split at hu
        ·exact hu.elim
        ·rename_i hdf;exact(ih _ _ _ _ hu).imp (fin_region hc hall hdf) (pan_region hc hall hdf)
      ·exact hu.elim
    |_=>
     simp only[unrP] at hu
     exact pass (fun p m i=>by simp) (ih _ _ _ _ hu)
   |block id=>
    cases x with
    |exit i=>
     simp only[unrP] at hu
     cases hb:Nat.beq i id with
     |true=>
      rw[hb] at hu
      exact(ih _ _ _ _ hu).imp (fun k=>by simp only[ToEnd,hb,cond_true];exact k) (fun k=>by simp only[ToPan,hb,cond_true];exact k)
     |false=>
      rw[hb] at hu
      exact(ih _ _ _ _ hu).imp (fun k=>by simp only[ToEnd,hb,cond_false];exact k) (fun k=>by simp only[ToPan,hb,cond_false];exact k)
    |_=>
     simp only[unrP] at hu
     exact pass (fun p m i=>by simp) (ih _ _ _ _ hu)
   |loop p m=>
    cases x with
    |normal=>
     simp only[unrP] at hu
     cases ht:C.trunc f with
     |false=>
      rw[ht] at hu
      refine(ih (.code p::st) .normal F h hu).imp (fun k=> ?_) fun k=> ?_
      ·simp only[ToEnd,ht];exact k
      ·simp only[ToPan,ht];exact k
     |true=>
      rw[ht] at hu;simp only at hu
      have hk:ToE C f body Q (.code p::st) .normal (stripF m h (cutF C f (codeAt body p) F)) ((h.take m).map (stripB m h)):=by
       cases hts:C.truncS f with
       |true=>rw[hts] at hu;exact ih (.code p::st) .normal _ _ hu
       |false=>
        rw[hts] at hu;obtain⟨hl,hu⟩:=gAnd_elim hu;rw[Bool.and_eq_true] at hl;have hk:=ih (.code p::st) .normal _ _ hu;rw[←topF_eq m h hl.1,←topBs_eq m h hl.2] at hk;exact hk
      refine hk.imp (fun hk=> ?_) fun hk=> ?_
      ·simp only[ToEnd,ht];obtain⟨x1,F1,h1,⟨n0,hx⟩,k⟩:=hk
       refine⟨x1,F1,h1,⟨n0,fun n hn=> ?_⟩,k⟩
       rw[←hx n hn];exact(exec_cutS n _ m h F _).symm
      ·simp only[ToPan,ht] at hk⊢;have hcut:=cutF_strip (C:=C) (f:=f) (codeAt body p) m h F
       rcases hk with ⟨n,y,F1,h1,k,q⟩|⟨x1,F1,h1,⟨n0,hx⟩,k⟩
       ·refine .inl ⟨n,y,F1,h1,?_,q⟩;rw[←panC_cutF,hcut,panC_cutF] at k;exact k
       ·refine .inr ⟨x1,F1,h1,⟨n0,fun n hn=> ?_⟩,k⟩
        rw[←hx n hn];exact(exec_cutS n _ m h F _).symm
    |_=>
     simp only[unrP] at hu
     exact pass (fun p m i=>by simp) (ih _ _ _ _ hu)
   |scope p=>
    cases x with
    |goto l=>simp only[unrP] at hu
    |_=>
     simp only[unrP] at hu
     exact pass (fun p m i=>by simp) (ih _ _ _ _ hu)
   |ops p i=>
    cases x with
    |normal=>
     simp only[unrP] at hu;split at hu
     ·rename_i id ops draw hc;split at hu
      ·rename_i ho;exact(ih _ _ _ _ hu).imp (fin_ops_end hc ho) (pan_ops_end hc ho)
      ·rename_i o ho
       have fit:∀F,guardOf ops F o=some true→∀{m y h'},PanO C (PanK C Q.pf m) o F h y h'→gAnd (!(drawI C ops draw i)) (Q.p (panF draw F) y h')→ToE C f body Q (.ops p i::st) .normal F h:=by
        intro F hg m y h' hp hn;obtain⟨hdr,hq⟩:=gAnd_elim hn;simp only[Bool.not_eq_true'] at hdr;exact .inr (pan_here hc ho hdr hg hp hq)
       have done:∀F,guardOf ops F o=some true→doTwoSP C T (drawI C ops draw i) ops F h o (lookSh pl.shapes p i) (fun e h'=>MidP C ops draw i F h h' (unrP C f body T pl Q n (.ops p (i+1)::st) .normal (putF F (dstW (drawI C ops draw i) o) e) h')) (fun g x h'=>gAnd g (Q.p (panF draw F) x h'))→ToE C f body Q (.ops p i::st) .normal F h:=by
        intro F hg hd
        rcases doTwoSP_ok (ops:=ops) hT hd with ⟨e,h',⟨n0,hs⟩,hn⟩|⟨m,y,h',hp,hn⟩
        ·obtain⟨hm,hn⟩:=midP_ok hn
         have hs':∃n0,∀n,n0≤n→stepOp C (call C (drawI C ops draw i) n) ops (drawI C ops draw i) o F h=.ok (e,h'):=⟨n0,fun n hn=>by simp only[stepOp,hg];exact hs n hn⟩
         exact(ih _ _ _ _ hn).imp (fin_op hc ho hs' hm) (pan_op hc ho hs' hm)
        ·exact fit F hg hp hn
       have doneG:∀F,o.guard.isSome=true→guardOf ops F o=some true→doTwoSP C T (drawI C ops draw i) ops F h o (lookSh pl.shapes p i) (fun e h'=>unrP C f body T pl Q n (.ops p (i+1)::st) .normal (putF F (dstW (drawI C ops draw i) o) e) h') (fun g x h'=>gAnd g (Q.p (panF draw F) x h'))→ToE C f body Q (.ops p i::st) .normal F h:=by
        intro F hgs hg hd
        rcases doTwoSP_ok (ops:=ops) hT hd with ⟨e,h',⟨n0,hs⟩,hn⟩|⟨m,y,h',hp,hn⟩
        ·have hs':∃n0,∀n,n0≤n→stepOp C (call C (drawI C ops draw i) n) ops (drawI C ops draw i) o F h=.ok (e,h'):=⟨n0,fun n hn=>by simp only[stepOp,hg];exact hs n hn⟩
         exact(ih _ _ _ _ hn).imp (fin_op hc ho hs' (midOk_guard ho hgs)) (pan_op hc ho hs' (midOk_guard ho hgs))
        ·exact fit F hg hp hn
       have hdw:o.guard.isSome=true→dstW (drawI C ops draw i) o=o.dst:=by
        intro hgs
        have:isDef o=false:=by
         unfold isDef;split
         ·rename_i hgn;rw[hgn] at hgs;cases hgs
         ·rfl
        cases drawI C ops draw i<;>simp[dstW,this]
       have left:∀F,o.guard.isSome=true→guardOf ops F o=some false→unrP C f body T pl Q n (.ops p (i+1)::st) .normal (putF F o.dst (false,.top)) h→ToE C f body Q (.ops p i::st) .normal F h:=by
        intro F hgs hg hd;rw[←hdw hgs] at hd
        have hs':∃n0,∀n,n0≤n→stepOp C (call C (drawI C ops draw i) n) ops (drawI C ops draw i) o F h=.ok ((false,.top),h):=⟨0,fun n hn=>by simp only[stepOp,hg]⟩
        exact(ih _ _ _ _ hd).imp (fin_op hc ho hs' (midOk_guard ho hgs)) (pan_op hc ho hs' (midOk_guard ho hgs))
       split at hu
       ·rename_i hgd
        exact done F (by simp only[guardOf,hgd]) hu
       ·rename_i j want hgd
        have hgs:o.guard.isSome=true:=by rw[hgd];rfl
        rw[←hdw hgs] at hu;split at hu
        ·exact hu.elim
        ·rename_i d hj;split at hu
         ·rename_i b hl;have hset:=setF_eq hl
          have hg:guardOf ops F o=some (b==want):=by simp[guardOf,hgd,hj,hl]
          cases b with
          |true=>
           simp only[ifP] at hu;rw[hset] at hu
           cases want with
           |true=>exact doneG F hgs (by rw[hg];rfl) hu
           |false=>exact left F hgs (by rw[hg];rfl) (by rw[←hdw hgs];exact hu)
          |false=>
           simp only[ifP] at hu;rw[hset] at hu
           cases want with
           |true=>exact left F hgs (by rw[hg];rfl) (by rw[←hdw hgs];exact hu)
           |false=>exact doneG F hgs (by rw[hg];rfl) hu
         ·rename_i v hl
          refine left F hgs ?_ (by rw[←hdw hgs];exact hu)
          simp only[guardOf,hgd,hj,hl]
          cases v<;>rfl
         ·exact hu.elim
     ·exact hu.elim
    |_=>
     simp only[unrP] at hu
     exact pass (fun p m i=>by simp) (ih _ _ _ _ hu)
end
end Go.Ai
namespace Go.Ai
section
variable {C:Cfg}{f:FuncId}{body:Code}{T:TabP}{pl:Plan}{Q:QP}
theorem endsP_round (hT:TabPOk C Q.pf T)(n:Nat){p:List Nat}{st:List Fm}{F:Fr}{h:Hp}(hc:isLoop (codeAt body p)=true)(hu:unrP C f body T pl Q n (.code (0::p):: .loop p h.length::st) .normal F h):ToE C f body Q (.code p::st) .normal F h:=by
 cases hb:codeAt body p with
 |loop a=>exact(unrP_ok hT n _ _ _ _ hu).imp (fin_loop hb) (pan_loop hb)
 |_=>rw[hb] at hc;cases hc
theorem tabP_nil {PF:PFun}:∀p∈([]:List (Nat×ConP)),COkP C PF p.1 p.2:=fun _ h=>by cases h
theorem tabP_cons {PF:PFun}{k:Nat}{t:ConP}{l:List (Nat×ConP)}(h1:COkP C PF k t)(h2:∀p∈l,COkP C PF p.1 p.2):∀p∈(k,t)::l,COkP C PF p.1 p.2:=fun p hp=>by
 rcases List.mem_cons.1 hp with rfl|hp
 ·exact h1
 ·exact h2 p hp
def ctabP (l:List (Nat×Con))(m:List (Nat×ConP)):TabP:=⟨ctab l,fun f=>lookN f m⟩
theorem ctabP_ok {PF:PFun}{l:List (Nat×Con)}{m:List (Nat×ConP)}(h1:∀p∈l,COk C p.1 p.2)(h2:∀p∈m,COkP C PF p.1 p.2):TabPOk C PF (ctabP l m):=⟨ctab_ok h1,fun k t ht=>h2 (k,t) (lookN_mem ht)⟩
def retQ (P:Program)(fn:Func)(PF:PFun)(n:Nat)(K:AV→Hp→Prop)(KP:PX→Hp→Prop):QP:=⟨PF,RetIn P fn n K,fun _ x h'=>KP x ((h'.take n).map (stripB n h'))⟩
theorem cokP_heap {PF:PFun}{k:Nat}{fn:Func}{t:ConP}(hp:heapFn C k fn)(H:∀vs h K KP,t vs h K KP→ToE C k (bodyOf fn) (retQ C.P fn PF h.length K KP) [.code []] .normal (argFr 0 vs) h):COkP C PF k t:=by
 intro l h K KP ht;obtain⟨h1,h2,h3,h4,h5,h6⟩:=hp;simp only[Bool.and_eq_true,Bool.not_eq_true'] at h1
 have ha:argsOf C k l=l:=by simp[argsOf,h6]
 rw[ha] at ht
 rcases H _ _ _ _ ht with he|he
 ·exact .inl (call_fin_heap h1.1.1.1 h2 h3 h4 (body_some h5) h6 h1.1.1.2 h1.1.2 (Option.isNone_iff_eq_none.1 h1.2) (by rw[ha];exact he))
 ·right;simp only[ToPan,codeAt] at he
  rcases he with ⟨n,x,F',h',hx,hq⟩|⟨_,_,_,_,hf⟩
  ·exact⟨n+1,x,_,by
    simp only[PanK]
    exact .inr ⟨h1.1.1.1,h2,h3,h1.1.1.2,fn,_,h4,body_some h5,.inl ⟨h6,F',h',hx,rfl⟩⟩,hq⟩
  ·exact hf.elim
end
end Go.Ai
