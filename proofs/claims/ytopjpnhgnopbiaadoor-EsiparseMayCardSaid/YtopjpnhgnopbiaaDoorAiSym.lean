/-
  Symbolic runs of the evaluator: from a place in a body to the function's end. No statement about the program is made here.
-/
import Derived.Test.YtopjpnhgnopbiaaDoorAiPrims
set_option linter.unusedVariables false
set_option linter.unusedSimpArgs false
set_option linter.unnecessarySimpa false
namespace Go.Ai
open Go.RowKit
def gAnd (g:Bool)(p:Prop):Prop:=match g with|true=>p|false=>False
def ifP (b:Bool)(p q:Prop):Prop:=match b with|true=>p|false=>q
theorem gAnd_intro {g:Bool}{p:Prop}(h:g=true)(k:p):gAnd g p:=by subst h;exact k
theorem ifP_intro {b:Bool}{p q:Prop}(h:b=true→p)(k:b=false→q):ifP b p q:=by
 cases b
 ·exact k rfl
 ·exact h rfl
theorem gAnd_elim {g:Bool}{p:Prop}(h:gAnd g p):g=true∧p:=by
 cases g
 ·exact h.elim
 ·exact⟨rfl,h⟩
inductive Fm where
 |code (p:List Nat)
 |block (id:Nat)
 |loop (p:List Nat) (m:Nat)
 |scope (p:List Nat)
 |ops (p:List Nat) (i:Nat)
def bodyOf (f:Func):Code:=f.body.getD .skip
def child :Nat→Code→Code
 |l+2,c=>(findLabel c l).getD .skip
 |0,.seq a _=>a
 |1,.seq _ b=>b
 |0,.cond _ a _=>a
 |1,.cond _ _ b=>b
 |0,.block _ a=>a
 |0,.loop a=>a
 |0,.scope a=>a
 |_,_=>.skip
def codeAt (body:Code):List Nat→Code
 |[]=>body
 |i::p=>child i (codeAt body p)
def ExecR (C:Cfg)(f:FuncId)(c:Code)(F:Fr)(h:Hp)(x:XT)(F':Fr)(h':Hp):Prop:=∃n0,∀n,n0≤n→exec C f n c F h=.ok (x,F',h')
def ScopeR (C:Cfg)(f:FuncId)(c cur:Code)(F:Fr)(h:Hp)(x:XT)(F':Fr)(h':Hp):Prop:=∃n0,∀n,n0≤n→scopeGo C f n c cur F h=.ok (x,F',h')
def OpsR (C:Cfg)(ops:Array Oper)(draw:Bool)(i:Nat)(os:List Oper)(F:Fr)(h:Hp)(F':Fr)(h':Hp):Prop:=∃n0,∀n,n0≤n→execReg C (fun d=>call C d n) ops draw i os F h=.ok (F',h')
def CallR (C:Cfg)(draw:Bool)(k:FuncId)(vs:List AV)(h:Hp)(v:AV)(h':Hp):Prop:=∃n0,∀n,n0≤n→call C draw n k vs h=.ok (v,h')
def isEnd :XT→Bool
 |.normal|.ret=>true
 |_=>false
def ToEnd (C:Cfg)(f:FuncId)(body:Code)(Q:Fr→Hp→Prop):List Fm→XT→Fr→Hp→Prop
 |[],x,F,h=>isEnd x=true∧Q F h
 |.code p::st,.normal,F,h=>∃x F' h',ExecR C f (codeAt body p) F h x F' h'∧ToEnd C f body Q st x F' h'
 |.loop p m::st,.normal,F,h=>match C.trunc f with
  |true=>∃x F' h',ExecR C f (codeAt body p) (stripF m h F) ((h.take m).map (stripB m h)) x F' h'∧ToEnd C f body Q st x F' h'
  |false=>∃x F' h',ExecR C f (codeAt body p) F h x F' h'∧ToEnd C f body Q st x F' h'
 |.ops p i::st,.normal,F,h=>match codeAt body p with
  |.region _ ops draw=>∃F' h',OpsR C ops draw i (ops.toList.drop i) F h F' h'∧ToEnd C f body Q st .normal F' h'
  |_=>False
 |.block id::st,.exit i,F,h=>bif Nat.beq i id then ToEnd C f body Q st .normal F h else ToEnd C f body Q st (.exit i) F h
 |.scope p::st,.goto l,F,h=>match findLabel (codeAt body p) l with
  |some rest=>∃x F' h',ScopeR C f (codeAt body p) rest F h x F' h'∧ToEnd C f body Q st x F' h'
  |none=>ToEnd C f body Q st (.goto l) F h
 |_::st,x,F,h=>ToEnd C f body Q st x F h
section
variable {C:Cfg}{f:FuncId}{body:Code}{Q:Fr→Hp→Prop}{st:List Fm}{p:List Nat}{F F':Fr}{h h':Hp}
theorem fin_code {x:XT}(hc:ExecR C f (codeAt body p) F h x F' h')(k:ToEnd C f body Q st x F' h'):ToEnd C f body Q (.code p::st) .normal F h:=⟨x,F',h',hc,k⟩
theorem exec1 {c:Code}{x:XT}(hs:∀n,exec C f (n+1) c F h=.ok (x,F',h')):ExecR C f c F h x F' h':=⟨1,fun n hn=>by
 obtain⟨m,rfl⟩:∃m,n=m+1:=⟨n-1,by omega⟩
 exact hs m⟩
theorem fin_seq {a b:Code}(hc:codeAt body p=.seq a b)(k:ToEnd C f body Q (.code (0::p):: .code (1::p)::st) .normal F h):ToEnd C f body Q (.code p::st) .normal F h:=by
 obtain⟨x,F1,h1,⟨n0,hx⟩,k⟩:=k
 have h0:codeAt body (0::p)=a:=by simp[codeAt,child,hc]
 have h1':codeAt body (1::p)=b:=by simp[codeAt,child,hc]
 rw[h0] at hx
 cases x with
 |normal=>
  obtain⟨x2,F2,h2,⟨m0,hy⟩,k⟩:=k;rw[h1'] at hy
  refine fin_code ⟨n0+m0+1,fun n hn=> ?_⟩ k
  obtain⟨m,rfl⟩:∃m,n=m+1:=⟨n-1,by omega⟩
  rw[hc]
  simp only[exec,hx m (by omega),hy m (by omega)]
 |_=>
  simp only[ToEnd] at k
  refine fin_code ⟨n0+1,fun n hn=> ?_⟩ k
  obtain⟨m,rfl⟩:∃m,n=m+1:=⟨n-1,by omega⟩
  rw[hc]
  simp only[exec,hx m (by omega)]
theorem fin_cond {y:Operand}{a b:Code}{t:Bool}(hc:codeAt body p=.cond y a b)(hy:ev C.G F y=(true,.bool t))
  (k:ToEnd C f body Q (.code ((match t with|true=>0|false=>1)::p)::st) .normal F h):ToEnd C f body Q (.code p::st) .normal F h:=by
 obtain⟨x,F1,h1,⟨n0,hx⟩,k⟩:=k
 refine fin_code ⟨n0+1,fun n hn=> ?_⟩ k
 obtain⟨m,rfl⟩:∃m,n=m+1:=⟨n-1,by omega⟩
 have:=hx m (by omega)
 rw[hc];simp only[exec,hy]
 cases t<;>simpa[codeAt,child,hc] using this
theorem fin_block {id:Nat}{a:Code}(hc:codeAt body p=.block id a)(k:ToEnd C f body Q (.code (0::p):: .block id::st) .normal F h):ToEnd C f body Q (.code p::st) .normal F h:=by
 obtain⟨x,F1,h1,⟨n0,hx⟩,k⟩:=k
 have h0:codeAt body (0::p)=a:=by simp[codeAt,child,hc]
 rw[h0] at hx
 cases x with
 |exit i=>
  simp only[ToEnd] at k
  cases hb:Nat.beq i id with
  |true=>
   rw[hb] at k
   refine fin_code (x:=.normal) ⟨n0+1,fun n hn=> ?_⟩ k
   obtain⟨m,rfl⟩:∃m,n=m+1:=⟨n-1,by omega⟩
   rw[hc]
   simp only[exec,hx m (by omega),hb,cond_true]
  |false=>
   rw[hb] at k
   refine fin_code (x:=.exit i) ⟨n0+1,fun n hn=> ?_⟩ k
   obtain⟨m,rfl⟩:∃m,n=m+1:=⟨n-1,by omega⟩
   rw[hc]
   simp only[exec,hx m (by omega),hb,cond_false]
 |_=>
  simp only[ToEnd] at k
  refine fin_code ⟨n0+1,fun n hn=> ?_⟩ k
  obtain⟨m,rfl⟩:∃m,n=m+1:=⟨n-1,by omega⟩
  rw[hc]
  simp only[exec,hx m (by omega)]
theorem fin_loop {a:Code}(hc:codeAt body p=.loop a)(k:ToEnd C f body Q (.code (0::p):: .loop p h.length::st) .normal F h):ToEnd C f body Q (.code p::st) .normal F h:=by
 obtain⟨x,F1,h1,⟨n0,hx⟩,k⟩:=k
 have h0:codeAt body (0::p)=a:=by simp[codeAt,child,hc]
 rw[h0] at hx
 cases x with
 |normal=>
  simp only[ToEnd] at k
  cases ht:C.trunc f<;>rw[ht] at k<;>obtain⟨x2,F2,h2,⟨m0,hy⟩,k⟩:=k<;>rw[hc] at hy<;>refine fin_code ⟨n0+m0+1,fun n hn=> ?_⟩ k
  all_goals
   obtain⟨m,rfl⟩:∃m,n=m+1:=⟨n-1,by omega⟩
   rw[hc]
   simp only[exec,hx m (by omega),ht]
   exact hy m (by omega)
 |_=>
  simp only[ToEnd] at k
  refine fin_code ⟨n0+1,fun n hn=> ?_⟩ k
  obtain⟨m,rfl⟩:∃m,n=m+1:=⟨n-1,by omega⟩
  rw[hc]
  simp only[exec,hx m (by omega)]
theorem scope_run {c cur:Code}{q:List Nat}(hq:codeAt body q=c){x:XT}{F1:Fr}{h1:Hp}(hx:ExecR C f cur F h x F1 h1)(k:ToEnd C f body Q (.scope q::st) x F1 h1):
  ∃x F' h',ScopeR C f c cur F h x F' h'∧ToEnd C f body Q st x F' h':=by
 obtain⟨n0,hx⟩:=hx
 cases x with
 |goto l=>
  simp only[ToEnd,hq] at k
  cases hf:findLabel c l with
  |none=>
   rw[hf] at k
   refine⟨.goto l,F1,h1,⟨n0+1,fun n hn=> ?_⟩,k⟩
   obtain⟨m,rfl⟩:∃m,n=m+1:=⟨n-1,by omega⟩
   simp only[scopeGo,hx m (by omega),hf]
  |some rest=>
   rw[hf] at k;obtain⟨x2,F2,h2,⟨m0,hy⟩,k⟩:=k
   refine⟨x2,F2,h2,⟨n0+m0+1,fun n hn=> ?_⟩,k⟩
   obtain⟨m,rfl⟩:∃m,n=m+1:=⟨n-1,by omega⟩
   simp only[scopeGo,hx m (by omega),hf]
   exact hy m (by omega)
 |_=>
  simp only[ToEnd] at k
  refine⟨_,F1,h1,⟨n0+1,fun n hn=> ?_⟩,k⟩
  obtain⟨m,rfl⟩:∃m,n=m+1:=⟨n-1,by omega⟩
  simp only[scopeGo,hx m (by omega)]
theorem fin_scope {a:Code}(hc:codeAt body p=.scope a)(k:ToEnd C f body Q (.code (0::p):: .scope (0::p)::st) .normal F h):ToEnd C f body Q (.code p::st) .normal F h:=by
 obtain⟨x,F1,h1,hx,k⟩:=k
 have h0:codeAt body (0::p)=a:=by simp[codeAt,child,hc]
 rw[h0] at hx;obtain⟨x2,F2,h2,⟨m0,hy⟩,k⟩:=scope_run h0 hx k
 refine fin_code ⟨m0+1,fun n hn=> ?_⟩ k
 obtain⟨m,rfl⟩:∃m,n=m+1:=⟨n-1,by omega⟩
 rw[hc];simp only[exec]
 exact hy m (by omega)
theorem fin_jump {l:Nat}(hf:(findLabel (codeAt body p) l).isSome=true)(k:ToEnd C f body Q (.code ((l+2)::p):: .scope p::st) .normal F h):ToEnd C f body Q (.scope p::st) (.goto l) F h:=by
 obtain⟨x,F1,h1,hx,k⟩:=k;simp only[ToEnd]
 cases hr:findLabel (codeAt body p) l with
 |none=>rw[hr] at hf;cases hf
 |some rest=>
  have h0:codeAt body ((l+2)::p)=rest:=by simp[codeAt,child,hr]
  rw[h0] at hx;exact scope_run rfl hx k
theorem fin_region_all {id:Nat}{ops:Array Oper}{draw:Bool}{G:Fr}{h':Hp}(hc:codeAt body p=.region id ops draw)(ha:(draw&&C.allD f id)=true)(hx:∃n0,∀n,n0≤n→execA C (fun d=>call C d n) ops ((C.live f id).map fun s=>(s,lk F s)) h=.ok (G,h'))
  (k:ToEnd C f body Q st .normal G h'):ToEnd C f body Q (.code p::st) .normal F h:=by
 obtain⟨n0,hx⟩:=hx
 refine fin_code (x:=.normal) ⟨n0+1,fun n hn=> ?_⟩ k
 obtain⟨m,rfl⟩:∃m,n=m+1:=⟨n-1,by omega⟩
 rw[hc]
 simp only[exec,ha,hx m (by omega)]
theorem fin_region {id:Nat}{ops:Array Oper}{draw:Bool}(hc:codeAt body p=.region id ops draw)(hall:(draw&&C.allD f id)=false)(hdf:((!C.dfr f&&hasDef ops.toList)||(draw&& !lsOk ops.toList (resF (resL ops draw) h.length ((C.live f id).map fun s=>(s,lk F s)))))=false)(k:ToEnd C f body Q (.ops p 0::st) .normal (resF (resL ops draw) h.length ((C.live f id).map fun s=>(s,lk F s))) (resH (resL ops draw) h)):ToEnd C f body Q (.code p::st) .normal F h:=by
 simp only[ToEnd,hc] at k;obtain⟨F1,h1,⟨n0,hx⟩,k⟩:=k
 refine fin_code (x:=.normal) ⟨n0+1,fun n hn=> ?_⟩ k
 obtain⟨m,rfl⟩:∃m,n=m+1:=⟨n-1,by omega⟩
 rw[hc]
 have:=hx m (by omega)
 simp only[List.drop_zero] at this;simp only[exec,hall,hdf,this]
theorem fin_op {i id:Nat}{ops:Array Oper}{draw:Bool}{o:Oper}{e:Bool×AV}(hc:codeAt body p=.region id ops draw)(ho:ops[i]?=some o)
  (hs:∃n0,∀n,n0≤n→stepOp C (call C (drawI C ops draw i) n) ops (drawI C ops draw i) o F h=.ok (e,h')) (hm:midOk C ops draw i F h h'=true) (k:ToEnd C f body Q (.ops p (i+1)::st) .normal (putF F (dstW (drawI C ops draw i) o) e) h'):ToEnd C f body Q (.ops p i::st) .normal F h:=by
 simp only[ToEnd,hc] at k⊢;obtain⟨n0,hs⟩:=hs;obtain⟨F1,h1,⟨m0,hx⟩,k⟩:=k
 refine⟨F1,h1,⟨n0+m0,fun n hn=> ?_⟩,k⟩
 have hi:i<ops.toList.length:=by
  have:=(Array.getElem?_eq_some_iff.1 ho).1;simpa using this
 have hget:ops.toList[i]=o:=by
  have:=(Array.getElem?_eq_some_iff.1 ho).2;simpa using this
 rw[List.drop_eq_getElem_cons hi,hget]
 simp only[execReg,hs n (by omega),hm]
 exact hx n (by omega)
theorem fin_ops_end {i id:Nat}{ops:Array Oper}{draw:Bool}(hc:codeAt body p=.region id ops draw)(ho:ops[i]?=none)(k:ToEnd C f body Q st .normal F h):ToEnd C f body Q (.ops p i::st) .normal F h:=by
 simp only[ToEnd,hc]
 refine⟨F,h,⟨0,fun n _=> ?_⟩,k⟩
 have:ops.toList.length≤i:=by
  have:=Array.getElem?_eq_none_iff.1 ho;simpa using this
 rw[List.drop_of_length_le this];rfl
end
section
variable {C:Cfg}{f:FuncId}
theorem lk_restrict (F:Fr)(ls:List Nat):(ls.map fun s=>(s,lk (ls.map fun s=>(s,lk F s)) s))=ls.map fun s=>(s,lk F s):=by
 have key:∀(ms:List Nat) s,s∈ms→lk (ms.map fun s=>(s,lk F s)) s=lk F s:=by
  intro ms
  induction ms with
  |nil=>intro s hs;cases hs
  |cons m ms ih=>
   intro s hs;simp only[List.map_cons,lk]
   cases hb:Nat.beq m s with
   |true=>rw[Nat.eq_of_beq_eq_true hb];rfl
   |false=>
    simp only[cond_false];refine ih s ?_
    rcases List.mem_cons.1 hs with e|e
    ·subst e;simp[Nat.beq_refl] at hb
    ·exact e
 refine List.map_congr_left fun s hs=> ?_
 rw[key ls s hs]
def firstReg :Code→Option Nat
 |.seq a _=>firstReg a
 |.block _ a=>firstReg a
 |.loop a=>firstReg a
 |.region id _ _=>some id
 |_=>none
theorem exec_restrict {id:Nat}:∀(n:Nat) (c:Code) (F:Fr) (h:Hp),firstReg c=some id→exec C f n c ((C.live f id).map fun s=>(s,lk F s)) h=exec C f n c F h:=by
 intro n
 induction n with
 |zero=>intro c F h _;rfl
 |succ n ih=>
  intro c F h hc
  cases c<;>simp only[firstReg] at hc
  case seq a b=>simp only[exec,ih a F h hc]
  case block i a=>simp only[exec,ih a F h hc]
  case loop a=>simp only[exec,ih a F h hc]
  case region i ops draw=>
   injection hc with hc
   subst hc;simp only[exec,lk_restrict]
  all_goals cases hc
end
def cutF (C:Cfg)(f:FuncId)(c:Code)(F:Fr):Fr:=match firstReg c with
 |some id=>(C.live f id).map fun s=>(s,lk F s)
 |none=>F
abbrev Tab :=FuncId→Option (List AV→Hp→(AV→Hp→Prop)→Prop)
def argsOf (C:Cfg)(k:FuncId)(l:List AV):List AV:=match(C.hprim k).isSome||C.heap k with|true=>l|false=>strips 0 [] l
def TabOk (C:Cfg)(T:Tab):Prop:=∀k t,T k=some t→∀l h K,t (argsOf C k l) h K→∃v h',CallR C false k l h v h'∧K v h'
def setF :Fr→Nat→Bool→Fr
 |[],_,_=>[]
 |(s,e)::r,d,b=>bif Nat.beq s d then(s,true,.bool b)::r else(s,e)::setF r d b
def setO (F:Fr)(y:Operand)(b:Bool):Fr:=match y with
 |.tmp t=>setF F t b
 |_=>F
theorem setF_eq :∀{F:Fr} {d:Nat} {b:Bool},lk F d=(true,.bool b)→setF F d b=F
 |[],d,b,h=>by simp[lk] at h
 |(s,e)::r,d,b,h=>by
  simp only[lk] at h;simp only[setF]
  cases hb:Nat.beq s d with
  |true=>rw[hb] at h;simp only[cond_true] at h⊢;rw[h]
  |false=>rw[hb] at h;simp only[cond_false] at h⊢;rw[setF_eq h]
mutual
def lowV (n:Nat):AV→Bool
 |.ptr b _=>Nat.blt b n
 |.osl b _ _ _=>Nat.blt b n
 |.itr b=>Nat.blt b n
 |.ssl b _ _ _ _=>Nat.blt b n
 |.spt b _ _ _=>Nat.blt b n
 |.slr b _ _ _ es=>Nat.blt b n&&lowVss n es
 |.mpv _ vs=>lowVss n vs
 |.ro cs=>lowVs n cs
 |.sl _ es own=>lowVss n es&&(match own with|some id=>Nat.blt id n|none=>true)
 |.fn _ a c=>lowVs n a&&lowVs n c
 |.iface _ v=>lowV n v
 |.agg cs=>lowVs n cs
 |.tup cs=>lowVs n cs
 |.dfr cs=>lowVs n cs
 |_=>true
def lowVs (n:Nat):List AV→Bool
 |[]=>true
 |v::r=>lowV n v&&lowVs n r
def lowVss (n:Nat):List (List AV)→Bool
 |[]=>true
 |v::r=>lowVs n v&&lowVss n r
end
mutual
theorem strip_low (n:Nat)(h:Hp):∀x,lowV n x=true→strip n h x=x
 |.top,_=>rfl
 |.bool _,_=>rfl
 |.int _ _,_=>rfl
 |.str _,_=>rfl
 |.nilp,_=>rfl
 |.ptr b o,hp=>by simp only[lowV] at hp;simp only[strip,hp,cond_true]
 |.ro cs,hp=>by rw[strip,strips_low n h cs (by simpa[lowV] using hp)]
 |.sl sz es own,hp=>by
  simp only[lowV,Bool.and_eq_true] at hp;rw[strip_sl,stripss_low n h es hp.1]
  cases own with
  |none=>rfl
  |some id=>simp only[keepId,hp.2,cond_true]
 |.osl b o l s,hp=>by simp only[lowV] at hp;simp only[strip,hp,cond_true]
 |.itr b,hp=>by simp only[lowV] at hp;simp only[strip,hp,cond_true]
 |.ssl b _ _ _ _,hp=>by simp only[lowV] at hp;simp only[strip,hp,cond_true]
 |.spt b _ _ _,hp=>by simp only[lowV] at hp;simp only[strip,hp,cond_true]
 |.slr b _ _ _ es,hp=>by
  simp only[lowV,Bool.and_eq_true] at hp;simp only[strip,hp.1,cond_true,stripss_low n h es hp.2]
 |.mpv _ vs,hp=>by rw[strip,stripss_low n h vs (by simpa[lowV] using hp)]
 |.fn f a c,hp=>by
  simp only[lowV,Bool.and_eq_true] at hp;rw[strip,strips_low n h a hp.1,strips_low n h c hp.2]
 |.nilf,_=>rfl
 |.iface t v,hp=>by rw[strip,strip_low n h v (by simpa[lowV] using hp)]
 |.nili,_=>rfl
 |.agg cs,hp=>by rw[strip,strips_low n h cs (by simpa[lowV] using hp)]
 |.tup cs,hp=>by rw[strip,strips_low n h cs (by simpa[lowV] using hp)]
 |.dfr cs,hp=>by rw[strip,strips_low n h cs (by simpa[lowV] using hp)]
theorem strips_low (n:Nat)(h:Hp):∀xs,lowVs n xs=true→strips n h xs=xs
 |[],_=>rfl
 |x::xs,hp=>by
  simp only[lowVs,Bool.and_eq_true] at hp;rw[strips,strip_low n h x hp.1,strips_low n h xs hp.2]
theorem stripss_low (n:Nat)(h:Hp):∀xs,lowVss n xs=true→stripss n h xs=xs
 |[],_=>rfl
 |x::xs,hp=>by
  simp only[lowVss,Bool.and_eq_true] at hp;rw[stripss,strips_low n h x hp.1,stripss_low n h xs hp.2]
end
def topT (n:Nat):AV→AV
 |.ptr b o=>match Nat.blt b n with|true=>.ptr b o|false=>.top
 |.osl b o l s=>match Nat.blt b n with|true=>.osl b o l s|false=>.top
 |.sl sz es (some id)=>match Nat.blt id n with|true=>.sl sz es (some id)|false=>.sl sz es none
 |v=>v
theorem strip_top (n:Nat)(h:Hp){v:AV}(hl:lowV n (topT n v)=true):strip n h v=topT n v:=by
 have key:∀v,lowV n v=true→topT n v=v→strip n h v=v:=fun v h1 _=>strip_low n h v h1
 cases v with
 |ptr b o=>
  simp only[topT,strip]
  cases Nat.blt b n<;>rfl
 |osl b o l s=>
  simp only[topT,strip]
  cases Nat.blt b n<;>rfl
 |sl sz es own=>
  cases own with
  |none=>exact strip_low n h _ hl
  |some id=>
   simp only[topT] at hl⊢;rw[strip_sl]
   cases hb:Nat.blt id n with
   |true=>
    rw[hb] at hl;simp only[lowV,Bool.and_eq_true] at hl;rw[stripss_low n h es hl.1];simp only[keepId,hb,cond_true]
   |false=>
    rw[hb] at hl;simp only[lowV,Bool.and_eq_true] at hl;rw[stripss_low n h es hl.1];simp only[keepId,hb,cond_false]
 |_=>exact strip_low n h _ hl
def topF (n:Nat):Fr→Fr
 |[]=>[]
 |e::r=>(e.1,e.2.1,topT n e.2.2)::topF n r
def lowF (n:Nat):Fr→Bool
 |[]=>true
 |e::r=>lowV n e.2.2&&lowF n r
def topVs (n:Nat):List AV→List AV
 |[]=>[]
 |v::r=>topT n v::topVs n r
def topB (n:Nat):Blk→Blk
 |.mem t cs=>.mem t (topVs n cs)
 |b=>b
def lowB (n:Nat):Blk→Bool
 |.mem _ cs=>lowVs n cs
 |.stk _ _ _ _ _ _ rows=>rows.all fun r=>lowVs n r.2
 |_=>true
def topBs (n:Nat):Hp→Hp
 |[]=>[]
 |b::r=>topB n b::topBs n r
def lowBs (n:Nat):Hp→Bool
 |[]=>true
 |b::r=>lowB n b&&lowBs n r
theorem topF_eq (n:Nat)(h:Hp):∀{F:Fr},lowF n (topF n F)=true→stripF n h F=topF n F
 |[],_=>rfl
 |e::r,hl=>by
  simp only[topF,lowF,Bool.and_eq_true] at hl;show(e.1,e.2.1,strip n h e.2.2)::stripF n h r=_;rw[strip_top n h hl.1,topF_eq n h hl.2,topF]
theorem topVs_eq (n:Nat)(h:Hp):∀{cs:List AV},lowVs n (topVs n cs)=true→strips n h cs=topVs n cs
 |[],_=>rfl
 |v::r,hl=>by
  simp only[topVs,lowVs,Bool.and_eq_true] at hl;rw[strips,strip_top n h hl.1,topVs_eq n h hl.2,topVs]
theorem topBs_eq (n:Nat)(h:Hp):∀{bs:Hp},lowBs n (topBs n bs)=true→bs.map (stripB n h)=topBs n bs
 |[],_=>rfl
 |b::r,hl=>by
  simp only[topBs,lowBs,Bool.and_eq_true] at hl;rw[List.map_cons,topBs_eq n h hl.2,topBs]
  congr 1
  cases b with
  |mem t cs=>
   have:=hl.1;simp only[topB,lowB] at this;simp only[stripB,topB,topVs_eq n h this]
  |stk g t sz kc ke ksz rows=>
   have:=hl.1;simp only[topB,lowB] at this;simp only[stripB,topB]
   congr 1
   conv=>rhs;rw[←List.map_id rows]
   exact List.map_congr_left fun r hr=>by rw[strips_low n h r.2 (List.all_eq_true.1 this r hr)];rfl
  |_=>rfl
inductive Sh where
 |int (k:IntKind)
 |str
 |bool
 |sl (sz:Nat)
 |av
def exShape :List Sh→(List AV→Prop)→Prop
 |[],K=>K []
 |.int k::r,K=>∃z:Int,exShape r (fun l=>K (.int k z::l))
 |.str::r,K=>∃s:List UInt8,exShape r (fun l=>K (.str s::l))
 |.bool::r,K=>∃b:Bool,exShape r (fun l=>K (.bool b::l))
 |.sl sz::r,K=>∃es:List (List AV),exShape r (fun l=>K (.sl sz es none::l))
 |.av::r,K=>∃v:AV,exShape r (fun l=>K (v::l))
theorem exShape_elim :∀{l:List Sh} {K:List AV→Prop},exShape l K→∃cs,K cs
 |[],_,h=>⟨_,h⟩
 |.int k::r,_,h=>by obtain⟨z,h⟩:=h;obtain⟨cs,h⟩:=exShape_elim h;exact⟨_,h⟩
 |.str::r,_,h=>by obtain⟨z,h⟩:=h;obtain⟨cs,h⟩:=exShape_elim h;exact⟨_,h⟩
 |.bool::r,_,h=>by obtain⟨z,h⟩:=h;obtain⟨cs,h⟩:=exShape_elim h;exact⟨_,h⟩
 |.sl sz::r,_,h=>by obtain⟨z,h⟩:=h;obtain⟨cs,h⟩:=exShape_elim h;exact⟨_,h⟩
 |.av::r,_,h=>by obtain⟨z,h⟩:=h;obtain⟨cs,h⟩:=exShape_elim h;exact⟨_,h⟩
structure Plan where
 cuts:List (List Nat)
 shapes:List (List Nat×Nat×List Sh)
def beqP :List Nat→List Nat→Bool
 |[],[]=>true
 |a::r,b::s=>Nat.beq a b&&beqP r s
 |_,_=>false
def inCuts :List (List Nat)→List Nat→Bool
 |[],_=>false
 |q::r,p=>beqP q p||inCuts r p
def lookSh :List (List Nat×Nat×List Sh)→List Nat→Nat→Option (List Sh)
 |[],_,_=>none
 |(q,j,s)::r,p,i=>bif beqP q p&&Nat.beq j i then some s else lookSh r p i
def indexS (C:Cfg)(draw:Bool)(F:Fr)(h:Hp)(o:Oper)(s:List Sh)(next:(Bool×AV)→Hp→Prop):Prop:=
 match o.op with
 |.indexAddr t x i=>
  match C.P.underlying t,ev C.G F x,ev C.G F i with
  |some (.slice e),(g,.sl sz es _),(g',.int _ n)=>
   gAnd (g&&g'&&inR n es.length&&Nat.beq sz (C.P.cellsOf e)&&Nat.ble 1 sz) (exShape s fun cs=>getE es n=cs∧next (true,.ro cs) h)
  |some (.slice e),(g,.slr _ _ _ sz es),(g',.int _ n)=>
   gAnd (!(draw||o.guard.isSome)&&(g&&g'&&inR n es.length&&Nat.beq sz (C.P.cellsOf e)&&Nat.ble 1 sz)) (exShape s fun cs=>getE es n=cs∧next (true,.ro cs) h)
  |_,_,_=>False
 |_=>False
def doOp (C:Cfg)(T:Tab)(draw:Bool)(F:Fr)(h:Hp)(o:Oper)(next:(Bool×AV)→Hp→Prop):Prop:=
 match o.op with
 |.call {callee:=.value x,args,argTypes:=_}=>
  match ev C.G F x,evs C.G F args.toList with
  |(true,.fn (.func k) first cap),(true,vs)=>
   match C.ident k,first++vs++cap with
   |true,[v]=>next (true,v) h
   |true,_=>False
   |false,l=>
    match draw&&((C.hprim k).isSome||C.heap k) with
    |true=>False
    |false=>match T k with
     |some t=>t (argsOf C k l) h fun v h'=>next (true,v) h'
     |none=>False
  |_,_=>False
 |.defer {callee:=.value x,args,argTypes:=_}=>
  match draw|| !isDef o||o.dst.isSome|| !args.toList.isEmpty,ev C.G F x,lk F dS with
  |false,(true,.fn f first cap),(_,.dfr l)=>next (true,.dfr (.fn f first cap::l)) h
  |_,_,_=>False
 |_=>
  match evalX C (draw||o.guard.isSome) F h o with
  |some (g,e,h')=>gAnd g (next e h')
  |none=>False
def loadS (C:Cfg)(F:Fr)(h:Hp)(o:Oper)(s:List Sh)(next:(Bool×AV)→Hp→Prop):Prop:=
 match o.op with
 |.load t x=>
  match isAggT C.P t,C.P.underlying t,C.P.info? t,ev C.G F x with
  |false,some _,some _,(g,.ptr b off)=>
   match h[b]? with
   |some (.mem _ cs)=>gAnd g (exShape s fun l=>(cs.drop off).take 1=l∧match l with|[v]=>next (true,v) h|_=>False)
   |_=>False
  |_,_,_,_=>False
 |_=>False
def makeS (C:Cfg)(F:Fr)(h:Hp)(o:Oper)(next:(Bool×AV)→Hp→Prop):Prop:=
 match o.op with
 |.makeSlice t l c=>
  match C.P.underlying t with
  |some (.slice e)=>
   match C.P.info? e,ev C.G F l,ev C.G F c with
   |some i,(g,.int _ n),(g',.int _ m)=>
    match i.zero with
    |some z=>
     gAnd (g&&g'&&decide (0≤n)&&decide (n=m)&&decide ((i.bytes:Int)*m≤281474976710656)&&decide (m≤9223372036854775807)&&Nat.beq i.size 1&&Nat.beq z.cells.size 1&&z.cells.toList.all (·.oneCell'))
      (∃cs:List AV,cs=List.replicate n.toNat (match z.cells.toList with|[v]=>ofConst v|_=>.top)∧next (true,.osl h.length 0 n.toNat 1) (h++[.mem e cs]))
    |none=>False
   |_,_,_=>False
  |_=>False
 |_=>False
def stepS (C:Cfg)(T:Tab)(F:Fr)(h:Hp)(o:Oper)(next:(Bool×AV)→Hp→Prop):Prop:=match o.guard with
 |none=>doOp C T (aDr o) F h o next
 |some _=>False
def runAS (C:Cfg)(T:Tab)(ops:Array Oper):List Oper→Fr→Hp→(Fr→Hp→Prop)→Prop
 |[],F,h,K=>K F h
 |o::os,F,h,K=>stepS C T F h o fun e h1=>runAS C T ops os (putF F o.dst e) h1 K
def isCallV :Op→Bool
 |.call {callee:=.value _,..}=>true
 |_=>false
def keepQ (C:Cfg)(o:Oper)(h1 h:Hp)(p:Prop):Prop:=match quietA C o&&isCallV o.op with
 |true=>h1=h∧p
 |false=>p
def findFree (C:Cfg)(ops:Array Oper)(l:List Nat):List Nat→Option Nat
 |[]=>none
 |i::r=>match freeA C ops l i with
  |true=>some i
  |false=>findFree C ops l r
def redA (ops:Array Oper)(l:List Nat)(p:Nat→Prop):List Nat→Prop
 |[]=>True
 |i::r=>match unbound ops l i with
  |true=>p i∧redA ops l p r
  |false=>redA ops l p r
def redS (C:Cfg)(T:Tab)(ops:Array Oper)(P:Fr→Hp→Prop):Nat→List Nat→Fr→Hp→Prop
 |0,_,_,_=>False
 |_+1,[],F,h=>P F h
 |n+1,k::l,F,h=>match findFree C ops (k::l) (k::l) with
  |some i=>match ops[i]? with
   |some o=>stepS C T F h o fun e h1=>keepQ C o h1 h (redS C T ops P n ((k::l).erase i) (putF F o.dst e) h1)
   |none=>False
  |none=>redA ops (k::l) (fun i=>match ops[i]? with
   |some o=>stepS C T F h o fun e h1=>keepQ C o h1 h (redS C T ops P n ((k::l).erase i) (putF F o.dst e) h1)
   |none=>False) (k::l)
def sameF :List Nat→Fr→Fr→Prop
 |[],_,_=>True
 |d::ds,F,G=>lk F d=lk G d∧sameF ds F G
def isMake :Op→Bool
 |.makeSlice .. =>true
 |_=>false
def isLoad :Op→Bool
 |.load .. =>true
 |_=>false
def doOpS (C:Cfg)(T:Tab)(draw:Bool)(F:Fr)(h:Hp)(o:Oper)(s:Option (List Sh))(next:(Bool×AV)→Hp→Prop):Prop:=
 match s with
 |some s=>match isLoad o.op with
  |true=>loadS C F h o s next
  |false=>match isMake o.op with
   |true=>makeS C F h o next
   |false=>indexS C draw F h o s next
 |none=>doOp C T draw F h o next
def keepP :List Nat→Fr→Hp→Hp→Prop→Prop
 |[],_,_,_,p=>p
 |q::r,F,h,h',p=>match lk F q with
  |(_,.ptr b _)=>h[b]?=h'[b]?∧keepP r F h h' p
  |(_,.ro _)=>keepP r F h h' p
  |_=>False
def MidP (C:Cfg)(ops:Array Oper)(draw:Bool)(i:Nat)(F:Fr)(h h':Hp)(p:Prop):Prop:=match draw&&midO C ops i with
 |false=>p
 |true=>keepP (floatL ops i) F h h' p
theorem keepP_ok :∀(l:List Nat) {F:Fr} {h h':Hp} {p:Prop},keepP l F h h' p→(∀q∈l,keptB F h h' q)∧p
 |[],F,h,h',p,hk=>⟨(fun _ hq=>by cases hq),hk⟩
 |q::r,F,h,h',p,hk=>by
  simp only[keepP] at hk;split at hk
  ·rename_i g b o hl;obtain⟨k1,k2⟩:=keepP_ok r hk.2
   refine⟨fun x hx=> ?_,k2⟩
   rcases List.mem_cons.1 hx with rfl|hx
   ·unfold keptB;rw[hl];exact hk.1
   ·exact k1 x hx
  ·rename_i g cs hl;obtain⟨k1,k2⟩:=keepP_ok r hk
   refine⟨fun x hx=> ?_,k2⟩
   rcases List.mem_cons.1 hx with rfl|hx
   ·unfold keptB;rw[hl];trivial
   ·exact k1 x hx
  ·exact hk.elim
theorem midP_ok {C:Cfg}{ops:Array Oper}{draw:Bool}{i:Nat}{F:Fr}{h h':Hp}{p:Prop}(hk:MidP C ops draw i F h h' p):midOk C ops draw i F h h'=true∧p:=by
 unfold MidP at hk;unfold midOk;split at hk
 ·rename_i hm;rw[hm];exact⟨rfl,hk⟩
 ·rename_i hm;rw[hm];obtain⟨k1,k2⟩:=keepP_ok _ hk;refine⟨?_,k2⟩;simp only;split
  ·rfl
  ·exact @decide_eq_true _ (Classical.propDecidable _) k1
theorem midOk_guard {C:Cfg}{ops:Array Oper}{draw:Bool}{i:Nat}{o:Oper}(ho:ops[i]?=some o)(hg:o.guard.isSome=true){F:Fr}{h h':Hp}:midOk C ops draw i F h h'=true:=by
 have:midO C ops i=false:=by
  unfold midO;rw[ho]
  have:hcallO C o=false:=by
   unfold hcallO;split
   ·rename_i hgn;rw[hgn] at hg;cases hg
   ·rfl
  simp only[this,Bool.false_and]
 unfold midOk;rw[this,Bool.and_false]
def doTwoS (C:Cfg)(T:Tab)(draw:Bool)(ops:Array Oper)(F:Fr)(h:Hp)(o:Oper)(s:Option (List Sh))(next:(Bool×AV)→Hp→Prop):Prop:=
 match twoG C.P draw ops o F h with
 |some (.ok (e,h'))=>next e h'
 |some (.error _)=>False
 |none=>doOpS C T draw F h o s next
def unr (C:Cfg)(f:FuncId)(body:Code)(T:Tab)(pl:Plan)(Q:Fr→Hp→Prop):Nat→List Fm→XT→Fr→Hp→Prop
 |0,st,x,F,h=>ToEnd C f body Q st x F h
 |n+1,[],x,F,h=>match isEnd x with|true=>Q F h|false=>False
 |n+1,.code p::st,.normal,F,h=>
  match inCuts pl.cuts p with
  |true=>ToEnd C f body Q (.code p::st) .normal (cutF C f (codeAt body p) F) h
  |false=>
   match codeAt body p with
   |.skip=>unr C f body T pl Q n st .normal F h
   |.label _=>unr C f body T pl Q n st .normal F h
   |.ret=>unr C f body T pl Q n st .ret F h
   |.exit id=>unr C f body T pl Q n st (.exit id) F h
   |.goto l=>unr C f body T pl Q n st (.goto l) F h
   |.seq _ _=>unr C f body T pl Q n (.code (0::p):: .code (1::p)::st) .normal F h
   |.cond y _ _=>
    match ev C.G F y with
    |(true,.bool b)=>ifP b (unr C f body T pl Q n (.code (0::p)::st) .normal (setO F y true) h) (unr C f body T pl Q n (.code (1::p)::st) .normal (setO F y false) h)
    |_=>False
   |.block id _=>unr C f body T pl Q n (.code (0::p):: .block id::st) .normal F h
   |.loop _=>unr C f body T pl Q n (.code (0::p):: .loop p h.length::st) .normal F h
   |.scope _=>unr C f body T pl Q n (.code (0::p):: .scope (0::p)::st) .normal F h
   |.region id ops draw=>match draw&&C.allD f id with
    |true=>runAS C T ops ops.toList ((C.live f id).map fun s=>(s,lk F s)) h fun G h'=>redS C T ops (fun F1 h1=>sameF (ops.toList.filterMap (·.dst)) F1 G∧h1=h') (ops.size+1) (List.range ops.size) ((C.live f id).map fun s=>(s,lk F s)) h∧
      unr C f body T pl Q n st .normal G h'
    |false=>match(!C.dfr f&&hasDef ops.toList)||(draw&& !lsOk ops.toList (resF (resL ops draw) h.length ((C.live f id).map fun s=>(s,lk F s)))) with
    |true=>False
    |false=>unr C f body T pl Q n (.ops p 0::st) .normal (resF (resL ops draw) h.length ((C.live f id).map fun s=>(s,lk F s))) (resH (resL ops draw) h)
   |_=>False
 |n+1,.loop p m::st,.normal,F,h=>match C.trunc f with
  |false=>unr C f body T pl Q n (.code p::st) .normal F h
  |true=>match C.truncS f with
   |true=>unr C f body T pl Q n (.code p::st) .normal (stripF m h (cutF C f (codeAt body p) F)) ((h.take m).map (stripB m h))
   |false=>gAnd (lowF m (topF m (cutF C f (codeAt body p) F))&&lowBs m (topBs m (h.take m)))
    (unr C f body T pl Q n (.code p::st) .normal (topF m (cutF C f (codeAt body p) F)) (topBs m (h.take m)))
 |n+1,.block id::st,.exit i,F,h=>match Nat.beq i id with|true=>unr C f body T pl Q n st .normal F h|false=>unr C f body T pl Q n st (.exit i) F h
 |n+1,.scope p::st,.goto l,F,h=>match(findLabel (codeAt body p) l).isSome with
  |true=>unr C f body T pl Q n (.code ((l+2)::p):: .scope p::st) .normal F h
  |false=>unr C f body T pl Q n st (.goto l) F h
 |n+1,.ops p i::st,.normal,F,h=>
  match codeAt body p with
  |.region _ ops draw=>
   match ops[i]? with
   |none=>unr C f body T pl Q n st .normal F h
   |some o=>
    match o.guard with
    |none=>doTwoS C T (drawI C ops draw i) ops F h o (lookSh pl.shapes p i) fun e h'=>MidP C ops draw i F h h' (unr C f body T pl Q n (.ops p (i+1)::st) .normal (putF F (dstW (drawI C ops draw i) o) e) h')
    |some (j,want)=>
     match(ops[j]?).bind (·.dst) with
     |none=>False
     |some d=>
      match lk F d with
      |(true,.bool b)=>
       ifP b
        (match want with
        |true=>doTwoS C T (drawI C ops draw i) ops (setF F d true) h o (lookSh pl.shapes p i) fun e h'=>unr C f body T pl Q n (.ops p (i+1)::st) .normal (putF (setF F d true) o.dst e) h'
        |false=>unr C f body T pl Q n (.ops p (i+1)::st) .normal (putF (setF F d true) o.dst (false,.top)) h)
        (match want with
        |true=>unr C f body T pl Q n (.ops p (i+1)::st) .normal (putF (setF F d false) o.dst (false,.top)) h
        |false=>doTwoS C T (drawI C ops draw i) ops (setF F d false) h o (lookSh pl.shapes p i) fun e h'=>unr C f body T pl Q n (.ops p (i+1)::st) .normal (putF (setF F d false) o.dst e) h')
      |(false,_)=>unr C f body T pl Q n (.ops p (i+1)::st) .normal (putF F o.dst (false,.top)) h
      |_=>False
  |_=>False
 |n+1,_::st,x,F,h=>unr C f body T pl Q n st x F h
section
variable {C:Cfg}{f:FuncId}{body:Code}{T:Tab}{pl:Plan}{Q:Fr→Hp→Prop}
theorem exec_cutF (n:Nat)(c:Code)(F:Fr)(h:Hp):exec C f n c (cutF C f c F) h=exec C f n c F h:=by
 unfold cutF;split
 ·exact exec_restrict n c F h (by assumption)
 ·rfl
theorem exec_cutS (n:Nat)(c:Code)(m:Nat)(h:Hp)(F:Fr)(h1:Hp):exec C f n c (stripF m h (cutF C f c F)) h1=exec C f n c (stripF m h F) h1:=by
 rw[←exec_cutF n c (stripF m h F) h1];unfold cutF;split
 ·congr 1
  unfold stripF;rw[List.map_map]
  refine List.map_congr_left fun s _=> ?_
  have:=lk_stripF m h F s;unfold stripF at this;rw[this];rfl
 ·rfl
theorem fin_cutF {p:List Nat}{st:List Fm}{F:Fr}{h:Hp}(k:ToEnd C f body Q (.code p::st) .normal (cutF C f (codeAt body p) F) h):ToEnd C f body Q (.code p::st) .normal F h:=by
 obtain⟨x,F1,h1,⟨n0,hx⟩,k⟩:=k
 exact⟨x,F1,h1,⟨n0,fun n hn=>by rw[←exec_cutF n _ F h];exact hx n hn⟩,k⟩
theorem call_draw {k:FuncId}(hk:((C.hprim k).isSome||C.heap k)=false)(draw:Bool)(n:Nat)(l:List AV)(h:Hp):call C draw n k l h=call C false n k l h:=by
 simp only[Bool.or_eq_false_iff,Option.isSome_eq_false_iff,Option.isNone_iff_eq_none] at hk
 cases n with
 |zero=>rfl
 |succ n=>simp only[call,hk.1,hk.2]
theorem doOp_ok (hT:TabOk C T){draw:Bool}{F:Fr}{h:Hp}{o:Oper}{next:(Bool×AV)→Hp→Prop}(hd:doOp C T draw F h o next):
  ∃e h',(∃n0,∀n,n0≤n→stepGo C (call C draw n) draw o F h=.ok (e,h'))∧next e h':=by
 unfold doOp at hd;split at hd
 ·rename_i x args ts hop;split at hd
  ·rename_i k first cap vs hx hvs
   split at hd
   ·rename_i v hid hl
    refine⟨(true,v),h,⟨0,fun n _=> ?_⟩,hd⟩
    simp only[stepGo,hop,hx,hvs,hid,hl]
   ·exact hd.elim
   ·rename_i hid;split at hd
    ·exact hd.elim
    ·rename_i hdr
     cases ht:T k with
     |none=>rw[ht] at hd;exact hd.elim
     |some t=>
      rw[ht] at hd;obtain⟨v,h',⟨n0,hc⟩,hn⟩:=hT k t ht _ _ _ hd
      refine⟨(true,v),h',⟨n0,fun n hn=> ?_⟩,hn⟩
      have hcl:call C draw n k (first++vs++cap) h=.ok (v,h'):=by
       cases draw with
       |false=>exact hc n hn
       |true=>rw[call_draw (by simpa using hdr)];exact hc n hn
      simp only[stepGo,hop,hx,hvs,hid,hcl]
  ·exact hd.elim
 ·rename_i x args ts hop;split at hd
  ·rename_i fn first cap b l hc hx hl
   refine⟨_,h,⟨0,fun n _=> ?_⟩,hd⟩
   simp only[stepGo,hop,hc,hx,hl]
  ·exact hd.elim
 ·rename_i hop hop2;split at hd
  ·rename_i g e h' hev;obtain⟨rfl,hn⟩:=gAnd_elim hd
   refine⟨e,h',⟨0,fun n _=> ?_⟩,hn⟩
   obtain⟨dst,op,ty,pos,after,gd⟩:=o;unfold stepGo;split
   ·rename_i x args ts hop';exact absurd hop' (hop x args ts)
   ·rename_i x args ts hop';exact absurd hop' (hop2 x args ts)
   ·simp only[hev]
  ·exact hd.elim
theorem evalX_quiet {C:Cfg}{F:Fr}{h h1:Hp}{o:Oper}{g:Bool}{e:Bool×AV}(hq:quietA C o=true)(hx:evalX C (aDr o) F h o=some (g,e,h1)):h1=h:=by
 obtain⟨d,op,ty,pos,after,gd⟩:=o
 cases op<;>simp only[quietA,Bool.false_eq_true] at hq
 case move x=>exact evalOp_quiet (r:=(g,e)) ⟨d,.move x,ty,pos,after,gd⟩ rfl hx
 case assign x=>exact evalOp_quiet (r:=(g,e)) ⟨d,.assign x,ty,pos,after,gd⟩ rfl hx
 case buildSlice t l ps=>exact evalOp_quiet (r:=(g,e)) ⟨d,.buildSlice t l ps,ty,pos,after,gd⟩ rfl hx
 case load t x=>
  simp only[aDr,evalX] at hx;split at hx
  ·rename_i r hr;rw[hx] at hr;simp only[evStk] at hr
   repeat' (split at hr)
   all_goals first|(simp only[Option.some.injEq,Prod.mk.injEq] at hr;exact hr.2.2.symm)|cases hr
  ·simp only[evalOp,evLoad] at hx
   repeat' (split at hx)
   all_goals first|(simp only[Option.some.injEq,Prod.mk.injEq] at hx;exact hx.2.2.symm)|cases hx
 case nilCheck x=>
  simp only[aDr,evalX] at hx;split at hx
  ·rename_i r hr;rw[hx] at hr;simp only[evStk] at hr
   repeat' (split at hr)
   all_goals first|(simp only[Option.some.injEq,Prod.mk.injEq] at hr;exact hr.2.2.symm)|cases hr
  ·simp only[evalOp,evNilCheck] at hx
   repeat' (split at hx)
   all_goals first|(simp only[Option.some.injEq,Prod.mk.injEq] at hx;exact hx.2.2.symm)|cases hx
 case fieldAddr s x f=>
  simp only[aDr,evalX] at hx;split at hx
  ·rename_i r hr;rw[hx] at hr;simp only[evStk] at hr
   repeat' (split at hr)
   all_goals first|(simp only[Option.some.injEq,Prod.mk.injEq] at hr;exact hr.2.2.symm)|cases hr
  ·simp only[evalOp,evFieldAddr] at hx;split at hx
   ·split at hx
    ·rename_i fd _
     cases hc:Nat.beq (C.P.cellsOf fd.type) 0<;>rw[hc] at hx
     ·simp only[cond_false] at hx
      repeat' (split at hx)
      all_goals first|(simp only[Option.some.injEq,Prod.mk.injEq] at hx;exact hx.2.2.symm)|cases hx
     ·cases hx
    ·cases hx
   ·cases hx
 case field s x f=>
  simp only[aDr,evalX,evStk,evalOp,evField] at hx
  repeat' (split at hx)
  all_goals first|(simp only[Option.some.injEq,Prod.mk.injEq] at hx;exact hx.2.2.symm)|cases hx
 case indexAddr t x i=>
  simp only[aDr,evalX] at hx;split at hx
  ·rename_i r hr;rw[hx] at hr;simp only[evStk] at hr
   repeat' (split at hr)
   all_goals first|(simp only[Option.some.injEq,Prod.mk.injEq] at hr;exact hr.2.2.symm)|cases hr
  ·simp only[evalOp,evIndexAddr] at hx
   repeat' (split at hx)
   all_goals first|(simp only[Option.some.injEq,Prod.mk.injEq] at hx;exact hx.2.2.symm)|cases hx
 case index t x i=>
  simp only[aDr,evalX,evStk,evalOp,evIndex] at hx
  repeat' (split at hx)
  all_goals first|(simp only[Option.some.injEq,Prod.mk.injEq] at hx;exact hx.2.2.symm)|cases hx
 case extract t ix=>
  simp only[aDr,evalX,evStk,evalOp,evExtract] at hx
  repeat' (split at hx)
  all_goals first|(simp only[Option.some.injEq,Prod.mk.injEq] at hx;exact hx.2.2.symm)|cases hx
 case binOp op t x y u=>
  simp only[aDr,evalX,evStk,evalOp,evBin,evEqS] at hx
  repeat' (split at hx)
  all_goals first|(simp only[Option.some.injEq,Prod.mk.injEq] at hx;exact hx.2.2.symm)|cases hx
 case unOp op t x=>
  simp only[aDr,evalX,evStk,evalOp] at hx
  repeat' (split at hx)
  all_goals first|(simp only[Option.some.injEq,Prod.mk.injEq] at hx;exact hx.2.2.symm)|cases hx
 case pick c x y=>
  simp only[aDr,evalX,evStk,evalOp,evPick] at hx
  repeat' (split at hx)
  all_goals first|(simp only[Option.some.injEq,Prod.mk.injEq] at hx;exact hx.2.2.symm)|cases hx
 case call c=>
  obtain⟨callee,args,ats⟩:=c
  cases callee with
  |builtin b=>
   cases b<;>simp only[Bool.false_eq_true] at hq
   simp only[aDr,evalX] at hx;split at hx
   ·rename_i r hr;rw[hx] at hr;simp only[evStk] at hr
    repeat' (split at hr)
    all_goals first|(simp only[Option.some.injEq,Prod.mk.injEq] at hr;exact hr.2.2.symm)|cases hr
   ·simp only[evalOp,evBuiltin] at hx;split at hx
    ·simp only[evLen] at hx
     repeat' (split at hx)
     all_goals first|(simp only[Option.some.injEq,Prod.mk.injEq] at hx;exact hx.2.2.symm)|cases hx
    all_goals simp at *
  |_=>simp[aDr,evalX,evStk,evalOp] at hx
theorem twoG_aDr {P:Program}{ops:Array Oper}{o:Oper}{F:Fr}{h:Hp}:twoG P (aDr o) ops o F h=none:=by
 unfold twoG;split
 ·rfl
 ·rename_i hd;rw[Bool.and_eq_true] at hd;have:=hd.1;unfold aDr at this;split at this
  ·rename_i hop;rw[hop]
  ·rename_i hop;rw[hop]
  ·rename_i hop;rw[hop]
  ·cases this
theorem stepS_ok (hT:TabOk C T){ops:Array Oper}{F:Fr}{h:Hp}{o:Oper}{next:(Bool×AV)→Hp→Prop}(hd:stepS C T F h o next):
  ∃e h',(∃n0,∀n,n0≤n→stepA C (fun d=>call C d n) ops o F h=.ok (e,h'))∧next e h'∧(quietA C o=true→isCallV o.op=false→h'=h):=by
 unfold stepS at hd;split at hd
 ·rename_i hg;obtain⟨e,h',⟨n0,hn⟩,hk⟩:=doOp_ok hT hd
  refine⟨e,h',⟨n0,fun n hn'=> ?_⟩,hk,fun hq hc=> ?_⟩
  ·unfold stepA stepOp guardOf;rw[hg];simp only[twoG_aDr];exact hn n hn'
  ·have:=hn n0 (Nat.le_refl _);unfold stepGo at this;split at this
   ·rename_i x args ats hop;rw[hop] at hc;cases hc
   ·rename_i x args ats hop;simp only[quietA,hop] at hq;cases hq
   ·split at this
    ·rename_i e2 h2 hev;simp only[Except.ok.injEq,Prod.mk.injEq] at this;obtain⟨rfl,rfl⟩:=this;rw[hg] at hev;simp only[Option.isSome_none,Bool.or_false] at hev;exact evalX_quiet hq hev
    ·cases this
    ·cases this
 ·exact hd.elim
theorem runAS_ok (hT:TabOk C T){ops:Array Oper}:∀(os:List Oper) {F:Fr} {h:Hp} {K:Fr→Hp→Prop},runAS C T ops os F h K→∃G h',(∃n0,∀n,n0≤n→runA C (fun d=>call C d n) ops os F h=.ok (G,h'))∧K G h'
 |[],F,h,K,hk=>⟨F,h,⟨0,fun _ _=>rfl⟩,hk⟩
 |o::os,F,h,K,hk=>by
  obtain⟨e,h1,⟨n0,hn⟩,hk,_⟩:=stepS_ok (ops:=ops) hT hk;obtain⟨G,h2,⟨m0,hm⟩,hk⟩:=runAS_ok hT os hk
  exact⟨G,h2,⟨n0+m0,fun n hn'=>by simp only[runA,hn n (by omega),hm n (by omega)]⟩,hk⟩
theorem findFree_spec {ops:Array Oper}{l:List Nat}:∀{r:List Nat} {i:Nat},findFree C ops l r=some i→i∈r∧freeA C ops l i=true
 |[],_,h=>by cases h
 |j::r,i,h=>by
  unfold findFree at h;split at h
  ·rename_i hf
   injection h with h
   subst h
   exact⟨by simp,hf⟩
  ·obtain⟨h1,h2⟩:=findFree_spec h
   exact⟨by simp[h1],h2⟩
theorem redA_spec {ops:Array Oper}{l:List Nat}{p:Nat→Prop}:∀{r:List Nat},redA ops l p r→∀i∈r,unbound ops l i=true→p i
 |[],_,i,hi,_=>by cases hi
 |j::r,h,i,hi,hu=>by
  unfold redA at h
  rcases List.mem_cons.1 hi with rfl|hi
  ·rw[hu] at h;exact h.1
  ·split at h
   ·exact redA_spec h.2 i hi hu
   ·exact redA_spec h i hi hu
theorem all_n0 {X:Nat→Nat→Prop}:∀(l:List Nat),(∀i∈l,∃n0,∀n,n0≤n→X i n)→∃n0,∀n,n0≤n→∀i∈l,X i n
 |[],_=>⟨0,fun _ _ i hi=>by cases hi⟩
 |j::l,h=>by
  obtain⟨n0,h0⟩:=h j (by simp)
  obtain⟨n1,h1⟩:=all_n0 l fun i hi=>h i (by simp[hi])
  refine⟨n0+n1,fun n hn i hi=> ?_⟩
  rcases List.mem_cons.1 hi with rfl|hi
  ·exact h0 n (by omega)
  ·exact h1 n (by omega) i hi
theorem keepQ_spec {o:Oper}{h1 h:Hp}{p:Prop}(hk:keepQ C o h1 h p)(hq:quietA C o=true→isCallV o.op=false→h1=h):(quietA C o=true→h1=h)∧p:=by
 unfold keepQ at hk
 cases hc:isCallV o.op with
 |false=>
  rw[hc,Bool.and_false] at hk
  exact⟨fun h=>hq h hc,hk⟩
 |true=>
  cases hqq:quietA C o with
  |false=>rw[hqq] at hk;exact⟨fun h=>(by cases h),hk⟩
  |true=>rw[hqq,hc] at hk;exact⟨fun _=>hk.1,hk.2⟩
theorem redS_ok (hT:TabOk C T){ops:Array Oper}{P Post:Fr→Hp→Prop}{Inv:Fr→Prop}(hI:∀F o e,o∈ops.toList→Inv F→Inv (putF F o.dst e))(hP:∀F h,Inv F→P F h→Post F h):∀(n:Nat) (l:List Nat) {F:Fr} {h:Hp},Inv F→redS C T ops P n l F h→
  ∃n0,∀m,n0≤m→RedN C (fun d=>call C d m) ops Post n l F h
 |0,_,_,_,_,hx=>hx.elim
 |n+1,[],F,h,hi,hx=>⟨0,fun _ _=>hP F h hi hx⟩
 |n+1,k::l,F,h,hi,hx=>by
  unfold redS at hx;split at hx
  ·rename_i i hf;obtain⟨f1,f2⟩:=findFree_spec hf;split at hx
   ·rename_i o ho;obtain⟨e,h1,⟨n0,hn⟩,hk,hq⟩:=stepS_ok (ops:=ops) hT hx;obtain⟨k1,k2⟩:=keepQ_spec hk hq;obtain⟨_,⟨o',g1,g2⟩,_⟩:=freeA_spec f2;rw[ho] at g1
    injection g1 with g1
    subst g1;have hh:=k1 g2;subst hh
    obtain⟨m0,hm⟩:=redS_ok hT hI hP n _ (hI F o e (by simpa using Array.mem_of_getElem? ho) hi) k2
    exact⟨n0+m0,fun m hm'=>.inl ⟨i,o,e,f1,f2,ho,hn m (by omega),hm m (by omega)⟩⟩
   ·exact hx.elim
  ·have:=all_n0 (X:=fun i m=>unbound ops (k::l) i=true→∃o e h1,ops[i]?=some o∧stepA C (fun d=>call C d m) ops o F h=.ok (e,h1)∧(quietA C o=true→h1=h)∧RedN C (fun d=>call C d m) ops Post n ((k::l).erase i) (putF F o.dst e) h1) (k::l) fun i him=>by
    cases hu:unbound ops (k::l) i with
    |false=>exact⟨0,fun _ _ h=>by cases h⟩
    |true=>
     have:=redA_spec hx i him hu;split at this
     ·rename_i o ho;obtain⟨e,h1,⟨n0,hn⟩,hk,hq⟩:=stepS_ok (ops:=ops) hT this;obtain⟨k1,k2⟩:=keepQ_spec hk hq
      obtain⟨m0,hm⟩:=redS_ok hT hI hP n _ (hI F o e (by simpa using Array.mem_of_getElem? ho) hi) k2
      exact⟨n0+m0,fun m hm' _=>⟨o,e,h1,ho,hn m (by omega),k1,hm m (by omega)⟩⟩
     ·exact this.elim
   obtain⟨n0,hn⟩:=this
   exact⟨n0,fun m hm=>.inr fun i him hu=>hn m hm i him hu⟩
theorem sameF_spec :∀{ds:List Nat} {F G:Fr},sameF ds F G→∀d∈ds,lk F d=lk G d
 |[],_,_,_,d,hd=>by cases hd
 |x::ds,F,G,h,d,hd=>by
  rcases List.mem_cons.1 hd with rfl|hd
  ·exact h.1
  ·exact sameF_spec h.2 d hd
theorem runA_off {cl:Bool→FuncId→List AV→Hp→Except (List Nat) (AV×Hp)}{ops:Array Oper}{n:Nat}:∀(os:List Oper) {F G:Fr} {h h':Hp},(∀o∈os,o.dst≠some n)→runA C cl ops os F h=.ok (G,h')→lk G n=lk F n
 |[],F,G,h,h',_,hx=>by
  simp only[runA,Except.ok.injEq,Prod.mk.injEq] at hx;rw[hx.1]
 |o::os,F,G,h,h',hd,hx=>by
  simp only[runA] at hx;split at hx
  ·rw[runA_off os (fun o ho=>hd o (by simp[ho])) hx,lk_put_ne (hd o (by simp))]
  ·cases hx
theorem execA_of (hT:TabOk C T){ops:Array Oper}{F G:Fr}{h h':Hp}(hr:∃n0,∀n,n0≤n→runA C (fun d=>call C d n) ops ops.toList F h=.ok (G,h'))
  (hs:redS C T ops (fun F1 h1=>sameF (ops.toList.filterMap (·.dst)) F1 G∧h1=h') (ops.size+1) (List.range ops.size) F h):∃n0,∀n,n0≤n→execA C (fun d=>call C d n) ops F h=.ok (G,h'):=by
 obtain⟨n0,hn⟩:=hr
 have hoff:∀n,(∀o∈ops.toList,o.dst≠some n)→lk G n=lk F n:=fun n hd=>runA_off _ hd (hn n0 (Nat.le_refl _))
 obtain⟨m0,hm⟩:=redS_ok hT (Inv:=fun F1=>∀n,(∀o∈ops.toList,o.dst≠some n)→lk F1 n=lk F n) (Post:=fun G' h1=>(∀n,lk G' n=lk G n)∧h1=h') (fun F1 o e ho hi n hd=>by rw[lk_put_ne (hd o ho)];exact hi n hd)
  (fun F1 h1 hi hp=>⟨fun n=>by
   by_cases hd:∀o∈ops.toList,o.dst≠some n
   ·rw[hi n hd,hoff n hd]
   ·have:∃o∈ops.toList,o.dst=some n:=Classical.byContradiction fun hne=>hd fun o ho e=>hne ⟨o,ho,e⟩
    obtain⟨o,ho,e⟩:=this
    exact sameF_spec hp.1 n (List.mem_filterMap.2 ⟨o,ho,e⟩),hp.2⟩) (ops.size+1) (List.range ops.size) (fun _ _=>rfl) hs
 refine⟨n0+m0,fun n hn'=> ?_⟩
 unfold execA
 rw[hn n (by omega)]
 simp only
 rw[@decide_eq_true _ (Classical.propDecidable _) (hm n (by omega))]
theorem evalX_eq {C:Cfg}{dr:Bool}{F:Fr}{h:Hp}{o:Oper}(hn:evStk C F h o=none):evalX C dr F h o=evalOp C dr F h o:=by
 unfold evalX
 cases dr with
 |true=>rfl
 |false=>simp only[hn]
theorem indexS_ok {draw:Bool}{F:Fr}{h:Hp}{o:Oper}{s:List Sh}{next:(Bool×AV)→Hp→Prop}(hd:indexS C draw F h o s next):
  ∃e h',(∃n0,∀n,n0≤n→stepGo C (call C draw n) draw o F h=.ok (e,h'))∧next e h':=by
 unfold indexS at hd;split at hd
 ·rename_i t x i hop;split at hd
  ·rename_i e g sz es own g' ik n hu hx hi;obtain⟨hg,hd⟩:=gAnd_elim hd;obtain⟨cs,hcs,hn⟩:=exShape_elim hd;subst hcs
   refine⟨_,h,⟨0,fun n _=> ?_⟩,hn⟩
   obtain⟨dst,op,ty,pos,after,gd⟩:=o;simp only at hop;subst hop
   simp only[stepGo,evalX_eq (show evStk C F h ⟨dst,.indexAddr t x i,ty,pos,after,gd⟩=none by simp only[evStk,hu,hx,hi]),evalOp,evIndexAddr,hu,hx,hi,hg]
  ·rename_i e g b0 n0 d0 sz es g' ik n hu hx hi;obtain⟨hg,hd2⟩:=gAnd_elim hd;obtain⟨cs,hcs,hn⟩:=exShape_elim hd2;subst hcs
   refine⟨_,h,⟨0,fun m _=> ?_⟩,hn⟩
   obtain⟨dst,op,ty,pos,after,gd⟩:=o;simp only at hop;subst hop;simp only[Bool.and_eq_true,Bool.not_eq_true'] at hg;obtain⟨hdr,hg⟩:=hg
   have hg2:(g&&g'&&inR n es.length&&Nat.beq sz (C.P.cellsOf e)&&Nat.ble 1 sz)=true:=by simp only[Bool.and_eq_true];exact hg
   simp only[stepGo,hdr,evalX,evStk,hu,hx,hi,hg2]
  ·exact hd.elim
 ·exact hd.elim
theorem loadS_ok {draw:Bool}{F:Fr}{h:Hp}{o:Oper}{s:List Sh}{next:(Bool×AV)→Hp→Prop}(hd:loadS C F h o s next):
  ∃e h',(∃n0,∀n,n0≤n→stepGo C (call C draw n) draw o F h=.ok (e,h'))∧next e h':=by
 unfold loadS at hd;split at hd
 ·rename_i t x hop;split at hd
  ·rename_i u ti g b off ha hu hi hx;split at hd
   ·rename_i t0 cs hb;obtain⟨hg,hd⟩:=gAnd_elim hd;obtain⟨l,hl,hn⟩:=exShape_elim hd;subst hl;split at hn
    ·rename_i v hv
     refine⟨_,h,⟨0,fun n _=> ?_⟩,hn⟩
     obtain⟨dst,op,ty,pos,after,gd⟩:=o;simp only at hop;subst hop;subst hg
     have hc:∃r,cs.drop off=v::r:=by
      cases hcs:cs.drop off with
      |nil=>rw[hcs] at hv;cases hv
      |cons c r=>rw[hcs] at hv;simp at hv;exact⟨r,by rw[hv]⟩
     obtain⟨r,hc⟩:=hc
     simp only[stepGo,evalX_eq (show evStk C F h ⟨dst,.load t x,ty,pos,after,gd⟩=none by simp only[evStk,hx]),evalOp,evLoad,hx,hb,rd,hu,hi,ha,hc]
    ·exact hn.elim
   ·exact hd.elim
  ·exact hd.elim
 ·exact hd.elim
theorem makeS_ok {draw:Bool}{F:Fr}{h:Hp}{o:Oper}{next:(Bool×AV)→Hp→Prop}(hd:makeS C F h o next):
  ∃e h',(∃n0,∀n,n0≤n→stepGo C (call C draw n) draw o F h=.ok (e,h'))∧next e h':=by
 unfold makeS at hd;split at hd
 ·rename_i t l c hop;split at hd
  ·rename_i e hu;split at hd
   ·rename_i i g k n g' k' m hi hl hc;split at hd
    ·rename_i z hz;obtain⟨hg,cs,rfl,hn⟩:=gAnd_elim hd
     refine⟨_,_,⟨0,fun n _=> ?_⟩,hn⟩
     obtain⟨dst,op,ty,pos,after,gd⟩:=o;simp only at hop;subst hop
     simp only[stepGo,evalX_eq (show evStk C F h ⟨dst,.makeSlice t l c,ty,pos,after,gd⟩=none by simp only[evStk]),evalOp,evMake,hu,hi,hl,hc,hz,hg]
     rfl
    ·exact hd.elim
   ·exact hd.elim
  ·exact hd.elim
 ·exact hd.elim
theorem doOpS_ok (hT:TabOk C T){draw:Bool}{F:Fr}{h:Hp}{o:Oper}{s:Option (List Sh)}{next:(Bool×AV)→Hp→Prop}(hd:doOpS C T draw F h o s next):
  ∃e h',(∃n0,∀n,n0≤n→stepGo C (call C draw n) draw o F h=.ok (e,h'))∧next e h':=by
 cases s with
 |none=>exact doOp_ok hT hd
 |some s=>
  simp only[doOpS] at hd;split at hd
  ·exact loadS_ok hd
  ·split at hd
   ·exact makeS_ok hd
   ·exact indexS_ok hd
theorem doTwoS_ok (hT:TabOk C T){draw:Bool}{ops:Array Oper}{F:Fr}{h:Hp}{o:Oper}{s:Option (List Sh)}{next:(Bool×AV)→Hp→Prop}(hd:doTwoS C T draw ops F h o s next):
  ∃e h',(∃n0,∀n,n0≤n→(match twoG C.P draw ops o F h with|some r=>r|none=>stepGo C (call C draw n) draw o F h)=.ok (e,h'))∧next e h':=by
 unfold doTwoS at hd
 cases htw:twoG C.P draw ops o F h with
 |none=>rw[htw] at hd;exact doOpS_ok hT hd
 |some r=>
  rw[htw] at hd
  cases r with
  |error x=>exact hd.elim
  |ok r=>exact⟨r.1,r.2,⟨0,fun n _=>rfl⟩,hd⟩
theorem unr_ok (hT:TabOk C T):∀(n:Nat) (st:List Fm) (x:XT) (F:Fr) (h:Hp),unr C f body T pl Q n st x F h→ToEnd C f body Q st x F h:=by
 intro n
 induction n with
 |zero=>intro st x F h hu;exact hu
 |succ n ih=>
  intro st x F h hu
  cases st with
  |nil=>
   simp only[unr] at hu;split at hu
   ·exact⟨by assumption,hu⟩
   ·exact hu.elim
  |cons fm st=>
   cases fm with
   |code p=>
    cases x with
    |normal=>
     simp only[unr] at hu;split at hu
     ·exact fin_cutF hu
     ·split at hu
      ·rename_i hc
       exact fin_code (exec1 fun m=>by rw[hc];rfl) (ih _ _ _ _ hu)
      ·rename_i hc
       exact fin_code (exec1 fun m=>by rw[hc];rfl) (ih _ _ _ _ hu)
      ·rename_i hc
       exact fin_code (exec1 fun m=>by rw[hc];rfl) (ih _ _ _ _ hu)
      ·rename_i hc
       exact fin_code (exec1 fun m=>by rw[hc];rfl) (ih _ _ _ _ hu)
      ·rename_i hc
       exact fin_code (exec1 fun m=>by rw[hc];rfl) (ih _ _ _ _ hu)
      ·rename_i hc;exact fin_seq hc (ih _ _ _ _ hu)
      ·rename_i y a b hc;split at hu
       ·rename_i t hy
        have hset:setO F y t=F:=by
         cases y with
         |tmp s=>exact setF_eq hy
         |_=>rfl
        refine fin_cond hc hy ?_
        cases t with
        |true=>simp only[ifP] at hu;rw[hset] at hu;exact ih _ _ _ _ hu
        |false=>simp only[ifP] at hu;rw[hset] at hu;exact ih _ _ _ _ hu
       ·exact hu.elim
      ·rename_i hc;exact fin_block hc (ih _ _ _ _ hu)
      ·rename_i hc;exact fin_loop hc (ih _ _ _ _ hu)
      ·rename_i hc;exact fin_scope hc (ih _ _ _ _ hu)
      ·rename_i hc;split at hu
       ·rename_i hall;obtain⟨G,h1,hrun,hred,hu⟩:=runAS_ok hT _ hu;exact fin_region_all hc hall (execA_of hT hrun hred) (ih _ _ _ _ hu)
       rename_i hall;split at hu
       ·exact hu.elim
       ·rename_i hdf;exact fin_region hc hall hdf (ih _ _ _ _ hu)
      ·exact hu.elim
    |_=>
     simp only[unr] at hu;simp only[ToEnd];exact ih _ _ _ _ hu
   |block id=>
    cases x with
    |exit i=>
     simp only[unr] at hu;simp only[ToEnd]
     cases hb:Nat.beq i id with
     |true=>rw[hb] at hu;exact ih _ _ _ _ hu
     |false=>rw[hb] at hu;exact ih _ _ _ _ hu
    |_=>
     simp only[unr] at hu;simp only[ToEnd];exact ih _ _ _ _ hu
   |loop p m=>
    cases x with
    |normal=>
     simp only[unr] at hu;simp only[ToEnd]
     cases ht:C.trunc f with
     |false=>
      rw[ht] at hu;exact ih (.code p::st) .normal F h hu
     |true=>
      rw[ht] at hu;simp only at hu
      have hk:ToEnd C f body Q (.code p::st) .normal (stripF m h (cutF C f (codeAt body p) F)) ((h.take m).map (stripB m h)):=by
       cases hts:C.truncS f with
       |true=>rw[hts] at hu;exact ih (.code p::st) .normal _ _ hu
       |false=>
        rw[hts] at hu;obtain⟨hl,hu⟩:=gAnd_elim hu;rw[Bool.and_eq_true] at hl;have hk:=ih (.code p::st) .normal _ _ hu;rw[←topF_eq m h hl.1,←topBs_eq m h hl.2] at hk;exact hk
      obtain⟨x1,F1,h1,⟨n0,hx⟩,k⟩:=hk
      refine⟨x1,F1,h1,⟨n0,fun n hn=> ?_⟩,k⟩
      rw[←hx n hn];exact(exec_cutS n _ m h F _).symm
    |_=>
     simp only[unr] at hu;simp only[ToEnd];exact ih _ _ _ _ hu
   |scope p=>
    cases x with
    |goto l=>
     simp only[unr] at hu
     cases hf:(findLabel (codeAt body p) l).isSome with
     |true=>rw[hf] at hu;exact fin_jump hf (ih _ _ _ _ hu)
     |false=>
      rw[hf] at hu;simp only[Option.isSome_eq_false_iff,Option.isNone_iff_eq_none] at hf;simp only[ToEnd,hf];exact ih _ _ _ _ hu
    |_=>
     simp only[unr] at hu;simp only[ToEnd];exact ih _ _ _ _ hu
   |ops p i=>
    cases x with
    |normal=>
     simp only[unr] at hu;split at hu
     ·rename_i id ops draw hc;split at hu
      ·rename_i ho;exact fin_ops_end hc ho (ih _ _ _ _ hu)
      ·rename_i o ho
       have done:∀F,guardOf ops F o=some true→doTwoS C T (drawI C ops draw i) ops F h o (lookSh pl.shapes p i) (fun e h'=>MidP C ops draw i F h h' (unr C f body T pl Q n (.ops p (i+1)::st) .normal (putF F (dstW (drawI C ops draw i) o) e) h'))→ToEnd C f body Q (.ops p i::st) .normal F h:=by
        intro F hg hd;obtain⟨e,h',⟨n0,hs⟩,hn⟩:=doTwoS_ok hT hd;obtain⟨hm,hn⟩:=midP_ok hn
        refine fin_op hc ho ⟨n0,fun n hn=> ?_⟩ hm (ih _ _ _ _ hn)
        simp only[stepOp,hg];exact hs n hn
       have doneG:∀F,o.guard.isSome=true→guardOf ops F o=some true→doTwoS C T (drawI C ops draw i) ops F h o (lookSh pl.shapes p i) (fun e h'=>unr C f body T pl Q n (.ops p (i+1)::st) .normal (putF F (dstW (drawI C ops draw i) o) e) h')→ToEnd C f body Q (.ops p i::st) .normal F h:=by
        intro F hgs hg hd;obtain⟨e,h',⟨n0,hs⟩,hn⟩:=doTwoS_ok hT hd
        refine fin_op hc ho ⟨n0,fun n hn=> ?_⟩ (midOk_guard ho hgs) (ih _ _ _ _ hn)
        simp only[stepOp,hg];exact hs n hn
       have hdw:o.guard.isSome=true→dstW (drawI C ops draw i) o=o.dst:=by
        intro hgs
        have:isDef o=false:=by
         unfold isDef;split
         ·rename_i hgn;rw[hgn] at hgs;cases hgs
         ·rfl
        cases drawI C ops draw i<;>simp[dstW,this]
       have left:∀F,o.guard.isSome=true→guardOf ops F o=some false→unr C f body T pl Q n (.ops p (i+1)::st) .normal (putF F o.dst (false,.top)) h→ToEnd C f body Q (.ops p i::st) .normal F h:=by
        intro F hgs hg hd;rw[←hdw hgs] at hd
        refine fin_op hc ho ⟨0,fun n hn=> ?_⟩ (midOk_guard ho hgs) (ih _ _ _ _ hd)
        simp only[stepOp,hg]
       split at hu
       ·rename_i hgd
        exact done F (by simp only[guardOf,hgd]) hu
       ·rename_i j want hgd
        have hgs:o.guard.isSome=true:=by rw[hgd];rfl
        rw[←hdw hgs] at hu;split at hu
        ·exact hu.elim
        ·rename_i d hj;split at hu
         ·rename_i b hl;have hset:=setF_eq hl
          have hg:guardOf ops F o=some (b==want):=by simp[guardOf,hgd,hj,hl]
          cases b with
          |true=>
           simp only[ifP] at hu;rw[hset] at hu
           cases want with
           |true=>exact doneG F hgs (by rw[hg];rfl) hu
           |false=>exact left F hgs (by rw[hg];rfl) (by rw[←hdw hgs];exact hu)
          |false=>
           simp only[ifP] at hu;rw[hset] at hu
           cases want with
           |true=>exact left F hgs (by rw[hg];rfl) (by rw[←hdw hgs];exact hu)
           |false=>exact doneG F hgs (by rw[hg];rfl) hu
         ·rename_i v hl
          refine left F hgs ?_ (by rw[←hdw hgs];exact hu)
          simp only[guardOf,hgd,hj,hl]
          cases v<;>rfl
         ·exact hu.elim
     ·exact hu.elim
    |_=>
     simp only[unr] at hu;simp only[ToEnd];exact ih _ _ _ _ hu
def RetIs (P:Program)(fn:Func)(v:AV)(F:Fr)(h':Hp):Prop:=match result P fn F h' with
 |some u=>stripR 0 h' u=v
 |none=>False
def RetIn (P:Program)(fn:Func)(n:Nat)(K:AV→Hp→Prop)(F:Fr)(h':Hp):Prop:=match result P fn F h' with
 |some u=>K (stripR n h' u) ((h'.take n).map (stripB n h'))
 |none=>False
theorem call_fin {k:FuncId}{fn:Func}{c:Code}(hok:C.ok k=true)(hh:C.hprim k=none)(hp:C.prim k=none)(hf:C.P.funcs[k]?=some fn)(hb:fn.body=some c)(hheap:C.heap k=false)(hdf:C.dfr k=false)
  {l:List AV} {v:AV} (hr:ToEnd C k c (RetIs C.P fn v) [.code []] .normal (argFr 0 (argsOf C k l)) []) (draw:Bool) (h:Hp):CallR C draw k l h v h:=by
 obtain⟨x,F',h',⟨n0,hx⟩,he,hq⟩:=hr
 have ha:argsOf C k l=strips 0 [] l:=by simp[argsOf,hh,hheap]
 rw[ha] at hx;simp only[codeAt] at hx
 refine⟨n0+1,fun n hn=> ?_⟩
 obtain⟨m,rfl⟩:∃m,n=m+1:=⟨n-1,by omega⟩
 unfold RetIs at hq;split at hq
 ·rename_i u hu;subst hq
  cases x with
  |normal=>simp only[call,hok,hh,hp,hf,hb,hheap,frame0,finish,hdf,hx m (by omega),hu,Bool.not_true,cond_false]
  |ret=>simp only[call,hok,hh,hp,hf,hb,hheap,frame0,finish,hdf,hx m (by omega),hu,Bool.not_true,cond_false]
  |_=>cases he
 ·exact hq.elim
theorem call_fin_heap {k:FuncId}{fn:Func}{c:Code}(hok:C.ok k=true)(hh:C.hprim k=none)(hp:C.prim k=none)(hf:C.P.funcs[k]?=some fn)(hb:fn.body=some c)(hheap:C.heap k=true)(hdf:C.dfr k=false)(hgv:C.give k=false)(hpr:C.pre k=none)
  {l:List AV} {h:Hp} {K:AV→Hp→Prop} (hr:ToEnd C k c (RetIn C.P fn h.length K) [.code []] .normal (argFr 0 (argsOf C k l)) h):∃v h',CallR C false k l h v h'∧K v h':=by
 obtain⟨x,F',h',⟨n0,hx⟩,he,hq⟩:=hr
 have ha:argsOf C k l=l:=by simp[argsOf,hheap]
 rw[ha] at hx;simp only[codeAt] at hx;unfold RetIn at hq;split at hq
 ·rename_i u hu
  refine⟨_,_,⟨n0+1,fun n hn=> ?_⟩,hq⟩
  obtain⟨m,rfl⟩:∃m,n=m+1:=⟨n-1,by omega⟩
  cases x with
  |normal=>simp only[call,hok,hh,hp,hf,hb,hheap,hpr,frame0,finish,hdf,hgv,keepM,hx m (by omega),hu,Bool.not_true,cond_false]
  |ret=>simp only[call,hok,hh,hp,hf,hb,hheap,hpr,frame0,finish,hdf,hgv,keepM,hx m (by omega),hu,Bool.not_true,cond_false]
  |_=>cases he
 ·exact hq.elim
theorem call_prim {k:FuncId}{g:List AV→Option (Bool×AV)}(hok:C.ok k=true)(hh:C.hprim k=none)(hp:C.prim k=some g)(hheap:C.heap k=false){l:List AV}{v:AV}(hg:g (argsOf C k l)=some (true,v))(draw:Bool)(h:Hp):CallR C draw k l h (strip 0 [] v) h:=by
 have ha:argsOf C k l=strips 0 [] l:=by simp[argsOf,hh,hheap]
 rw[ha] at hg
 refine⟨1,fun n hn=> ?_⟩
 obtain⟨m,rfl⟩:∃m,n=m+1:=⟨n-1,by omega⟩
 simp only[call,hok,hh,hp,hg,Bool.not_true,cond_false]
end
end Go.Ai
