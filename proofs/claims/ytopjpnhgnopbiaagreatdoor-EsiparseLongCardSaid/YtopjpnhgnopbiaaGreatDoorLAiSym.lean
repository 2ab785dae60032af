/-
  Symbolic runs of the evaluator: from a place in a body to the function's end. No statement about the program is made here.
-/
import Derived.Test.YtopjpnhgnopbiaaGreatDoorLAiPrims
set_option linter.unusedVariables false
set_option linter.unusedSimpArgs false
set_option linter.unnecessarySimpa false
namespace Go.Ai
open Go.RowKit
def AS (g:Bool)(p:Prop):Prop:=match g with|true=>p|false=>False
def Ad (b:Bool)(p q:Prop):Prop:=match b with|true=>p|false=>q
theorem AF {g:Bool}{p:Prop}(h:g=true)(k:p):AS g p:=by subst h;exact k
theorem AA {b:Bool}{p q:Prop}(h:b=true->p)(k:b=false->q):Ad b p q:=by
 cases b
 ·exact k rfl
 ·exact h rfl
theorem Dx {g:Bool}{p:Prop}(h:AS g p):g=true/\p:=by
 cases g
 ·exact h.elim
 ·exact⟨rfl,h⟩
inductive Fm where
 |code (p:List Nat)
 |block (id:Nat)
 |loop (p:List Nat) (m:Nat)
 |scope (p:List Nat)
 |ops (p:List Nat) (i:Nat)
def AD (f:Func):Code:=f.body.getD .skip
def child :Nat->Code->Code
 |l+2,c=>(findLabel c l).getD .skip
 |0,.seq a _=>a
 |1,.seq _ b=>b
 |0,.cond _ a _=>a
 |1,.cond _ _ b=>b
 |0,.block _ a=>a
 |0,.loop a=>a
 |0,.scope a=>a
 |_,_=>.skip
def Ac (body:Code):List Nat->Code
 |[]=>body
 |i::p=>child i (Ac body p)
def DH (C:Bh)(f:FuncId)(c:Code)(F:Fr)(h:Hp)(x:XT)(F':Fr)(h':Hp):Prop:=∃n0,∀n,n0<=n->exec C f n c F h=.ok (x,F',h')
def fT (C:Bh)(f:FuncId)(c cur:Code)(F:Fr)(h:Hp)(x:XT)(F':Fr)(h':Hp):Prop:=∃n0,∀n,n0<=n->Dt C f n c cur F h=.ok (x,F',h')
def pU (C:Bh)(ops:Array Oper)(draw:Bool)(i:Nat)(os:List Oper)(F:Fr)(h:Hp)(F':Fr)(h':Hp):Prop:=∃n0,∀n,n0<=n->C9 C (fun d=>call C d n) ops draw i os F h=.ok (F',h')
def Jp (C:Bh)(draw:Bool)(k:FuncId)(vs:List AV)(h:Hp)(v:AV)(h':Hp):Prop:=∃n0,∀n,n0<=n->call C draw n k vs h=.ok (v,h')
def dB :XT->Bool
 |.normal|.ret=>true
 |_=>false
def AE (C:Bh)(f:FuncId)(body:Code)(Q:Fr->Hp->Prop):List Fm->XT->Fr->Hp->Prop
 |[],x,F,h=>dB x=true/\Q F h
 |.code p::st,.normal,F,h=>∃x F' h',DH C f (Ac body p) F h x F' h'/\AE C f body Q st x F' h'
 |.loop p m::st,.normal,F,h=>match C.FD f with
  |true=>∃x F' h',DH C f (Ac body p) (Cv m h F) ((h.take m).map (AN m h)) x F' h'/\AE C f body Q st x F' h'
  |false=>∃x F' h',DH C f (Ac body p) F h x F' h'/\AE C f body Q st x F' h'
 |.ops p i::st,.normal,F,h=>match Ac body p with
  |.region _ ops draw=>∃F' h',pU C ops draw i (ops.toList.drop i) F h F' h'/\AE C f body Q st .normal F' h'
  |_=>False
 |.block id::st,.exit i,F,h=>bif Nat.beq i id then AE C f body Q st .normal F h else AE C f body Q st (.exit i) F h
 |.scope p::st,.goto l,F,h=>match findLabel (Ac body p) l with
  |some rest=>∃x F' h',fT C f (Ac body p) rest F h x F' h'/\AE C f body Q st x F' h'
  |none=>AE C f body Q st (.goto l) F h
 |_::st,x,F,h=>AE C f body Q st x F h
section
variable {C:Bh}{f:FuncId}{body:Code}{Q:Fr->Hp->Prop}{st:List Fm}{p:List Nat}{F F':Fr}{h h':Hp}
theorem CN {x:XT}(hc:DH C f (Ac body p) F h x F' h')(k:AE C f body Q st x F' h'):AE C f body Q (.code p::st) .normal F h:=⟨x,F',h',hc,k⟩
theorem M7 {c:Code}{x:XT}(hs:∀n,exec C f (n+1) c F h=.ok (x,F',h')):DH C f c F h x F' h':=⟨1,fun n hn=>by
 obtain⟨m,rfl⟩:∃m,n=m+1:=⟨n-1,by omega⟩
 exact hs m⟩
theorem YJ {a b:Code}(hc:Ac body p=.seq a b)(k:AE C f body Q (.code (0::p):: .code (1::p)::st) .normal F h):AE C f body Q (.code p::st) .normal F h:=by
 obtain⟨x,F1,h1,⟨n0,hx⟩,k⟩:=k
 have h0:Ac body (0::p)=a:=by simp[Ac,child,hc]
 have LY:Ac body (1::p)=b:=by simp[Ac,child,hc]
 rw[h0] at hx
 cases x with
 |normal=>
  obtain⟨x2,F2,h2,⟨m0,hy⟩,k⟩:=k;rw[LY] at hy
  refine CN ⟨n0+m0+1,fun n hn=> ?_⟩ k
  obtain⟨m,rfl⟩:∃m,n=m+1:=⟨n-1,by omega⟩
  rw[hc]
  simp only[exec,hx m (by omega),hy m (by omega)]
 |_=>
  simp only[AE] at k
  refine CN ⟨n0+1,fun n hn=> ?_⟩ k
  obtain⟨m,rfl⟩:∃m,n=m+1:=⟨n-1,by omega⟩
  rw[hc]
  simp only[exec,hx m (by omega)]
theorem PW {y:Operand}{a b:Code}{t:Bool}(hc:Ac body p=.cond y a b)(hy:ev C.G F y=(true,.bool t))
  (k:AE C f body Q (.code ((match t with|true=>0|false=>1)::p)::st) .normal F h):AE C f body Q (.code p::st) .normal F h:=by
 obtain⟨x,F1,h1,⟨n0,hx⟩,k⟩:=k
 refine CN ⟨n0+1,fun n hn=> ?_⟩ k
 obtain⟨m,rfl⟩:∃m,n=m+1:=⟨n-1,by omega⟩
 have:=hx m (by omega)
 rw[hc];simp only[exec,hy]
 cases t<;>simpa[Ac,child,hc] using this
theorem RD {id:Nat}{a:Code}(hc:Ac body p=.block id a)(k:AE C f body Q (.code (0::p):: .block id::st) .normal F h):AE C f body Q (.code p::st) .normal F h:=by
 obtain⟨x,F1,h1,⟨n0,hx⟩,k⟩:=k
 have h0:Ac body (0::p)=a:=by simp[Ac,child,hc]
 rw[h0] at hx
 cases x with
 |exit i=>
  simp only[AE] at k
  cases hb:Nat.beq i id with
  |true=>
   rw[hb] at k
   refine CN (x:=.normal) ⟨n0+1,fun n hn=> ?_⟩ k
   obtain⟨m,rfl⟩:∃m,n=m+1:=⟨n-1,by omega⟩
   rw[hc]
   simp only[exec,hx m (by omega),hb,cond_true]
  |false=>
   rw[hb] at k
   refine CN (x:=.exit i) ⟨n0+1,fun n hn=> ?_⟩ k
   obtain⟨m,rfl⟩:∃m,n=m+1:=⟨n-1,by omega⟩
   rw[hc]
   simp only[exec,hx m (by omega),hb,cond_false]
 |_=>
  simp only[AE] at k
  refine CN ⟨n0+1,fun n hn=> ?_⟩ k
  obtain⟨m,rfl⟩:∃m,n=m+1:=⟨n-1,by omega⟩
  rw[hc]
  simp only[exec,hx m (by omega)]
theorem K8 {a:Code}(hc:Ac body p=.loop a)(k:AE C f body Q (.code (0::p):: .loop p h.length::st) .normal F h):AE C f body Q (.code p::st) .normal F h:=by
 obtain⟨x,F1,h1,⟨n0,hx⟩,k⟩:=k
 have h0:Ac body (0::p)=a:=by simp[Ac,child,hc]
 rw[h0] at hx
 cases x with
 |normal=>
  simp only[AE] at k
  cases ht:C.FD f<;>rw[ht] at k<;>obtain⟨x2,F2,h2,⟨m0,hy⟩,k⟩:=k<;>rw[hc] at hy<;>refine CN ⟨n0+m0+1,fun n hn=> ?_⟩ k
  all_goals
   obtain⟨m,rfl⟩:∃m,n=m+1:=⟨n-1,by omega⟩
   rw[hc]
   simp only[exec,hx m (by omega),ht]
   exact hy m (by omega)
 |_=>
  simp only[AE] at k
  refine CN ⟨n0+1,fun n hn=> ?_⟩ k
  obtain⟨m,rfl⟩:∃m,n=m+1:=⟨n-1,by omega⟩
  rw[hc]
  simp only[exec,hx m (by omega)]
theorem Qe {c cur:Code}{q:List Nat}(hq:Ac body q=c){x:XT}{F1:Fr}{h1:Hp}(hx:DH C f cur F h x F1 h1)(k:AE C f body Q (.scope q::st) x F1 h1):
  ∃x F' h',fT C f c cur F h x F' h'/\AE C f body Q st x F' h':=by
 obtain⟨n0,hx⟩:=hx
 cases x with
 |goto l=>
  simp only[AE,hq] at k
  cases hf:findLabel c l with
  |none=>
   rw[hf] at k
   refine⟨.goto l,F1,h1,⟨n0+1,fun n hn=> ?_⟩,k⟩
   obtain⟨m,rfl⟩:∃m,n=m+1:=⟨n-1,by omega⟩
   simp only[Dt,hx m (by omega),hf]
  |some rest=>
   rw[hf] at k;obtain⟨x2,F2,h2,⟨m0,hy⟩,k⟩:=k
   refine⟨x2,F2,h2,⟨n0+m0+1,fun n hn=> ?_⟩,k⟩
   obtain⟨m,rfl⟩:∃m,n=m+1:=⟨n-1,by omega⟩
   simp only[Dt,hx m (by omega),hf]
   exact hy m (by omega)
 |_=>
  simp only[AE] at k
  refine⟨_,F1,h1,⟨n0+1,fun n hn=> ?_⟩,k⟩
  obtain⟨m,rfl⟩:∃m,n=m+1:=⟨n-1,by omega⟩
  simp only[Dt,hx m (by omega)]
theorem Zh {a:Code}(hc:Ac body p=.scope a)(k:AE C f body Q (.code (0::p):: .scope (0::p)::st) .normal F h):AE C f body Q (.code p::st) .normal F h:=by
 obtain⟨x,F1,h1,hx,k⟩:=k
 have h0:Ac body (0::p)=a:=by simp[Ac,child,hc]
 rw[h0] at hx;obtain⟨x2,F2,h2,⟨m0,hy⟩,k⟩:=Qe h0 hx k
 refine CN ⟨m0+1,fun n hn=> ?_⟩ k
 obtain⟨m,rfl⟩:∃m,n=m+1:=⟨n-1,by omega⟩
 rw[hc];simp only[exec]
 exact hy m (by omega)
theorem eF {l:Nat}(hf:(findLabel (Ac body p) l).isSome=true)(k:AE C f body Q (.code ((l+2)::p):: .scope p::st) .normal F h):AE C f body Q (.scope p::st) (.goto l) F h:=by
 obtain⟨x,F1,h1,hx,k⟩:=k;simp only[AE]
 cases hr:findLabel (Ac body p) l with
 |none=>rw[hr] at hf;cases hf
 |some rest=>
  have h0:Ac body ((l+2)::p)=rest:=by simp[Ac,child,hr]
  rw[h0] at hx;exact Qe rfl hx k
theorem PU {id:Nat}{ops:Array Oper}{draw:Bool}{G:Fr}{h':Hp}(hc:Ac body p=.region id ops draw)(ha:(draw&&C.Gt f id)=true)(hx:∃n0,∀n,n0<=n->Iv C (fun d=>call C d n) ops ((C.live f id).map fun s=>(s,lk F s)) h=.ok (G,h'))
  (k:AE C f body Q st .normal G h'):AE C f body Q (.code p::st) .normal F h:=by
 obtain⟨n0,hx⟩:=hx
 refine CN (x:=.normal) ⟨n0+1,fun n hn=> ?_⟩ k
 obtain⟨m,rfl⟩:∃m,n=m+1:=⟨n-1,by omega⟩
 rw[hc]
 simp only[exec,ha,hx m (by omega)]
theorem PV {id:Nat}{ops:Array Oper}{draw:Bool}(hc:Ac body p=.region id ops draw)(CE:(draw&&C.Gt f id)=false)(FF:((!C.Cs f&&Er ops.toList)||(draw&& !SQ ops.toList (IM (FJ ops draw) h.length ((C.live f id).map fun s=>(s,lk F s)))))=false)(k:AE C f body Q (.ops p 0::st) .normal (IM (FJ ops draw) h.length ((C.live f id).map fun s=>(s,lk F s))) (P6 (FJ ops draw) h)):AE C f body Q (.code p::st) .normal F h:=by
 simp only[AE,hc] at k;obtain⟨F1,h1,⟨n0,hx⟩,k⟩:=k
 refine CN (x:=.normal) ⟨n0+1,fun n hn=> ?_⟩ k
 obtain⟨m,rfl⟩:∃m,n=m+1:=⟨n-1,by omega⟩
 rw[hc]
 have:=hx m (by omega)
 simp only[List.drop_zero] at this;simp only[exec,CE,FF,this]
theorem MR {i id:Nat}{ops:Array Oper}{draw:Bool}{o:Oper}{e:Bool×AV}(hc:Ac body p=.region id ops draw)(ho:ops[i]?=some o)
  (hs:∃n0,∀n,n0<=n->AW C (call C (A6 C ops draw i) n) ops (A6 C ops draw i) o F h=.ok (e,h')) (hm:EI C ops draw i F h h'=true) (k:AE C f body Q (.ops p (i+1)::st) .normal (Aq F (Cx (A6 C ops draw i) o) e) h'):AE C f body Q (.ops p i::st) .normal F h:=by
 simp only[AE,hc] at k⊢;obtain⟨n0,hs⟩:=hs;obtain⟨F1,h1,⟨m0,hx⟩,k⟩:=k
 refine⟨F1,h1,⟨n0+m0,fun n hn=> ?_⟩,k⟩
 have hi:i<ops.toList.length:=by
  have:=(Array.getElem?_eq_some_iff.1 ho).1;simpa using this
 have Eh:ops.toList[i]=o:=by
  have:=(Array.getElem?_eq_some_iff.1 ho).2;simpa using this
 rw[List.drop_eq_getElem_cons hi,Eh]
 simp only[C9,hs n (by omega),hm]
 exact hx n (by omega)
theorem Mx {i id:Nat}{ops:Array Oper}{draw:Bool}(hc:Ac body p=.region id ops draw)(ho:ops[i]?=none)(k:AE C f body Q st .normal F h):AE C f body Q (.ops p i::st) .normal F h:=by
 simp only[AE,hc]
 refine⟨F,h,⟨0,fun n _=> ?_⟩,k⟩
 have:ops.toList.length<=i:=by
  have:=Array.getElem?_eq_none_iff.1 ho;simpa using this
 rw[List.drop_of_length_le this];rfl
end
section
variable {C:Bh}{f:FuncId}
theorem Ik (F:Fr)(ls:List Nat):(ls.map fun s=>(s,lk (ls.map fun s=>(s,lk F s)) s))=ls.map fun s=>(s,lk F s):=by
 have key:∀(ms:List Nat) s,s∈ms->lk (ms.map fun s=>(s,lk F s)) s=lk F s:=by
  intro ms
  induction ms with
  |nil=>intro s hs;cases hs
  |cons m ms ih=>
   intro s hs;simp only[List.map_cons,lk]
   cases hb:Nat.beq m s with
   |true=>rw[Nat.eq_of_beq_eq_true hb];rfl
   |false=>
    simp only[cond_false];refine ih s ?_
    rcases List.mem_cons.1 hs with e|e
    ·subst e;simp[Nat.beq_refl] at hb
    ·exact e
 refine List.map_congr_left fun s hs=> ?_
 rw[key ls s hs]
def Eu :Code->Option Nat
 |.seq a _=>Eu a
 |.block _ a=>Eu a
 |.loop a=>Eu a
 |.region id _ _=>some id
 |_=>none
theorem HG {id:Nat}:∀(n:Nat) (c:Code) (F:Fr) (h:Hp),Eu c=some id->exec C f n c ((C.live f id).map fun s=>(s,lk F s)) h=exec C f n c F h:=by
 intro n
 induction n with
 |zero=>intro c F h _;rfl
 |succ n ih=>
  intro c F h hc
  cases c<;>simp only[Eu] at hc
  case seq a b=>simp only[exec,ih a F h hc]
  case block i a=>simp only[exec,ih a F h hc]
  case loop a=>simp only[exec,ih a F h hc]
  case region i ops draw=>
   injection hc with hc
   subst hc;simp only[exec,Ik]
  all_goals cases hc
end
def Gj (C:Bh)(f:FuncId)(c:Code)(F:Fr):Fr:=match Eu c with
 |some id=>(C.live f id).map fun s=>(s,lk F s)
 |none=>F
abbrev Zy :=FuncId->Option (List AV->Hp->(AV->Hp->Prop)->Prop)
def B7 (C:Bh)(k:FuncId)(l:List AV):List AV:=match(C.Cz k).isSome||C.heap k with|true=>l|false=>AQ 0 [] l
def AJ (C:Bh)(T:Zy):Prop:=∀k t,T k=some t->∀l h K,t (B7 C k l) h K->∃v h',Jp C false k l h v h'/\K v h'
def IL :Fr->Nat->Bool->Fr
 |[],_,_=>[]
 |(s,e)::r,d,b=>bif Nat.beq s d then(s,true,.bool b)::r else(s,e)::IL r d b
def Yr (F:Fr)(y:Operand)(b:Bool):Fr:=match y with
 |.tmp t=>IL F t b
 |_=>F
theorem Kj :∀{F:Fr} {d:Nat} {b:Bool},lk F d=(true,.bool b)->IL F d b=F
 |[],d,b,h=>by simp[lk] at h
 |(s,e)::r,d,b,h=>by
  simp only[lk] at h;simp only[IL]
  cases hb:Nat.beq s d with
  |true=>rw[hb] at h;simp only[cond_true] at h⊢;rw[h]
  |false=>rw[hb] at h;simp only[cond_false] at h⊢;rw[Kj h]
mutual
def Dw (n:Nat):AV->Bool
 |.ptr b _=>Nat.blt b n
 |.IP b _ _ _=>Nat.blt b n
 |.UT b=>Nat.blt b n
 |.CI b _ _ _ _=>Nat.blt b n
 |.BX b _ _ _=>Nat.blt b n
 |.F7 b _ _ _ es=>Nat.blt b n&&Ab n es
 |.NT _ vs=>Ab n vs
 |.ro cs=>CA n cs
 |.sl _ es own=>Ab n es&&(match own with|some id=>Nat.blt id n|none=>true)
 |.fn _ a c=>CA n a&&CA n c
 |.iface _ v=>Dw n v
 |.agg cs=>CA n cs
 |.tup cs=>CA n cs
 |.Cs cs=>CA n cs
 |_=>true
def CA (n:Nat):List AV->Bool
 |[]=>true
 |v::r=>Dw n v&&CA n r
def Ab (n:Nat):List (List AV)->Bool
 |[]=>true
 |v::r=>CA n v&&Ab n r
end
mutual
theorem HJ (n:Nat)(h:Hp):∀x,Dw n x=true->strip n h x=x
 |.top,_=>rfl
 |.bool _,_=>rfl
 |.int _ _,_=>rfl
 |.str _,_=>rfl
 |.HA,_=>rfl
 |.ptr b o,hp=>by simp only[Dw] at hp;simp only[strip,hp,cond_true]
 |.ro cs,hp=>by rw[strip,Cu n h cs (by simpa[Dw] using hp)]
 |.sl sz es own,hp=>by
  simp only[Dw,Bool.and_eq_true] at hp;rw[Cd,Bb n h es hp.1]
  cases own with
  |none=>rfl
  |some id=>simp only[Cj,hp.2,cond_true]
 |.IP b o l s,hp=>by simp only[Dw] at hp;simp only[strip,hp,cond_true]
 |.UT b,hp=>by simp only[Dw] at hp;simp only[strip,hp,cond_true]
 |.CI b _ _ _ _,hp=>by simp only[Dw] at hp;simp only[strip,hp,cond_true]
 |.BX b _ _ _,hp=>by simp only[Dw] at hp;simp only[strip,hp,cond_true]
 |.F7 b _ _ _ es,hp=>by
  simp only[Dw,Bool.and_eq_true] at hp;simp only[strip,hp.1,cond_true,Bb n h es hp.2]
 |.NT _ vs,hp=>by rw[strip,Bb n h vs (by simpa[Dw] using hp)]
 |.fn f a c,hp=>by
  simp only[Dw,Bool.and_eq_true] at hp;rw[strip,Cu n h a hp.1,Cu n h c hp.2]
 |.GX,_=>rfl
 |.iface t v,hp=>by rw[strip,HJ n h v (by simpa[Dw] using hp)]
 |.Ja,_=>rfl
 |.agg cs,hp=>by rw[strip,Cu n h cs (by simpa[Dw] using hp)]
 |.tup cs,hp=>by rw[strip,Cu n h cs (by simpa[Dw] using hp)]
 |.Cs cs,hp=>by rw[strip,Cu n h cs (by simpa[Dw] using hp)]
theorem Cu (n:Nat)(h:Hp):∀xs,CA n xs=true->AQ n h xs=xs
 |[],_=>rfl
 |x::xs,hp=>by
  simp only[CA,Bool.and_eq_true] at hp;rw[AQ,HJ n h x hp.1,Cu n h xs hp.2]
theorem Bb (n:Nat)(h:Hp):∀xs,Ab n xs=true->AB n h xs=xs
 |[],_=>rfl
 |x::xs,hp=>by
  simp only[Ab,Bool.and_eq_true] at hp;rw[AB,Cu n h x hp.1,Bb n h xs hp.2]
end
def TL (n:Nat):AV->AV
 |.ptr b o=>match Nat.blt b n with|true=>.ptr b o|false=>.top
 |.IP b o l s=>match Nat.blt b n with|true=>.IP b o l s|false=>.top
 |.sl sz es (some id)=>match Nat.blt id n with|true=>.sl sz es (some id)|false=>.sl sz es none
 |v=>v
theorem Qa (n:Nat)(h:Hp){v:AV}(hl:Dw n (TL n v)=true):strip n h v=TL n v:=by
 have key:∀v,Dw n v=true->TL n v=v->strip n h v=v:=fun v h1 _=>HJ n h v h1
 cases v with
 |ptr b o=>
  simp only[TL,strip]
  cases Nat.blt b n<;>rfl
 |IP b o l s=>
  simp only[TL,strip]
  cases Nat.blt b n<;>rfl
 |sl sz es own=>
  cases own with
  |none=>exact HJ n h _ hl
  |some id=>
   simp only[TL] at hl⊢;rw[Cd]
   cases hb:Nat.blt id n with
   |true=>
    rw[hb] at hl;simp only[Dw,Bool.and_eq_true] at hl;rw[Bb n h es hl.1];simp only[Cj,hb,cond_true]
   |false=>
    rw[hb] at hl;simp only[Dw,Bool.and_eq_true] at hl;rw[Bb n h es hl.1];simp only[Cj,hb,cond_false]
 |_=>exact HJ n h _ hl
def Rd (n:Nat):Fr->Fr
 |[]=>[]
 |e::r=>(e.1,e.2.1,TL n e.2.2)::Rd n r
def cU (n:Nat):Fr->Bool
 |[]=>true
 |e::r=>Dw n e.2.2&&cU n r
def QU (n:Nat):List AV->List AV
 |[]=>[]
 |v::r=>TL n v::QU n r
def aX (n:Nat):Blk->Blk
 |.mem t cs=>.mem t (QU n cs)
 |b=>b
def kI (n:Nat):Blk->Bool
 |.mem _ cs=>CA n cs
 |.stk _ _ _ _ _ _ rows=>rows.all fun r=>CA n r.2
 |_=>true
def Ka (n:Nat):Hp->Hp
 |[]=>[]
 |b::r=>aX n b::Ka n r
def UL (n:Nat):Hp->Bool
 |[]=>true
 |b::r=>kI n b&&UL n r
theorem Rc (n:Nat)(h:Hp):∀{F:Fr},cU n (Rd n F)=true->Cv n h F=Rd n F
 |[],_=>rfl
 |e::r,hl=>by
  simp only[Rd,cU,Bool.and_eq_true] at hl;show(e.1,e.2.1,strip n h e.2.2)::Cv n h r=_;rw[Qa n h hl.1,Rc n h hl.2,Rd]
theorem TK (n:Nat)(h:Hp):∀{cs:List AV},CA n (QU n cs)=true->AQ n h cs=QU n cs
 |[],_=>rfl
 |v::r,hl=>by
  simp only[QU,CA,Bool.and_eq_true] at hl;rw[AQ,Qa n h hl.1,TK n h hl.2,QU]
theorem N9 (n:Nat)(h:Hp):∀{bs:Hp},UL n (Ka n bs)=true->bs.map (AN n h)=Ka n bs
 |[],_=>rfl
 |b::r,hl=>by
  simp only[Ka,UL,Bool.and_eq_true] at hl;rw[List.map_cons,N9 n h hl.2,Ka]
  congr 1
  cases b with
  |mem t cs=>
   have:=hl.1;simp only[aX,kI] at this;simp only[AN,aX,TK n h this]
  |stk g t sz kc ke ksz rows=>
   have:=hl.1;simp only[aX,kI] at this;simp only[AN,aX]
   congr 1
   conv=>rhs;rw[<-List.map_id rows]
   exact List.map_congr_left fun r hr=>by rw[Cu n h r.2 (List.all_eq_true.1 this r hr)];rfl
  |_=>rfl
inductive Sh where
 |int (k:IntKind)
 |str
 |bool
 |sl (sz:Nat)
 |av
def GA :List Sh->(List AV->Prop)->Prop
 |[],K=>K []
 |.int k::r,K=>∃z:Int,GA r (fun l=>K (.int k z::l))
 |.str::r,K=>∃s:List UInt8,GA r (fun l=>K (.str s::l))
 |.bool::r,K=>∃b:Bool,GA r (fun l=>K (.bool b::l))
 |.sl sz::r,K=>∃es:List (List AV),GA r (fun l=>K (.sl sz es none::l))
 |.av::r,K=>∃v:AV,GA r (fun l=>K (v::l))
theorem Cq :∀{l:List Sh} {K:List AV->Prop},GA l K->∃cs,K cs
 |[],_,h=>⟨_,h⟩
 |.int k::r,_,h=>by obtain⟨z,h⟩:=h;obtain⟨cs,h⟩:=Cq h;exact⟨_,h⟩
 |.str::r,_,h=>by obtain⟨z,h⟩:=h;obtain⟨cs,h⟩:=Cq h;exact⟨_,h⟩
 |.bool::r,_,h=>by obtain⟨z,h⟩:=h;obtain⟨cs,h⟩:=Cq h;exact⟨_,h⟩
 |.sl sz::r,_,h=>by obtain⟨z,h⟩:=h;obtain⟨cs,h⟩:=Cq h;exact⟨_,h⟩
 |.av::r,_,h=>by obtain⟨z,h⟩:=h;obtain⟨cs,h⟩:=Cq h;exact⟨_,h⟩
structure XP where
 pB:List (List Nat)
 G7:List (List Nat×Nat×List Sh)
def lZ :List Nat->List Nat->Bool
 |[],[]=>true
 |a::r,b::s=>Nat.beq a b&&lZ r s
 |_,_=>false
def WW :List (List Nat)->List Nat->Bool
 |[],_=>false
 |q::r,p=>lZ q p||WW r p
def GZ :List (List Nat×Nat×List Sh)->List Nat->Nat->Option (List Sh)
 |[],_,_=>none
 |(q,j,s)::r,p,i=>bif lZ q p&&Nat.beq j i then some s else GZ r p i
def SV (C:Bh)(draw:Bool)(F:Fr)(h:Hp)(o:Oper)(s:List Sh)(next:(Bool×AV)->Hp->Prop):Prop:=
 match o.op with
 |.indexAddr t x i=>
  match C.P.underlying t,ev C.G F x,ev C.G F i with
  |some (.slice e),(g,.sl sz es _),(g',.int _ n)=>
   AS (g&&g'&&Cy n es.length&&Nat.beq sz (C.P.cellsOf e)&&Nat.ble 1 sz) (GA s fun cs=>Bm es n=cs/\next (true,.ro cs) h)
  |some (.slice e),(g,.F7 _ _ _ sz es),(g',.int _ n)=>
   AS (!(draw||o.guard.isSome)&&(g&&g'&&Cy n es.length&&Nat.beq sz (C.P.cellsOf e)&&Nat.ble 1 sz)) (GA s fun cs=>Bm es n=cs/\next (true,.ro cs) h)
  |_,_,_=>False
 |_=>False
def iH (C:Bh)(T:Zy)(draw:Bool)(F:Fr)(h:Hp)(o:Oper)(next:(Bool×AV)->Hp->Prop):Prop:=
 match o.op with
 |.call {callee:=.value x,args,argTypes:=_}=>
  match ev C.G F x,MU C.G F args.toList with
  |(true,.fn (.func k) first cap),(true,vs)=>
   match C.ident k,first++vs++cap with
   |true,[v]=>next (true,v) h
   |true,_=>False
   |false,l=>
    match draw&&((C.Cz k).isSome||C.heap k) with
    |true=>False
    |false=>match T k with
     |some t=>t (B7 C k l) h fun v h'=>next (true,v) h'
     |none=>False
  |_,_=>False
 |.defer {callee:=.value x,args,argTypes:=_}=>
  match draw|| !Dk o||o.dst.isSome|| !args.toList.isEmpty,ev C.G F x,lk F dS with
  |false,(true,.fn f first cap),(_,.Cs l)=>next (true,.Cs (.fn f first cap::l)) h
  |_,_,_=>False
 |_=>
  match Bg C (draw||o.guard.isSome) F h o with
  |some (g,e,h')=>AS g (next e h')
  |none=>False
def Xw (C:Bh)(F:Fr)(h:Hp)(o:Oper)(s:List Sh)(next:(Bool×AV)->Hp->Prop):Prop:=
 match o.op with
 |.load t x=>
  match FO C.P t,C.P.underlying t,C.P.info? t,ev C.G F x with
  |false,some _,some _,(g,.ptr b off)=>
   match h[b]? with
   |some (.mem _ cs)=>AS g (GA s fun l=>(cs.drop off).take 1=l/\match l with|[v]=>next (true,v) h|_=>False)
   |_=>False
  |_,_,_,_=>False
 |_=>False
def Xr (C:Bh)(F:Fr)(h:Hp)(o:Oper)(next:(Bool×AV)->Hp->Prop):Prop:=
 match o.op with
 |.makeSlice t l c=>
  match C.P.underlying t with
  |some (.slice e)=>
   match C.P.info? e,ev C.G F l,ev C.G F c with
   |some i,(g,.int _ n),(g',.int _ m)=>
    match i.zero with
    |some z=>
     AS (g&&g'&&decide (0<=n)&&decide (n=m)&&decide ((i.bytes:Int)*m<=281474976710656)&&decide (m<=9223372036854775807)&&Nat.beq i.size 1&&Nat.beq z.cells.size 1&&z.cells.toList.all (·.oneCell'))
      (∃cs:List AV,cs=List.replicate n.toNat (match z.cells.toList with|[v]=>ofConst v|_=>.top)/\next (true,.IP h.length 0 n.toNat 1) (h++[.mem e cs]))
    |none=>False
   |_,_,_=>False
  |_=>False
 |_=>False
def TS (C:Bh)(T:Zy)(F:Fr)(h:Hp)(o:Oper)(next:(Bool×AV)->Hp->Prop):Prop:=match o.guard with
 |none=>iH C T (IV o) F h o next
 |some _=>False
def bT (C:Bh)(T:Zy)(ops:Array Oper):List Oper->Fr->Hp->(Fr->Hp->Prop)->Prop
 |[],F,h,K=>K F h
 |o::os,F,h,K=>TS C T F h o fun e h1=>bT C T ops os (Aq F o.dst e) h1 K
def Nq :Op->Bool
 |.call {callee:=.value _,..}=>true
 |_=>false
def Xy (C:Bh)(o:Oper)(h1 h:Hp)(p:Prop):Prop:=match EC C o&&Nq o.op with
 |true=>h1=h/\p
 |false=>p
def K7 (C:Bh)(ops:Array Oper)(l:List Nat):List Nat->Option Nat
 |[]=>none
 |i::r=>match Mw C ops l i with
  |true=>some i
  |false=>K7 C ops l r
def bl (ops:Array Oper)(l:List Nat)(p:Nat->Prop):List Nat->Prop
 |[]=>True
 |i::r=>match Ei ops l i with
  |true=>p i/\bl ops l p r
  |false=>bl ops l p r
def Yv (C:Bh)(T:Zy)(ops:Array Oper)(P:Fr->Hp->Prop):Nat->List Nat->Fr->Hp->Prop
 |0,_,_,_=>False
 |_+1,[],F,h=>P F h
 |n+1,k::l,F,h=>match K7 C ops (k::l) (k::l) with
  |some i=>match ops[i]? with
   |some o=>TS C T F h o fun e h1=>Xy C o h1 h (Yv C T ops P n ((k::l).erase i) (Aq F o.dst e) h1)
   |none=>False
  |none=>bl ops (k::l) (fun i=>match ops[i]? with
   |some o=>TS C T F h o fun e h1=>Xy C o h1 h (Yv C T ops P n ((k::l).erase i) (Aq F o.dst e) h1)
   |none=>False) (k::l)
def Em :List Nat->Fr->Fr->Prop
 |[],_,_=>True
 |d::ds,F,G=>lk F d=lk G d/\Em ds F G
def cw :Op->Bool
 |.makeSlice .. =>true
 |_=>false
def dA :Op->Bool
 |.load .. =>true
 |_=>false
def eT (C:Bh)(T:Zy)(draw:Bool)(F:Fr)(h:Hp)(o:Oper)(s:Option (List Sh))(next:(Bool×AV)->Hp->Prop):Prop:=
 match s with
 |some s=>match dA o.op with
  |true=>Xw C F h o s next
  |false=>match cw o.op with
   |true=>Xr C F h o next
   |false=>SV C draw F h o s next
 |none=>iH C T draw F h o next
def US :List Nat->Fr->Hp->Hp->Prop->Prop
 |[],_,_,_,p=>p
 |q::r,F,h,h',p=>match lk F q with
  |(_,.ptr b _)=>h[b]?=h'[b]?/\US r F h h' p
  |(_,.ro _)=>US r F h h' p
  |_=>False
def Z5 (C:Bh)(ops:Array Oper)(draw:Bool)(i:Nat)(F:Fr)(h h':Hp)(p:Prop):Prop:=match draw&&GY C ops i with
 |false=>p
 |true=>US (Wt ops i) F h h' p
theorem O6 :∀(l:List Nat) {F:Fr} {h h':Hp} {p:Prop},US l F h h' p->(∀q∈l,Jh F h h' q)/\p
 |[],F,h,h',p,hk=>⟨(fun _ hq=>by cases hq),hk⟩
 |q::r,F,h,h',p,hk=>by
  simp only[US] at hk;split at hk
  ·rename_i g b o hl;obtain⟨k1,k2⟩:=O6 r hk.2
   refine⟨fun x hx=> ?_,k2⟩
   rcases List.mem_cons.1 hx with rfl|hx
   ·unfold Jh;rw[hl];exact hk.1
   ·exact k1 x hx
  ·rename_i g cs hl;obtain⟨k1,k2⟩:=O6 r hk
   refine⟨fun x hx=> ?_,k2⟩
   rcases List.mem_cons.1 hx with rfl|hx
   ·unfold Jh;rw[hl];trivial
   ·exact k1 x hx
  ·exact hk.elim
theorem Xq {C:Bh}{ops:Array Oper}{draw:Bool}{i:Nat}{F:Fr}{h h':Hp}{p:Prop}(hk:Z5 C ops draw i F h h' p):EI C ops draw i F h h'=true/\p:=by
 unfold Z5 at hk;unfold EI;split at hk
 ·rename_i hm;rw[hm];exact⟨rfl,hk⟩
 ·rename_i hm;rw[hm];obtain⟨k1,k2⟩:=O6 _ hk;refine⟨?_,k2⟩;simp only;split
  ·rfl
  ·exact @decide_eq_true _ (Classical.propDecidable _) k1
theorem EX {C:Bh}{ops:Array Oper}{draw:Bool}{i:Nat}{o:Oper}(ho:ops[i]?=some o)(hg:o.guard.isSome=true){F:Fr}{h h':Hp}:EI C ops draw i F h h'=true:=by
 have:GY C ops i=false:=by
  unfold GY;rw[ho]
  have:MP C o=false:=by
   unfold MP;split
   ·rename_i kx;rw[kx] at hg;cases hg
   ·rfl
  simp only[this,Bool.false_and]
 unfold EI;rw[this,Bool.and_false]
def KO (C:Bh)(T:Zy)(draw:Bool)(ops:Array Oper)(F:Fr)(h:Hp)(o:Oper)(s:Option (List Sh))(next:(Bool×AV)->Hp->Prop):Prop:=
 match Ef C.P draw ops o F h with
 |some (.ok (e,h'))=>next e h'
 |some (.error _)=>False
 |none=>eT C T draw F h o s next
def Gs (C:Bh)(f:FuncId)(body:Code)(T:Zy)(pl:XP)(Q:Fr->Hp->Prop):Nat->List Fm->XT->Fr->Hp->Prop
 |0,st,x,F,h=>AE C f body Q st x F h
 |n+1,[],x,F,h=>match dB x with|true=>Q F h|false=>False
 |n+1,.code p::st,.normal,F,h=>
  match WW pl.pB p with
  |true=>AE C f body Q (.code p::st) .normal (Gj C f (Ac body p) F) h
  |false=>
   match Ac body p with
   |.skip=>Gs C f body T pl Q n st .normal F h
   |.label _=>Gs C f body T pl Q n st .normal F h
   |.ret=>Gs C f body T pl Q n st .ret F h
   |.exit id=>Gs C f body T pl Q n st (.exit id) F h
   |.goto l=>Gs C f body T pl Q n st (.goto l) F h
   |.seq _ _=>Gs C f body T pl Q n (.code (0::p):: .code (1::p)::st) .normal F h
   |.cond y _ _=>
    match ev C.G F y with
    |(true,.bool b)=>Ad b (Gs C f body T pl Q n (.code (0::p)::st) .normal (Yr F y true) h) (Gs C f body T pl Q n (.code (1::p)::st) .normal (Yr F y false) h)
    |_=>False
   |.block id _=>Gs C f body T pl Q n (.code (0::p):: .block id::st) .normal F h
   |.loop _=>Gs C f body T pl Q n (.code (0::p):: .loop p h.length::st) .normal F h
   |.scope _=>Gs C f body T pl Q n (.code (0::p):: .scope (0::p)::st) .normal F h
   |.region id ops draw=>match draw&&C.Gt f id with
    |true=>bT C T ops ops.toList ((C.live f id).map fun s=>(s,lk F s)) h fun G h'=>Yv C T ops (fun F1 h1=>Em (ops.toList.filterMap (·.dst)) F1 G/\h1=h') (ops.size+1) (List.range ops.size) ((C.live f id).map fun s=>(s,lk F s)) h/\
      Gs C f body T pl Q n st .normal G h'
    |false=>match(!C.Cs f&&Er ops.toList)||(draw&& !SQ ops.toList (IM (FJ ops draw) h.length ((C.live f id).map fun s=>(s,lk F s)))) with
    |true=>False
    |false=>Gs C f body T pl Q n (.ops p 0::st) .normal (IM (FJ ops draw) h.length ((C.live f id).map fun s=>(s,lk F s))) (P6 (FJ ops draw) h)
   |_=>False
 |n+1,.loop p m::st,.normal,F,h=>match C.FD f with
  |false=>Gs C f body T pl Q n (.code p::st) .normal F h
  |true=>match C.N8 f with
   |true=>Gs C f body T pl Q n (.code p::st) .normal (Cv m h (Gj C f (Ac body p) F)) ((h.take m).map (AN m h))
   |false=>AS (cU m (Rd m (Gj C f (Ac body p) F))&&UL m (Ka m (h.take m)))
    (Gs C f body T pl Q n (.code p::st) .normal (Rd m (Gj C f (Ac body p) F)) (Ka m (h.take m)))
 |n+1,.block id::st,.exit i,F,h=>match Nat.beq i id with|true=>Gs C f body T pl Q n st .normal F h|false=>Gs C f body T pl Q n st (.exit i) F h
 |n+1,.scope p::st,.goto l,F,h=>match(findLabel (Ac body p) l).isSome with
  |true=>Gs C f body T pl Q n (.code ((l+2)::p):: .scope p::st) .normal F h
  |false=>Gs C f body T pl Q n st (.goto l) F h
 |n+1,.ops p i::st,.normal,F,h=>
  match Ac body p with
  |.region _ ops draw=>
   match ops[i]? with
   |none=>Gs C f body T pl Q n st .normal F h
   |some o=>
    match o.guard with
    |none=>KO C T (A6 C ops draw i) ops F h o (GZ pl.G7 p i) fun e h'=>Z5 C ops draw i F h h' (Gs C f body T pl Q n (.ops p (i+1)::st) .normal (Aq F (Cx (A6 C ops draw i) o) e) h')
    |some (j,want)=>
     match(ops[j]?).bind (·.dst) with
     |none=>False
     |some d=>
      match lk F d with
      |(true,.bool b)=>
       Ad b
        (match want with
        |true=>KO C T (A6 C ops draw i) ops (IL F d true) h o (GZ pl.G7 p i) fun e h'=>Gs C f body T pl Q n (.ops p (i+1)::st) .normal (Aq (IL F d true) o.dst e) h'
        |false=>Gs C f body T pl Q n (.ops p (i+1)::st) .normal (Aq (IL F d true) o.dst (false,.top)) h)
        (match want with
        |true=>Gs C f body T pl Q n (.ops p (i+1)::st) .normal (Aq (IL F d false) o.dst (false,.top)) h
        |false=>KO C T (A6 C ops draw i) ops (IL F d false) h o (GZ pl.G7 p i) fun e h'=>Gs C f body T pl Q n (.ops p (i+1)::st) .normal (Aq (IL F d false) o.dst e) h')
      |(false,_)=>Gs C f body T pl Q n (.ops p (i+1)::st) .normal (Aq F o.dst (false,.top)) h
      |_=>False
  |_=>False
 |n+1,_::st,x,F,h=>Gs C f body T pl Q n st x F h
section
variable {C:Bh}{f:FuncId}{body:Code}{T:Zy}{pl:XP}{Q:Fr->Hp->Prop}
theorem MT (n:Nat)(c:Code)(F:Fr)(h:Hp):exec C f n c (Gj C f c F) h=exec C f n c F h:=by
 unfold Gj;split
 ·exact HG n c F h (by assumption)
 ·rfl
theorem MS (n:Nat)(c:Code)(m:Nat)(h:Hp)(F:Fr)(h1:Hp):exec C f n c (Cv m h (Gj C f c F)) h1=exec C f n c (Cv m h F) h1:=by
 rw[<-MT n c (Cv m h F) h1];unfold Gj;split
 ·congr 1
  unfold Cv;rw[List.map_map]
  refine List.map_congr_left fun s _=> ?_
  have:=GI m h F s;unfold Cv at this;rw[this];rfl
 ·rfl
theorem Ul {p:List Nat}{st:List Fm}{F:Fr}{h:Hp}(k:AE C f body Q (.code p::st) .normal (Gj C f (Ac body p) F) h):AE C f body Q (.code p::st) .normal F h:=by
 obtain⟨x,F1,h1,⟨n0,hx⟩,k⟩:=k
 exact⟨x,F1,h1,⟨n0,fun n hn=>by rw[<-MT n _ F h];exact hx n hn⟩,k⟩
theorem RS {k:FuncId}(hk:((C.Cz k).isSome||C.heap k)=false)(draw:Bool)(n:Nat)(l:List AV)(h:Hp):call C draw n k l h=call C false n k l h:=by
 simp only[Bool.or_eq_false_iff,Option.isSome_eq_false_iff,Option.isNone_iff_eq_none] at hk
 cases n with
 |zero=>rfl
 |succ n=>simp only[call,hk.1,hk.2]
theorem YS (hT:AJ C T){draw:Bool}{F:Fr}{h:Hp}{o:Oper}{next:(Bool×AV)->Hp->Prop}(hd:iH C T draw F h o next):
  ∃e h',(∃n0,∀n,n0<=n->BB C (call C draw n) draw o F h=.ok (e,h'))/\next e h':=by
 unfold iH at hd;split at hd
 ·rename_i x args ts Bc;split at hd
  ·rename_i k first cap vs hx dK
   split at hd
   ·rename_i v hid hl
    refine⟨(true,v),h,⟨0,fun n _=> ?_⟩,hd⟩
    simp only[BB,Bc,hx,dK,hid,hl]
   ·exact hd.elim
   ·rename_i hid;split at hd
    ·exact hd.elim
    ·rename_i Wi
     cases ht:T k with
     |none=>rw[ht] at hd;exact hd.elim
     |some t=>
      rw[ht] at hd;obtain⟨v,h',⟨n0,hc⟩,hn⟩:=hT k t ht _ _ _ hd
      refine⟨(true,v),h',⟨n0,fun n hn=> ?_⟩,hn⟩
      have Da:call C draw n k (first++vs++cap) h=.ok (v,h'):=by
       cases draw with
       |false=>exact hc n hn
       |true=>rw[RS (by simpa using Wi)];exact hc n hn
      simp only[BB,Bc,hx,dK,hid,Da]
  ·exact hd.elim
 ·rename_i x args ts Bc;split at hd
  ·rename_i fn first cap b l hc hx hl
   refine⟨_,h,⟨0,fun n _=> ?_⟩,hd⟩
   simp only[BB,Bc,hc,hx,hl]
  ·exact hd.elim
 ·rename_i Bc dR;split at hd
  ·rename_i g e h' MM;obtain⟨rfl,hn⟩:=Dx hd
   refine⟨e,h',⟨0,fun n _=> ?_⟩,hn⟩
   obtain⟨dst,op,ty,pos,after,gd⟩:=o;unfold BB;split
   ·rename_i x args ts MK;exact absurd MK (Bc x args ts)
   ·rename_i x args ts MK;exact absurd MK (dR x args ts)
   ·simp only[MM]
  ·exact hd.elim
theorem Uo {C:Bh}{F:Fr}{h h1:Hp}{o:Oper}{g:Bool}{e:Bool×AV}(hq:EC C o=true)(hx:Bg C (IV o) F h o=some (g,e,h1)):h1=h:=by
 obtain⟨d,op,ty,pos,after,gd⟩:=o
 cases op<;>simp only[EC,Bool.false_eq_true] at hq
 case move x=>exact GB (r:=(g,e)) ⟨d,.move x,ty,pos,after,gd⟩ rfl hx
 case assign x=>exact GB (r:=(g,e)) ⟨d,.assign x,ty,pos,after,gd⟩ rfl hx
 case buildSlice t l ps=>exact GB (r:=(g,e)) ⟨d,.buildSlice t l ps,ty,pos,after,gd⟩ rfl hx
 case load t x=>
  simp only[IV,Bg] at hx;split at hx
  ·rename_i r hr;rw[hx] at hr;simp only[Bx] at hr
   repeat' (split at hr)
   all_goals first|(simp only[Option.some.injEq,Prod.mk.injEq] at hr;exact hr.2.2.symm)|cases hr
  ·simp only[evalOp,Hy] at hx
   repeat' (split at hx)
   all_goals first|(simp only[Option.some.injEq,Prod.mk.injEq] at hx;exact hx.2.2.symm)|cases hx
 case nilCheck x=>
  simp only[IV,Bg] at hx;split at hx
  ·rename_i r hr;rw[hx] at hr;simp only[Bx] at hr
   repeat' (split at hr)
   all_goals first|(simp only[Option.some.injEq,Prod.mk.injEq] at hr;exact hr.2.2.symm)|cases hr
  ·simp only[evalOp,EU] at hx
   repeat' (split at hx)
   all_goals first|(simp only[Option.some.injEq,Prod.mk.injEq] at hx;exact hx.2.2.symm)|cases hx
 case fieldAddr s x f=>
  simp only[IV,Bg] at hx;split at hx
  ·rename_i r hr;rw[hx] at hr;simp only[Bx] at hr
   repeat' (split at hr)
   all_goals first|(simp only[Option.some.injEq,Prod.mk.injEq] at hr;exact hr.2.2.symm)|cases hr
  ·simp only[evalOp,Dn] at hx;split at hx
   ·split at hx
    ·rename_i fd _
     cases hc:Nat.beq (C.P.cellsOf fd.type) 0<;>rw[hc] at hx
     ·simp only[cond_false] at hx
      repeat' (split at hx)
      all_goals first|(simp only[Option.some.injEq,Prod.mk.injEq] at hx;exact hx.2.2.symm)|cases hx
     ·cases hx
    ·cases hx
   ·cases hx
 case field s x f=>
  simp only[IV,Bg,Bx,evalOp,LH] at hx
  repeat' (split at hx)
  all_goals first|(simp only[Option.some.injEq,Prod.mk.injEq] at hx;exact hx.2.2.symm)|cases hx
 case indexAddr t x i=>
  simp only[IV,Bg] at hx;split at hx
  ·rename_i r hr;rw[hx] at hr;simp only[Bx] at hr
   repeat' (split at hr)
   all_goals first|(simp only[Option.some.injEq,Prod.mk.injEq] at hr;exact hr.2.2.symm)|cases hr
  ·simp only[evalOp,Dm] at hx
   repeat' (split at hx)
   all_goals first|(simp only[Option.some.injEq,Prod.mk.injEq] at hx;exact hx.2.2.symm)|cases hx
 case index t x i=>
  simp only[IV,Bg,Bx,evalOp,LG] at hx
  repeat' (split at hx)
  all_goals first|(simp only[Option.some.injEq,Prod.mk.injEq] at hx;exact hx.2.2.symm)|cases hx
 case extract t ix=>
  simp only[IV,Bg,Bx,evalOp,Ha] at hx
  repeat' (split at hx)
  all_goals first|(simp only[Option.some.injEq,Prod.mk.injEq] at hx;exact hx.2.2.symm)|cases hx
 case binOp op t x y u=>
  simp only[IV,Bg,Bx,evalOp,Uv,Uu] at hx
  repeat' (split at hx)
  all_goals first|(simp only[Option.some.injEq,Prod.mk.injEq] at hx;exact hx.2.2.symm)|cases hx
 case unOp op t x=>
  simp only[IV,Bg,Bx,evalOp] at hx
  repeat' (split at hx)
  all_goals first|(simp only[Option.some.injEq,Prod.mk.injEq] at hx;exact hx.2.2.symm)|cases hx
 case pick c x y=>
  simp only[IV,Bg,Bx,evalOp,Pa] at hx
  repeat' (split at hx)
  all_goals first|(simp only[Option.some.injEq,Prod.mk.injEq] at hx;exact hx.2.2.symm)|cases hx
 case call c=>
  obtain⟨callee,args,CG⟩:=c
  cases callee with
  |builtin b=>
   cases b<;>simp only[Bool.false_eq_true] at hq
   simp only[IV,Bg] at hx;split at hx
   ·rename_i r hr;rw[hx] at hr;simp only[Bx] at hr
    repeat' (split at hr)
    all_goals first|(simp only[Option.some.injEq,Prod.mk.injEq] at hr;exact hr.2.2.symm)|cases hr
   ·simp only[evalOp,GL] at hx;split at hx
    ·simp only[RH] at hx
     repeat' (split at hx)
     all_goals first|(simp only[Option.some.injEq,Prod.mk.injEq] at hx;exact hx.2.2.symm)|cases hx
    all_goals simp at *
  |_=>simp[IV,Bg,Bx,evalOp] at hx
theorem aP {P:Program}{ops:Array Oper}{o:Oper}{F:Fr}{h:Hp}:Ef P (IV o) ops o F h=none:=by
 unfold Ef;split
 ·rfl
 ·rename_i hd;rw[Bool.and_eq_true] at hd;have:=hd.1;unfold IV at this;split at this
  ·rename_i Bc;rw[Bc]
  ·rename_i Bc;rw[Bc]
  ·rename_i Bc;rw[Bc]
  ·cases this
theorem OG (hT:AJ C T){ops:Array Oper}{F:Fr}{h:Hp}{o:Oper}{next:(Bool×AV)->Hp->Prop}(hd:TS C T F h o next):
  ∃e h',(∃n0,∀n,n0<=n->D6 C (fun d=>call C d n) ops o F h=.ok (e,h'))/\next e h'/\(EC C o=true->Nq o.op=false->h'=h):=by
 unfold TS at hd;split at hd
 ·rename_i hg;obtain⟨e,h',⟨n0,hn⟩,hk⟩:=YS hT hd
  refine⟨e,h',⟨n0,fun n kn=> ?_⟩,hk,fun hq hc=> ?_⟩
  ·unfold D6 AW guardOf;rw[hg];simp only[aP];exact hn n kn
  ·have:=hn n0 (Nat.le_refl _);unfold BB at this;split at this
   ·rename_i x args CG Bc;rw[Bc] at hc;cases hc
   ·rename_i x args CG Bc;simp only[EC,Bc] at hq;cases hq
   ·split at this
    ·rename_i e2 h2 MM;simp only[Except.ok.injEq,Prod.mk.injEq] at this;obtain⟨rfl,rfl⟩:=this;rw[hg] at MM;simp only[Option.isSome_none,Bool.or_false] at MM;exact Uo hq MM
    ·cases this
    ·cases this
 ·exact hd.elim
theorem TZ (hT:AJ C T){ops:Array Oper}:∀(os:List Oper) {F:Fr} {h:Hp} {K:Fr->Hp->Prop},bT C T ops os F h K->∃G h',(∃n0,∀n,n0<=n->NM C (fun d=>call C d n) ops os F h=.ok (G,h'))/\K G h'
 |[],F,h,K,hk=>⟨F,h,⟨0,fun _ _=>rfl⟩,hk⟩
 |o::os,F,h,K,hk=>by
  obtain⟨e,h1,⟨n0,hn⟩,hk,_⟩:=OG (ops:=ops) hT hk;obtain⟨G,h2,⟨m0,hm⟩,hk⟩:=TZ hT os hk
  exact⟨G,h2,⟨n0+m0,fun n kn=>by simp only[NM,hn n (by omega),hm n (by omega)]⟩,hk⟩
theorem Jk {ops:Array Oper}{l:List Nat}:∀{r:List Nat} {i:Nat},K7 C ops l r=some i->i∈r/\Mw C ops l i=true
 |[],_,h=>by cases h
 |j::r,i,h=>by
  unfold K7 at h;split at h
  ·rename_i hf
   injection h with h
   subst h
   exact⟨by simp,hf⟩
  ·obtain⟨h1,h2⟩:=Jk h
   exact⟨by simp[h1],h2⟩
theorem Ln {ops:Array Oper}{l:List Nat}{p:Nat->Prop}:∀{r:List Nat},bl ops l p r->∀i∈r,Ei ops l i=true->p i
 |[],_,i,hi,_=>by cases hi
 |j::r,h,i,hi,hu=>by
  unfold bl at h
  rcases List.mem_cons.1 hi with rfl|hi
  ·rw[hu] at h;exact h.1
  ·split at h
   ·exact Ln h.2 i hi hu
   ·exact Ln h i hi hu
theorem fP {X:Nat->Nat->Prop}:∀(l:List Nat),(∀i∈l,∃n0,∀n,n0<=n->X i n)->∃n0,∀n,n0<=n->∀i∈l,X i n
 |[],_=>⟨0,fun _ _ i hi=>by cases hi⟩
 |j::l,h=>by
  obtain⟨n0,h0⟩:=h j (by simp)
  obtain⟨n1,h1⟩:=fP l fun i hi=>h i (by simp[hi])
  refine⟨n0+n1,fun n hn i hi=> ?_⟩
  rcases List.mem_cons.1 hi with rfl|hi
  ·exact h0 n (by omega)
  ·exact h1 n (by omega) i hi
theorem Oz {o:Oper}{h1 h:Hp}{p:Prop}(hk:Xy C o h1 h p)(hq:EC C o=true->Nq o.op=false->h1=h):(EC C o=true->h1=h)/\p:=by
 unfold Xy at hk
 cases hc:Nq o.op with
 |false=>
  rw[hc,Bool.and_false] at hk
  exact⟨fun h=>hq h hc,hk⟩
 |true=>
  cases vD:EC C o with
  |false=>rw[vD] at hk;exact⟨fun h=>(by cases h),hk⟩
  |true=>rw[vD,hc] at hk;exact⟨fun _=>hk.1,hk.2⟩
theorem Rq (hT:AJ C T){ops:Array Oper}{P Post:Fr->Hp->Prop}{Inv:Fr->Prop}(hI:∀F o e,o∈ops.toList->Inv F->Inv (Aq F o.dst e))(hP:∀F h,Inv F->P F h->Post F h):∀(n:Nat) (l:List Nat) {F:Fr} {h:Hp},Inv F->Yv C T ops P n l F h->
  ∃n0,∀m,n0<=m->Nf C (fun d=>call C d m) ops Post n l F h
 |0,_,_,_,_,hx=>hx.elim
 |n+1,[],F,h,hi,hx=>⟨0,fun _ _=>hP F h hi hx⟩
 |n+1,k::l,F,h,hi,hx=>by
  unfold Yv at hx;split at hx
  ·rename_i i hf;obtain⟨f1,f2⟩:=Jk hf;split at hx
   ·rename_i o ho;obtain⟨e,h1,⟨n0,hn⟩,hk,hq⟩:=OG (ops:=ops) hT hx;obtain⟨k1,k2⟩:=Oz hk hq;obtain⟨_,⟨o',g1,g2⟩,_⟩:=PM f2;rw[ho] at g1
    injection g1 with g1
    subst g1;have hh:=k1 g2;subst hh
    obtain⟨m0,hm⟩:=Rq hT hI hP n _ (hI F o e (by simpa using Array.mem_of_getElem? ho) hi) k2
    exact⟨n0+m0,fun m oJ=>.inl ⟨i,o,e,f1,f2,ho,hn m (by omega),hm m (by omega)⟩⟩
   ·exact hx.elim
  ·have:=fP (X:=fun i m=>Ei ops (k::l) i=true->∃o e h1,ops[i]?=some o/\D6 C (fun d=>call C d m) ops o F h=.ok (e,h1)/\(EC C o=true->h1=h)/\Nf C (fun d=>call C d m) ops Post n ((k::l).erase i) (Aq F o.dst e) h1) (k::l) fun i mD=>by
    cases hu:Ei ops (k::l) i with
    |false=>exact⟨0,fun _ _ h=>by cases h⟩
    |true=>
     have:=Ln hx i mD hu;split at this
     ·rename_i o ho;obtain⟨e,h1,⟨n0,hn⟩,hk,hq⟩:=OG (ops:=ops) hT this;obtain⟨k1,k2⟩:=Oz hk hq
      obtain⟨m0,hm⟩:=Rq hT hI hP n _ (hI F o e (by simpa using Array.mem_of_getElem? ho) hi) k2
      exact⟨n0+m0,fun m oJ _=>⟨o,e,h1,ho,hn m (by omega),k1,hm m (by omega)⟩⟩
     ·exact this.elim
   obtain⟨n0,hn⟩:=this
   exact⟨n0,fun m hm=>.inr fun i mD hu=>hn m hm i mD hu⟩
theorem OM :∀{ds:List Nat} {F G:Fr},Em ds F G->∀d∈ds,lk F d=lk G d
 |[],_,_,_,d,hd=>by cases hd
 |x::ds,F,G,h,d,hd=>by
  rcases List.mem_cons.1 hd with rfl|hd
  ·exact h.1
  ·exact OM h.2 d hd
theorem TY {cl:Bool->FuncId->List AV->Hp->Except (List Nat) (AV×Hp)}{ops:Array Oper}{n:Nat}:∀(os:List Oper) {F G:Fr} {h h':Hp},(∀o∈os,o.dst≠some n)->NM C cl ops os F h=.ok (G,h')->lk G n=lk F n
 |[],F,G,h,h',_,hx=>by
  simp only[NM,Except.ok.injEq,Prod.mk.injEq] at hx;rw[hx.1]
 |o::os,F,G,h,h',hd,hx=>by
  simp only[NM] at hx;split at hx
  ·rw[TY os (fun o ho=>hd o (by simp[ho])) hx,Az (hd o (by simp))]
  ·cases hx
theorem eH (hT:AJ C T){ops:Array Oper}{F G:Fr}{h h':Hp}(hr:∃n0,∀n,n0<=n->NM C (fun d=>call C d n) ops ops.toList F h=.ok (G,h'))
  (hs:Yv C T ops (fun F1 h1=>Em (ops.toList.filterMap (·.dst)) F1 G/\h1=h') (ops.size+1) (List.range ops.size) F h):∃n0,∀n,n0<=n->Iv C (fun d=>call C d n) ops F h=.ok (G,h'):=by
 obtain⟨n0,hn⟩:=hr
 have NX:∀n,(∀o∈ops.toList,o.dst≠some n)->lk G n=lk F n:=fun n hd=>TY _ hd (hn n0 (Nat.le_refl _))
 obtain⟨m0,hm⟩:=Rq hT (Inv:=fun F1=>∀n,(∀o∈ops.toList,o.dst≠some n)->lk F1 n=lk F n) (Post:=fun G' h1=>(∀n,lk G' n=lk G n)/\h1=h') (fun F1 o e ho hi n hd=>by rw[Az (hd o ho)];exact hi n hd)
  (fun F1 h1 hi hp=>⟨fun n=>by
   by_cases hd:∀o∈ops.toList,o.dst≠some n
   ·rw[hi n hd,NX n hd]
   ·have:∃o∈ops.toList,o.dst=some n:=Classical.byContradiction fun BU=>hd fun o ho e=>BU ⟨o,ho,e⟩
    obtain⟨o,ho,e⟩:=this
    exact OM hp.1 n (List.mem_filterMap.2 ⟨o,ho,e⟩),hp.2⟩) (ops.size+1) (List.range ops.size) (fun _ _=>rfl) hs
 refine⟨n0+m0,fun n kn=> ?_⟩
 unfold Iv
 rw[hn n (by omega)]
 simp only
 rw[@decide_eq_true _ (Classical.propDecidable _) (hm n (by omega))]
theorem PZ {C:Bh}{dr:Bool}{F:Fr}{h:Hp}{o:Oper}(hn:Bx C F h o=none):Bg C dr F h o=evalOp C dr F h o:=by
 unfold Bg
 cases dr with
 |true=>rfl
 |false=>simp only[hn]
theorem Qs {draw:Bool}{F:Fr}{h:Hp}{o:Oper}{s:List Sh}{next:(Bool×AV)->Hp->Prop}(hd:SV C draw F h o s next):
  ∃e h',(∃n0,∀n,n0<=n->BB C (call C draw n) draw o F h=.ok (e,h'))/\next e h':=by
 unfold SV at hd;split at hd
 ·rename_i t x i Bc;split at hd
  ·rename_i e g sz es own g' ik n hu hx hi;obtain⟨hg,hd⟩:=Dx hd;obtain⟨cs,FQ,hn⟩:=Cq hd;subst FQ
   refine⟨_,h,⟨0,fun n _=> ?_⟩,hn⟩
   obtain⟨dst,op,ty,pos,after,gd⟩:=o;simp only at Bc;subst Bc
   simp only[BB,PZ (show Bx C F h ⟨dst,.indexAddr t x i,ty,pos,after,gd⟩=none by simp only[Bx,hu,hx,hi]),evalOp,Dm,hu,hx,hi,hg]
  ·rename_i e g b0 n0 d0 sz es g' ik n hu hx hi;obtain⟨hg,Ui⟩:=Dx hd;obtain⟨cs,FQ,hn⟩:=Cq Ui;subst FQ
   refine⟨_,h,⟨0,fun m _=> ?_⟩,hn⟩
   obtain⟨dst,op,ty,pos,after,gd⟩:=o;simp only at Bc;subst Bc;simp only[Bool.and_eq_true,Bool.not_eq_true'] at hg;obtain⟨Wi,hg⟩:=hg
   have gv:(g&&g'&&Cy n es.length&&Nat.beq sz (C.P.cellsOf e)&&Nat.ble 1 sz)=true:=by simp only[Bool.and_eq_true];exact hg
   simp only[BB,Wi,Bg,Bx,hu,hx,hi,gv]
  ·exact hd.elim
 ·exact hd.elim
theorem UM {draw:Bool}{F:Fr}{h:Hp}{o:Oper}{s:List Sh}{next:(Bool×AV)->Hp->Prop}(hd:Xw C F h o s next):
  ∃e h',(∃n0,∀n,n0<=n->BB C (call C draw n) draw o F h=.ok (e,h'))/\next e h':=by
 unfold Xw at hd;split at hd
 ·rename_i t x Bc;split at hd
  ·rename_i u ti g b off ha hu hi hx;split at hd
   ·rename_i t0 cs hb;obtain⟨hg,hd⟩:=Dx hd;obtain⟨l,hl,hn⟩:=Cq hd;subst hl;split at hn
    ·rename_i v hv
     refine⟨_,h,⟨0,fun n _=> ?_⟩,hn⟩
     obtain⟨dst,op,ty,pos,after,gd⟩:=o;simp only at Bc;subst Bc;subst hg
     have hc:∃r,cs.drop off=v::r:=by
      cases FQ:cs.drop off with
      |nil=>rw[FQ] at hv;cases hv
      |cons c r=>rw[FQ] at hv;simp at hv;exact⟨r,by rw[hv]⟩
     obtain⟨r,hc⟩:=hc
     simp only[BB,PZ (show Bx C F h ⟨dst,.load t x,ty,pos,after,gd⟩=none by simp only[Bx,hx]),evalOp,Hy,hx,hb,rd,hu,hi,ha,hc]
    ·exact hn.elim
   ·exact hd.elim
  ·exact hd.elim
 ·exact hd.elim
theorem UH {draw:Bool}{F:Fr}{h:Hp}{o:Oper}{next:(Bool×AV)->Hp->Prop}(hd:Xr C F h o next):
  ∃e h',(∃n0,∀n,n0<=n->BB C (call C draw n) draw o F h=.ok (e,h'))/\next e h':=by
 unfold Xr at hd;split at hd
 ·rename_i t l c Bc;split at hd
  ·rename_i e hu;split at hd
   ·rename_i i g k n g' k' m hi hl hc;split at hd
    ·rename_i z hz;obtain⟨hg,cs,rfl,hn⟩:=Dx hd
     refine⟨_,_,⟨0,fun n _=> ?_⟩,hn⟩
     obtain⟨dst,op,ty,pos,after,gd⟩:=o;simp only at Bc;subst Bc
     simp only[BB,PZ (show Bx C F h ⟨dst,.makeSlice t l c,ty,pos,after,gd⟩=none by simp only[Bx]),evalOp,Sk,hu,hi,hl,hc,hz,hg]
     rfl
    ·exact hd.elim
   ·exact hd.elim
  ·exact hd.elim
 ·exact hd.elim
theorem eS (hT:AJ C T){draw:Bool}{F:Fr}{h:Hp}{o:Oper}{s:Option (List Sh)}{next:(Bool×AV)->Hp->Prop}(hd:eT C T draw F h o s next):
  ∃e h',(∃n0,∀n,n0<=n->BB C (call C draw n) draw o F h=.ok (e,h'))/\next e h':=by
 cases s with
 |none=>exact YS hT hd
 |some s=>
  simp only[eT] at hd;split at hd
  ·exact UM hd
  ·split at hd
   ·exact UH hd
   ·exact Qs hd
theorem RL (hT:AJ C T){draw:Bool}{ops:Array Oper}{F:Fr}{h:Hp}{o:Oper}{s:Option (List Sh)}{next:(Bool×AV)->Hp->Prop}(hd:KO C T draw ops F h o s next):
  ∃e h',(∃n0,∀n,n0<=n->(match Ef C.P draw ops o F h with|some r=>r|none=>BB C (call C draw n) draw o F h)=.ok (e,h'))/\next e h':=by
 unfold KO at hd
 cases F8:Ef C.P draw ops o F h with
 |none=>rw[F8] at hd;exact eS hT hd
 |some r=>
  rw[F8] at hd
  cases r with
  |error x=>exact hd.elim
  |ok r=>exact⟨r.1,r.2,⟨0,fun n _=>rfl⟩,hd⟩
theorem Ap (hT:AJ C T):∀(n:Nat) (st:List Fm) (x:XT) (F:Fr) (h:Hp),Gs C f body T pl Q n st x F h->AE C f body Q st x F h:=by
 intro n
 induction n with
 |zero=>intro st x F h hu;exact hu
 |succ n ih=>
  intro st x F h hu
  cases st with
  |nil=>
   simp only[Gs] at hu;split at hu
   ·exact⟨by assumption,hu⟩
   ·exact hu.elim
  |cons fm st=>
   cases fm with
   |code p=>
    cases x with
    |normal=>
     simp only[Gs] at hu;split at hu
     ·exact Ul hu
     ·split at hu
      ·rename_i hc
       exact CN (M7 fun m=>by rw[hc];rfl) (ih _ _ _ _ hu)
      ·rename_i hc
       exact CN (M7 fun m=>by rw[hc];rfl) (ih _ _ _ _ hu)
      ·rename_i hc
       exact CN (M7 fun m=>by rw[hc];rfl) (ih _ _ _ _ hu)
      ·rename_i hc
       exact CN (M7 fun m=>by rw[hc];rfl) (ih _ _ _ _ hu)
      ·rename_i hc
       exact CN (M7 fun m=>by rw[hc];rfl) (ih _ _ _ _ hu)
      ·rename_i hc;exact YJ hc (ih _ _ _ _ hu)
      ·rename_i y a b hc;split at hu
       ·rename_i t hy
        have O8:Yr F y t=F:=by
         cases y with
         |tmp s=>exact Kj hy
         |_=>rfl
        refine PW hc hy ?_
        cases t with
        |true=>simp only[Ad] at hu;rw[O8] at hu;exact ih _ _ _ _ hu
        |false=>simp only[Ad] at hu;rw[O8] at hu;exact ih _ _ _ _ hu
       ·exact hu.elim
      ·rename_i hc;exact RD hc (ih _ _ _ _ hu)
      ·rename_i hc;exact K8 hc (ih _ _ _ _ hu)
      ·rename_i hc;exact Zh hc (ih _ _ _ _ hu)
      ·rename_i hc;split at hu
       ·rename_i CE;obtain⟨G,h1,CU,dQ,hu⟩:=TZ hT _ hu;exact PU hc CE (eH hT CU dQ) (ih _ _ _ _ hu)
       rename_i CE;split at hu
       ·exact hu.elim
       ·rename_i FF;exact PV hc CE FF (ih _ _ _ _ hu)
      ·exact hu.elim
    |_=>
     simp only[Gs] at hu;simp only[AE];exact ih _ _ _ _ hu
   |block id=>
    cases x with
    |exit i=>
     simp only[Gs] at hu;simp only[AE]
     cases hb:Nat.beq i id with
     |true=>rw[hb] at hu;exact ih _ _ _ _ hu
     |false=>rw[hb] at hu;exact ih _ _ _ _ hu
    |_=>
     simp only[Gs] at hu;simp only[AE];exact ih _ _ _ _ hu
   |loop p m=>
    cases x with
    |normal=>
     simp only[Gs] at hu;simp only[AE]
     cases ht:C.FD f with
     |false=>
      rw[ht] at hu;exact ih (.code p::st) .normal F h hu
     |true=>
      rw[ht] at hu;simp only at hu
      have hk:AE C f body Q (.code p::st) .normal (Cv m h (Gj C f (Ac body p) F)) ((h.take m).map (AN m h)):=by
       cases S9:C.N8 f with
       |true=>rw[S9] at hu;exact ih (.code p::st) .normal _ _ hu
       |false=>
        rw[S9] at hu;obtain⟨hl,hu⟩:=Dx hu;rw[Bool.and_eq_true] at hl;have hk:=ih (.code p::st) .normal _ _ hu;rw[<-Rc m h hl.1,<-N9 m h hl.2] at hk;exact hk
      obtain⟨x1,F1,h1,⟨n0,hx⟩,k⟩:=hk
      refine⟨x1,F1,h1,⟨n0,fun n hn=> ?_⟩,k⟩
      rw[<-hx n hn];exact(MS n _ m h F _).symm
    |_=>
     simp only[Gs] at hu;simp only[AE];exact ih _ _ _ _ hu
   |scope p=>
    cases x with
    |goto l=>
     simp only[Gs] at hu
     cases hf:(findLabel (Ac body p) l).isSome with
     |true=>rw[hf] at hu;exact eF hf (ih _ _ _ _ hu)
     |false=>
      rw[hf] at hu;simp only[Option.isSome_eq_false_iff,Option.isNone_iff_eq_none] at hf;simp only[AE,hf];exact ih _ _ _ _ hu
    |_=>
     simp only[Gs] at hu;simp only[AE];exact ih _ _ _ _ hu
   |ops p i=>
    cases x with
    |normal=>
     simp only[Gs] at hu;split at hu
     ·rename_i id ops draw hc;split at hu
      ·rename_i ho;exact Mx hc ho (ih _ _ _ _ hu)
      ·rename_i o ho
       have done:∀F,guardOf ops F o=some true->KO C T (A6 C ops draw i) ops F h o (GZ pl.G7 p i) (fun e h'=>Z5 C ops draw i F h h' (Gs C f body T pl Q n (.ops p (i+1)::st) .normal (Aq F (Cx (A6 C ops draw i) o) e) h'))->AE C f body Q (.ops p i::st) .normal F h:=by
        intro F hg hd;obtain⟨e,h',⟨n0,hs⟩,hn⟩:=RL hT hd;obtain⟨hm,hn⟩:=Xq hn
        refine MR hc ho ⟨n0,fun n hn=> ?_⟩ hm (ih _ _ _ _ hn)
        simp only[AW,hg];exact hs n hn
       have U5:∀F,o.guard.isSome=true->guardOf ops F o=some true->KO C T (A6 C ops draw i) ops F h o (GZ pl.G7 p i) (fun e h'=>Gs C f body T pl Q n (.ops p (i+1)::st) .normal (Aq F (Cx (A6 C ops draw i) o) e) h')->AE C f body Q (.ops p i::st) .normal F h:=by
        intro F Hg hg hd;obtain⟨e,h',⟨n0,hs⟩,hn⟩:=RL hT hd
        refine MR hc ho ⟨n0,fun n hn=> ?_⟩ (EX ho Hg) (ih _ _ _ _ hn)
        simp only[AW,hg];exact hs n hn
       have PJ:o.guard.isSome=true->Cx (A6 C ops draw i) o=o.dst:=by
        intro Hg
        have:Dk o=false:=by
         unfold Dk;split
         ·rename_i kx;rw[kx] at Hg;cases Hg
         ·rfl
        cases A6 C ops draw i<;>simp[Cx,this]
       have left:∀F,o.guard.isSome=true->guardOf ops F o=some false->Gs C f body T pl Q n (.ops p (i+1)::st) .normal (Aq F o.dst (false,.top)) h->AE C f body Q (.ops p i::st) .normal F h:=by
        intro F Hg hg hd;rw[<-PJ Hg] at hd
        refine MR hc ho ⟨0,fun n hn=> ?_⟩ (EX ho Hg) (ih _ _ _ _ hd)
        simp only[AW,hg]
       split at hu
       ·rename_i Qy
        exact done F (by simp only[guardOf,Qy]) hu
       ·rename_i j want Qy
        have Hg:o.guard.isSome=true:=by rw[Qy];rfl
        rw[<-PJ Hg] at hu;split at hu
        ·exact hu.elim
        ·rename_i d hj;split at hu
         ·rename_i b hl;have O8:=Kj hl
          have hg:guardOf ops F o=some (b==want):=by simp[guardOf,Qy,hj,hl]
          cases b with
          |true=>
           simp only[Ad] at hu;rw[O8] at hu
           cases want with
           |true=>exact U5 F Hg (by rw[hg];rfl) hu
           |false=>exact left F Hg (by rw[hg];rfl) (by rw[<-PJ Hg];exact hu)
          |false=>
           simp only[Ad] at hu;rw[O8] at hu
           cases want with
           |true=>exact left F Hg (by rw[hg];rfl) (by rw[<-PJ Hg];exact hu)
           |false=>exact U5 F Hg (by rw[hg];rfl) hu
         ·rename_i v hl
          refine left F Hg ?_ (by rw[<-PJ Hg];exact hu)
          simp only[guardOf,Qy,hj,hl]
          cases v<;>rfl
         ·exact hu.elim
     ·exact hu.elim
    |_=>
     simp only[Gs] at hu;simp only[AE];exact ih _ _ _ _ hu
def AO (P:Program)(fn:Func)(v:AV)(F:Fr)(h':Hp):Prop:=match result P fn F h' with
 |some u=>stripR 0 h' u=v
 |none=>False
def AR (P:Program)(fn:Func)(n:Nat)(K:AV->Hp->Prop)(F:Fr)(h':Hp):Prop:=match result P fn F h' with
 |some u=>K (stripR n h' u) ((h'.take n).map (AN n h'))
 |none=>False
theorem ef {k:FuncId}{fn:Func}{c:Code}(BF:C.ok k=true)(hh:C.Cz k=none)(hp:C.E9 k=none)(hf:C.P.funcs[k]?=some fn)(hb:fn.body=some c)(II:C.heap k=false)(FF:C.Cs k=false)
  {l:List AV} {v:AV} (hr:AE C k c (AO C.P fn v) [.code []] .normal (DZ 0 (B7 C k l)) []) (draw:Bool) (h:Hp):Jp C draw k l h v h:=by
 obtain⟨x,F',h',⟨n0,hx⟩,he,hq⟩:=hr
 have ha:B7 C k l=AQ 0 [] l:=by simp[B7,hh,II]
 rw[ha] at hx;simp only[Ac] at hx
 refine⟨n0+1,fun n hn=> ?_⟩
 obtain⟨m,rfl⟩:∃m,n=m+1:=⟨n-1,by omega⟩
 unfold AO at hq;split at hq
 ·rename_i u hu;subst hq
  cases x with
  |normal=>simp only[call,BF,hh,hp,hf,hb,II,DE,finish,FF,hx m (by omega),hu,Bool.not_true,cond_false]
  |ret=>simp only[call,BF,hh,hp,hf,hb,II,DE,finish,FF,hx m (by omega),hu,Bool.not_true,cond_false]
  |_=>cases he
 ·exact hq.elim
theorem Jn {k:FuncId}{fn:Func}{c:Code}(BF:C.ok k=true)(hh:C.Cz k=none)(hp:C.E9 k=none)(hf:C.P.funcs[k]?=some fn)(hb:fn.body=some c)(II:C.heap k=true)(FF:C.Cs k=false)(vS:C.KL k=false)(jM:C.pre k=none)
  {l:List AV} {h:Hp} {K:AV->Hp->Prop} (hr:AE C k c (AR C.P fn h.length K) [.code []] .normal (DZ 0 (B7 C k l)) h):∃v h',Jp C false k l h v h'/\K v h':=by
 obtain⟨x,F',h',⟨n0,hx⟩,he,hq⟩:=hr
 have ha:B7 C k l=l:=by simp[B7,II]
 rw[ha] at hx;simp only[Ac] at hx;unfold AR at hq;split at hq
 ·rename_i u hu
  refine⟨_,_,⟨n0+1,fun n hn=> ?_⟩,hq⟩
  obtain⟨m,rfl⟩:∃m,n=m+1:=⟨n-1,by omega⟩
  cases x with
  |normal=>simp only[call,BF,hh,hp,hf,hb,II,jM,DE,finish,FF,vS,Fx,hx m (by omega),hu,Bool.not_true,cond_false]
  |ret=>simp only[call,BF,hh,hp,hf,hb,II,jM,DE,finish,FF,vS,Fx,hx m (by omega),hu,Bool.not_true,cond_false]
  |_=>cases he
 ·exact hq.elim
theorem LP {k:FuncId}{fn:Func}{c:Code}{m0:Nat}(BF:C.ok k=true)(hh:C.Cz k=none)(hp:C.E9 k=none)(hf:C.P.funcs[k]?=some fn)(hb:fn.body=some c)(II:C.heap k=true)(FF:C.Cs k=false){m1:Nat}(jM:C.pre k=some m1)
  {l:List AV} {h:Hp} {K:AV->Hp->Prop} (pq:Hn m1 h=m0) (gl:HO m0 h=true) (hr:AE C k c (AR C.P fn m0 fun v h1=>K v (h1++h.drop m0)) [.code []] .normal (DZ 0 (AQ m0 [] l)) ((h.take m0).map (AN m0 []))):∃v h',Jp C false k l h v h'/\K v h':=by
 obtain⟨x,F',h',⟨n0,hx⟩,he,hq⟩:=hr;simp only[Ac] at hx;unfold AR at hq;split at hq
 ·rename_i u hu
  refine⟨_,_,⟨n0+1,fun n hn=> ?_⟩,hq⟩
  obtain⟨m,rfl⟩:∃m,n=m+1:=⟨n-1,by omega⟩
  cases x with
  |normal=>simp only[call,BF,hh,hp,hf,hb,II,jM,pq,gl,DE,finish,FF,hx m (by omega),hu,Bool.not_true,cond_false]
  |ret=>simp only[call,BF,hh,hp,hf,hb,II,jM,pq,gl,DE,finish,FF,hx m (by omega),hu,Bool.not_true,cond_false]
  |_=>cases he
 ·exact hq.elim
theorem Zn {k:FuncId}{g:List AV->Option (Bool×AV)}(BF:C.ok k=true)(hh:C.Cz k=none)(hp:C.E9 k=some g)(II:C.heap k=false){l:List AV}{v:AV}(hg:g (B7 C k l)=some (true,v))(draw:Bool)(h:Hp):Jp C draw k l h (strip 0 [] v) h:=by
 have ha:B7 C k l=AQ 0 [] l:=by simp[B7,hh,II]
 rw[ha] at hg
 refine⟨1,fun n hn=> ?_⟩
 obtain⟨m,rfl⟩:∃m,n=m+1:=⟨n-1,by omega⟩
 simp only[call,BF,hh,hp,hg,Bool.not_true,cond_false]
end
end Go.Ai
