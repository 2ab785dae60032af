/-
  Symbolic runs of the evaluator: from a place in a body to the function's end. No statement about the program is made here.
-/
import Derived.Test.YtopjpnhgnopbiaaGreatDoorTAiPrims
set_option linter.unusedVariables false
set_option linter.unusedSimpArgs false
set_option linter.unnecessarySimpa false
namespace Go.Ai
open Go.RowKit
def AU (g:Bool)(p:Prop):Prop:=match g with|true=>p|false=>False
def Ad (b:Bool)(p q:Prop):Prop:=match b with|true=>p|false=>q
theorem AF {g:Bool}{p:Prop}(h:g=true)(k:p):AU g p:=by subst h;exact k
theorem AA {b:Bool}{p q:Prop}(h:b=true->p)(k:b=false->q):Ad b p q:=by
 cases b
 ·exact k rfl
 ·exact h rfl
theorem Dw {g:Bool}{p:Prop}(h:AU g p):g=true/\p:=by
 cases g
 ·exact h.elim
 ·exact⟨rfl,h⟩
inductive Fm where
 |code (p:List Nat)
 |block (id:Nat)
 |loop (p:List Nat) (m:Nat)
 |scope (p:List Nat)
 |ops (p:List Nat) (i:Nat)
def AD (f:Func):Code:=f.body.getD .skip
def child :Nat->Code->Code
 |l+2,c=>(findLabel c l).getD .skip
 |0,.seq a _=>a
 |1,.seq _ b=>b
 |0,.cond _ a _=>a
 |1,.cond _ _ b=>b
 |0,.block _ a=>a
 |0,.loop a=>a
 |0,.scope a=>a
 |_,_=>.skip
def Ab (body:Code):List Nat->Code
 |[]=>body
 |i::p=>child i (Ab body p)
def DG (C:Bh)(f:FuncId)(c:Code)(F:Fr)(h:Hp)(x:XT)(F':Fr)(h':Hp):Prop:=∃n0,∀n,n0<=n->exec C f n c F h=.ok (x,F',h')
def fK (C:Bh)(f:FuncId)(c cur:Code)(F:Fr)(h:Hp)(x:XT)(F':Fr)(h':Hp):Prop:=∃n0,∀n,n0<=n->Ds C f n c cur F h=.ok (x,F',h')
def pH (C:Bh)(ops:Array Oper)(draw:Bool)(i:Nat)(os:List Oper)(F:Fr)(h:Hp)(F':Fr)(h':Hp):Prop:=∃n0,∀n,n0<=n->C9 C (fun d=>call C d n) ops draw i os F h=.ok (F',h')
def Jn (C:Bh)(draw:Bool)(k:FuncId)(vs:List AV)(h:Hp)(v:AV)(h':Hp):Prop:=∃n0,∀n,n0<=n->call C draw n k vs h=.ok (v,h')
def cr :XT->Bool
 |.normal|.ret=>true
 |_=>false
def AE (C:Bh)(f:FuncId)(body:Code)(Q:Fr->Hp->Prop):List Fm->XT->Fr->Hp->Prop
 |[],x,F,h=>cr x=true/\Q F h
 |.code p::st,.normal,F,h=>∃x F' h',DG C f (Ab body p) F h x F' h'/\AE C f body Q st x F' h'
 |.loop p m::st,.normal,F,h=>match C.FB f with
  |true=>∃x F' h',DG C f (Ab body p) (Cv m h F) ((h.take m).map (AL m h)) x F' h'/\AE C f body Q st x F' h'
  |false=>∃x F' h',DG C f (Ab body p) F h x F' h'/\AE C f body Q st x F' h'
 |.ops p i::st,.normal,F,h=>match Ab body p with
  |.region _ ops draw=>∃F' h',pH C ops draw i (ops.toList.drop i) F h F' h'/\AE C f body Q st .normal F' h'
  |_=>False
 |.block id::st,.exit i,F,h=>bif Nat.beq i id then AE C f body Q st .normal F h else AE C f body Q st (.exit i) F h
 |.scope p::st,.goto l,F,h=>match findLabel (Ab body p) l with
  |some rest=>∃x F' h',fK C f (Ab body p) rest F h x F' h'/\AE C f body Q st x F' h'
  |none=>AE C f body Q st (.goto l) F h
 |_::st,x,F,h=>AE C f body Q st x F h
section
variable {C:Bh}{f:FuncId}{body:Code}{Q:Fr->Hp->Prop}{st:List Fm}{p:List Nat}{F F':Fr}{h h':Hp}
theorem CN {x:XT}(hc:DG C f (Ab body p) F h x F' h')(k:AE C f body Q st x F' h'):AE C f body Q (.code p::st) .normal F h:=⟨x,F',h',hc,k⟩
theorem Mw {c:Code}{x:XT}(hs:∀n,exec C f (n+1) c F h=.ok (x,F',h')):DG C f c F h x F' h':=⟨1,fun n hn=>by
 obtain⟨m,rfl⟩:∃m,n=m+1:=⟨n-1,by omega⟩
 exact hs m⟩
theorem YF {a b:Code}(hc:Ab body p=.seq a b)(k:AE C f body Q (.code (0::p):: .code (1::p)::st) .normal F h):AE C f body Q (.code p::st) .normal F h:=by
 obtain⟨x,F1,h1,⟨n0,hx⟩,k⟩:=k
 have h0:Ab body (0::p)=a:=by simp[Ab,child,hc]
 have LU:Ab body (1::p)=b:=by simp[Ab,child,hc]
 rw[h0] at hx
 cases x with
 |normal=>
  obtain⟨x2,F2,h2,⟨m0,hy⟩,k⟩:=k;rw[LU] at hy
  refine CN ⟨n0+m0+1,fun n hn=> ?_⟩ k
  obtain⟨m,rfl⟩:∃m,n=m+1:=⟨n-1,by omega⟩
  rw[hc]
  simp only[exec,hx m (by omega),hy m (by omega)]
 |_=>
  simp only[AE] at k
  refine CN ⟨n0+1,fun n hn=> ?_⟩ k
  obtain⟨m,rfl⟩:∃m,n=m+1:=⟨n-1,by omega⟩
  rw[hc]
  simp only[exec,hx m (by omega)]
theorem PR {y:Operand}{a b:Code}{t:Bool}(hc:Ab body p=.cond y a b)(hy:ev C.G F y=(true,.bool t))
  (k:AE C f body Q (.code ((match t with|true=>0|false=>1)::p)::st) .normal F h):AE C f body Q (.code p::st) .normal F h:=by
 obtain⟨x,F1,h1,⟨n0,hx⟩,k⟩:=k
 refine CN ⟨n0+1,fun n hn=> ?_⟩ k
 obtain⟨m,rfl⟩:∃m,n=m+1:=⟨n-1,by omega⟩
 have:=hx m (by omega)
 rw[hc];simp only[exec,hy]
 cases t<;>simpa[Ab,child,hc] using this
theorem Q8 {id:Nat}{a:Code}(hc:Ab body p=.block id a)(k:AE C f body Q (.code (0::p):: .block id::st) .normal F h):AE C f body Q (.code p::st) .normal F h:=by
 obtain⟨x,F1,h1,⟨n0,hx⟩,k⟩:=k
 have h0:Ab body (0::p)=a:=by simp[Ab,child,hc]
 rw[h0] at hx
 cases x with
 |exit i=>
  simp only[AE] at k
  cases hb:Nat.beq i id with
  |true=>
   rw[hb] at k
   refine CN (x:=.normal) ⟨n0+1,fun n hn=> ?_⟩ k
   obtain⟨m,rfl⟩:∃m,n=m+1:=⟨n-1,by omega⟩
   rw[hc]
   simp only[exec,hx m (by omega),hb,cond_true]
  |false=>
   rw[hb] at k
   refine CN (x:=.exit i) ⟨n0+1,fun n hn=> ?_⟩ k
   obtain⟨m,rfl⟩:∃m,n=m+1:=⟨n-1,by omega⟩
   rw[hc]
   simp only[exec,hx m (by omega),hb,cond_false]
 |_=>
  simp only[AE] at k
  refine CN ⟨n0+1,fun n hn=> ?_⟩ k
  obtain⟨m,rfl⟩:∃m,n=m+1:=⟨n-1,by omega⟩
  rw[hc]
  simp only[exec,hx m (by omega)]
theorem K4 {a:Code}(hc:Ab body p=.loop a)(k:AE C f body Q (.code (0::p):: .loop p h.length::st) .normal F h):AE C f body Q (.code p::st) .normal F h:=by
 obtain⟨x,F1,h1,⟨n0,hx⟩,k⟩:=k
 have h0:Ab body (0::p)=a:=by simp[Ab,child,hc]
 rw[h0] at hx
 cases x with
 |normal=>
  simp only[AE] at k
  cases ht:C.FB f<;>rw[ht] at k<;>obtain⟨x2,F2,h2,⟨m0,hy⟩,k⟩:=k<;>rw[hc] at hy<;>refine CN ⟨n0+m0+1,fun n hn=> ?_⟩ k
  all_goals
   obtain⟨m,rfl⟩:∃m,n=m+1:=⟨n-1,by omega⟩
   rw[hc]
   simp only[exec,hx m (by omega),ht]
   exact hy m (by omega)
 |_=>
  simp only[AE] at k
  refine CN ⟨n0+1,fun n hn=> ?_⟩ k
  obtain⟨m,rfl⟩:∃m,n=m+1:=⟨n-1,by omega⟩
  rw[hc]
  simp only[exec,hx m (by omega)]
theorem QZ {c cur:Code}{q:List Nat}(hq:Ab body q=c){x:XT}{F1:Fr}{h1:Hp}(hx:DG C f cur F h x F1 h1)(k:AE C f body Q (.scope q::st) x F1 h1):
  ∃x F' h',fK C f c cur F h x F' h'/\AE C f body Q st x F' h':=by
 obtain⟨n0,hx⟩:=hx
 cases x with
 |goto l=>
  simp only[AE,hq] at k
  cases hf:findLabel c l with
  |none=>
   rw[hf] at k
   refine⟨.goto l,F1,h1,⟨n0+1,fun n hn=> ?_⟩,k⟩
   obtain⟨m,rfl⟩:∃m,n=m+1:=⟨n-1,by omega⟩
   simp only[Ds,hx m (by omega),hf]
  |some rest=>
   rw[hf] at k;obtain⟨x2,F2,h2,⟨m0,hy⟩,k⟩:=k
   refine⟨x2,F2,h2,⟨n0+m0+1,fun n hn=> ?_⟩,k⟩
   obtain⟨m,rfl⟩:∃m,n=m+1:=⟨n-1,by omega⟩
   simp only[Ds,hx m (by omega),hf]
   exact hy m (by omega)
 |_=>
  simp only[AE] at k
  refine⟨_,F1,h1,⟨n0+1,fun n hn=> ?_⟩,k⟩
  obtain⟨m,rfl⟩:∃m,n=m+1:=⟨n-1,by omega⟩
  simp only[Ds,hx m (by omega)]
theorem Ze {a:Code}(hc:Ab body p=.scope a)(k:AE C f body Q (.code (0::p):: .scope (0::p)::st) .normal F h):AE C f body Q (.code p::st) .normal F h:=by
 obtain⟨x,F1,h1,hx,k⟩:=k
 have h0:Ab body (0::p)=a:=by simp[Ab,child,hc]
 rw[h0] at hx;obtain⟨x2,F2,h2,⟨m0,hy⟩,k⟩:=QZ h0 hx k
 refine CN ⟨m0+1,fun n hn=> ?_⟩ k
 obtain⟨m,rfl⟩:∃m,n=m+1:=⟨n-1,by omega⟩
 rw[hc];simp only[exec]
 exact hy m (by omega)
theorem dz {l:Nat}(hf:(findLabel (Ab body p) l).isSome=true)(k:AE C f body Q (.code ((l+2)::p):: .scope p::st) .normal F h):AE C f body Q (.scope p::st) (.goto l) F h:=by
 obtain⟨x,F1,h1,hx,k⟩:=k;simp only[AE]
 cases hr:findLabel (Ab body p) l with
 |none=>rw[hr] at hf;cases hf
 |some rest=>
  have h0:Ab body ((l+2)::p)=rest:=by simp[Ab,child,hr]
  rw[h0] at hx;exact QZ rfl hx k
theorem PO {id:Nat}{ops:Array Oper}{draw:Bool}{G:Fr}{h':Hp}(hc:Ab body p=.region id ops draw)(ha:(draw&&C.Gq f id)=true)(hx:∃n0,∀n,n0<=n->Is C (fun d=>call C d n) ops ((C.live f id).map fun s=>(s,lk F s)) h=.ok (G,h'))
  (k:AE C f body Q st .normal G h'):AE C f body Q (.code p::st) .normal F h:=by
 obtain⟨n0,hx⟩:=hx
 refine CN (x:=.normal) ⟨n0+1,fun n hn=> ?_⟩ k
 obtain⟨m,rfl⟩:∃m,n=m+1:=⟨n-1,by omega⟩
 rw[hc]
 simp only[exec,ha,hx m (by omega)]
theorem PQ {id:Nat}{ops:Array Oper}{draw:Bool}(hc:Ab body p=.region id ops draw)(CE:(draw&&C.Gq f id)=false)(FD:((!C.Cs f&&Eo ops.toList)||(draw&& !SL ops.toList (IK (FH ops draw) h.length ((C.live f id).map fun s=>(s,lk F s)))))=false)(k:AE C f body Q (.ops p 0::st) .normal (IK (FH ops draw) h.length ((C.live f id).map fun s=>(s,lk F s))) (Pv (FH ops draw) h)):AE C f body Q (.code p::st) .normal F h:=by
 simp only[AE,hc] at k;obtain⟨F1,h1,⟨n0,hx⟩,k⟩:=k
 refine CN (x:=.normal) ⟨n0+1,fun n hn=> ?_⟩ k
 obtain⟨m,rfl⟩:∃m,n=m+1:=⟨n-1,by omega⟩
 rw[hc]
 have:=hx m (by omega)
 simp only[List.drop_zero] at this;simp only[exec,CE,FD,this]
theorem MM {i id:Nat}{ops:Array Oper}{draw:Bool}{o:Oper}{e:Bool×AV}(hc:Ab body p=.region id ops draw)(ho:ops[i]?=some o)
  (hs:∃n0,∀n,n0<=n->AW C (call C (A6 C ops draw i) n) ops (A6 C ops draw i) o F h=.ok (e,h')) (hm:EH C ops draw i F h h'=true) (k:AE C f body Q (.ops p (i+1)::st) .normal (Aq F (Cx (A6 C ops draw i) o) e) h'):AE C f body Q (.ops p i::st) .normal F h:=by
 simp only[AE,hc] at k⊢;obtain⟨n0,hs⟩:=hs;obtain⟨F1,h1,⟨m0,hx⟩,k⟩:=k
 refine⟨F1,h1,⟨n0+m0,fun n hn=> ?_⟩,k⟩
 have hi:i<ops.toList.length:=by
  have:=(Array.getElem?_eq_some_iff.1 ho).1;simpa using this
 have Eh:ops.toList[i]=o:=by
  have:=(Array.getElem?_eq_some_iff.1 ho).2;simpa using this
 rw[List.drop_eq_getElem_cons hi,Eh]
 simp only[C9,hs n (by omega),hm]
 exact hx n (by omega)
theorem Ms {i id:Nat}{ops:Array Oper}{draw:Bool}(hc:Ab body p=.region id ops draw)(ho:ops[i]?=none)(k:AE C f body Q st .normal F h):AE C f body Q (.ops p i::st) .normal F h:=by
 simp only[AE,hc]
 refine⟨F,h,⟨0,fun n _=> ?_⟩,k⟩
 have:ops.toList.length<=i:=by
  have:=Array.getElem?_eq_none_iff.1 ho;simpa using this
 rw[List.drop_of_length_le this];rfl
end
section
variable {C:Bh}{f:FuncId}
theorem Ih (F:Fr)(ls:List Nat):(ls.map fun s=>(s,lk (ls.map fun s=>(s,lk F s)) s))=ls.map fun s=>(s,lk F s):=by
 have key:∀(ms:List Nat) s,s∈ms->lk (ms.map fun s=>(s,lk F s)) s=lk F s:=by
  intro ms
  induction ms with
  |nil=>intro s hs;cases hs
  |cons m ms ih=>
   intro s hs;simp only[List.map_cons,lk]
   cases hb:Nat.beq m s with
   |true=>rw[Nat.eq_of_beq_eq_true hb];rfl
   |false=>
    simp only[cond_false];refine ih s ?_
    rcases List.mem_cons.1 hs with e|e
    ·subst e;simp[Nat.beq_refl] at hb
    ·exact e
 refine List.map_congr_left fun s hs=> ?_
 rw[key ls s hs]
def Es :Code->Option Nat
 |.seq a _=>Es a
 |.block _ a=>Es a
 |.loop a=>Es a
 |.region id _ _=>some id
 |_=>none
theorem HF {id:Nat}:∀(n:Nat) (c:Code) (F:Fr) (h:Hp),Es c=some id->exec C f n c ((C.live f id).map fun s=>(s,lk F s)) h=exec C f n c F h:=by
 intro n
 induction n with
 |zero=>intro c F h _;rfl
 |succ n ih=>
  intro c F h hc
  cases c<;>simp only[Es] at hc
  case seq a b=>simp only[exec,ih a F h hc]
  case block i a=>simp only[exec,ih a F h hc]
  case loop a=>simp only[exec,ih a F h hc]
  case region i ops draw=>
   injection hc with hc
   subst hc;simp only[exec,Ih]
  all_goals cases hc
end
def Gh (C:Bh)(f:FuncId)(c:Code)(F:Fr):Fr:=match Es c with
 |some id=>(C.live f id).map fun s=>(s,lk F s)
 |none=>F
abbrev Zv :=FuncId->Option (List AV->Hp->(AV->Hp->Prop)->Prop)
def B7 (C:Bh)(k:FuncId)(l:List AV):List AV:=match(C.Cy k).isSome||C.heap k with|true=>l|false=>AP 0 [] l
def AK (C:Bh)(T:Zv):Prop:=∀k t,T k=some t->∀l h K,t (B7 C k l) h K->∃v h',Jn C false k l h v h'/\K v h'
def IJ :Fr->Nat->Bool->Fr
 |[],_,_=>[]
 |(s,e)::r,d,b=>bif Nat.beq s d then(s,true,.bool b)::r else(s,e)::IJ r d b
def Yo (F:Fr)(y:Operand)(b:Bool):Fr:=match y with
 |.tmp t=>IJ F t b
 |_=>F
theorem Kg :∀{F:Fr} {d:Nat} {b:Bool},lk F d=(true,.bool b)->IJ F d b=F
 |[],d,b,h=>by simp[lk] at h
 |(s,e)::r,d,b,h=>by
  simp only[lk] at h;simp only[IJ]
  cases hb:Nat.beq s d with
  |true=>rw[hb] at h;simp only[cond_true] at h⊢;rw[h]
  |false=>rw[hb] at h;simp only[cond_false] at h⊢;rw[Kg h]
mutual
def Dv (n:Nat):AV->Bool
 |.ptr b _=>Nat.blt b n
 |.JW b _ _ _=>Nat.blt b n
 |.UO b=>Nat.blt b n
 |.CI b _ _ _ _=>Nat.blt b n
 |.BW b _ _ _=>Nat.blt b n
 |.Fz b _ _ _ es=>Nat.blt b n&&Aa n es
 |.NN _ vs=>Aa n vs
 |.ro cs=>CA n cs
 |.sl _ es own=>Aa n es&&(match own with|some id=>Nat.blt id n|none=>true)
 |.fn _ a c=>CA n a&&CA n c
 |.iface _ v=>Dv n v
 |.agg cs=>CA n cs
 |.tup cs=>CA n cs
 |.Cs cs=>CA n cs
 |_=>true
def CA (n:Nat):List AV->Bool
 |[]=>true
 |v::r=>Dv n v&&CA n r
def Aa (n:Nat):List (List AV)->Bool
 |[]=>true
 |v::r=>CA n v&&Aa n r
end
mutual
theorem HI (n:Nat)(h:Hp):∀x,Dv n x=true->strip n h x=x
 |.top,_=>rfl
 |.bool _,_=>rfl
 |.int _ _,_=>rfl
 |.str _,_=>rfl
 |.G9,_=>rfl
 |.ptr b o,hp=>by simp only[Dv] at hp;simp only[strip,hp,cond_true]
 |.ro cs,hp=>by rw[strip,Cu n h cs (by simpa[Dv] using hp)]
 |.sl sz es own,hp=>by
  simp only[Dv,Bool.and_eq_true] at hp;rw[Cd,Ba n h es hp.1]
  cases own with
  |none=>rfl
  |some id=>simp only[Cj,hp.2,cond_true]
 |.JW b o l s,hp=>by simp only[Dv] at hp;simp only[strip,hp,cond_true]
 |.UO b,hp=>by simp only[Dv] at hp;simp only[strip,hp,cond_true]
 |.CI b _ _ _ _,hp=>by simp only[Dv] at hp;simp only[strip,hp,cond_true]
 |.BW b _ _ _,hp=>by simp only[Dv] at hp;simp only[strip,hp,cond_true]
 |.Fz b _ _ _ es,hp=>by
  simp only[Dv,Bool.and_eq_true] at hp;simp only[strip,hp.1,cond_true,Ba n h es hp.2]
 |.NN _ vs,hp=>by rw[strip,Ba n h vs (by simpa[Dv] using hp)]
 |.fn f a c,hp=>by
  simp only[Dv,Bool.and_eq_true] at hp;rw[strip,Cu n h a hp.1,Cu n h c hp.2]
 |.GV,_=>rfl
 |.iface t v,hp=>by rw[strip,HI n h v (by simpa[Dv] using hp)]
 |.JY,_=>rfl
 |.agg cs,hp=>by rw[strip,Cu n h cs (by simpa[Dv] using hp)]
 |.tup cs,hp=>by rw[strip,Cu n h cs (by simpa[Dv] using hp)]
 |.Cs cs,hp=>by rw[strip,Cu n h cs (by simpa[Dv] using hp)]
theorem Cu (n:Nat)(h:Hp):∀xs,CA n xs=true->AP n h xs=xs
 |[],_=>rfl
 |x::xs,hp=>by
  simp only[CA,Bool.and_eq_true] at hp;rw[AP,HI n h x hp.1,Cu n h xs hp.2]
theorem Ba (n:Nat)(h:Hp):∀xs,Aa n xs=true->AB n h xs=xs
 |[],_=>rfl
 |x::xs,hp=>by
  simp only[Aa,Bool.and_eq_true] at hp;rw[AB,Cu n h x hp.1,Ba n h xs hp.2]
end
def TF (n:Nat):AV->AV
 |.ptr b o=>match Nat.blt b n with|true=>.ptr b o|false=>.top
 |.JW b o l s=>match Nat.blt b n with|true=>.JW b o l s|false=>.top
 |.sl sz es (some id)=>match Nat.blt id n with|true=>.sl sz es (some id)|false=>.sl sz es none
 |v=>v
theorem QV (n:Nat)(h:Hp){v:AV}(hl:Dv n (TF n v)=true):strip n h v=TF n v:=by
 have key:∀v,Dv n v=true->TF n v=v->strip n h v=v:=fun v h1 _=>HI n h v h1
 cases v with
 |ptr b o=>
  simp only[TF,strip]
  cases Nat.blt b n<;>rfl
 |JW b o l s=>
  simp only[TF,strip]
  cases Nat.blt b n<;>rfl
 |sl sz es own=>
  cases own with
  |none=>exact HI n h _ hl
  |some id=>
   simp only[TF] at hl⊢;rw[Cd]
   cases hb:Nat.blt id n with
   |true=>
    rw[hb] at hl;simp only[Dv,Bool.and_eq_true] at hl;rw[Ba n h es hl.1];simp only[Cj,hb,cond_true]
   |false=>
    rw[hb] at hl;simp only[Dv,Bool.and_eq_true] at hl;rw[Ba n h es hl.1];simp only[Cj,hb,cond_false]
 |_=>exact HI n h _ hl
def RY (n:Nat):Fr->Fr
 |[]=>[]
 |e::r=>(e.1,e.2.1,TF n e.2.2)::RY n r
def cO (n:Nat):Fr->Bool
 |[]=>true
 |e::r=>Dv n e.2.2&&cO n r
def QO (n:Nat):List AV->List AV
 |[]=>[]
 |v::r=>TF n v::QO n r
def aP (n:Nat):Blk->Blk
 |.mem t cs=>.mem t (QO n cs)
 |b=>b
def j9 (n:Nat):Blk->Bool
 |.mem _ cs=>CA n cs
 |.stk _ _ _ _ _ _ rows=>rows.all fun r=>CA n r.2
 |_=>true
def KX (n:Nat):Hp->Hp
 |[]=>[]
 |b::r=>aP n b::KX n r
def UG (n:Nat):Hp->Bool
 |[]=>true
 |b::r=>j9 n b&&UG n r
theorem RX (n:Nat)(h:Hp):∀{F:Fr},cO n (RY n F)=true->Cv n h F=RY n F
 |[],_=>rfl
 |e::r,hl=>by
  simp only[RY,cO,Bool.and_eq_true] at hl;show(e.1,e.2.1,strip n h e.2.2)::Cv n h r=_;rw[QV n h hl.1,RX n h hl.2,RY]
theorem TE (n:Nat)(h:Hp):∀{cs:List AV},CA n (QO n cs)=true->AP n h cs=QO n cs
 |[],_=>rfl
 |v::r,hl=>by
  simp only[QO,CA,Bool.and_eq_true] at hl;rw[AP,QV n h hl.1,TE n h hl.2,QO]
theorem Nx (n:Nat)(h:Hp):∀{bs:Hp},UG n (KX n bs)=true->bs.map (AL n h)=KX n bs
 |[],_=>rfl
 |b::r,hl=>by
  simp only[KX,UG,Bool.and_eq_true] at hl;rw[List.map_cons,Nx n h hl.2,KX]
  congr 1
  cases b with
  |mem t cs=>
   have:=hl.1;simp only[aP,j9] at this;simp only[AL,aP,TE n h this]
  |stk g t sz kc ke ksz rows=>
   have:=hl.1;simp only[aP,j9] at this;simp only[AL,aP]
   congr 1
   conv=>rhs;rw[<-List.map_id rows]
   exact List.map_congr_left fun r hr=>by rw[Cu n h r.2 (List.all_eq_true.1 this r hr)];rfl
  |_=>rfl
inductive Sh where
 |int (k:IntKind)
 |str
 |bool
 |sl (sz:Nat)
 |av
def F8 :List Sh->(List AV->Prop)->Prop
 |[],K=>K []
 |.int k::r,K=>∃z:Int,F8 r (fun l=>K (.int k z::l))
 |.str::r,K=>∃s:List UInt8,F8 r (fun l=>K (.str s::l))
 |.bool::r,K=>∃b:Bool,F8 r (fun l=>K (.bool b::l))
 |.sl sz::r,K=>∃es:List (List AV),F8 r (fun l=>K (.sl sz es none::l))
 |.av::r,K=>∃v:AV,F8 r (fun l=>K (v::l))
theorem Cq :∀{l:List Sh} {K:List AV->Prop},F8 l K->∃cs,K cs
 |[],_,h=>⟨_,h⟩
 |.int k::r,_,h=>by obtain⟨z,h⟩:=h;obtain⟨cs,h⟩:=Cq h;exact⟨_,h⟩
 |.str::r,_,h=>by obtain⟨z,h⟩:=h;obtain⟨cs,h⟩:=Cq h;exact⟨_,h⟩
 |.bool::r,_,h=>by obtain⟨z,h⟩:=h;obtain⟨cs,h⟩:=Cq h;exact⟨_,h⟩
 |.sl sz::r,_,h=>by obtain⟨z,h⟩:=h;obtain⟨cs,h⟩:=Cq h;exact⟨_,h⟩
 |.av::r,_,h=>by obtain⟨z,h⟩:=h;obtain⟨cs,h⟩:=Cq h;exact⟨_,h⟩
structure XL where
 oi:List (List Nat)
 Gy:List (List Nat×Nat×List Sh)
def lP :List Nat->List Nat->Bool
 |[],[]=>true
 |a::r,b::s=>Nat.beq a b&&lP r s
 |_,_=>false
def WQ :List (List Nat)->List Nat->Bool
 |[],_=>false
 |q::r,p=>lP q p||WQ r p
def GX :List (List Nat×Nat×List Sh)->List Nat->Nat->Option (List Sh)
 |[],_,_=>none
 |(q,j,s)::r,p,i=>bif lP q p&&Nat.beq j i then some s else GX r p i
def SP (C:Bh)(draw:Bool)(F:Fr)(h:Hp)(o:Oper)(s:List Sh)(next:(Bool×AV)->Hp->Prop):Prop:=
 match o.op with
 |.indexAddr t x i=>
  match C.P.underlying t,ev C.G F x,ev C.G F i with
  |some (.slice e),(g,.sl sz es _),(g',.int _ n)=>
   AU (g&&g'&&C7 n es.length&&Nat.beq sz (C.P.cellsOf e)&&Nat.ble 1 sz) (F8 s fun cs=>Bm es n=cs/\next (true,.ro cs) h)
  |some (.slice e),(g,.Fz _ _ _ sz es),(g',.int _ n)=>
   AU (!(draw||o.guard.isSome)&&(g&&g'&&C7 n es.length&&Nat.beq sz (C.P.cellsOf e)&&Nat.ble 1 sz)) (F8 s fun cs=>Bm es n=cs/\next (true,.ro cs) h)
  |_,_,_=>False
 |_=>False
def gz (C:Bh)(T:Zv)(draw:Bool)(F:Fr)(h:Hp)(o:Oper)(next:(Bool×AV)->Hp->Prop):Prop:=
 match o.op with
 |.call {callee:=.value x,args,argTypes:=_}=>
  match ev C.G F x,MP C.G F args.toList with
  |(true,.fn (.func k) first cap),(true,vs)=>
   match C.ident k,first++vs++cap with
   |true,[v]=>next (true,v) h
   |true,_=>False
   |false,l=>
    match draw&&((C.Cy k).isSome||C.heap k) with
    |true=>False
    |false=>match T k with
     |some t=>t (B7 C k l) h fun v h'=>next (true,v) h'
     |none=>False
  |_,_=>False
 |.defer {callee:=.value x,args,argTypes:=_}=>
  match draw|| !Dj o||o.dst.isSome|| !args.toList.isEmpty,ev C.G F x,lk F dS with
  |false,(true,.fn f first cap),(_,.Cs l)=>next (true,.Cs (.fn f first cap::l)) h
  |_,_,_=>False
 |_=>
  match Bg C (draw||o.guard.isSome) F h o with
  |some (g,e,h')=>AU g (next e h')
  |none=>False
def Xs (C:Bh)(F:Fr)(h:Hp)(o:Oper)(s:List Sh)(next:(Bool×AV)->Hp->Prop):Prop:=
 match o.op with
 |.load t x=>
  match FM C.P t,C.P.underlying t,C.P.info? t,ev C.G F x with
  |false,some _,some _,(g,.ptr b off)=>
   match h[b]? with
   |some (.mem _ cs)=>AU g (F8 s fun l=>(cs.drop off).take 1=l/\match l with|[v]=>next (true,v) h|_=>False)
   |_=>False
  |_,_,_,_=>False
 |_=>False
def Xn (C:Bh)(F:Fr)(h:Hp)(o:Oper)(next:(Bool×AV)->Hp->Prop):Prop:=
 match o.op with
 |.makeSlice t l c=>
  match C.P.underlying t with
  |some (.slice e)=>
   match C.P.info? e,ev C.G F l,ev C.G F c with
   |some i,(g,.int _ n),(g',.int _ m)=>
    match i.zero with
    |some z=>
     AU (g&&g'&&decide (0<=n)&&decide (n=m)&&decide ((i.bytes:Int)*m<=281474976710656)&&decide (m<=9223372036854775807)&&Nat.beq i.size 1&&Nat.beq z.cells.size 1&&z.cells.toList.all (·.oneCell'))
      (∃cs:List AV,cs=List.replicate n.toNat (match z.cells.toList with|[v]=>ofConst v|_=>.top)/\next (true,.JW h.length 0 n.toNat 1) (h++[.mem e cs]))
    |none=>False
   |_,_,_=>False
  |_=>False
 |_=>False
def TM (C:Bh)(T:Zv)(F:Fr)(h:Hp)(o:Oper)(next:(Bool×AV)->Hp->Prop):Prop:=match o.guard with
 |none=>gz C T (IS o) F h o next
 |some _=>False
def bM (C:Bh)(T:Zv)(ops:Array Oper):List Oper->Fr->Hp->(Fr->Hp->Prop)->Prop
 |[],F,h,K=>K F h
 |o::os,F,h,K=>TM C T F h o fun e h1=>bM C T ops os (Aq F o.dst e) h1 K
def Ni :Op->Bool
 |.call {callee:=.value _,..}=>true
 |_=>false
def Xu (C:Bh)(o:Oper)(h1 h:Hp)(p:Prop):Prop:=match EB C o&&Ni o.op with
 |true=>h1=h/\p
 |false=>p
def K3 (C:Bh)(ops:Array Oper)(l:List Nat):List Nat->Option Nat
 |[]=>none
 |i::r=>match Mr C ops l i with
  |true=>some i
  |false=>K3 C ops l r
def bZ (ops:Array Oper)(l:List Nat)(p:Nat->Prop):List Nat->Prop
 |[]=>True
 |i::r=>match Ei ops l i with
  |true=>p i/\bZ ops l p r
  |false=>bZ ops l p r
def Ys (C:Bh)(T:Zv)(ops:Array Oper)(P:Fr->Hp->Prop):Nat->List Nat->Fr->Hp->Prop
 |0,_,_,_=>False
 |_+1,[],F,h=>P F h
 |n+1,k::l,F,h=>match K3 C ops (k::l) (k::l) with
  |some i=>match ops[i]? with
   |some o=>TM C T F h o fun e h1=>Xu C o h1 h (Ys C T ops P n ((k::l).erase i) (Aq F o.dst e) h1)
   |none=>False
  |none=>bZ ops (k::l) (fun i=>match ops[i]? with
   |some o=>TM C T F h o fun e h1=>Xu C o h1 h (Ys C T ops P n ((k::l).erase i) (Aq F o.dst e) h1)
   |none=>False) (k::l)
def Em :List Nat->Fr->Fr->Prop
 |[],_,_=>True
 |d::ds,F,G=>lk F d=lk G d/\Em ds F G
def cn :Op->Bool
 |.makeSlice .. =>true
 |_=>false
def cq :Op->Bool
 |.load .. =>true
 |_=>false
def eN (C:Bh)(T:Zv)(draw:Bool)(F:Fr)(h:Hp)(o:Oper)(s:Option (List Sh))(next:(Bool×AV)->Hp->Prop):Prop:=
 match s with
 |some s=>match cq o.op with
  |true=>Xs C F h o s next
  |false=>match cn o.op with
   |true=>Xn C F h o next
   |false=>SP C draw F h o s next
 |none=>gz C T draw F h o next
def UN :List Nat->Fr->Hp->Hp->Prop->Prop
 |[],_,_,_,p=>p
 |q::r,F,h,h',p=>match lk F q with
  |(_,.ptr b _)=>h[b]?=h'[b]?/\UN r F h h' p
  |(_,.ro _)=>UN r F h h' p
  |_=>False
def Zx (C:Bh)(ops:Array Oper)(draw:Bool)(i:Nat)(F:Fr)(h h':Hp)(p:Prop):Prop:=match draw&&GW C ops i with
 |false=>p
 |true=>UN (Wn ops i) F h h' p
theorem Ov :∀(l:List Nat) {F:Fr} {h h':Hp} {p:Prop},UN l F h h' p->(∀q∈l,Jf F h h' q)/\p
 |[],F,h,h',p,hk=>⟨(fun _ hq=>by cases hq),hk⟩
 |q::r,F,h,h',p,hk=>by
  simp only[UN] at hk;split at hk
  ·rename_i g b o hl;obtain⟨k1,k2⟩:=Ov r hk.2
   refine⟨fun x hx=> ?_,k2⟩
   rcases List.mem_cons.1 hx with rfl|hx
   ·unfold Jf;rw[hl];exact hk.1
   ·exact k1 x hx
  ·rename_i g cs hl;obtain⟨k1,k2⟩:=Ov r hk
   refine⟨fun x hx=> ?_,k2⟩
   rcases List.mem_cons.1 hx with rfl|hx
   ·unfold Jf;rw[hl];trivial
   ·exact k1 x hx
  ·exact hk.elim
theorem Xm {C:Bh}{ops:Array Oper}{draw:Bool}{i:Nat}{F:Fr}{h h':Hp}{p:Prop}(hk:Zx C ops draw i F h h' p):EH C ops draw i F h h'=true/\p:=by
 unfold Zx at hk;unfold EH;split at hk
 ·rename_i hm;rw[hm];exact⟨rfl,hk⟩
 ·rename_i hm;rw[hm];obtain⟨k1,k2⟩:=Ov _ hk;refine⟨?_,k2⟩;simp only;split
  ·rfl
  ·exact @decide_eq_true _ (Classical.propDecidable _) k1
theorem EX {C:Bh}{ops:Array Oper}{draw:Bool}{i:Nat}{o:Oper}(ho:ops[i]?=some o)(hg:o.guard.isSome=true){F:Fr}{h h':Hp}:EH C ops draw i F h h'=true:=by
 have:GW C ops i=false:=by
  unfold GW;rw[ho]
  have:MK C o=false:=by
   unfold MK;split
   ·rename_i ki;rw[ki] at hg;cases hg
   ·rfl
  simp only[this,Bool.false_and]
 unfold EH;rw[this,Bool.and_false]
def KL (C:Bh)(T:Zv)(draw:Bool)(ops:Array Oper)(F:Fr)(h:Hp)(o:Oper)(s:Option (List Sh))(next:(Bool×AV)->Hp->Prop):Prop:=
 match Ef C.P draw ops o F h with
 |some (.ok (e,h'))=>next e h'
 |some (.error _)=>False
 |none=>eN C T draw F h o s next
def Gp (C:Bh)(f:FuncId)(body:Code)(T:Zv)(pl:XL)(Q:Fr->Hp->Prop):Nat->List Fm->XT->Fr->Hp->Prop
 |0,st,x,F,h=>AE C f body Q st x F h
 |n+1,[],x,F,h=>match cr x with|true=>Q F h|false=>False
 |n+1,.code p::st,.normal,F,h=>
  match WQ pl.oi p with
  |true=>AE C f body Q (.code p::st) .normal (Gh C f (Ab body p) F) h
  |false=>
   match Ab body p with
   |.skip=>Gp C f body T pl Q n st .normal F h
   |.label _=>Gp C f body T pl Q n st .normal F h
   |.ret=>Gp C f body T pl Q n st .ret F h
   |.exit id=>Gp C f body T pl Q n st (.exit id) F h
   |.goto l=>Gp C f body T pl Q n st (.goto l) F h
   |.seq _ _=>Gp C f body T pl Q n (.code (0::p):: .code (1::p)::st) .normal F h
   |.cond y _ _=>
    match ev C.G F y with
    |(true,.bool b)=>Ad b (Gp C f body T pl Q n (.code (0::p)::st) .normal (Yo F y true) h) (Gp C f body T pl Q n (.code (1::p)::st) .normal (Yo F y false) h)
    |_=>False
   |.block id _=>Gp C f body T pl Q n (.code (0::p):: .block id::st) .normal F h
   |.loop _=>Gp C f body T pl Q n (.code (0::p):: .loop p h.length::st) .normal F h
   |.scope _=>Gp C f body T pl Q n (.code (0::p):: .scope (0::p)::st) .normal F h
   |.region id ops draw=>match draw&&C.Gq f id with
    |true=>bM C T ops ops.toList ((C.live f id).map fun s=>(s,lk F s)) h fun G h'=>Ys C T ops (fun F1 h1=>Em (ops.toList.filterMap (·.dst)) F1 G/\h1=h') (ops.size+1) (List.range ops.size) ((C.live f id).map fun s=>(s,lk F s)) h/\
      Gp C f body T pl Q n st .normal G h'
    |false=>match(!C.Cs f&&Eo ops.toList)||(draw&& !SL ops.toList (IK (FH ops draw) h.length ((C.live f id).map fun s=>(s,lk F s)))) with
    |true=>False
    |false=>Gp C f body T pl Q n (.ops p 0::st) .normal (IK (FH ops draw) h.length ((C.live f id).map fun s=>(s,lk F s))) (Pv (FH ops draw) h)
   |_=>False
 |n+1,.loop p m::st,.normal,F,h=>match C.FB f with
  |false=>Gp C f body T pl Q n (.code p::st) .normal F h
  |true=>match C.Nw f with
   |true=>Gp C f body T pl Q n (.code p::st) .normal (Cv m h (Gh C f (Ab body p) F)) ((h.take m).map (AL m h))
   |false=>AU (cO m (RY m (Gh C f (Ab body p) F))&&UG m (KX m (h.take m)))
    (Gp C f body T pl Q n (.code p::st) .normal (RY m (Gh C f (Ab body p) F)) (KX m (h.take m)))
 |n+1,.block id::st,.exit i,F,h=>match Nat.beq i id with|true=>Gp C f body T pl Q n st .normal F h|false=>Gp C f body T pl Q n st (.exit i) F h
 |n+1,.scope p::st,.goto l,F,h=>match(findLabel (Ab body p) l).isSome with
  |true=>Gp C f body T pl Q n (.code ((l+2)::p):: .scope p::st) .normal F h
  |false=>Gp C f body T pl Q n st (.goto l) F h
 |n+1,.ops p i::st,.normal,F,h=>
  match Ab body p with
  |.region _ ops draw=>
   match ops[i]? with
   |none=>Gp C f body T pl Q n st .normal F h
   |some o=>
    match o.guard with
    |none=>KL C T (A6 C ops draw i) ops F h o (GX pl.Gy p i) fun e h'=>Zx C ops draw i F h h' (Gp C f body T pl Q n (.ops p (i+1)::st) .normal (Aq F (Cx (A6 C ops draw i) o) e) h')
    |some (j,want)=>
     match(ops[j]?).bind (·.dst) with
     |none=>False
     |some d=>
      match lk F d with
      |(true,.bool b)=>
       Ad b
        (match want with
        |true=>KL C T (A6 C ops draw i) ops (IJ F d true) h o (GX pl.Gy p i) fun e h'=>Gp C f body T pl Q n (.ops p (i+1)::st) .normal (Aq (IJ F d true) o.dst e) h'
        |false=>Gp C f body T pl Q n (.ops p (i+1)::st) .normal (Aq (IJ F d true) o.dst (false,.top)) h)
        (match want with
        |true=>Gp C f body T pl Q n (.ops p (i+1)::st) .normal (Aq (IJ F d false) o.dst (false,.top)) h
        |false=>KL C T (A6 C ops draw i) ops (IJ F d false) h o (GX pl.Gy p i) fun e h'=>Gp C f body T pl Q n (.ops p (i+1)::st) .normal (Aq (IJ F d false) o.dst e) h')
      |(false,_)=>Gp C f body T pl Q n (.ops p (i+1)::st) .normal (Aq F o.dst (false,.top)) h
      |_=>False
  |_=>False
 |n+1,_::st,x,F,h=>Gp C f body T pl Q n st x F h
section
variable {C:Bh}{f:FuncId}{body:Code}{T:Zv}{pl:XL}{Q:Fr->Hp->Prop}
theorem MO (n:Nat)(c:Code)(F:Fr)(h:Hp):exec C f n c (Gh C f c F) h=exec C f n c F h:=by
 unfold Gh;split
 ·exact HF n c F h (by assumption)
 ·rfl
theorem MN (n:Nat)(c:Code)(m:Nat)(h:Hp)(F:Fr)(h1:Hp):exec C f n c (Cv m h (Gh C f c F)) h1=exec C f n c (Cv m h F) h1:=by
 rw[<-MO n c (Cv m h F) h1];unfold Gh;split
 ·congr 1
  unfold Cv;rw[List.map_map]
  refine List.map_congr_left fun s _=> ?_
  have:=GG m h F s;unfold Cv at this;rw[this];rfl
 ·rfl
theorem Ug {p:List Nat}{st:List Fm}{F:Fr}{h:Hp}(k:AE C f body Q (.code p::st) .normal (Gh C f (Ab body p) F) h):AE C f body Q (.code p::st) .normal F h:=by
 obtain⟨x,F1,h1,⟨n0,hx⟩,k⟩:=k
 exact⟨x,F1,h1,⟨n0,fun n hn=>by rw[<-MO n _ F h];exact hx n hn⟩,k⟩
theorem RN {k:FuncId}(hk:((C.Cy k).isSome||C.heap k)=false)(draw:Bool)(n:Nat)(l:List AV)(h:Hp):call C draw n k l h=call C false n k l h:=by
 simp only[Bool.or_eq_false_iff,Option.isSome_eq_false_iff,Option.isNone_iff_eq_none] at hk
 cases n with
 |zero=>rfl
 |succ n=>simp only[call,hk.1,hk.2]
theorem YO (hT:AK C T){draw:Bool}{F:Fr}{h:Hp}{o:Oper}{next:(Bool×AV)->Hp->Prop}(hd:gz C T draw F h o next):
  ∃e h',(∃n0,∀n,n0<=n->BA C (call C draw n) draw o F h=.ok (e,h'))/\next e h':=by
 unfold gz at hd;split at hd
 ·rename_i x args ts Bc;split at hd
  ·rename_i k first cap vs hx dE
   split at hd
   ·rename_i v hid hl
    refine⟨(true,v),h,⟨0,fun n _=> ?_⟩,hd⟩
    simp only[BA,Bc,hx,dE,hid,hl]
   ·exact hd.elim
   ·rename_i hid;split at hd
    ·exact hd.elim
    ·rename_i Wc
     cases ht:T k with
     |none=>rw[ht] at hd;exact hd.elim
     |some t=>
      rw[ht] at hd;obtain⟨v,h',⟨n0,hc⟩,hn⟩:=hT k t ht _ _ _ hd
      refine⟨(true,v),h',⟨n0,fun n hn=> ?_⟩,hn⟩
      have DZ:call C draw n k (first++vs++cap) h=.ok (v,h'):=by
       cases draw with
       |false=>exact hc n hn
       |true=>rw[RN (by simpa using Wc)];exact hc n hn
      simp only[BA,Bc,hx,dE,hid,DZ]
  ·exact hd.elim
 ·rename_i x args ts Bc;split at hd
  ·rename_i fn first cap b l hc hx hl
   refine⟨_,h,⟨0,fun n _=> ?_⟩,hd⟩
   simp only[BA,Bc,hc,hx,hl]
  ·exact hd.elim
 ·rename_i Bc dK;split at hd
  ·rename_i g e h' MH;obtain⟨rfl,hn⟩:=Dw hd
   refine⟨e,h',⟨0,fun n _=> ?_⟩,hn⟩
   obtain⟨dst,op,ty,pos,after,gd⟩:=o;unfold BA;split
   ·rename_i x args ts MF;exact absurd MF (Bc x args ts)
   ·rename_i x args ts MF;exact absurd MF (dK x args ts)
   ·simp only[MH]
  ·exact hd.elim
theorem Uj {C:Bh}{F:Fr}{h h1:Hp}{o:Oper}{g:Bool}{e:Bool×AV}(hq:EB C o=true)(hx:Bg C (IS o) F h o=some (g,e,h1)):h1=h:=by
 obtain⟨d,op,ty,pos,after,gd⟩:=o
 cases op<;>simp only[EB,Bool.false_eq_true] at hq
 case move x=>exact F9 (r:=(g,e)) ⟨d,.move x,ty,pos,after,gd⟩ rfl hx
 case assign x=>exact F9 (r:=(g,e)) ⟨d,.assign x,ty,pos,after,gd⟩ rfl hx
 case buildSlice t l ps=>exact F9 (r:=(g,e)) ⟨d,.buildSlice t l ps,ty,pos,after,gd⟩ rfl hx
 case load t x=>
  simp only[IS,Bg] at hx;split at hx
  ·rename_i r hr;rw[hx] at hr;simp only[Bw] at hr
   repeat' (split at hr)
   all_goals first|(simp only[Option.some.injEq,Prod.mk.injEq] at hr;exact hr.2.2.symm)|cases hr
  ·simp only[evalOp,Hw] at hx
   repeat' (split at hx)
   all_goals first|(simp only[Option.some.injEq,Prod.mk.injEq] at hx;exact hx.2.2.symm)|cases hx
 case nilCheck x=>
  simp only[IS,Bg] at hx;split at hx
  ·rename_i r hr;rw[hx] at hr;simp only[Bw] at hr
   repeat' (split at hr)
   all_goals first|(simp only[Option.some.injEq,Prod.mk.injEq] at hr;exact hr.2.2.symm)|cases hr
  ·simp only[evalOp,EU] at hx
   repeat' (split at hx)
   all_goals first|(simp only[Option.some.injEq,Prod.mk.injEq] at hx;exact hx.2.2.symm)|cases hx
 case fieldAddr s x f=>
  simp only[IS,Bg] at hx;split at hx
  ·rename_i r hr;rw[hx] at hr;simp only[Bw] at hr
   repeat' (split at hr)
   all_goals first|(simp only[Option.some.injEq,Prod.mk.injEq] at hr;exact hr.2.2.symm)|cases hr
  ·simp only[evalOp,Dm] at hx;split at hx
   ·split at hx
    ·rename_i fd _
     cases hc:Nat.beq (C.P.cellsOf fd.type) 0<;>rw[hc] at hx
     ·simp only[cond_false] at hx
      repeat' (split at hx)
      all_goals first|(simp only[Option.some.injEq,Prod.mk.injEq] at hx;exact hx.2.2.symm)|cases hx
     ·cases hx
    ·cases hx
   ·cases hx
 case field s x f=>
  simp only[IS,Bg,Bw,evalOp,LC] at hx
  repeat' (split at hx)
  all_goals first|(simp only[Option.some.injEq,Prod.mk.injEq] at hx;exact hx.2.2.symm)|cases hx
 case indexAddr t x i=>
  simp only[IS,Bg] at hx;split at hx
  ·rename_i r hr;rw[hx] at hr;simp only[Bw] at hr
   repeat' (split at hr)
   all_goals first|(simp only[Option.some.injEq,Prod.mk.injEq] at hr;exact hr.2.2.symm)|cases hr
  ·simp only[evalOp,Dl] at hx
   repeat' (split at hx)
   all_goals first|(simp only[Option.some.injEq,Prod.mk.injEq] at hx;exact hx.2.2.symm)|cases hx
 case index t x i=>
  simp only[IS,Bg,Bw,evalOp,K9] at hx
  repeat' (split at hx)
  all_goals first|(simp only[Option.some.injEq,Prod.mk.injEq] at hx;exact hx.2.2.symm)|cases hx
 case extract t ix=>
  simp only[IS,Bg,Bw,evalOp,HZ] at hx
  repeat' (split at hx)
  all_goals first|(simp only[Option.some.injEq,Prod.mk.injEq] at hx;exact hx.2.2.symm)|cases hx
 case binOp op t x y u=>
  simp only[IS,Bg,Bw,evalOp,Uq,Up] at hx
  repeat' (split at hx)
  all_goals first|(simp only[Option.some.injEq,Prod.mk.injEq] at hx;exact hx.2.2.symm)|cases hx
 case unOp op t x=>
  simp only[IS,Bg,Bw,evalOp] at hx
  repeat' (split at hx)
  all_goals first|(simp only[Option.some.injEq,Prod.mk.injEq] at hx;exact hx.2.2.symm)|cases hx
 case pick c x y=>
  simp only[IS,Bg,Bw,evalOp,PU] at hx
  repeat' (split at hx)
  all_goals first|(simp only[Option.some.injEq,Prod.mk.injEq] at hx;exact hx.2.2.symm)|cases hx
 case call c=>
  obtain⟨callee,args,CG⟩:=c
  cases callee with
  |builtin b=>
   cases b<;>simp only[Bool.false_eq_true] at hq
   simp only[IS,Bg] at hx;split at hx
   ·rename_i r hr;rw[hx] at hr;simp only[Bw] at hr
    repeat' (split at hr)
    all_goals first|(simp only[Option.some.injEq,Prod.mk.injEq] at hr;exact hr.2.2.symm)|cases hr
   ·simp only[evalOp,GJ] at hx;split at hx
    ·simp only[RC] at hx
     repeat' (split at hx)
     all_goals first|(simp only[Option.some.injEq,Prod.mk.injEq] at hx;exact hx.2.2.symm)|cases hx
    all_goals simp at *
  |_=>simp[IS,Bg,Bw,evalOp] at hx
theorem aI {P:Program}{ops:Array Oper}{o:Oper}{F:Fr}{h:Hp}:Ef P (IS o) ops o F h=none:=by
 unfold Ef;split
 ·rfl
 ·rename_i hd;rw[Bool.and_eq_true] at hd;have:=hd.1;unfold IS at this;split at this
  ·rename_i Bc;rw[Bc]
  ·rename_i Bc;rw[Bc]
  ·rename_i Bc;rw[Bc]
  ·cases this
theorem OA (hT:AK C T){ops:Array Oper}{F:Fr}{h:Hp}{o:Oper}{next:(Bool×AV)->Hp->Prop}(hd:TM C T F h o next):
  ∃e h',(∃n0,∀n,n0<=n->Dz C (fun d=>call C d n) ops o F h=.ok (e,h'))/\next e h'/\(EB C o=true->Ni o.op=false->h'=h):=by
 unfold TM at hd;split at hd
 ·rename_i hg;obtain⟨e,h',⟨n0,hn⟩,hk⟩:=YO hT hd
  refine⟨e,h',⟨n0,fun n kY=> ?_⟩,hk,fun hq hc=> ?_⟩
  ·unfold Dz AW guardOf;rw[hg];simp only[aI];exact hn n kY
  ·have:=hn n0 (Nat.le_refl _);unfold BA at this;split at this
   ·rename_i x args CG Bc;rw[Bc] at hc;cases hc
   ·rename_i x args CG Bc;simp only[EB,Bc] at hq;cases hq
   ·split at this
    ·rename_i e2 h2 MH;simp only[Except.ok.injEq,Prod.mk.injEq] at this;obtain⟨rfl,rfl⟩:=this;rw[hg] at MH;simp only[Option.isSome_none,Bool.or_false] at MH;exact Uj hq MH
    ·cases this
    ·cases this
 ·exact hd.elim
theorem TT (hT:AK C T){ops:Array Oper}:∀(os:List Oper) {F:Fr} {h:Hp} {K:Fr->Hp->Prop},bM C T ops os F h K->∃G h',(∃n0,∀n,n0<=n->NG C (fun d=>call C d n) ops os F h=.ok (G,h'))/\K G h'
 |[],F,h,K,hk=>⟨F,h,⟨0,fun _ _=>rfl⟩,hk⟩
 |o::os,F,h,K,hk=>by
  obtain⟨e,h1,⟨n0,hn⟩,hk,_⟩:=OA (ops:=ops) hT hk;obtain⟨G,h2,⟨m0,hm⟩,hk⟩:=TT hT os hk
  exact⟨G,h2,⟨n0+m0,fun n kY=>by simp only[NG,hn n (by omega),hm n (by omega)]⟩,hk⟩
theorem Ji {ops:Array Oper}{l:List Nat}:∀{r:List Nat} {i:Nat},K3 C ops l r=some i->i∈r/\Mr C ops l i=true
 |[],_,h=>by cases h
 |j::r,i,h=>by
  unfold K3 at h;split at h
  ·rename_i hf
   injection h with h
   subst h
   exact⟨by simp,hf⟩
  ·obtain⟨h1,h2⟩:=Ji h
   exact⟨by simp[h1],h2⟩
theorem Li {ops:Array Oper}{l:List Nat}{p:Nat->Prop}:∀{r:List Nat},bZ ops l p r->∀i∈r,Ei ops l i=true->p i
 |[],_,i,hi,_=>by cases hi
 |j::r,h,i,hi,hu=>by
  unfold bZ at h
  rcases List.mem_cons.1 hi with rfl|hi
  ·rw[hu] at h;exact h.1
  ·split at h
   ·exact Li h.2 i hi hu
   ·exact Li h i hi hu
theorem fG {X:Nat->Nat->Prop}:∀(l:List Nat),(∀i∈l,∃n0,∀n,n0<=n->X i n)->∃n0,∀n,n0<=n->∀i∈l,X i n
 |[],_=>⟨0,fun _ _ i hi=>by cases hi⟩
 |j::l,h=>by
  obtain⟨n0,h0⟩:=h j (by simp)
  obtain⟨n1,h1⟩:=fG l fun i hi=>h i (by simp[hi])
  refine⟨n0+n1,fun n hn i hi=> ?_⟩
  rcases List.mem_cons.1 hi with rfl|hi
  ·exact h0 n (by omega)
  ·exact h1 n (by omega) i hi
theorem Ou {o:Oper}{h1 h:Hp}{p:Prop}(hk:Xu C o h1 h p)(hq:EB C o=true->Ni o.op=false->h1=h):(EB C o=true->h1=h)/\p:=by
 unfold Xu at hk
 cases hc:Ni o.op with
 |false=>
  rw[hc,Bool.and_false] at hk
  exact⟨fun h=>hq h hc,hk⟩
 |true=>
  cases ur:EB C o with
  |false=>rw[ur] at hk;exact⟨fun h=>(by cases h),hk⟩
  |true=>rw[ur,hc] at hk;exact⟨fun _=>hk.1,hk.2⟩
theorem Rm (hT:AK C T){ops:Array Oper}{P Post:Fr->Hp->Prop}{Inv:Fr->Prop}(hI:∀F o e,o∈ops.toList->Inv F->Inv (Aq F o.dst e))(hP:∀F h,Inv F->P F h->Post F h):∀(n:Nat) (l:List Nat) {F:Fr} {h:Hp},Inv F->Ys C T ops P n l F h->
  ∃n0,∀m,n0<=m->NX C (fun d=>call C d m) ops Post n l F h
 |0,_,_,_,_,hx=>hx.elim
 |n+1,[],F,h,hi,hx=>⟨0,fun _ _=>hP F h hi hx⟩
 |n+1,k::l,F,h,hi,hx=>by
  unfold Ys at hx;split at hx
  ·rename_i i hf;obtain⟨f1,f2⟩:=Ji hf;split at hx
   ·rename_i o ho;obtain⟨e,h1,⟨n0,hn⟩,hk,hq⟩:=OA (ops:=ops) hT hx;obtain⟨k1,k2⟩:=Ou hk hq;obtain⟨_,⟨o',g1,g2⟩,_⟩:=PG f2;rw[ho] at g1
    injection g1 with g1
    subst g1;have hh:=k1 g2;subst hh
    obtain⟨m0,hm⟩:=Rm hT hI hP n _ (hI F o e (by simpa using Array.mem_of_getElem? ho) hi) k2
    exact⟨n0+m0,fun m n2=>.inl ⟨i,o,e,f1,f2,ho,hn m (by omega),hm m (by omega)⟩⟩
   ·exact hx.elim
  ·have:=fG (X:=fun i m=>Ei ops (k::l) i=true->∃o e h1,ops[i]?=some o/\Dz C (fun d=>call C d m) ops o F h=.ok (e,h1)/\(EB C o=true->h1=h)/\NX C (fun d=>call C d m) ops Post n ((k::l).erase i) (Aq F o.dst e) h1) (k::l) fun i lq=>by
    cases hu:Ei ops (k::l) i with
    |false=>exact⟨0,fun _ _ h=>by cases h⟩
    |true=>
     have:=Li hx i lq hu;split at this
     ·rename_i o ho;obtain⟨e,h1,⟨n0,hn⟩,hk,hq⟩:=OA (ops:=ops) hT this;obtain⟨k1,k2⟩:=Ou hk hq
      obtain⟨m0,hm⟩:=Rm hT hI hP n _ (hI F o e (by simpa using Array.mem_of_getElem? ho) hi) k2
      exact⟨n0+m0,fun m n2 _=>⟨o,e,h1,ho,hn m (by omega),k1,hm m (by omega)⟩⟩
     ·exact this.elim
   obtain⟨n0,hn⟩:=this
   exact⟨n0,fun m hm=>.inr fun i lq hu=>hn m hm i lq hu⟩
theorem OG :∀{ds:List Nat} {F G:Fr},Em ds F G->∀d∈ds,lk F d=lk G d
 |[],_,_,_,d,hd=>by cases hd
 |x::ds,F,G,h,d,hd=>by
  rcases List.mem_cons.1 hd with rfl|hd
  ·exact h.1
  ·exact OG h.2 d hd
theorem TS {cl:Bool->FuncId->List AV->Hp->Except (List Nat) (AV×Hp)}{ops:Array Oper}{n:Nat}:∀(os:List Oper) {F G:Fr} {h h':Hp},(∀o∈os,o.dst≠some n)->NG C cl ops os F h=.ok (G,h')->lk G n=lk F n
 |[],F,G,h,h',_,hx=>by
  simp only[NG,Except.ok.injEq,Prod.mk.injEq] at hx;rw[hx.1]
 |o::os,F,G,h,h',hd,hx=>by
  simp only[NG] at hx;split at hx
  ·rw[TS os (fun o ho=>hd o (by simp[ho])) hx,Az (hd o (by simp))]
  ·cases hx
theorem eB (hT:AK C T){ops:Array Oper}{F G:Fr}{h h':Hp}(hr:∃n0,∀n,n0<=n->NG C (fun d=>call C d n) ops ops.toList F h=.ok (G,h'))
  (hs:Ys C T ops (fun F1 h1=>Em (ops.toList.filterMap (·.dst)) F1 G/\h1=h') (ops.size+1) (List.range ops.size) F h):∃n0,∀n,n0<=n->Is C (fun d=>call C d n) ops F h=.ok (G,h'):=by
 obtain⟨n0,hn⟩:=hr
 have NR:∀n,(∀o∈ops.toList,o.dst≠some n)->lk G n=lk F n:=fun n hd=>TS _ hd (hn n0 (Nat.le_refl _))
 obtain⟨m0,hm⟩:=Rm hT (Inv:=fun F1=>∀n,(∀o∈ops.toList,o.dst≠some n)->lk F1 n=lk F n) (Post:=fun G' h1=>(∀n,lk G' n=lk G n)/\h1=h') (fun F1 o e ho hi n hd=>by rw[Az (hd o ho)];exact hi n hd)
  (fun F1 h1 hi hp=>⟨fun n=>by
   by_cases hd:∀o∈ops.toList,o.dst≠some n
   ·rw[hi n hd,NR n hd]
   ·have:∃o∈ops.toList,o.dst=some n:=Classical.byContradiction fun BT=>hd fun o ho e=>BT ⟨o,ho,e⟩
    obtain⟨o,ho,e⟩:=this
    exact OG hp.1 n (List.mem_filterMap.2 ⟨o,ho,e⟩),hp.2⟩) (ops.size+1) (List.range ops.size) (fun _ _=>rfl) hs
 refine⟨n0+m0,fun n kY=> ?_⟩
 unfold Is
 rw[hn n (by omega)]
 simp only
 rw[@decide_eq_true _ (Classical.propDecidable _) (hm n (by omega))]
theorem PT {C:Bh}{dr:Bool}{F:Fr}{h:Hp}{o:Oper}(hn:Bw C F h o=none):Bg C dr F h o=evalOp C dr F h o:=by
 unfold Bg
 cases dr with
 |true=>rfl
 |false=>simp only[hn]
theorem Qn {draw:Bool}{F:Fr}{h:Hp}{o:Oper}{s:List Sh}{next:(Bool×AV)->Hp->Prop}(hd:SP C draw F h o s next):
  ∃e h',(∃n0,∀n,n0<=n->BA C (call C draw n) draw o F h=.ok (e,h'))/\next e h':=by
 unfold SP at hd;split at hd
 ·rename_i t x i Bc;split at hd
  ·rename_i e g sz es own g' ik n hu hx hi;obtain⟨hg,hd⟩:=Dw hd;obtain⟨cs,FO,hn⟩:=Cq hd;subst FO
   refine⟨_,h,⟨0,fun n _=> ?_⟩,hn⟩
   obtain⟨dst,op,ty,pos,after,gd⟩:=o;simp only at Bc;subst Bc
   simp only[BA,PT (show Bw C F h ⟨dst,.indexAddr t x i,ty,pos,after,gd⟩=none by simp only[Bw,hu,hx,hi]),evalOp,Dl,hu,hx,hi,hg]
  ·rename_i e g b0 n0 d0 sz es g' ik n hu hx hi;obtain⟨hg,Ud⟩:=Dw hd;obtain⟨cs,FO,hn⟩:=Cq Ud;subst FO
   refine⟨_,h,⟨0,fun m _=> ?_⟩,hn⟩
   obtain⟨dst,op,ty,pos,after,gd⟩:=o;simp only at Bc;subst Bc;simp only[Bool.and_eq_true,Bool.not_eq_true'] at hg;obtain⟨Wc,hg⟩:=hg
   have gh:(g&&g'&&C7 n es.length&&Nat.beq sz (C.P.cellsOf e)&&Nat.ble 1 sz)=true:=by simp only[Bool.and_eq_true];exact hg
   simp only[BA,Wc,Bg,Bw,hu,hx,hi,gh]
  ·exact hd.elim
 ·exact hd.elim
theorem UH {draw:Bool}{F:Fr}{h:Hp}{o:Oper}{s:List Sh}{next:(Bool×AV)->Hp->Prop}(hd:Xs C F h o s next):
  ∃e h',(∃n0,∀n,n0<=n->BA C (call C draw n) draw o F h=.ok (e,h'))/\next e h':=by
 unfold Xs at hd;split at hd
 ·rename_i t x Bc;split at hd
  ·rename_i u ti g b off ha hu hi hx;split at hd
   ·rename_i t0 cs hb;obtain⟨hg,hd⟩:=Dw hd;obtain⟨l,hl,hn⟩:=Cq hd;subst hl;split at hn
    ·rename_i v hv
     refine⟨_,h,⟨0,fun n _=> ?_⟩,hn⟩
     obtain⟨dst,op,ty,pos,after,gd⟩:=o;simp only at Bc;subst Bc;subst hg
     have hc:∃r,cs.drop off=v::r:=by
      cases FO:cs.drop off with
      |nil=>rw[FO] at hv;cases hv
      |cons c r=>rw[FO] at hv;simp at hv;exact⟨r,by rw[hv]⟩
     obtain⟨r,hc⟩:=hc
     simp only[BA,PT (show Bw C F h ⟨dst,.load t x,ty,pos,after,gd⟩=none by simp only[Bw,hx]),evalOp,Hw,hx,hb,rd,hu,hi,ha,hc]
    ·exact hn.elim
   ·exact hd.elim
  ·exact hd.elim
 ·exact hd.elim
theorem UC {draw:Bool}{F:Fr}{h:Hp}{o:Oper}{next:(Bool×AV)->Hp->Prop}(hd:Xn C F h o next):
  ∃e h',(∃n0,∀n,n0<=n->BA C (call C draw n) draw o F h=.ok (e,h'))/\next e h':=by
 unfold Xn at hd;split at hd
 ·rename_i t l c Bc;split at hd
  ·rename_i e hu;split at hd
   ·rename_i i g k n g' k' m hi hl hc;split at hd
    ·rename_i z hz;obtain⟨hg,cs,rfl,hn⟩:=Dw hd
     refine⟨_,_,⟨0,fun n _=> ?_⟩,hn⟩
     obtain⟨dst,op,ty,pos,after,gd⟩:=o;simp only at Bc;subst Bc
     simp only[BA,PT (show Bw C F h ⟨dst,.makeSlice t l c,ty,pos,after,gd⟩=none by simp only[Bw]),evalOp,Se,hu,hi,hl,hc,hz,hg]
     rfl
    ·exact hd.elim
   ·exact hd.elim
  ·exact hd.elim
 ·exact hd.elim
theorem eM (hT:AK C T){draw:Bool}{F:Fr}{h:Hp}{o:Oper}{s:Option (List Sh)}{next:(Bool×AV)->Hp->Prop}(hd:eN C T draw F h o s next):
  ∃e h',(∃n0,∀n,n0<=n->BA C (call C draw n) draw o F h=.ok (e,h'))/\next e h':=by
 cases s with
 |none=>exact YO hT hd
 |some s=>
  simp only[eN] at hd;split at hd
  ·exact UH hd
  ·split at hd
   ·exact UC hd
   ·exact Qn hd
theorem RF (hT:AK C T){draw:Bool}{ops:Array Oper}{F:Fr}{h:Hp}{o:Oper}{s:Option (List Sh)}{next:(Bool×AV)->Hp->Prop}(hd:KL C T draw ops F h o s next):
  ∃e h',(∃n0,∀n,n0<=n->(match Ef C.P draw ops o F h with|some r=>r|none=>BA C (call C draw n) draw o F h)=.ok (e,h'))/\next e h':=by
 unfold KL at hd
 cases F6:Ef C.P draw ops o F h with
 |none=>rw[F6] at hd;exact eM hT hd
 |some r=>
  rw[F6] at hd
  cases r with
  |error x=>exact hd.elim
  |ok r=>exact⟨r.1,r.2,⟨0,fun n _=>rfl⟩,hd⟩
theorem Ap (hT:AK C T):∀(n:Nat) (st:List Fm) (x:XT) (F:Fr) (h:Hp),Gp C f body T pl Q n st x F h->AE C f body Q st x F h:=by
 intro n
 induction n with
 |zero=>intro st x F h hu;exact hu
 |succ n ih=>
  intro st x F h hu
  cases st with
  |nil=>
   simp only[Gp] at hu;split at hu
   ·exact⟨by assumption,hu⟩
   ·exact hu.elim
  |cons fm st=>
   cases fm with
   |code p=>
    cases x with
    |normal=>
     simp only[Gp] at hu;split at hu
     ·exact Ug hu
     ·split at hu
      ·rename_i hc
       exact CN (Mw fun m=>by rw[hc];rfl) (ih _ _ _ _ hu)
      ·rename_i hc
       exact CN (Mw fun m=>by rw[hc];rfl) (ih _ _ _ _ hu)
      ·rename_i hc
       exact CN (Mw fun m=>by rw[hc];rfl) (ih _ _ _ _ hu)
      ·rename_i hc
       exact CN (Mw fun m=>by rw[hc];rfl) (ih _ _ _ _ hu)
      ·rename_i hc
       exact CN (Mw fun m=>by rw[hc];rfl) (ih _ _ _ _ hu)
      ·rename_i hc;exact YF hc (ih _ _ _ _ hu)
      ·rename_i y a b hc;split at hu
       ·rename_i t hy
        have Ox:Yo F y t=F:=by
         cases y with
         |tmp s=>exact Kg hy
         |_=>rfl
        refine PR hc hy ?_
        cases t with
        |true=>simp only[Ad] at hu;rw[Ox] at hu;exact ih _ _ _ _ hu
        |false=>simp only[Ad] at hu;rw[Ox] at hu;exact ih _ _ _ _ hu
       ·exact hu.elim
      ·rename_i hc;exact Q8 hc (ih _ _ _ _ hu)
      ·rename_i hc;exact K4 hc (ih _ _ _ _ hu)
      ·rename_i hc;exact Ze hc (ih _ _ _ _ hu)
      ·rename_i hc;split at hu
       ·rename_i CE;obtain⟨G,h1,CU,dJ,hu⟩:=TT hT _ hu;exact PO hc CE (eB hT CU dJ) (ih _ _ _ _ hu)
       rename_i CE;split at hu
       ·exact hu.elim
       ·rename_i FD;exact PQ hc CE FD (ih _ _ _ _ hu)
      ·exact hu.elim
    |_=>
     simp only[Gp] at hu;simp only[AE];exact ih _ _ _ _ hu
   |block id=>
    cases x with
    |exit i=>
     simp only[Gp] at hu;simp only[AE]
     cases hb:Nat.beq i id with
     |true=>rw[hb] at hu;exact ih _ _ _ _ hu
     |false=>rw[hb] at hu;exact ih _ _ _ _ hu
    |_=>
     simp only[Gp] at hu;simp only[AE];exact ih _ _ _ _ hu
   |loop p m=>
    cases x with
    |normal=>
     simp only[Gp] at hu;simp only[AE]
     cases ht:C.FB f with
     |false=>
      rw[ht] at hu;exact ih (.code p::st) .normal F h hu
     |true=>
      rw[ht] at hu;simp only at hu
      have hk:AE C f body Q (.code p::st) .normal (Cv m h (Gh C f (Ab body p) F)) ((h.take m).map (AL m h)):=by
       cases Sw:C.Nw f with
       |true=>rw[Sw] at hu;exact ih (.code p::st) .normal _ _ hu
       |false=>
        rw[Sw] at hu;obtain⟨hl,hu⟩:=Dw hu;rw[Bool.and_eq_true] at hl;have hk:=ih (.code p::st) .normal _ _ hu;rw[<-RX m h hl.1,<-Nx m h hl.2] at hk;exact hk
      obtain⟨x1,F1,h1,⟨n0,hx⟩,k⟩:=hk
      refine⟨x1,F1,h1,⟨n0,fun n hn=> ?_⟩,k⟩
      rw[<-hx n hn];exact(MN n _ m h F _).symm
    |_=>
     simp only[Gp] at hu;simp only[AE];exact ih _ _ _ _ hu
   |scope p=>
    cases x with
    |goto l=>
     simp only[Gp] at hu
     cases hf:(findLabel (Ab body p) l).isSome with
     |true=>rw[hf] at hu;exact dz hf (ih _ _ _ _ hu)
     |false=>
      rw[hf] at hu;simp only[Option.isSome_eq_false_iff,Option.isNone_iff_eq_none] at hf;simp only[AE,hf];exact ih _ _ _ _ hu
    |_=>
     simp only[Gp] at hu;simp only[AE];exact ih _ _ _ _ hu
   |ops p i=>
    cases x with
    |normal=>
     simp only[Gp] at hu;split at hu
     ·rename_i id ops draw hc;split at hu
      ·rename_i ho;exact Ms hc ho (ih _ _ _ _ hu)
      ·rename_i o ho
       have done:∀F,guardOf ops F o=some true->KL C T (A6 C ops draw i) ops F h o (GX pl.Gy p i) (fun e h'=>Zx C ops draw i F h h' (Gp C f body T pl Q n (.ops p (i+1)::st) .normal (Aq F (Cx (A6 C ops draw i) o) e) h'))->AE C f body Q (.ops p i::st) .normal F h:=by
        intro F hg hd;obtain⟨e,h',⟨n0,hs⟩,hn⟩:=RF hT hd;obtain⟨hm,hn⟩:=Xm hn
        refine MM hc ho ⟨n0,fun n hn=> ?_⟩ hm (ih _ _ _ _ hn)
        simp only[AW,hg];exact hs n hn
       have Uv:∀F,o.guard.isSome=true->guardOf ops F o=some true->KL C T (A6 C ops draw i) ops F h o (GX pl.Gy p i) (fun e h'=>Gp C f body T pl Q n (.ops p (i+1)::st) .normal (Aq F (Cx (A6 C ops draw i) o) e) h')->AE C f body Q (.ops p i::st) .normal F h:=by
        intro F Hf hg hd;obtain⟨e,h',⟨n0,hs⟩,hn⟩:=RF hT hd
        refine MM hc ho ⟨n0,fun n hn=> ?_⟩ (EX ho Hf) (ih _ _ _ _ hn)
        simp only[AW,hg];exact hs n hn
       have PD:o.guard.isSome=true->Cx (A6 C ops draw i) o=o.dst:=by
        intro Hf
        have:Dj o=false:=by
         unfold Dj;split
         ·rename_i ki;rw[ki] at Hf;cases Hf
         ·rfl
        cases A6 C ops draw i<;>simp[Cx,this]
       have left:∀F,o.guard.isSome=true->guardOf ops F o=some false->Gp C f body T pl Q n (.ops p (i+1)::st) .normal (Aq F o.dst (false,.top)) h->AE C f body Q (.ops p i::st) .normal F h:=by
        intro F Hf hg hd;rw[<-PD Hf] at hd
        refine MM hc ho ⟨0,fun n hn=> ?_⟩ (EX ho Hf) (ih _ _ _ _ hd)
        simp only[AW,hg]
       split at hu
       ·rename_i Qt
        exact done F (by simp only[guardOf,Qt]) hu
       ·rename_i j want Qt
        have Hf:o.guard.isSome=true:=by rw[Qt];rfl
        rw[<-PD Hf] at hu;split at hu
        ·exact hu.elim
        ·rename_i d hj;split at hu
         ·rename_i b hl;have Ox:=Kg hl
          have hg:guardOf ops F o=some (b==want):=by simp[guardOf,Qt,hj,hl]
          cases b with
          |true=>
           simp only[Ad] at hu;rw[Ox] at hu
           cases want with
           |true=>exact Uv F Hf (by rw[hg];rfl) hu
           |false=>exact left F Hf (by rw[hg];rfl) (by rw[<-PD Hf];exact hu)
          |false=>
           simp only[Ad] at hu;rw[Ox] at hu
           cases want with
           |true=>exact left F Hf (by rw[hg];rfl) (by rw[<-PD Hf];exact hu)
           |false=>exact Uv F Hf (by rw[hg];rfl) hu
         ·rename_i v hl
          refine left F Hf ?_ (by rw[<-PD Hf];exact hu)
          simp only[guardOf,Qt,hj,hl]
          cases v<;>rfl
         ·exact hu.elim
     ·exact hu.elim
    |_=>
     simp only[Gp] at hu;simp only[AE];exact ih _ _ _ _ hu
def AR (P:Program)(fn:Func)(v:AV)(F:Fr)(h':Hp):Prop:=match result P fn F h' with
 |some u=>stripR 0 h' u=v
 |none=>False
def AQ (P:Program)(fn:Func)(n:Nat)(K:AV->Hp->Prop)(F:Fr)(h':Hp):Prop:=match result P fn F h' with
 |some u=>K (stripR n h' u) ((h'.take n).map (AL n h'))
 |none=>False
theorem eY {k:FuncId}{fn:Func}{c:Code}(BD:C.ok k=true)(hh:C.Cy k=none)(hp:C.E7 k=none)(hf:C.P.funcs[k]?=some fn)(hb:fn.body=some c)(IG:C.heap k=false)(FD:C.Cs k=false)
  {l:List AV} {v:AV} (hr:AE C k c (AR C.P fn v) [.code []] .normal (DY 0 (B7 C k l)) []) (draw:Bool) (h:Hp):Jn C draw k l h v h:=by
 obtain⟨x,F',h',⟨n0,hx⟩,he,hq⟩:=hr
 have ha:B7 C k l=AP 0 [] l:=by simp[B7,hh,IG]
 rw[ha] at hx;simp only[Ab] at hx
 refine⟨n0+1,fun n hn=> ?_⟩
 obtain⟨m,rfl⟩:∃m,n=m+1:=⟨n-1,by omega⟩
 unfold AR at hq;split at hq
 ·rename_i u hu;subst hq
  cases x with
  |normal=>simp only[call,BD,hh,hp,hf,hb,IG,DD,finish,FD,hx m (by omega),hu,Bool.not_true,cond_false]
  |ret=>simp only[call,BD,hh,hp,hf,hb,IG,DD,finish,FD,hx m (by omega),hu,Bool.not_true,cond_false]
  |_=>cases he
 ·exact hq.elim
theorem Jl {k:FuncId}{fn:Func}{c:Code}(BD:C.ok k=true)(hh:C.Cy k=none)(hp:C.E7 k=none)(hf:C.P.funcs[k]?=some fn)(hb:fn.body=some c)(IG:C.heap k=true)(FD:C.Cs k=false)(vF:C.KI k=false)(jC:C.pre k=none)
  {l:List AV} {h:Hp} {K:AV->Hp->Prop} (hr:AE C k c (AQ C.P fn h.length K) [.code []] .normal (DY 0 (B7 C k l)) h):∃v h',Jn C false k l h v h'/\K v h':=by
 obtain⟨x,F',h',⟨n0,hx⟩,he,hq⟩:=hr
 have ha:B7 C k l=l:=by simp[B7,IG]
 rw[ha] at hx;simp only[Ab] at hx;unfold AQ at hq;split at hq
 ·rename_i u hu
  refine⟨_,_,⟨n0+1,fun n hn=> ?_⟩,hq⟩
  obtain⟨m,rfl⟩:∃m,n=m+1:=⟨n-1,by omega⟩
  cases x with
  |normal=>simp only[call,BD,hh,hp,hf,hb,IG,jC,DD,finish,FD,vF,Fv,hx m (by omega),hu,Bool.not_true,cond_false]
  |ret=>simp only[call,BD,hh,hp,hf,hb,IG,jC,DD,finish,FD,vF,Fv,hx m (by omega),hu,Bool.not_true,cond_false]
  |_=>cases he
 ·exact hq.elim
theorem LL {k:FuncId}{fn:Func}{c:Code}{m0:Nat}(BD:C.ok k=true)(hh:C.Cy k=none)(hp:C.E7 k=none)(hf:C.P.funcs[k]?=some fn)(hb:fn.body=some c)(IG:C.heap k=true)(FD:C.Cs k=false){m1:Nat}(jC:C.pre k=some m1)
  {l:List AV} {h:Hp} {K:AV->Hp->Prop} (pY:Hm m1 h=m0) (gX:HN m0 h=true) (hr:AE C k c (AQ C.P fn m0 fun v h1=>K v (h1++h.drop m0)) [.code []] .normal (DY 0 (AP m0 [] l)) ((h.take m0).map (AL m0 []))):∃v h',Jn C false k l h v h'/\K v h':=by
 obtain⟨x,F',h',⟨n0,hx⟩,he,hq⟩:=hr;simp only[Ab] at hx;unfold AQ at hq;split at hq
 ·rename_i u hu
  refine⟨_,_,⟨n0+1,fun n hn=> ?_⟩,hq⟩
  obtain⟨m,rfl⟩:∃m,n=m+1:=⟨n-1,by omega⟩
  cases x with
  |normal=>simp only[call,BD,hh,hp,hf,hb,IG,jC,pY,gX,DD,finish,FD,hx m (by omega),hu,Bool.not_true,cond_false]
  |ret=>simp only[call,BD,hh,hp,hf,hb,IG,jC,pY,gX,DD,finish,FD,hx m (by omega),hu,Bool.not_true,cond_false]
  |_=>cases he
 ·exact hq.elim
theorem Zk {k:FuncId}{g:List AV->Option (Bool×AV)}(BD:C.ok k=true)(hh:C.Cy k=none)(hp:C.E7 k=some g)(IG:C.heap k=false){l:List AV}{v:AV}(hg:g (B7 C k l)=some (true,v))(draw:Bool)(h:Hp):Jn C draw k l h (strip 0 [] v) h:=by
 have ha:B7 C k l=AP 0 [] l:=by simp[B7,hh,IG]
 rw[ha] at hg
 refine⟨1,fun n hn=> ?_⟩
 obtain⟨m,rfl⟩:∃m,n=m+1:=⟨n-1,by omega⟩
 simp only[call,BD,hh,hp,hg,Bool.not_true,cond_false]
end
end Go.Ai
