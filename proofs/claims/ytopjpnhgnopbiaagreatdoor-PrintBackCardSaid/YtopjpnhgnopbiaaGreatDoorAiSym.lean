/-
  Symbolic runs of the evaluator: from a place in a body to the function's end. No statement about the program is made here.
-/
import Derived.Test.YtopjpnhgnopbiaaGreatDoorAiPrims
set_option linter.unusedVariables false
set_option linter.unusedSimpArgs false
set_option linter.unnecessarySimpa false
namespace Go.Ai
open Go.RowKit
def AS (g:Bool)(p:Prop):Prop:=match g with|true=>p|false=>False
def Ap (b:Bool)(p q:Prop):Prop:=match b with|true=>p|false=>q
theorem AD {g:Bool}{p:Prop}(h:g=true)(k:p):AS g p:=by subst h;exact k
theorem AA {b:Bool}{p q:Prop}(h:b=true->p)(k:b=false->q):Ap b p q:=by
 cases b
 ·exact k rfl
 ·exact h rfl
theorem EV {g:Bool}{p:Prop}(h:AS g p):g=true/\p:=by
 cases g
 ·exact h.elim
 ·exact⟨rfl,h⟩
inductive Fm where
 |code (p:List Nat)
 |block (id:Nat)
 |loop (p:List Nat) (m:Nat)
 |scope (p:List Nat)
 |ops (p:List Nat) (i:Nat)
def AB (f:Func):Code:=f.body.getD .skip
def child :Nat->Code->Code
 |l+2,c=>(findLabel c l).getD .skip
 |0,.seq a _=>a
 |1,.seq _ b=>b
 |0,.cond _ a _=>a
 |1,.cond _ _ b=>b
 |0,.block _ a=>a
 |0,.loop a=>a
 |0,.scope a=>a
 |_,_=>.skip
def Ab (body:Code):List Nat->Code
 |[]=>body
 |i::p=>child i (Ab body p)
def DR (C:Bm)(f:FuncId)(c:Code)(F:Fr)(h:Hp)(x:XT)(F':Fr)(h':Hp):Prop:=∃n0,∀n,n0<=n->exec C f n c F h=.ok (x,F',h')
def jz (C:Bm)(f:FuncId)(c cur:Code)(F:Fr)(h:Hp)(x:XT)(F':Fr)(h':Hp):Prop:=∃n0,∀n,n0<=n->ER C f n c cur F h=.ok (x,F',h')
def tm (C:Bm)(ops:Array Oper)(draw:Bool)(i:Nat)(os:List Oper)(F:Fr)(h:Hp)(F':Fr)(h':Hp):Prop:=∃n0,∀n,n0<=n->DJ C (fun d=>call C d n) ops draw i os F h=.ok (F',h')
def K8 (C:Bm)(draw:Bool)(k:FuncId)(vs:List AV)(h:Hp)(v:AV)(h':Hp):Prop:=∃n0,∀n,n0<=n->call C draw n k vs h=.ok (v,h')
def hZ :XT->Bool
 |.normal|.ret=>true
 |_=>false
def AF (C:Bm)(f:FuncId)(body:Code)(Q:Fr->Hp->Prop):List Fm->XT->Fr->Hp->Prop
 |[],x,F,h=>hZ x=true/\Q F h
 |.code p::st,.normal,F,h=>∃x F' h',DR C f (Ab body p) F h x F' h'/\AF C f body Q st x F' h'
 |.loop p m::st,.normal,F,h=>match C.Fy f with
  |true=>∃x F' h',DR C f (Ab body p) (DD m h F) ((h.take m).map (AO m h)) x F' h'/\AF C f body Q st x F' h'
  |false=>∃x F' h',DR C f (Ab body p) F h x F' h'/\AF C f body Q st x F' h'
 |.ops p i::st,.normal,F,h=>match Ab body p with
  |.region _ ops draw=>∃F' h',tm C ops draw i (ops.toList.drop i) F h F' h'/\AF C f body Q st .normal F' h'
  |_=>False
 |.block id::st,.exit i,F,h=>bif Nat.beq i id then AF C f body Q st .normal F h else AF C f body Q st (.exit i) F h
 |.scope p::st,.goto l,F,h=>match findLabel (Ab body p) l with
  |some rest=>∃x F' h',jz C f (Ab body p) rest F h x F' h'/\AF C f body Q st x F' h'
  |none=>AF C f body Q st (.goto l) F h
 |_::st,x,F,h=>AF C f body Q st x F h
section
variable {C:Bm}{f:FuncId}{body:Code}{Q:Fr->Hp->Prop}{st:List Fm}{p:List Nat}{F F':Fr}{h h':Hp}
theorem CP {x:XT}(hc:DR C f (Ab body p) F h x F' h')(k:AF C f body Q st x F' h'):AF C f body Q (.code p::st) .normal F h:=⟨x,F',h',hc,k⟩
theorem Ok {c:Code}{x:XT}(hs:∀n,exec C f (n+1) c F h=.ok (x,F',h')):DR C f c F h x F' h':=⟨1,fun n hn=>by
 obtain⟨m,rfl⟩:∃m,n=m+1:=⟨n-1,by omega⟩
 exact hs m⟩
theorem bU {a b:Code}(hc:Ab body p=.seq a b)(k:AF C f body Q (.code (0::p):: .code (1::p)::st) .normal F h):AF C f body Q (.code p::st) .normal F h:=by
 obtain⟨x,F1,h1,⟨n0,hx⟩,k⟩:=k
 have h0:Ab body (0::p)=a:=by simp[Ab,child,hc]
 have Lp:Ab body (1::p)=b:=by simp[Ab,child,hc]
 rw[h0] at hx
 cases x with
 |normal=>
  obtain⟨x2,F2,h2,⟨m0,hy⟩,k⟩:=k;rw[Lp] at hy
  refine CP ⟨n0+m0+1,fun n hn=> ?_⟩ k
  obtain⟨m,rfl⟩:∃m,n=m+1:=⟨n-1,by omega⟩
  rw[hc]
  simp only[exec,hx m (by omega),hy m (by omega)]
 |_=>
  simp only[AF] at k
  refine CP ⟨n0+1,fun n hn=> ?_⟩ k
  obtain⟨m,rfl⟩:∃m,n=m+1:=⟨n-1,by omega⟩
  rw[hc]
  simp only[exec,hx m (by omega)]
theorem RV {y:Operand}{a b:Code}{t:Bool}(hc:Ab body p=.cond y a b)(hy:ev C.G F y=(true,.bool t))
  (k:AF C f body Q (.code ((match t with|true=>0|false=>1)::p)::st) .normal F h):AF C f body Q (.code p::st) .normal F h:=by
 obtain⟨x,F1,h1,⟨n0,hx⟩,k⟩:=k
 refine CP ⟨n0+1,fun n hn=> ?_⟩ k
 obtain⟨m,rfl⟩:∃m,n=m+1:=⟨n-1,by omega⟩
 have:=hx m (by omega)
 rw[hc];simp only[exec,hy]
 cases t<;>simpa[Ab,child,hc] using this
theorem TT {id:Nat}{a:Code}(hc:Ab body p=.block id a)(k:AF C f body Q (.code (0::p):: .block id::st) .normal F h):AF C f body Q (.code p::st) .normal F h:=by
 obtain⟨x,F1,h1,⟨n0,hx⟩,k⟩:=k
 have h0:Ab body (0::p)=a:=by simp[Ab,child,hc]
 rw[h0] at hx
 cases x with
 |exit i=>
  simp only[AF] at k
  cases hb:Nat.beq i id with
  |true=>
   rw[hb] at k
   refine CP (x:=.normal) ⟨n0+1,fun n hn=> ?_⟩ k
   obtain⟨m,rfl⟩:∃m,n=m+1:=⟨n-1,by omega⟩
   rw[hc]
   simp only[exec,hx m (by omega),hb,cond_true]
  |false=>
   rw[hb] at k
   refine CP (x:=.exit i) ⟨n0+1,fun n hn=> ?_⟩ k
   obtain⟨m,rfl⟩:∃m,n=m+1:=⟨n-1,by omega⟩
   rw[hc]
   simp only[exec,hx m (by omega),hb,cond_false]
 |_=>
  simp only[AF] at k
  refine CP ⟨n0+1,fun n hn=> ?_⟩ k
  obtain⟨m,rfl⟩:∃m,n=m+1:=⟨n-1,by omega⟩
  rw[hc]
  simp only[exec,hx m (by omega)]
theorem MZ {a:Code}(hc:Ab body p=.loop a)(k:AF C f body Q (.code (0::p):: .loop p h.length::st) .normal F h):AF C f body Q (.code p::st) .normal F h:=by
 obtain⟨x,F1,h1,⟨n0,hx⟩,k⟩:=k
 have h0:Ab body (0::p)=a:=by simp[Ab,child,hc]
 rw[h0] at hx
 cases x with
 |normal=>
  simp only[AF] at k
  cases ht:C.Fy f<;>rw[ht] at k<;>obtain⟨x2,F2,h2,⟨m0,hy⟩,k⟩:=k<;>rw[hc] at hy<;>refine CP ⟨n0+m0+1,fun n hn=> ?_⟩ k
  all_goals
   obtain⟨m,rfl⟩:∃m,n=m+1:=⟨n-1,by omega⟩
   rw[hc]
   simp only[exec,hx m (by omega),ht]
   exact hy m (by omega)
 |_=>
  simp only[AF] at k
  refine CP ⟨n0+1,fun n hn=> ?_⟩ k
  obtain⟨m,rfl⟩:∃m,n=m+1:=⟨n-1,by omega⟩
  rw[hc]
  simp only[exec,hx m (by omega)]
theorem Si {c cur:Code}{q:List Nat}(hq:Ab body q=c){x:XT}{F1:Fr}{h1:Hp}(hx:DR C f cur F h x F1 h1)(k:AF C f body Q (.scope q::st) x F1 h1):
  ∃x F' h',jz C f c cur F h x F' h'/\AF C f body Q st x F' h':=by
 obtain⟨n0,hx⟩:=hx
 cases x with
 |goto l=>
  simp only[AF,hq] at k
  cases hf:findLabel c l with
  |none=>
   rw[hf] at k
   refine⟨.goto l,F1,h1,⟨n0+1,fun n hn=> ?_⟩,k⟩
   obtain⟨m,rfl⟩:∃m,n=m+1:=⟨n-1,by omega⟩
   simp only[ER,hx m (by omega),hf]
  |some rest=>
   rw[hf] at k;obtain⟨x2,F2,h2,⟨m0,hy⟩,k⟩:=k
   refine⟨x2,F2,h2,⟨n0+m0+1,fun n hn=> ?_⟩,k⟩
   obtain⟨m,rfl⟩:∃m,n=m+1:=⟨n-1,by omega⟩
   simp only[ER,hx m (by omega),hf]
   exact hy m (by omega)
 |_=>
  simp only[AF] at k
  refine⟨_,F1,h1,⟨n0+1,fun n hn=> ?_⟩,k⟩
  obtain⟨m,rfl⟩:∃m,n=m+1:=⟨n-1,by omega⟩
  simp only[ER,hx m (by omega)]
theorem dZ {a:Code}(hc:Ab body p=.scope a)(k:AF C f body Q (.code (0::p):: .scope (0::p)::st) .normal F h):AF C f body Q (.code p::st) .normal F h:=by
 obtain⟨x,F1,h1,hx,k⟩:=k
 have h0:Ab body (0::p)=a:=by simp[Ab,child,hc]
 rw[h0] at hx;obtain⟨x2,F2,h2,⟨m0,hy⟩,k⟩:=Si h0 hx k
 refine CP ⟨m0+1,fun n hn=> ?_⟩ k
 obtain⟨m,rfl⟩:∃m,n=m+1:=⟨n-1,by omega⟩
 rw[hc];simp only[exec]
 exact hy m (by omega)
theorem jH {l:Nat}(hf:(findLabel (Ab body p) l).isSome=true)(k:AF C f body Q (.code ((l+2)::p):: .scope p::st) .normal F h):AF C f body Q (.scope p::st) (.goto l) F h:=by
 obtain⟨x,F1,h1,hx,k⟩:=k;simp only[AF]
 cases hr:findLabel (Ab body p) l with
 |none=>rw[hr] at hf;cases hf
 |some rest=>
  have h0:Ab body ((l+2)::p)=rest:=by simp[Ab,child,hr]
  rw[h0] at hx;exact Si rfl hx k
theorem RT {id:Nat}{ops:Array Oper}{draw:Bool}{G:Fr}{h':Hp}(hc:Ab body p=.region id ops draw)(ha:(draw&&C.Ho f id)=true)(hx:∃n0,∀n,n0<=n->KC C (fun d=>call C d n) ops ((C.live f id).map fun s=>(s,lk F s)) h=.ok (G,h'))
  (k:AF C f body Q st .normal G h'):AF C f body Q (.code p::st) .normal F h:=by
 obtain⟨n0,hx⟩:=hx
 refine CP (x:=.normal) ⟨n0+1,fun n hn=> ?_⟩ k
 obtain⟨m,rfl⟩:∃m,n=m+1:=⟨n-1,by omega⟩
 rw[hc]
 simp only[exec,ha,hx m (by omega)]
theorem RU {id:Nat}{ops:Array Oper}{draw:Bool}(hc:Ab body p=.region id ops draw)(CG:(draw&&C.Ho f id)=false)(F7:((!C.DA f&&Fg ops.toList)||(draw&& !Uj ops.toList (JZ (GD ops draw) h.length ((C.live f id).map fun s=>(s,lk F s)))))=false)(k:AF C f body Q (.ops p 0::st) .normal (JZ (GD ops draw) h.length ((C.live f id).map fun s=>(s,lk F s))) (R7 (GD ops draw) h)):AF C f body Q (.code p::st) .normal F h:=by
 simp only[AF,hc] at k;obtain⟨F1,h1,⟨n0,hx⟩,k⟩:=k
 refine CP (x:=.normal) ⟨n0+1,fun n hn=> ?_⟩ k
 obtain⟨m,rfl⟩:∃m,n=m+1:=⟨n-1,by omega⟩
 rw[hc]
 have:=hx m (by omega)
 simp only[List.drop_zero] at this;simp only[exec,CG,F7,this]
theorem Nw {i id:Nat}{ops:Array Oper}{draw:Bool}{o:Oper}{e:Bool×AV}(hc:Ab body p=.region id ops draw)(ho:ops[i]?=some o)
  (hs:∃n0,∀n,n0<=n->AW C (call C (BB C ops draw i) n) ops (BB C ops draw i) o F h=.ok (e,h')) (hm:Ep C ops draw i F h h'=true) (k:AF C f body Q (.ops p (i+1)::st) .normal (Av F (DG (BB C ops draw i) o) e) h'):AF C f body Q (.ops p i::st) .normal F h:=by
 simp only[AF,hc] at k⊢;obtain⟨n0,hs⟩:=hs;obtain⟨F1,h1,⟨m0,hx⟩,k⟩:=k
 refine⟨F1,h1,⟨n0+m0,fun n hn=> ?_⟩,k⟩
 have hi:i<ops.toList.length:=by
  have:=(Array.getElem?_eq_some_iff.1 ho).1;simpa using this
 have FQ:ops.toList[i]=o:=by
  have:=(Array.getElem?_eq_some_iff.1 ho).2;simpa using this
 rw[List.drop_eq_getElem_cons hi,FQ]
 simp only[DJ,hs n (by omega),hm]
 exact hx n (by omega)
theorem Og {i id:Nat}{ops:Array Oper}{draw:Bool}(hc:Ab body p=.region id ops draw)(ho:ops[i]?=none)(k:AF C f body Q st .normal F h):AF C f body Q (.ops p i::st) .normal F h:=by
 simp only[AF,hc]
 refine⟨F,h,⟨0,fun n _=> ?_⟩,k⟩
 have:ops.toList.length<=i:=by
  have:=Array.getElem?_eq_none_iff.1 ho;simpa using this
 rw[List.drop_of_length_le this];rfl
end
section
variable {C:Bm}{f:FuncId}
theorem Jt (F:Fr)(ls:List Nat):(ls.map fun s=>(s,lk (ls.map fun s=>(s,lk F s)) s))=ls.map fun s=>(s,lk F s):=by
 have key:∀(ms:List Nat) s,s∈ms->lk (ms.map fun s=>(s,lk F s)) s=lk F s:=by
  intro ms
  induction ms with
  |nil=>intro s hs;cases hs
  |cons m ms ih=>
   intro s hs;simp only[List.map_cons,lk]
   cases hb:Nat.beq m s with
   |true=>rw[Nat.eq_of_beq_eq_true hb];rfl
   |false=>
    simp only[cond_false];refine ih s ?_
    rcases List.mem_cons.1 hs with e|e
    ·subst e;simp[Nat.beq_refl] at hb
    ·exact e
 refine List.map_congr_left fun s hs=> ?_
 rw[key ls s hs]
def Fj :Code->Option Nat
 |.seq a _=>Fj a
 |.block _ a=>Fj a
 |.loop a=>Fj a
 |.region id _ _=>some id
 |_=>none
theorem II {id:Nat}:∀(n:Nat) (c:Code) (F:Fr) (h:Hp),Fj c=some id->exec C f n c ((C.live f id).map fun s=>(s,lk F s)) h=exec C f n c F h:=by
 intro n
 induction n with
 |zero=>intro c F h _;rfl
 |succ n ih=>
  intro c F h hc
  cases c<;>simp only[Fj] at hc
  case seq a b=>simp only[exec,ih a F h hc]
  case block i a=>simp only[exec,ih a F h hc]
  case loop a=>simp only[exec,ih a F h hc]
  case region i ops draw=>
   injection hc with hc
   subst hc;simp only[exec,Jt]
  all_goals cases hc
end
def Hf (C:Bm)(f:FuncId)(c:Code)(F:Fr):Fr:=match Fj c with
 |some id=>(C.live f id).map fun s=>(s,lk F s)
 |none=>F
abbrev eB :=FuncId->Option (List AV->Hp->(AV->Hp->Prop)->Prop)
def B8 (C:Bm)(k:FuncId)(l:List AV):List AV:=match(C.Cq k).isSome||C.heap k with|true=>l|false=>AQ 0 [] l
def AL (C:Bm)(T:eB):Prop:=∀k t,T k=some t->∀l h K,t (B8 C k l) h K->∃v h',K8 C false k l h v h'/\K v h'
def JY :Fr->Nat->Bool->Fr
 |[],_,_=>[]
 |(s,e)::r,d,b=>bif Nat.beq s d then(s,true,.bool b)::r else(s,e)::JY r d b
def cO (F:Fr)(y:Operand)(b:Bool):Fr:=match y with
 |.tmp t=>JY F t b
 |_=>F
theorem MB :∀{F:Fr} {d:Nat} {b:Bool},lk F d=(true,.bool b)->JY F d b=F
 |[],d,b,h=>by simp[lk] at h
 |(s,e)::r,d,b,h=>by
  simp only[lk] at h;simp only[JY]
  cases hb:Nat.beq s d with
  |true=>rw[hb] at h;simp only[cond_true] at h⊢;rw[h]
  |false=>rw[hb] at h;simp only[cond_false] at h⊢;rw[MB h]
mutual
def Eh (n:Nat):AV->Bool
 |.ptr b _=>Nat.blt b n
 |.KV b _ _ _=>Nat.blt b n
 |.Wt b=>Nat.blt b n
 |.CL b _ _ _ _=>Nat.blt b n
 |.Bf b _ _ _=>Nat.blt b n
 |.G6 b _ _ _ es=>Nat.blt b n&&AJ n es
 |.PI _ vs=>AJ n vs
 |.ro cs=>CB n cs
 |.sl _ es own=>AJ n es&&(match own with|some id=>Nat.blt id n|none=>true)
 |.fn _ a c=>CB n a&&CB n c
 |.iface _ v=>Eh n v
 |.agg cs=>CB n cs
 |.tup cs=>CB n cs
 |.DA cs=>CB n cs
 |_=>true
def CB (n:Nat):List AV->Bool
 |[]=>true
 |v::r=>Eh n v&&CB n r
def AJ (n:Nat):List (List AV)->Bool
 |[]=>true
 |v::r=>CB n v&&AJ n r
end
mutual
theorem IQ (n:Nat)(h:Hp):∀x,Eh n x=true->strip n h x=x
 |.top,_=>rfl
 |.bool _,_=>rfl
 |.int _ _,_=>rfl
 |.str _,_=>rfl
 |.Ge,_=>rfl
 |.ptr b o,hp=>by simp only[Eh] at hp;simp only[strip,hp,cond_true]
 |.ro cs,hp=>by rw[strip,DC n h cs (by simpa[Eh] using hp)]
 |.sl sz es own,hp=>by
  simp only[Eh,Bool.and_eq_true] at hp;rw[Cj,EF n h es hp.1]
  cases own with
  |none=>rfl
  |some id=>simp only[Ct,hp.2,cond_true]
 |.KV b o l s,hp=>by simp only[Eh] at hp;simp only[strip,hp,cond_true]
 |.Wt b,hp=>by simp only[Eh] at hp;simp only[strip,hp,cond_true]
 |.CL b _ _ _ _,hp=>by simp only[Eh] at hp;simp only[strip,hp,cond_true]
 |.Bf b _ _ _,hp=>by simp only[Eh] at hp;simp only[strip,hp,cond_true]
 |.G6 b _ _ _ es,hp=>by
  simp only[Eh,Bool.and_eq_true] at hp;simp only[strip,hp.1,cond_true,EF n h es hp.2]
 |.PI _ vs,hp=>by rw[strip,EF n h vs (by simpa[Eh] using hp)]
 |.fn f a c,hp=>by
  simp only[Eh,Bool.and_eq_true] at hp;rw[strip,DC n h a hp.1,DC n h c hp.2]
 |.HT,_=>rfl
 |.iface t v,hp=>by rw[strip,IQ n h v (by simpa[Eh] using hp)]
 |.Ja,_=>rfl
 |.agg cs,hp=>by rw[strip,DC n h cs (by simpa[Eh] using hp)]
 |.tup cs,hp=>by rw[strip,DC n h cs (by simpa[Eh] using hp)]
 |.DA cs,hp=>by rw[strip,DC n h cs (by simpa[Eh] using hp)]
theorem DC (n:Nat)(h:Hp):∀xs,CB n xs=true->AQ n h xs=xs
 |[],_=>rfl
 |x::xs,hp=>by
  simp only[CB,Bool.and_eq_true] at hp;rw[AQ,IQ n h x hp.1,DC n h xs hp.2]
theorem EF (n:Nat)(h:Hp):∀xs,AJ n xs=true->AE n h xs=xs
 |[],_=>rfl
 |x::xs,hp=>by
  simp only[AJ,Bool.and_eq_true] at hp;rw[AE,DC n h x hp.1,EF n h xs hp.2]
end
def Vd (n:Nat):AV->AV
 |.ptr b o=>match Nat.blt b n with|true=>.ptr b o|false=>.top
 |.KV b o l s=>match Nat.blt b n with|true=>.KV b o l s|false=>.top
 |.sl sz es (some id)=>match Nat.blt id n with|true=>.sl sz es (some id)|false=>.sl sz es none
 |v=>v
theorem Sc (n:Nat)(h:Hp){v:AV}(hl:Eh n (Vd n v)=true):strip n h v=Vd n v:=by
 have key:∀v,Eh n v=true->Vd n v=v->strip n h v=v:=fun v h1 _=>IQ n h v h1
 cases v with
 |ptr b o=>
  simp only[Vd,strip]
  cases Nat.blt b n<;>rfl
 |KV b o l s=>
  simp only[Vd,strip]
  cases Nat.blt b n<;>rfl
 |sl sz es own=>
  cases own with
  |none=>exact IQ n h _ hl
  |some id=>
   simp only[Vd] at hl⊢;rw[Cj]
   cases hb:Nat.blt id n with
   |true=>
    rw[hb] at hl;simp only[Eh,Bool.and_eq_true] at hl;rw[EF n h es hl.1];simp only[Ct,hb,cond_true]
   |false=>
    rw[hb] at hl;simp only[Eh,Bool.and_eq_true] at hl;rw[EF n h es hl.1];simp only[Ct,hb,cond_false]
 |_=>exact IQ n h _ hl
def Ty (n:Nat):Fr->Fr
 |[]=>[]
 |e::r=>(e.1,e.2.1,Vd n e.2.2)::Ty n r
def ga (n:Nat):Fr->Bool
 |[]=>true
 |e::r=>Eh n e.2.2&&ga n r
def Ku (n:Nat):List AV->List AV
 |[]=>[]
 |v::r=>Vd n v::Ku n r
def eX (n:Nat):Blk->Blk
 |.mem t cs=>.mem t (Ku n cs)
 |b=>b
def oH (n:Nat):Blk->Bool
 |.mem _ cs=>CB n cs
 |.Bh _ _ _ _ _ _ rows=>rows.all fun r=>CB n r.2
 |_=>true
def Lt (n:Nat):Hp->Hp
 |[]=>[]
 |b::r=>eX n b::Lt n r
def Wh (n:Nat):Hp->Bool
 |[]=>true
 |b::r=>oH n b&&Wh n r
theorem Tx (n:Nat)(h:Hp):∀{F:Fr},ga n (Ty n F)=true->DD n h F=Ty n F
 |[],_=>rfl
 |e::r,hl=>by
  simp only[Ty,ga,Bool.and_eq_true] at hl;show(e.1,e.2.1,strip n h e.2.2)::DD n h r=_;rw[Sc n h hl.1,Tx n h hl.2,Ty]
theorem Vc (n:Nat)(h:Hp):∀{cs:List AV},CB n (Ku n cs)=true->AQ n h cs=Ku n cs
 |[],_=>rfl
 |v::r,hl=>by
  simp only[Ku,CB,Bool.and_eq_true] at hl;rw[AQ,Sc n h hl.1,Vc n h hl.2,Ku]
theorem Py (n:Nat)(h:Hp):∀{bs:Hp},Wh n (Lt n bs)=true->bs.map (AO n h)=Lt n bs
 |[],_=>rfl
 |b::r,hl=>by
  simp only[Lt,Wh,Bool.and_eq_true] at hl;rw[List.map_cons,Py n h hl.2,Lt]
  congr 1
  cases b with
  |mem t cs=>
   have:=hl.1;simp only[eX,oH] at this;simp only[AO,eX,Vc n h this]
  |Bh g t sz kc ke ksz rows=>
   have:=hl.1;simp only[eX,oH] at this;simp only[AO,eX]
   congr 1
   conv=>rhs;rw[<-List.map_id rows]
   exact List.map_congr_left fun r hr=>by rw[DC n h r.2 (List.all_eq_true.1 this r hr)];rfl
  |_=>rfl
inductive Sh where
 |int (k:IntKind)
 |str
 |bool
 |sl (sz:Nat)
 |av
def G9 :List Sh->(List AV->Prop)->Prop
 |[],K=>K []
 |.int k::r,K=>∃z:Int,G9 r (fun l=>K (.int k z::l))
 |.str::r,K=>∃s:List UInt8,G9 r (fun l=>K (.str s::l))
 |.bool::r,K=>∃b:Bool,G9 r (fun l=>K (.bool b::l))
 |.sl sz::r,K=>∃es:List (List AV),G9 r (fun l=>K (.sl sz es none::l))
 |.av::r,K=>∃v:AV,G9 r (fun l=>K (v::l))
theorem C7 :∀{l:List Sh} {K:List AV->Prop},G9 l K->∃cs,K cs
 |[],_,h=>⟨_,h⟩
 |.int k::r,_,h=>by obtain⟨z,h⟩:=h;obtain⟨cs,h⟩:=C7 h;exact⟨_,h⟩
 |.str::r,_,h=>by obtain⟨z,h⟩:=h;obtain⟨cs,h⟩:=C7 h;exact⟨_,h⟩
 |.bool::r,_,h=>by obtain⟨z,h⟩:=h;obtain⟨cs,h⟩:=C7 h;exact⟨_,h⟩
 |.sl sz::r,_,h=>by obtain⟨z,h⟩:=h;obtain⟨cs,h⟩:=C7 h;exact⟨_,h⟩
 |.av::r,_,h=>by obtain⟨z,h⟩:=h;obtain⟨cs,h⟩:=C7 h;exact⟨_,h⟩
structure aA where
 tQ:List (List Nat)
 IA:List (List Nat×Nat×List Sh)
def pq :List Nat->List Nat->Bool
 |[],[]=>true
 |a::r,b::s=>Nat.beq a b&&pq r s
 |_,_=>false
def Y9 :List (List Nat)->List Nat->Bool
 |[],_=>false
 |q::r,p=>pq q p||Y9 r p
def HV :List (List Nat×Nat×List Sh)->List Nat->Nat->Option (List Sh)
 |[],_,_=>none
 |(q,j,s)::r,p,i=>bif pq q p&&Nat.beq j i then some s else HV r p i
def Up (C:Bm)(draw:Bool)(F:Fr)(h:Hp)(o:Oper)(s:List Sh)(next:(Bool×AV)->Hp->Prop):Prop:=
 match o.op with
 |.indexAddr t x i=>
  match C.P.underlying t,ev C.G F x,ev C.G F i with
  |some (.slice e),(g,.sl sz es _),(g',.int _ n)=>
   AS (g&&g'&&Dm n es.length&&Nat.beq sz (C.P.cellsOf e)&&Nat.ble 1 sz) (G9 s fun cs=>CH es n=cs/\next (true,.ro cs) h)
  |some (.slice e),(g,.G6 _ _ _ sz es),(g',.int _ n)=>
   AS (!(draw||o.guard.isSome)&&(g&&g'&&Dm n es.length&&Nat.beq sz (C.P.cellsOf e)&&Nat.ble 1 sz)) (G9 s fun cs=>CH es n=cs/\next (true,.ro cs) h)
  |_,_,_=>False
 |_=>False
def lY (C:Bm)(T:eB)(draw:Bool)(F:Fr)(h:Hp)(o:Oper)(next:(Bool×AV)->Hp->Prop):Prop:=
 match o.op with
 |.call {callee:=.value x,args,argTypes:=_}=>
  match ev C.G F x,N6 C.G F args.toList with
  |(true,.fn (.func k) first cap),(true,vs)=>
   match C.ident k,first++vs++cap with
   |true,[v]=>next (true,v) h
   |true,_=>False
   |false,l=>
    match draw&&((C.Cq k).isSome||C.heap k) with
    |true=>False
    |false=>match T k with
     |some t=>t (B8 C k l) h fun v h'=>next (true,v) h'
     |none=>False
  |_,_=>False
 |.defer {callee:=.value x,args,argTypes:=_}=>
  match draw|| !EI o||o.dst.isSome|| !args.toList.isEmpty,ev C.G F x,lk F dS with
  |false,(true,.fn f first cap),(_,.DA l)=>next (true,.DA (.fn f first cap::l)) h
  |_,_,_=>False
 |_=>
  match Bl C (draw||o.guard.isSome) F h o with
  |some (g,e,h')=>AS g (next e h')
  |none=>False
def ax (C:Bm)(F:Fr)(h:Hp)(o:Oper)(s:List Sh)(next:(Bool×AV)->Hp->Prop):Prop:=
 match o.op with
 |.load t x=>
  match GJ C.P t,C.P.underlying t,C.P.info? t,ev C.G F x with
  |false,some _,some _,(g,.ptr b off)=>
   match h[b]? with
   |some (.mem _ cs)=>AS g (G9 s fun l=>(cs.drop off).take 1=l/\match l with|[v]=>next (true,v) h|_=>False)
   |_=>False
  |_,_,_,_=>False
 |_=>False
def aq (C:Bm)(F:Fr)(h:Hp)(o:Oper)(next:(Bool×AV)->Hp->Prop):Prop:=
 match o.op with
 |.makeSlice t l c=>
  match C.P.underlying t with
  |some (.slice e)=>
   match C.P.info? e,ev C.G F l,ev C.G F c with
   |some i,(g,.int _ n),(g',.int _ m)=>
    match i.zero with
    |some z=>
     AS (g&&g'&&decide (0<=n)&&decide (n=m)&&decide ((i.bytes:Int)*m<=281474976710656)&&decide (m<=9223372036854775807)&&Nat.beq i.size 1&&Nat.beq z.cells.size 1&&z.cells.toList.all (·.oneCell'))
      (∃cs:List AV,cs=List.replicate n.toNat (match z.cells.toList with|[v]=>ofConst v|_=>.top)/\next (true,.KV h.length 0 n.toNat 1) (h++[.mem e cs]))
    |none=>False
   |_,_,_=>False
  |_=>False
 |_=>False
def Vm (C:Bm)(T:eB)(F:Fr)(h:Hp)(o:Oper)(next:(Bool×AV)->Hp->Prop):Prop:=match o.guard with
 |none=>lY C T (Jh o) F h o next
 |some _=>False
def fX (C:Bm)(T:eB)(ops:Array Oper):List Oper->Fr->Hp->(Fr->Hp->Prop)->Prop
 |[],F,h,K=>K F h
 |o::os,F,h,K=>Vm C T F h o fun e h1=>fX C T ops os (Av F o.dst e) h1 K
def Pk :Op->Bool
 |.call {callee:=.value _,..}=>true
 |_=>false
def bC (C:Bm)(o:Oper)(h1 h:Hp)(p:Prop):Prop:=match Ef C o&&Pk o.op with
 |true=>h1=h/\p
 |false=>p
def MY (C:Bm)(ops:Array Oper)(l:List Nat):List Nat->Option Nat
 |[]=>none
 |i::r=>match Oe C ops l i with
  |true=>some i
  |false=>MY C ops l r
def fk (ops:Array Oper)(l:List Nat)(p:Nat->Prop):List Nat->Prop
 |[]=>True
 |i::r=>match FV ops l i with
  |true=>p i/\fk ops l p r
  |false=>fk ops l p r
def cT (C:Bm)(T:eB)(ops:Array Oper)(P:Fr->Hp->Prop):Nat->List Nat->Fr->Hp->Prop
 |0,_,_,_=>False
 |_+1,[],F,h=>P F h
 |n+1,k::l,F,h=>match MY C ops (k::l) (k::l) with
  |some i=>match ops[i]? with
   |some o=>Vm C T F h o fun e h1=>bC C o h1 h (cT C T ops P n ((k::l).erase i) (Av F o.dst e) h1)
   |none=>False
  |none=>fk ops (k::l) (fun i=>match ops[i]? with
   |some o=>Vm C T F h o fun e h1=>bC C o h1 h (cT C T ops P n ((k::l).erase i) (Av F o.dst e) h1)
   |none=>False) (k::l)
def FZ :List Nat->Fr->Fr->Prop
 |[],_,_=>True
 |d::ds,F,G=>lk F d=lk G d/\FZ ds F G
def hH :Op->Bool
 |.makeSlice .. =>true
 |_=>false
def hY :Op->Bool
 |.load .. =>true
 |_=>false
def jS (C:Bm)(T:eB)(draw:Bool)(F:Fr)(h:Hp)(o:Oper)(s:Option (List Sh))(next:(Bool×AV)->Hp->Prop):Prop:=
 match s with
 |some s=>match hY o.op with
  |true=>ax C F h o s next
  |false=>match hH o.op with
   |true=>aq C F h o next
   |false=>Up C draw F h o s next
 |none=>lY C T draw F h o next
def Ws :List Nat->Fr->Hp->Hp->Prop->Prop
 |[],_,_,_,p=>p
 |q::r,F,h,h',p=>match lk F q with
  |(_,.ptr b _)=>h[b]?=h'[b]?/\Ws r F h h' p
  |(_,.ro _)=>Ws r F h h' p
  |_=>False
def eD (C:Bm)(ops:Array Oper)(draw:Bool)(i:Nat)(F:Fr)(h h':Hp)(p:Prop):Prop:=match draw&&HU C ops i with
 |false=>p
 |true=>Ws (ZY ops i) F h h' p
theorem Q8 :∀(l:List Nat) {F:Fr} {h h':Hp} {p:Prop},Ws l F h h' p->(∀q∈l,Kx F h h' q)/\p
 |[],F,h,h',p,hk=>⟨(fun _ hq=>by cases hq),hk⟩
 |q::r,F,h,h',p,hk=>by
  simp only[Ws] at hk;split at hk
  ·rename_i g b o hl;obtain⟨k1,k2⟩:=Q8 r hk.2
   refine⟨fun x hx=> ?_,k2⟩
   rcases List.mem_cons.1 hx with rfl|hx
   ·unfold Kx;rw[hl];exact hk.1
   ·exact k1 x hx
  ·rename_i g cs hl;obtain⟨k1,k2⟩:=Q8 r hk
   refine⟨fun x hx=> ?_,k2⟩
   rcases List.mem_cons.1 hx with rfl|hx
   ·unfold Kx;rw[hl];trivial
   ·exact k1 x hx
  ·exact hk.elim
theorem ak {C:Bm}{ops:Array Oper}{draw:Bool}{i:Nat}{F:Fr}{h h':Hp}{p:Prop}(hk:eD C ops draw i F h h' p):Ep C ops draw i F h h'=true/\p:=by
 unfold eD at hk;unfold Ep;split at hk
 ·rename_i hm;rw[hm];exact⟨rfl,hk⟩
 ·rename_i hm;rw[hm];obtain⟨k1,k2⟩:=Q8 _ hk;refine⟨?_,k2⟩;simp only;split
  ·rfl
  ·exact @decide_eq_true _ (Classical.propDecidable _) k1
theorem FE {C:Bm}{ops:Array Oper}{draw:Bool}{i:Nat}{o:Oper}(ho:ops[i]?=some o)(hg:o.guard.isSome=true){F:Fr}{h h':Hp}:Ep C ops draw i F h h'=true:=by
 have:HU C ops i=false:=by
  unfold HU;rw[ho]
  have:Nt C o=false:=by
   unfold Nt;split
   ·rename_i pB;rw[pB] at hg;cases hg
   ·rfl
  simp only[this,Bool.false_and]
 unfold Ep;rw[this,Bool.and_false]
def Lf (C:Bm)(T:eB)(draw:Bool)(ops:Array Oper)(F:Fr)(h:Hp)(o:Oper)(s:Option (List Sh))(next:(Bool×AV)->Hp->Prop):Prop:=
 match FO C.P draw ops o F h with
 |some (.ok (e,h'))=>next e h'
 |some (.error _)=>False
 |none=>jS C T draw F h o s next
def Hm (C:Bm)(f:FuncId)(body:Code)(T:eB)(pl:aA)(Q:Fr->Hp->Prop):Nat->List Fm->XT->Fr->Hp->Prop
 |0,st,x,F,h=>AF C f body Q st x F h
 |n+1,[],x,F,h=>match hZ x with|true=>Q F h|false=>False
 |n+1,.code p::st,.normal,F,h=>
  match Y9 pl.tQ p with
  |true=>AF C f body Q (.code p::st) .normal (Hf C f (Ab body p) F) h
  |false=>
   match Ab body p with
   |.skip=>Hm C f body T pl Q n st .normal F h
   |.label _=>Hm C f body T pl Q n st .normal F h
   |.ret=>Hm C f body T pl Q n st .ret F h
   |.exit id=>Hm C f body T pl Q n st (.exit id) F h
   |.goto l=>Hm C f body T pl Q n st (.goto l) F h
   |.seq _ _=>Hm C f body T pl Q n (.code (0::p):: .code (1::p)::st) .normal F h
   |.cond y _ _=>
    match ev C.G F y with
    |(true,.bool b)=>Ap b (Hm C f body T pl Q n (.code (0::p)::st) .normal (cO F y true) h) (Hm C f body T pl Q n (.code (1::p)::st) .normal (cO F y false) h)
    |_=>False
   |.block id _=>Hm C f body T pl Q n (.code (0::p):: .block id::st) .normal F h
   |.loop _=>Hm C f body T pl Q n (.code (0::p):: .loop p h.length::st) .normal F h
   |.scope _=>Hm C f body T pl Q n (.code (0::p):: .scope (0::p)::st) .normal F h
   |.region id ops draw=>match draw&&C.Ho f id with
    |true=>fX C T ops ops.toList ((C.live f id).map fun s=>(s,lk F s)) h fun G h'=>cT C T ops (fun F1 h1=>FZ (ops.toList.filterMap (·.dst)) F1 G/\h1=h') (ops.size+1) (List.range ops.size) ((C.live f id).map fun s=>(s,lk F s)) h/\
      Hm C f body T pl Q n st .normal G h'
    |false=>match(!C.DA f&&Fg ops.toList)||(draw&& !Uj ops.toList (JZ (GD ops draw) h.length ((C.live f id).map fun s=>(s,lk F s)))) with
    |true=>False
    |false=>Hm C f body T pl Q n (.ops p 0::st) .normal (JZ (GD ops draw) h.length ((C.live f id).map fun s=>(s,lk F s))) (R7 (GD ops draw) h)
   |_=>False
 |n+1,.loop p m::st,.normal,F,h=>match C.Fy f with
  |false=>Hm C f body T pl Q n (.code p::st) .normal F h
  |true=>match C.Px f with
   |true=>Hm C f body T pl Q n (.code p::st) .normal (DD m h (Hf C f (Ab body p) F)) ((h.take m).map (AO m h))
   |false=>AS (ga m (Ty m (Hf C f (Ab body p) F))&&Wh m (Lt m (h.take m)))
    (Hm C f body T pl Q n (.code p::st) .normal (Ty m (Hf C f (Ab body p) F)) (Lt m (h.take m)))
 |n+1,.block id::st,.exit i,F,h=>match Nat.beq i id with|true=>Hm C f body T pl Q n st .normal F h|false=>Hm C f body T pl Q n st (.exit i) F h
 |n+1,.scope p::st,.goto l,F,h=>match(findLabel (Ab body p) l).isSome with
  |true=>Hm C f body T pl Q n (.code ((l+2)::p):: .scope p::st) .normal F h
  |false=>Hm C f body T pl Q n st (.goto l) F h
 |n+1,.ops p i::st,.normal,F,h=>
  match Ab body p with
  |.region _ ops draw=>
   match ops[i]? with
   |none=>Hm C f body T pl Q n st .normal F h
   |some o=>
    match o.guard with
    |none=>Lf C T (BB C ops draw i) ops F h o (HV pl.IA p i) fun e h'=>eD C ops draw i F h h' (Hm C f body T pl Q n (.ops p (i+1)::st) .normal (Av F (DG (BB C ops draw i) o) e) h')
    |some (j,want)=>
     match(ops[j]?).bind (·.dst) with
     |none=>False
     |some d=>
      match lk F d with
      |(true,.bool b)=>
       Ap b
        (match want with
        |true=>Lf C T (BB C ops draw i) ops (JY F d true) h o (HV pl.IA p i) fun e h'=>Hm C f body T pl Q n (.ops p (i+1)::st) .normal (Av (JY F d true) o.dst e) h'
        |false=>Hm C f body T pl Q n (.ops p (i+1)::st) .normal (Av (JY F d true) o.dst (false,.top)) h)
        (match want with
        |true=>Hm C f body T pl Q n (.ops p (i+1)::st) .normal (Av (JY F d false) o.dst (false,.top)) h
        |false=>Lf C T (BB C ops draw i) ops (JY F d false) h o (HV pl.IA p i) fun e h'=>Hm C f body T pl Q n (.ops p (i+1)::st) .normal (Av (JY F d false) o.dst e) h')
      |(false,_)=>Hm C f body T pl Q n (.ops p (i+1)::st) .normal (Av F o.dst (false,.top)) h
      |_=>False
  |_=>False
 |n+1,_::st,x,F,h=>Hm C f body T pl Q n st x F h
section
variable {C:Bm}{f:FuncId}{body:Code}{T:eB}{pl:aA}{Q:Fr->Hp->Prop}
theorem Nz (n:Nat)(c:Code)(F:Fr)(h:Hp):exec C f n c (Hf C f c F) h=exec C f n c F h:=by
 unfold Hf;split
 ·exact II n c F h (by assumption)
 ·rfl
theorem Ny (n:Nat)(c:Code)(m:Nat)(h:Hp)(F:Fr)(h1:Hp):exec C f n c (DD m h (Hf C f c F)) h1=exec C f n c (DD m h F) h1:=by
 rw[<-Nz n c (DD m h F) h1];unfold Hf;split
 ·congr 1
  unfold DD;rw[List.map_map]
  refine List.map_congr_left fun s _=> ?_
  have:=HH m h F s;unfold DD at this;rw[this];rfl
 ·rfl
theorem XF {p:List Nat}{st:List Fm}{F:Fr}{h:Hp}(k:AF C f body Q (.code p::st) .normal (Hf C f (Ab body p) F) h):AF C f body Q (.code p::st) .normal F h:=by
 obtain⟨x,F1,h1,⟨n0,hx⟩,k⟩:=k
 exact⟨x,F1,h1,⟨n0,fun n hn=>by rw[<-Nz n _ F h];exact hx n hn⟩,k⟩
theorem Th {k:FuncId}(hk:((C.Cq k).isSome||C.heap k)=false)(draw:Bool)(n:Nat)(l:List AV)(h:Hp):call C draw n k l h=call C false n k l h:=by
 simp only[Bool.or_eq_false_iff,Option.isSome_eq_false_iff,Option.isNone_iff_eq_none] at hk
 cases n with
 |zero=>rfl
 |succ n=>simp only[call,hk.1,hk.2]
theorem bg (hT:AL C T){draw:Bool}{F:Fr}{h:Hp}{o:Oper}{next:(Bool×AV)->Hp->Prop}(hd:lY C T draw F h o next):
  ∃e h',(∃n0,∀n,n0<=n->BF C (call C draw n) draw o F h=.ok (e,h'))/\next e h':=by
 unfold lY at hd;split at hd
 ·rename_i x args ts Bo;split at hd
  ·rename_i k first cap vs hx iK
   split at hd
   ·rename_i v hid hl
    refine⟨(true,v),h,⟨0,fun n _=> ?_⟩,hd⟩
    simp only[BF,Bo,hx,iK,hid,hl]
   ·exact hd.elim
   ·rename_i hid;split at hd
    ·exact hd.elim
    ·rename_i ZM
     cases ht:T k with
     |none=>rw[ht] at hd;exact hd.elim
     |some t=>
      rw[ht] at hd;obtain⟨v,h',⟨n0,hc⟩,hn⟩:=hT k t ht _ _ _ hd
      refine⟨(true,v),h',⟨n0,fun n hn=> ?_⟩,hn⟩
      have DU:call C draw n k (first++vs++cap) h=.ok (v,h'):=by
       cases draw with
       |false=>exact hc n hn
       |true=>rw[Th (by simpa using ZM)];exact hc n hn
      simp only[BF,Bo,hx,iK,hid,DU]
  ·exact hd.elim
 ·rename_i x args ts Bo;split at hd
  ·rename_i fn first cap b l hc hx hl
   refine⟨_,h,⟨0,fun n _=> ?_⟩,hd⟩
   simp only[BF,Bo,hc,hx,hl]
  ·exact hd.elim
 ·rename_i Bo iR;split at hd
  ·rename_i g e h' Nr;obtain⟨rfl,hn⟩:=EV hd
   refine⟨e,h',⟨0,fun n _=> ?_⟩,hn⟩
   obtain⟨dst,op,ty,pos,after,gd⟩:=o;unfold BF;split
   ·rename_i x args ts Np;exact absurd Np (Bo x args ts)
   ·rename_i x args ts Np;exact absurd Np (iR x args ts)
   ·simp only[Nr]
  ·exact hd.elim
theorem XG {C:Bm}{F:Fr}{h h1:Hp}{o:Oper}{g:Bool}{e:Bool×AV}(hq:Ef C o=true)(hx:Bl C (Jh o) F h o=some (g,e,h1)):h1=h:=by
 obtain⟨d,op,ty,pos,after,gd⟩:=o
 cases op<;>simp only[Ef,Bool.false_eq_true] at hq
 case move x=>exact HA (r:=(g,e)) ⟨d,.move x,ty,pos,after,gd⟩ rfl hx
 case assign x=>exact HA (r:=(g,e)) ⟨d,.assign x,ty,pos,after,gd⟩ rfl hx
 case buildSlice t l ps=>exact HA (r:=(g,e)) ⟨d,.buildSlice t l ps,ty,pos,after,gd⟩ rfl hx
 case load t x=>
  simp only[Jh,Bl] at hx;split at hx
  ·rename_i r hr;rw[hx] at hr;simp only[B7] at hr
   repeat' (split at hr)
   all_goals first|(simp only[Option.some.injEq,Prod.mk.injEq] at hr;exact hr.2.2.symm)|cases hr
  ·simp only[evalOp,JG] at hx
   repeat' (split at hx)
   all_goals first|(simp only[Option.some.injEq,Prod.mk.injEq] at hx;exact hx.2.2.symm)|cases hx
 case nilCheck x=>
  simp only[Jh,Bl] at hx;split at hx
  ·rename_i r hr;rw[hx] at hr;simp only[B7] at hr
   repeat' (split at hr)
   all_goals first|(simp only[Option.some.injEq,Prod.mk.injEq] at hr;exact hr.2.2.symm)|cases hr
  ·simp only[evalOp,E9] at hx
   repeat' (split at hx)
   all_goals first|(simp only[Option.some.injEq,Prod.mk.injEq] at hx;exact hx.2.2.symm)|cases hx
 case fieldAddr s x f=>
  simp only[Jh,Bl] at hx;split at hx
  ·rename_i r hr;rw[hx] at hr;simp only[B7] at hr
   repeat' (split at hr)
   all_goals first|(simp only[Option.some.injEq,Prod.mk.injEq] at hr;exact hr.2.2.symm)|cases hr
  ·simp only[evalOp,EL] at hx;split at hx
   ·split at hx
    ·rename_i fd _
     cases hc:Nat.beq (C.P.cellsOf fd.type) 0<;>rw[hc] at hx
     ·simp only[cond_false] at hx
      repeat' (split at hx)
      all_goals first|(simp only[Option.some.injEq,Prod.mk.injEq] at hx;exact hx.2.2.symm)|cases hx
     ·cases hx
    ·cases hx
   ·cases hx
 case field s x f=>
  simp only[Jh,Bl,B7,evalOp,Mf] at hx
  repeat' (split at hx)
  all_goals first|(simp only[Option.some.injEq,Prod.mk.injEq] at hx;exact hx.2.2.symm)|cases hx
 case indexAddr t x i=>
  simp only[Jh,Bl] at hx;split at hx
  ·rename_i r hr;rw[hx] at hr;simp only[B7] at hr
   repeat' (split at hr)
   all_goals first|(simp only[Option.some.injEq,Prod.mk.injEq] at hr;exact hr.2.2.symm)|cases hr
  ·simp only[evalOp,EK] at hx
   repeat' (split at hx)
   all_goals first|(simp only[Option.some.injEq,Prod.mk.injEq] at hx;exact hx.2.2.symm)|cases hx
 case index t x i=>
  simp only[Jh,Bl,B7,evalOp,Me] at hx
  repeat' (split at hx)
  all_goals first|(simp only[Option.some.injEq,Prod.mk.injEq] at hx;exact hx.2.2.symm)|cases hx
 case extract t ix=>
  simp only[Jh,Bl,B7,evalOp,Ij] at hx
  repeat' (split at hx)
  all_goals first|(simp only[Option.some.injEq,Prod.mk.injEq] at hx;exact hx.2.2.symm)|cases hx
 case binOp op t x y u=>
  simp only[Jh,Bl,B7,evalOp,XN,XM] at hx
  repeat' (split at hx)
  all_goals first|(simp only[Option.some.injEq,Prod.mk.injEq] at hx;exact hx.2.2.symm)|cases hx
 case unOp op t x=>
  simp only[Jh,Bl,B7,evalOp] at hx
  repeat' (split at hx)
  all_goals first|(simp only[Option.some.injEq,Prod.mk.injEq] at hx;exact hx.2.2.symm)|cases hx
 case pick c x y=>
  simp only[Jh,Bl,B7,evalOp,RX] at hx
  repeat' (split at hx)
  all_goals first|(simp only[Option.some.injEq,Prod.mk.injEq] at hx;exact hx.2.2.symm)|cases hx
 case call c=>
  obtain⟨callee,args,Xg⟩:=c
  cases callee with
  |builtin b=>
   cases b<;>simp only[Bool.false_eq_true] at hq
   simp only[Jh,Bl] at hx;split at hx
   ·rename_i r hr;rw[hx] at hr;simp only[B7] at hr
    repeat' (split at hr)
    all_goals first|(simp only[Option.some.injEq,Prod.mk.injEq] at hr;exact hr.2.2.symm)|cases hr
   ·simp only[evalOp,HJ] at hx;split at hx
    ·simp only[TX] at hx
     repeat' (split at hx)
     all_goals first|(simp only[Option.some.injEq,Prod.mk.injEq] at hx;exact hx.2.2.symm)|cases hx
    all_goals simp at *
  |_=>simp[Jh,Bl,B7,evalOp] at hx
theorem eR {P:Program}{ops:Array Oper}{o:Oper}{F:Fr}{h:Hp}:FO P (Jh o) ops o F h=none:=by
 unfold FO;split
 ·rfl
 ·rename_i hd;rw[Bool.and_eq_true] at hd;have:=hd.1;unfold Jh at this;split at this
  ·rename_i Bo;rw[Bo]
  ·rename_i Bo;rw[Bo]
  ·rename_i Bo;rw[Bo]
  ·cases this
theorem QE (hT:AL C T){ops:Array Oper}{F:Fr}{h:Hp}{o:Oper}{next:(Bool×AV)->Hp->Prop}(hd:Vm C T F h o next):
  ∃e h',(∃n0,∀n,n0<=n->EZ C (fun d=>call C d n) ops o F h=.ok (e,h'))/\next e h'/\(Ef C o=true->Pk o.op=false->h'=h):=by
 unfold Vm at hd;split at hd
 ·rename_i hg;obtain⟨e,h',⟨n0,hn⟩,hk⟩:=bg hT hd
  refine⟨e,h',⟨n0,fun n sg=> ?_⟩,hk,fun hq hc=> ?_⟩
  ·unfold EZ AW guardOf;rw[hg];simp only[eR];exact hn n sg
  ·have:=hn n0 (Nat.le_refl _);unfold BF at this;split at this
   ·rename_i x args Xg Bo;rw[Bo] at hc;cases hc
   ·rename_i x args Xg Bo;simp only[Ef,Bo] at hq;cases hq
   ·split at this
    ·rename_i e2 h2 Nr;simp only[Except.ok.injEq,Prod.mk.injEq] at this;obtain⟨rfl,rfl⟩:=this;rw[hg] at Nr;simp only[Option.isSome_none,Bool.or_false] at Nr;exact XG hq Nr
    ·cases this
    ·cases this
 ·exact hd.elim
theorem Vt (hT:AL C T){ops:Array Oper}:∀(os:List Oper) {F:Fr} {h:Hp} {K:Fr->Hp->Prop},fX C T ops os F h K->∃G h',(∃n0,∀n,n0<=n->O8 C (fun d=>call C d n) ops os F h=.ok (G,h'))/\K G h'
 |[],F,h,K,hk=>⟨F,h,⟨0,fun _ _=>rfl⟩,hk⟩
 |o::os,F,h,K,hk=>by
  obtain⟨e,h1,⟨n0,hn⟩,hk,_⟩:=QE (ops:=ops) hT hk;obtain⟨G,h2,⟨m0,hm⟩,hk⟩:=Vt hT os hk
  exact⟨G,h2,⟨n0+m0,fun n sg=>by simp only[O8,hn n (by omega),hm n (by omega)]⟩,hk⟩
theorem K1 {ops:Array Oper}{l:List Nat}:∀{r:List Nat} {i:Nat},MY C ops l r=some i->i∈r/\Oe C ops l i=true
 |[],_,h=>by cases h
 |j::r,i,h=>by
  unfold MY at h;split at h
  ·rename_i hf
   injection h with h
   subst h
   exact⟨by simp,hf⟩
  ·obtain⟨h1,h2⟩:=K1 h
   exact⟨by simp[h1],h2⟩
theorem NN {ops:Array Oper}{l:List Nat}{p:Nat->Prop}:∀{r:List Nat},fk ops l p r->∀i∈r,FV ops l i=true->p i
 |[],_,i,hi,_=>by cases hi
 |j::r,h,i,hi,hu=>by
  unfold fk at h
  rcases List.mem_cons.1 hi with rfl|hi
  ·rw[hu] at h;exact h.1
  ·split at h
   ·exact NN h.2 i hi hu
   ·exact NN h i hi hu
theorem ju {X:Nat->Nat->Prop}:∀(l:List Nat),(∀i∈l,∃n0,∀n,n0<=n->X i n)->∃n0,∀n,n0<=n->∀i∈l,X i n
 |[],_=>⟨0,fun _ _ i hi=>by cases hi⟩
 |j::l,h=>by
  obtain⟨n0,h0⟩:=h j (by simp)
  obtain⟨n1,h1⟩:=ju l fun i hi=>h i (by simp[hi])
  refine⟨n0+n1,fun n hn i hi=> ?_⟩
  rcases List.mem_cons.1 hi with rfl|hi
  ·exact h0 n (by omega)
  ·exact h1 n (by omega) i hi
theorem Q7 {o:Oper}{h1 h:Hp}{p:Prop}(hk:bC C o h1 h p)(hq:Ef C o=true->Pk o.op=false->h1=h):(Ef C o=true->h1=h)/\p:=by
 unfold bC at hk
 cases hc:Pk o.op with
 |false=>
  rw[hc,Bool.and_false] at hk
  exact⟨fun h=>hq h hc,hk⟩
 |true=>
  cases zC:Ef C o with
  |false=>rw[zC] at hk;exact⟨fun h=>(by cases h),hk⟩
  |true=>rw[zC,hc] at hk;exact⟨fun _=>hk.1,hk.2⟩
theorem UE (hT:AL C T){ops:Array Oper}{P Post:Fr->Hp->Prop}{Inv:Fr->Prop}(hI:∀F o e,o∈ops.toList->Inv F->Inv (Av F o.dst e))(hP:∀F h,Inv F->P F h->Post F h):∀(n:Nat) (l:List Nat) {F:Fr} {h:Hp},Inv F->cT C T ops P n l F h->
  ∃n0,∀m,n0<=m->PV C (fun d=>call C d m) ops Post n l F h
 |0,_,_,_,_,hx=>hx.elim
 |n+1,[],F,h,hi,hx=>⟨0,fun _ _=>hP F h hi hx⟩
 |n+1,k::l,F,h,hi,hx=>by
  unfold cT at hx;split at hx
  ·rename_i i hf;obtain⟨f1,f2⟩:=K1 hf;split at hx
   ·rename_i o ho;obtain⟨e,h1,⟨n0,hn⟩,hk,hq⟩:=QE (ops:=ops) hT hx;obtain⟨k1,k2⟩:=Q7 hk hq;obtain⟨_,⟨o',g1,g2⟩,_⟩:=RN f2;rw[ho] at g1
    injection g1 with g1
    subst g1;have hh:=k1 g2;subst hh
    obtain⟨m0,hm⟩:=UE hT hI hP n _ (hI F o e (by simpa using Array.mem_of_getElem? ho) hi) k2
    exact⟨n0+m0,fun m sh=>.inl ⟨i,o,e,f1,f2,ho,hn m (by omega),hm m (by omega)⟩⟩
   ·exact hx.elim
  ·have:=ju (X:=fun i m=>FV ops (k::l) i=true->∃o e h1,ops[i]?=some o/\EZ C (fun d=>call C d m) ops o F h=.ok (e,h1)/\(Ef C o=true->h1=h)/\PV C (fun d=>call C d m) ops Post n ((k::l).erase i) (Av F o.dst e) h1) (k::l) fun i qR=>by
    cases hu:FV ops (k::l) i with
    |false=>exact⟨0,fun _ _ h=>by cases h⟩
    |true=>
     have:=NN hx i qR hu;split at this
     ·rename_i o ho;obtain⟨e,h1,⟨n0,hn⟩,hk,hq⟩:=QE (ops:=ops) hT this;obtain⟨k1,k2⟩:=Q7 hk hq
      obtain⟨m0,hm⟩:=UE hT hI hP n _ (hI F o e (by simpa using Array.mem_of_getElem? ho) hi) k2
      exact⟨n0+m0,fun m sh _=>⟨o,e,h1,ho,hn m (by omega),k1,hm m (by omega)⟩⟩
     ·exact this.elim
   obtain⟨n0,hn⟩:=this
   exact⟨n0,fun m hm=>.inr fun i qR hu=>hn m hm i qR hu⟩
theorem QM :∀{ds:List Nat} {F G:Fr},FZ ds F G->∀d∈ds,lk F d=lk G d
 |[],_,_,_,d,hd=>by cases hd
 |x::ds,F,G,h,d,hd=>by
  rcases List.mem_cons.1 hd with rfl|hd
  ·exact h.1
  ·exact QM h.2 d hd
theorem Vs {cl:Bool->FuncId->List AV->Hp->Except (List Nat) (AV×Hp)}{ops:Array Oper}{n:Nat}:∀(os:List Oper) {F G:Fr} {h h':Hp},(∀o∈os,o.dst≠some n)->O8 C cl ops os F h=.ok (G,h')->lk G n=lk F n
 |[],F,G,h,h',_,hx=>by
  simp only[O8,Except.ok.injEq,Prod.mk.injEq] at hx;rw[hx.1]
 |o::os,F,G,h,h',hd,hx=>by
  simp only[O8] at hx;split at hx
  ·rw[Vs os (fun o ho=>hd o (by simp[ho])) hx,A9 (hd o (by simp))]
  ·cases hx
theorem jJ (hT:AL C T){ops:Array Oper}{F G:Fr}{h h':Hp}(hr:∃n0,∀n,n0<=n->O8 C (fun d=>call C d n) ops ops.toList F h=.ok (G,h'))
  (hs:cT C T ops (fun F1 h1=>FZ (ops.toList.filterMap (·.dst)) F1 G/\h1=h') (ops.size+1) (List.range ops.size) F h):∃n0,∀n,n0<=n->KC C (fun d=>call C d n) ops F h=.ok (G,h'):=by
 obtain⟨n0,hn⟩:=hr
 have PO:∀n,(∀o∈ops.toList,o.dst≠some n)->lk G n=lk F n:=fun n hd=>Vs _ hd (hn n0 (Nat.le_refl _))
 obtain⟨m0,hm⟩:=UE hT (Inv:=fun F1=>∀n,(∀o∈ops.toList,o.dst≠some n)->lk F1 n=lk F n) (Post:=fun G' h1=>(∀n,lk G' n=lk G n)/\h1=h') (fun F1 o e ho hi n hd=>by rw[A9 (hd o ho)];exact hi n hd)
  (fun F1 h1 hi hp=>⟨fun n=>by
   by_cases hd:∀o∈ops.toList,o.dst≠some n
   ·rw[hi n hd,PO n hd]
   ·have:∃o∈ops.toList,o.dst=some n:=Classical.byContradiction fun BO=>hd fun o ho e=>BO ⟨o,ho,e⟩
    obtain⟨o,ho,e⟩:=this
    exact QM hp.1 n (List.mem_filterMap.2 ⟨o,ho,e⟩),hp.2⟩) (ops.size+1) (List.range ops.size) (fun _ _=>rfl) hs
 refine⟨n0+m0,fun n sg=> ?_⟩
 unfold KC
 rw[hn n (by omega)]
 simp only
 rw[@decide_eq_true _ (Classical.propDecidable _) (hm n (by omega))]
theorem RW {C:Bm}{dr:Bool}{F:Fr}{h:Hp}{o:Oper}(hn:B7 C F h o=none):Bl C dr F h o=evalOp C dr F h o:=by
 unfold Bl
 cases dr with
 |true=>rfl
 |false=>simp only[hn]
theorem TB {draw:Bool}{F:Fr}{h:Hp}{o:Oper}{s:List Sh}{next:(Bool×AV)->Hp->Prop}(hd:Up C draw F h o s next):
  ∃e h',(∃n0,∀n,n0<=n->BF C (call C draw n) draw o F h=.ok (e,h'))/\next e h':=by
 unfold Up at hd;split at hd
 ·rename_i t x i Bo;split at hd
  ·rename_i e g sz es own g' ik n hu hx hi;obtain⟨hg,hd⟩:=EV hd;obtain⟨cs,Fx,hn⟩:=C7 hd;subst Fx
   refine⟨_,h,⟨0,fun n _=> ?_⟩,hn⟩
   obtain⟨dst,op,ty,pos,after,gd⟩:=o;simp only at Bo;subst Bo
   simp only[BF,RW (show B7 C F h ⟨dst,.indexAddr t x i,ty,pos,after,gd⟩=none by simp only[B7,hu,hx,hi]),evalOp,EK,hu,hx,hi,hg]
  ·rename_i e g b0 n0 d0 sz es g' ik n hu hx hi;obtain⟨hg,Jf⟩:=EV hd;obtain⟨cs,Fx,hn⟩:=C7 Jf;subst Fx
   refine⟨_,h,⟨0,fun m _=> ?_⟩,hn⟩
   obtain⟨dst,op,ty,pos,after,gd⟩:=o;simp only at Bo;subst Bo;simp only[Bool.and_eq_true,Bool.not_eq_true'] at hg;obtain⟨ZM,hg⟩:=hg
   have lL:(g&&g'&&Dm n es.length&&Nat.beq sz (C.P.cellsOf e)&&Nat.ble 1 sz)=true:=by simp only[Bool.and_eq_true];exact hg
   simp only[BF,ZM,Bl,B7,hu,hx,hi,lL]
  ·exact hd.elim
 ·exact hd.elim
theorem Wj {draw:Bool}{F:Fr}{h:Hp}{o:Oper}{s:List Sh}{next:(Bool×AV)->Hp->Prop}(hd:ax C F h o s next):
  ∃e h',(∃n0,∀n,n0<=n->BF C (call C draw n) draw o F h=.ok (e,h'))/\next e h':=by
 unfold ax at hd;split at hd
 ·rename_i t x Bo;split at hd
  ·rename_i u ti g b off ha hu hi hx;split at hd
   ·rename_i t0 cs hb;obtain⟨hg,hd⟩:=EV hd;obtain⟨l,hl,hn⟩:=C7 hd;subst hl;split at hn
    ·rename_i v hv
     refine⟨_,h,⟨0,fun n _=> ?_⟩,hn⟩
     obtain⟨dst,op,ty,pos,after,gd⟩:=o;simp only at Bo;subst Bo;subst hg
     have hc:∃r,cs.drop off=v::r:=by
      cases Fx:cs.drop off with
      |nil=>rw[Fx] at hv;cases hv
      |cons c r=>rw[Fx] at hv;simp at hv;exact⟨r,by rw[hv]⟩
     obtain⟨r,hc⟩:=hc
     simp only[BF,RW (show B7 C F h ⟨dst,.load t x,ty,pos,after,gd⟩=none by simp only[B7,hx]),evalOp,JG,hx,hb,rd,hu,hi,ha,hc]
    ·exact hn.elim
   ·exact hd.elim
  ·exact hd.elim
 ·exact hd.elim
theorem Wd {draw:Bool}{F:Fr}{h:Hp}{o:Oper}{next:(Bool×AV)->Hp->Prop}(hd:aq C F h o next):
  ∃e h',(∃n0,∀n,n0<=n->BF C (call C draw n) draw o F h=.ok (e,h'))/\next e h':=by
 unfold aq at hd;split at hd
 ·rename_i t l c Bo;split at hd
  ·rename_i e hu;split at hd
   ·rename_i i g k n g' k' m hi hl hc;split at hd
    ·rename_i z hz;obtain⟨hg,cs,rfl,hn⟩:=EV hd
     refine⟨_,_,⟨0,fun n _=> ?_⟩,hn⟩
     obtain⟨dst,op,ty,pos,after,gd⟩:=o;simp only at Bo;subst Bo
     simp only[BF,RW (show B7 C F h ⟨dst,.makeSlice t l c,ty,pos,after,gd⟩=none by simp only[B7]),evalOp,VA,hu,hi,hl,hc,hz,hg]
     rfl
    ·exact hd.elim
   ·exact hd.elim
  ·exact hd.elim
 ·exact hd.elim
theorem jR (hT:AL C T){draw:Bool}{F:Fr}{h:Hp}{o:Oper}{s:Option (List Sh)}{next:(Bool×AV)->Hp->Prop}(hd:jS C T draw F h o s next):
  ∃e h',(∃n0,∀n,n0<=n->BF C (call C draw n) draw o F h=.ok (e,h'))/\next e h':=by
 cases s with
 |none=>exact bg hT hd
 |some s=>
  simp only[jS] at hd;split at hd
  ·exact Wj hd
  ·split at hd
   ·exact Wd hd
   ·exact TB hd
theorem Ta (hT:AL C T){draw:Bool}{ops:Array Oper}{F:Fr}{h:Hp}{o:Oper}{s:Option (List Sh)}{next:(Bool×AV)->Hp->Prop}(hd:Lf C T draw ops F h o s next):
  ∃e h',(∃n0,∀n,n0<=n->(match FO C.P draw ops o F h with|some r=>r|none=>BF C (call C draw n) draw o F h)=.ok (e,h'))/\next e h':=by
 unfold Lf at hd
 cases G8:FO C.P draw ops o F h with
 |none=>rw[G8] at hd;exact jR hT hd
 |some r=>
  rw[G8] at hd
  cases r with
  |error x=>exact hd.elim
  |ok r=>exact⟨r.1,r.2,⟨0,fun n _=>rfl⟩,hd⟩
theorem DL (hT:AL C T):∀(n:Nat) (st:List Fm) (x:XT) (F:Fr) (h:Hp),Hm C f body T pl Q n st x F h->AF C f body Q st x F h:=by
 intro n
 induction n with
 |zero=>intro st x F h hu;exact hu
 |succ n ih=>
  intro st x F h hu
  cases st with
  |nil=>
   simp only[Hm] at hu;split at hu
   ·exact⟨by assumption,hu⟩
   ·exact hu.elim
  |cons fm st=>
   cases fm with
   |code p=>
    cases x with
    |normal=>
     simp only[Hm] at hu;split at hu
     ·exact XF hu
     ·split at hu
      ·rename_i hc
       exact CP (Ok fun m=>by rw[hc];rfl) (ih _ _ _ _ hu)
      ·rename_i hc
       exact CP (Ok fun m=>by rw[hc];rfl) (ih _ _ _ _ hu)
      ·rename_i hc
       exact CP (Ok fun m=>by rw[hc];rfl) (ih _ _ _ _ hu)
      ·rename_i hc
       exact CP (Ok fun m=>by rw[hc];rfl) (ih _ _ _ _ hu)
      ·rename_i hc
       exact CP (Ok fun m=>by rw[hc];rfl) (ih _ _ _ _ hu)
      ·rename_i hc;exact bU hc (ih _ _ _ _ hu)
      ·rename_i y a b hc;split at hu
       ·rename_i t hy
        have RA:cO F y t=F:=by
         cases y with
         |tmp s=>exact MB hy
         |_=>rfl
        refine RV hc hy ?_
        cases t with
        |true=>simp only[Ap] at hu;rw[RA] at hu;exact ih _ _ _ _ hu
        |false=>simp only[Ap] at hu;rw[RA] at hu;exact ih _ _ _ _ hu
       ·exact hu.elim
      ·rename_i hc;exact TT hc (ih _ _ _ _ hu)
      ·rename_i hc;exact MZ hc (ih _ _ _ _ hu)
      ·rename_i hc;exact dZ hc (ih _ _ _ _ hu)
      ·rename_i hc;split at hu
       ·rename_i CG;obtain⟨G,h1,Cb,iQ,hu⟩:=Vt hT _ hu;exact RT hc CG (jJ hT Cb iQ) (ih _ _ _ _ hu)
       rename_i CG;split at hu
       ·exact hu.elim
       ·rename_i F7;exact RU hc CG F7 (ih _ _ _ _ hu)
      ·exact hu.elim
    |_=>
     simp only[Hm] at hu;simp only[AF];exact ih _ _ _ _ hu
   |block id=>
    cases x with
    |exit i=>
     simp only[Hm] at hu;simp only[AF]
     cases hb:Nat.beq i id with
     |true=>rw[hb] at hu;exact ih _ _ _ _ hu
     |false=>rw[hb] at hu;exact ih _ _ _ _ hu
    |_=>
     simp only[Hm] at hu;simp only[AF];exact ih _ _ _ _ hu
   |loop p m=>
    cases x with
    |normal=>
     simp only[Hm] at hu;simp only[AF]
     cases ht:C.Fy f with
     |false=>
      rw[ht] at hu;exact ih (.code p::st) .normal F h hu
     |true=>
      rw[ht] at hu;simp only at hu
      have hk:AF C f body Q (.code p::st) .normal (DD m h (Hf C f (Ab body p) F)) ((h.take m).map (AO m h)):=by
       cases VV:C.Px f with
       |true=>rw[VV] at hu;exact ih (.code p::st) .normal _ _ hu
       |false=>
        rw[VV] at hu;obtain⟨hl,hu⟩:=EV hu;rw[Bool.and_eq_true] at hl;have hk:=ih (.code p::st) .normal _ _ hu;rw[<-Tx m h hl.1,<-Py m h hl.2] at hk;exact hk
      obtain⟨x1,F1,h1,⟨n0,hx⟩,k⟩:=hk
      refine⟨x1,F1,h1,⟨n0,fun n hn=> ?_⟩,k⟩
      rw[<-hx n hn];exact(Ny n _ m h F _).symm
    |_=>
     simp only[Hm] at hu;simp only[AF];exact ih _ _ _ _ hu
   |scope p=>
    cases x with
    |goto l=>
     simp only[Hm] at hu
     cases hf:(findLabel (Ab body p) l).isSome with
     |true=>rw[hf] at hu;exact jH hf (ih _ _ _ _ hu)
     |false=>
      rw[hf] at hu;simp only[Option.isSome_eq_false_iff,Option.isNone_iff_eq_none] at hf;simp only[AF,hf];exact ih _ _ _ _ hu
    |_=>
     simp only[Hm] at hu;simp only[AF];exact ih _ _ _ _ hu
   |ops p i=>
    cases x with
    |normal=>
     simp only[Hm] at hu;split at hu
     ·rename_i id ops draw hc;split at hu
      ·rename_i ho;exact Og hc ho (ih _ _ _ _ hu)
      ·rename_i o ho
       have done:∀F,guardOf ops F o=some true->Lf C T (BB C ops draw i) ops F h o (HV pl.IA p i) (fun e h'=>eD C ops draw i F h h' (Hm C f body T pl Q n (.ops p (i+1)::st) .normal (Av F (DG (BB C ops draw i) o) e) h'))->AF C f body Q (.ops p i::st) .normal F h:=by
        intro F hg hd;obtain⟨e,h',⟨n0,hs⟩,hn⟩:=Ta hT hd;obtain⟨hm,hn⟩:=ak hn
        refine Nw hc ho ⟨n0,fun n hn=> ?_⟩ hm (ih _ _ _ _ hn)
        simp only[AW,hg];exact hs n hn
       have XS:∀F,o.guard.isSome=true->guardOf ops F o=some true->Lf C T (BB C ops draw i) ops F h o (HV pl.IA p i) (fun e h'=>Hm C f body T pl Q n (.ops p (i+1)::st) .normal (Av F (DG (BB C ops draw i) o) e) h')->AF C f body Q (.ops p i::st) .normal F h:=by
        intro F It hg hd;obtain⟨e,h',⟨n0,hs⟩,hn⟩:=Ta hT hd
        refine Nw hc ho ⟨n0,fun n hn=> ?_⟩ (FE ho It) (ih _ _ _ _ hn)
        simp only[AW,hg];exact hs n hn
       have RJ:o.guard.isSome=true->DG (BB C ops draw i) o=o.dst:=by
        intro It
        have:EI o=false:=by
         unfold EI;split
         ·rename_i pB;rw[pB] at It;cases It
         ·rfl
        cases BB C ops draw i<;>simp[DG,this]
       have left:∀F,o.guard.isSome=true->guardOf ops F o=some false->Hm C f body T pl Q n (.ops p (i+1)::st) .normal (Av F o.dst (false,.top)) h->AF C f body Q (.ops p i::st) .normal F h:=by
        intro F It hg hd;rw[<-RJ It] at hd
        refine Nw hc ho ⟨0,fun n hn=> ?_⟩ (FE ho It) (ih _ _ _ _ hd)
        simp only[AW,hg]
       split at hu
       ·rename_i TL
        exact done F (by simp only[guardOf,TL]) hu
       ·rename_i j want TL
        have It:o.guard.isSome=true:=by rw[TL];rfl
        rw[<-RJ It] at hu;split at hu
        ·exact hu.elim
        ·rename_i d hj;split at hu
         ·rename_i b hl;have RA:=MB hl
          have hg:guardOf ops F o=some (b==want):=by simp[guardOf,TL,hj,hl]
          cases b with
          |true=>
           simp only[Ap] at hu;rw[RA] at hu
           cases want with
           |true=>exact XS F It (by rw[hg];rfl) hu
           |false=>exact left F It (by rw[hg];rfl) (by rw[<-RJ It];exact hu)
          |false=>
           simp only[Ap] at hu;rw[RA] at hu
           cases want with
           |true=>exact left F It (by rw[hg];rfl) (by rw[<-RJ It];exact hu)
           |false=>exact XS F It (by rw[hg];rfl) hu
         ·rename_i v hl
          refine left F It ?_ (by rw[<-RJ It];exact hu)
          simp only[guardOf,TL,hj,hl]
          cases v<;>rfl
         ·exact hu.elim
     ·exact hu.elim
    |_=>
     simp only[Hm] at hu;simp only[AF];exact ih _ _ _ _ hu
def AK (P:Program)(fn:Func)(v:AV)(F:Fr)(h':Hp):Prop:=match result P fn F h' with
 |some u=>stripR 0 h' u=v
 |none=>False
def AX (P:Program)(fn:Func)(n:Nat)(K:AV->Hp->Prop)(F:Fr)(h':Hp):Prop:=match result P fn F h' with
 |some u=>K (stripR n h' u) ((h'.take n).map (AO n h'))
 |none=>False
theorem je {k:FuncId}{fn:Func}{c:Code}(Bk:C.ok k=true)(hh:C.Cq k=none)(hp:C.FP k=none)(hf:C.P.funcs[k]?=some fn)(hb:fn.body=some c)(JS:C.heap k=false)(F7:C.DA k=false)
  {l:List AV} {v:AV} (hr:AF C k c (AK C.P fn v) [.code []] .normal (D8 0 (B8 C k l)) []) (draw:Bool) (h:Hp):K8 C draw k l h v h:=by
 obtain⟨x,F',h',⟨n0,hx⟩,he,hq⟩:=hr
 have ha:B8 C k l=AQ 0 [] l:=by simp[B8,hh,JS]
 rw[ha] at hx;simp only[Ab] at hx
 refine⟨n0+1,fun n hn=> ?_⟩
 obtain⟨m,rfl⟩:∃m,n=m+1:=⟨n-1,by omega⟩
 unfold AK at hq;split at hq
 ·rename_i u hu;subst hq
  cases x with
  |normal=>simp only[call,Bk,hh,hp,hf,hb,JS,DM,finish,F7,hx m (by omega),hu,Bool.not_true,cond_false]
  |ret=>simp only[call,Bk,hh,hp,hf,hb,JS,DM,finish,F7,hx m (by omega),hu,Bool.not_true,cond_false]
  |_=>cases he
 ·exact hq.elim
theorem K4 {k:FuncId}{fn:Func}{c:Code}(Bk:C.ok k=true)(hh:C.Cq k=none)(hp:C.FP k=none)(hf:C.P.funcs[k]?=some fn)(hb:fn.body=some c)(JS:C.heap k=true)(F7:C.DA k=false)(zS:C.La k=false)(mU:C.pre k=none)
  {l:List AV} {h:Hp} {K:AV->Hp->Prop} (hr:AF C k c (AX C.P fn h.length K) [.code []] .normal (D8 0 (B8 C k l)) h):∃v h',K8 C false k l h v h'/\K v h':=by
 obtain⟨x,F',h',⟨n0,hx⟩,he,hq⟩:=hr
 have ha:B8 C k l=l:=by simp[B8,JS]
 rw[ha] at hx;simp only[Ab] at hx;unfold AX at hq;split at hq
 ·rename_i u hu
  refine⟨_,_,⟨n0+1,fun n hn=> ?_⟩,hq⟩
  obtain⟨m,rfl⟩:∃m,n=m+1:=⟨n-1,by omega⟩
  cases x with
  |normal=>simp only[call,Bk,hh,hp,hf,hb,JS,mU,DM,finish,F7,zS,Gt,hx m (by omega),hu,Bool.not_true,cond_false]
  |ret=>simp only[call,Bk,hh,hp,hf,hb,JS,mU,DM,finish,F7,zS,Gt,hx m (by omega),hu,Bool.not_true,cond_false]
  |_=>cases he
 ·exact hq.elim
theorem VL {k:FuncId}{fn:Func}{c:Code}{m0:Nat}(Bk:C.ok k=true)(hh:C.Cq k=none)(hp:C.FP k=none)(hf:C.P.funcs[k]?=some fn)(hb:fn.body=some c)(JS:C.heap k=true)(F7:C.DA k=false){m1:Nat}(mU:C.pre k=some m1)
  {l:List AV} {h:Hp} {K:AV->Hp->Prop} (uJ:PA m1 h=m0) (lF:MG m0 h=true) (hr:AF C k c (AX C.P fn m0 fun v h1=>K v (h1++h.drop m0)) [.code []] .normal (D8 0 (AQ m0 [] l)) ((h.take m0).map (AO m0 []))):∃v h',K8 C false k l h v h'/\K v h':=by
 obtain⟨x,F',h',⟨n0,hx⟩,he,hq⟩:=hr;simp only[Ab] at hx;unfold AX at hq;split at hq
 ·rename_i u hu
  refine⟨_,_,⟨n0+1,fun n hn=> ?_⟩,hq⟩
  obtain⟨m,rfl⟩:∃m,n=m+1:=⟨n-1,by omega⟩
  cases x with
  |normal=>simp only[call,Bk,hh,hp,hf,hb,JS,mU,uJ,lF,DM,finish,F7,hx m (by omega),hu,Bool.not_true,cond_false]
  |ret=>simp only[call,Bk,hh,hp,hf,hb,JS,mU,uJ,lF,DM,finish,F7,hx m (by omega),hu,Bool.not_true,cond_false]
  |_=>cases he
 ·exact hq.elim
theorem di {k:FuncId}{g:List AV->Option (Bool×AV)}(Bk:C.ok k=true)(hh:C.Cq k=none)(hp:C.FP k=some g)(JS:C.heap k=false){l:List AV}{v:AV}(hg:g (B8 C k l)=some (true,v))(draw:Bool)(h:Hp):K8 C draw k l h (strip 0 [] v) h:=by
 have ha:B8 C k l=AQ 0 [] l:=by simp[B8,hh,JS]
 rw[ha] at hg
 refine⟨1,fun n hn=> ?_⟩
 obtain⟨m,rfl⟩:∃m,n=m+1:=⟨n-1,by omega⟩
 simp only[call,Bk,hh,hp,hg,Bool.not_true,cond_false]
end
end Go.Ai
