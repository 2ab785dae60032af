/-
  Symbolic runs of the evaluator: from a place in a body to the function's end. No statement about the program is made here.
-/
import Derived.Test.YtopjpnhgnopbiaaGreatDoorAAiPrims
set_option linter.unusedVariables false
set_option linter.unusedSimpArgs false
set_option linter.unnecessarySimpa false
namespace Go.Ai
open Go.RowKit
def AS (g:Bool)(p:Prop):Prop:=match g with|true=>p|false=>False
def Ap (b:Bool)(p q:Prop):Prop:=match b with|true=>p|false=>q
theorem AD {g:Bool}{p:Prop}(h:g=true)(k:p):AS g p:=by subst h;exact k
theorem AA {b:Bool}{p q:Prop}(h:b=true->p)(k:b=false->q):Ap b p q:=by
 cases b
 ·exact k rfl
 ·exact h rfl
theorem ER {g:Bool}{p:Prop}(h:AS g p):g=true/\p:=by
 cases g
 ·exact h.elim
 ·exact⟨rfl,h⟩
inductive Fm where
 |code (p:List Nat)
 |block (id:Nat)
 |loop (p:List Nat) (m:Nat)
 |scope (p:List Nat)
 |ops (p:List Nat) (i:Nat)
def AB (f:Func):Code:=f.body.getD .skip
def child :Nat->Code->Code
 |l+2,c=>(findLabel c l).getD .skip
 |0,.seq a _=>a
 |1,.seq _ b=>b
 |0,.cond _ a _=>a
 |1,.cond _ _ b=>b
 |0,.block _ a=>a
 |0,.loop a=>a
 |0,.scope a=>a
 |_,_=>.skip
def Aa (body:Code):List Nat->Code
 |[]=>body
 |i::p=>child i (Aa body p)
def DQ (C:Bm)(f:FuncId)(c:Code)(F:Fr)(h:Hp)(x:XT)(F':Fr)(h':Hp):Prop:=∃n0,∀n,n0<=n->exec C f n c F h=.ok (x,F',h')
def ji (C:Bm)(f:FuncId)(c cur:Code)(F:Fr)(h:Hp)(x:XT)(F':Fr)(h':Hp):Prop:=∃n0,∀n,n0<=n->EM C f n c cur F h=.ok (x,F',h')
def tU (C:Bm)(ops:Array Oper)(draw:Bool)(i:Nat)(os:List Oper)(F:Fr)(h:Hp)(F':Fr)(h':Hp):Prop:=∃n0,∀n,n0<=n->DI C (fun d=>call C d n) ops draw i os F h=.ok (F',h')
def K4 (C:Bm)(draw:Bool)(k:FuncId)(vs:List AV)(h:Hp)(v:AV)(h':Hp):Prop:=∃n0,∀n,n0<=n->call C draw n k vs h=.ok (v,h')
def gm :XT->Bool
 |.normal|.ret=>true
 |_=>false
def AF (C:Bm)(f:FuncId)(body:Code)(Q:Fr->Hp->Prop):List Fm->XT->Fr->Hp->Prop
 |[],x,F,h=>gm x=true/\Q F h
 |.code p::st,.normal,F,h=>∃x F' h',DQ C f (Aa body p) F h x F' h'/\AF C f body Q st x F' h'
 |.loop p m::st,.normal,F,h=>match C.Fv f with
  |true=>∃x F' h',DQ C f (Aa body p) (DC m h F) ((h.take m).map (AN m h)) x F' h'/\AF C f body Q st x F' h'
  |false=>∃x F' h',DQ C f (Aa body p) F h x F' h'/\AF C f body Q st x F' h'
 |.ops p i::st,.normal,F,h=>match Aa body p with
  |.region _ ops draw=>∃F' h',tU C ops draw i (ops.toList.drop i) F h F' h'/\AF C f body Q st .normal F' h'
  |_=>False
 |.block id::st,.exit i,F,h=>bif Nat.beq i id then AF C f body Q st .normal F h else AF C f body Q st (.exit i) F h
 |.scope p::st,.goto l,F,h=>match findLabel (Aa body p) l with
  |some rest=>∃x F' h',ji C f (Aa body p) rest F h x F' h'/\AF C f body Q st x F' h'
  |none=>AF C f body Q st (.goto l) F h
 |_::st,x,F,h=>AF C f body Q st x F h
section
variable {C:Bm}{f:FuncId}{body:Code}{Q:Fr->Hp->Prop}{st:List Fm}{p:List Nat}{F F':Fr}{h h':Hp}
theorem CQ {x:XT}(hc:DQ C f (Aa body p) F h x F' h')(k:AF C f body Q st x F' h'):AF C f body Q (.code p::st) .normal F h:=⟨x,F',h',hc,k⟩
theorem Og {c:Code}{x:XT}(hs:∀n,exec C f (n+1) c F h=.ok (x,F',h')):DQ C f c F h x F' h':=⟨1,fun n hn=>by
 obtain⟨m,rfl⟩:∃m,n=m+1:=⟨n-1,by omega⟩
 exact hs m⟩
theorem bO {a b:Code}(hc:Aa body p=.seq a b)(k:AF C f body Q (.code (0::p):: .code (1::p)::st) .normal F h):AF C f body Q (.code p::st) .normal F h:=by
 obtain⟨x,F1,h1,⟨n0,hx⟩,k⟩:=k
 have h0:Aa body (0::p)=a:=by simp[Aa,child,hc]
 have Ll:Aa body (1::p)=b:=by simp[Aa,child,hc]
 rw[h0] at hx
 cases x with
 |normal=>
  obtain⟨x2,F2,h2,⟨m0,hy⟩,k⟩:=k;rw[Ll] at hy
  refine CQ ⟨n0+m0+1,fun n hn=> ?_⟩ k
  obtain⟨m,rfl⟩:∃m,n=m+1:=⟨n-1,by omega⟩
  rw[hc]
  simp only[exec,hx m (by omega),hy m (by omega)]
 |_=>
  simp only[AF] at k
  refine CQ ⟨n0+1,fun n hn=> ?_⟩ k
  obtain⟨m,rfl⟩:∃m,n=m+1:=⟨n-1,by omega⟩
  rw[hc]
  simp only[exec,hx m (by omega)]
theorem RT {y:Operand}{a b:Code}{t:Bool}(hc:Aa body p=.cond y a b)(hy:ev C.G F y=(true,.bool t))
  (k:AF C f body Q (.code ((match t with|true=>0|false=>1)::p)::st) .normal F h):AF C f body Q (.code p::st) .normal F h:=by
 obtain⟨x,F1,h1,⟨n0,hx⟩,k⟩:=k
 refine CQ ⟨n0+1,fun n hn=> ?_⟩ k
 obtain⟨m,rfl⟩:∃m,n=m+1:=⟨n-1,by omega⟩
 have:=hx m (by omega)
 rw[hc];simp only[exec,hy]
 cases t<;>simpa[Aa,child,hc] using this
theorem TS {id:Nat}{a:Code}(hc:Aa body p=.block id a)(k:AF C f body Q (.code (0::p):: .block id::st) .normal F h):AF C f body Q (.code p::st) .normal F h:=by
 obtain⟨x,F1,h1,⟨n0,hx⟩,k⟩:=k
 have h0:Aa body (0::p)=a:=by simp[Aa,child,hc]
 rw[h0] at hx
 cases x with
 |exit i=>
  simp only[AF] at k
  cases hb:Nat.beq i id with
  |true=>
   rw[hb] at k
   refine CQ (x:=.normal) ⟨n0+1,fun n hn=> ?_⟩ k
   obtain⟨m,rfl⟩:∃m,n=m+1:=⟨n-1,by omega⟩
   rw[hc]
   simp only[exec,hx m (by omega),hb,cond_true]
  |false=>
   rw[hb] at k
   refine CQ (x:=.exit i) ⟨n0+1,fun n hn=> ?_⟩ k
   obtain⟨m,rfl⟩:∃m,n=m+1:=⟨n-1,by omega⟩
   rw[hc]
   simp only[exec,hx m (by omega),hb,cond_false]
 |_=>
  simp only[AF] at k
  refine CQ ⟨n0+1,fun n hn=> ?_⟩ k
  obtain⟨m,rfl⟩:∃m,n=m+1:=⟨n-1,by omega⟩
  rw[hc]
  simp only[exec,hx m (by omega)]
theorem MU {a:Code}(hc:Aa body p=.loop a)(k:AF C f body Q (.code (0::p):: .loop p h.length::st) .normal F h):AF C f body Q (.code p::st) .normal F h:=by
 obtain⟨x,F1,h1,⟨n0,hx⟩,k⟩:=k
 have h0:Aa body (0::p)=a:=by simp[Aa,child,hc]
 rw[h0] at hx
 cases x with
 |normal=>
  simp only[AF] at k
  cases ht:C.Fv f<;>rw[ht] at k<;>obtain⟨x2,F2,h2,⟨m0,hy⟩,k⟩:=k<;>rw[hc] at hy<;>refine CQ ⟨n0+m0+1,fun n hn=> ?_⟩ k
  all_goals
   obtain⟨m,rfl⟩:∃m,n=m+1:=⟨n-1,by omega⟩
   rw[hc]
   simp only[exec,hx m (by omega),ht]
   exact hy m (by omega)
 |_=>
  simp only[AF] at k
  refine CQ ⟨n0+1,fun n hn=> ?_⟩ k
  obtain⟨m,rfl⟩:∃m,n=m+1:=⟨n-1,by omega⟩
  rw[hc]
  simp only[exec,hx m (by omega)]
theorem Sf {c cur:Code}{q:List Nat}(hq:Aa body q=c){x:XT}{F1:Fr}{h1:Hp}(hx:DQ C f cur F h x F1 h1)(k:AF C f body Q (.scope q::st) x F1 h1):
  ∃x F' h',ji C f c cur F h x F' h'/\AF C f body Q st x F' h':=by
 obtain⟨n0,hx⟩:=hx
 cases x with
 |goto l=>
  simp only[AF,hq] at k
  cases hf:findLabel c l with
  |none=>
   rw[hf] at k
   refine⟨.goto l,F1,h1,⟨n0+1,fun n hn=> ?_⟩,k⟩
   obtain⟨m,rfl⟩:∃m,n=m+1:=⟨n-1,by omega⟩
   simp only[EM,hx m (by omega),hf]
  |some rest=>
   rw[hf] at k;obtain⟨x2,F2,h2,⟨m0,hy⟩,k⟩:=k
   refine⟨x2,F2,h2,⟨n0+m0+1,fun n hn=> ?_⟩,k⟩
   obtain⟨m,rfl⟩:∃m,n=m+1:=⟨n-1,by omega⟩
   simp only[EM,hx m (by omega),hf]
   exact hy m (by omega)
 |_=>
  simp only[AF] at k
  refine⟨_,F1,h1,⟨n0+1,fun n hn=> ?_⟩,k⟩
  obtain⟨m,rfl⟩:∃m,n=m+1:=⟨n-1,by omega⟩
  simp only[EM,hx m (by omega)]
theorem dT {a:Code}(hc:Aa body p=.scope a)(k:AF C f body Q (.code (0::p):: .scope (0::p)::st) .normal F h):AF C f body Q (.code p::st) .normal F h:=by
 obtain⟨x,F1,h1,hx,k⟩:=k
 have h0:Aa body (0::p)=a:=by simp[Aa,child,hc]
 rw[h0] at hx;obtain⟨x2,F2,h2,⟨m0,hy⟩,k⟩:=Sf h0 hx k
 refine CQ ⟨m0+1,fun n hn=> ?_⟩ k
 obtain⟨m,rfl⟩:∃m,n=m+1:=⟨n-1,by omega⟩
 rw[hc];simp only[exec]
 exact hy m (by omega)
theorem iq {l:Nat}(hf:(findLabel (Aa body p) l).isSome=true)(k:AF C f body Q (.code ((l+2)::p):: .scope p::st) .normal F h):AF C f body Q (.scope p::st) (.goto l) F h:=by
 obtain⟨x,F1,h1,hx,k⟩:=k;simp only[AF]
 cases hr:findLabel (Aa body p) l with
 |none=>rw[hr] at hf;cases hf
 |some rest=>
  have h0:Aa body ((l+2)::p)=rest:=by simp[Aa,child,hr]
  rw[h0] at hx;exact Sf rfl hx k
theorem RR {id:Nat}{ops:Array Oper}{draw:Bool}{G:Fr}{h':Hp}(hc:Aa body p=.region id ops draw)(ha:(draw&&C.Hk f id)=true)(hx:∃n0,∀n,n0<=n->J9 C (fun d=>call C d n) ops ((C.live f id).map fun s=>(s,lk F s)) h=.ok (G,h'))
  (k:AF C f body Q st .normal G h'):AF C f body Q (.code p::st) .normal F h:=by
 obtain⟨n0,hx⟩:=hx
 refine CQ (x:=.normal) ⟨n0+1,fun n hn=> ?_⟩ k
 obtain⟨m,rfl⟩:∃m,n=m+1:=⟨n-1,by omega⟩
 rw[hc]
 simp only[exec,ha,hx m (by omega)]
theorem RS {id:Nat}{ops:Array Oper}{draw:Bool}(hc:Aa body p=.region id ops draw)(CG:(draw&&C.Hk f id)=false)(Fy:((!C.C9 f&&Fb ops.toList)||(draw&& !Ui ops.toList (JW (GA ops draw) h.length ((C.live f id).map fun s=>(s,lk F s)))))=false)(k:AF C f body Q (.ops p 0::st) .normal (JW (GA ops draw) h.length ((C.live f id).map fun s=>(s,lk F s))) (Rz (GA ops draw) h)):AF C f body Q (.code p::st) .normal F h:=by
 simp only[AF,hc] at k;obtain⟨F1,h1,⟨n0,hx⟩,k⟩:=k
 refine CQ (x:=.normal) ⟨n0+1,fun n hn=> ?_⟩ k
 obtain⟨m,rfl⟩:∃m,n=m+1:=⟨n-1,by omega⟩
 rw[hc]
 have:=hx m (by omega)
 simp only[List.drop_zero] at this;simp only[exec,CG,Fy,this]
theorem Ns {i id:Nat}{ops:Array Oper}{draw:Bool}{o:Oper}{e:Bool×AV}(hc:Aa body p=.region id ops draw)(ho:ops[i]?=some o)
  (hs:∃n0,∀n,n0<=n->AW C (call C (BB C ops draw i) n) ops (BB C ops draw i) o F h=.ok (e,h')) (hm:Ek C ops draw i F h h'=true) (k:AF C f body Q (.ops p (i+1)::st) .normal (Av F (DF (BB C ops draw i) o) e) h'):AF C f body Q (.ops p i::st) .normal F h:=by
 simp only[AF,hc] at k⊢;obtain⟨n0,hs⟩:=hs;obtain⟨F1,h1,⟨m0,hx⟩,k⟩:=k
 refine⟨F1,h1,⟨n0+m0,fun n hn=> ?_⟩,k⟩
 have hi:i<ops.toList.length:=by
  have:=(Array.getElem?_eq_some_iff.1 ho).1;simpa using this
 have FN:ops.toList[i]=o:=by
  have:=(Array.getElem?_eq_some_iff.1 ho).2;simpa using this
 rw[List.drop_eq_getElem_cons hi,FN]
 simp only[DI,hs n (by omega),hm]
 exact hx n (by omega)
theorem Oc {i id:Nat}{ops:Array Oper}{draw:Bool}(hc:Aa body p=.region id ops draw)(ho:ops[i]?=none)(k:AF C f body Q st .normal F h):AF C f body Q (.ops p i::st) .normal F h:=by
 simp only[AF,hc]
 refine⟨F,h,⟨0,fun n _=> ?_⟩,k⟩
 have:ops.toList.length<=i:=by
  have:=Array.getElem?_eq_none_iff.1 ho;simpa using this
 rw[List.drop_of_length_le this];rfl
end
section
variable {C:Bm}{f:FuncId}
theorem Jq (F:Fr)(ls:List Nat):(ls.map fun s=>(s,lk (ls.map fun s=>(s,lk F s)) s))=ls.map fun s=>(s,lk F s):=by
 have key:∀(ms:List Nat) s,s∈ms->lk (ms.map fun s=>(s,lk F s)) s=lk F s:=by
  intro ms
  induction ms with
  |nil=>intro s hs;cases hs
  |cons m ms ih=>
   intro s hs;simp only[List.map_cons,lk]
   cases hb:Nat.beq m s with
   |true=>rw[Nat.eq_of_beq_eq_true hb];rfl
   |false=>
    simp only[cond_false];refine ih s ?_
    rcases List.mem_cons.1 hs with e|e
    ·subst e;simp[Nat.beq_refl] at hb
    ·exact e
 refine List.map_congr_left fun s hs=> ?_
 rw[key ls s hs]
def Ff :Code->Option Nat
 |.seq a _=>Ff a
 |.block _ a=>Ff a
 |.loop a=>Ff a
 |.region id _ _=>some id
 |_=>none
theorem IG {id:Nat}:∀(n:Nat) (c:Code) (F:Fr) (h:Hp),Ff c=some id->exec C f n c ((C.live f id).map fun s=>(s,lk F s)) h=exec C f n c F h:=by
 intro n
 induction n with
 |zero=>intro c F h _;rfl
 |succ n ih=>
  intro c F h hc
  cases c<;>simp only[Ff] at hc
  case seq a b=>simp only[exec,ih a F h hc]
  case block i a=>simp only[exec,ih a F h hc]
  case loop a=>simp only[exec,ih a F h hc]
  case region i ops draw=>
   injection hc with hc
   subst hc;simp only[exec,Jq]
  all_goals cases hc
end
def Ha (C:Bm)(f:FuncId)(c:Code)(F:Fr):Fr:=match Ff c with
 |some id=>(C.live f id).map fun s=>(s,lk F s)
 |none=>F
abbrev dt :=FuncId->Option (List AV->Hp->(AV->Hp->Prop)->Prop)
def B8 (C:Bm)(k:FuncId)(l:List AV):List AV:=match(C.Cr k).isSome||C.heap k with|true=>l|false=>AQ 0 [] l
def AL (C:Bm)(T:dt):Prop:=∀k t,T k=some t->∀l h K,t (B8 C k l) h K->∃v h',K4 C false k l h v h'/\K v h'
def JV :Fr->Nat->Bool->Fr
 |[],_,_=>[]
 |(s,e)::r,d,b=>bif Nat.beq s d then(s,true,.bool b)::r else(s,e)::JV r d b
def cI (F:Fr)(y:Operand)(b:Bool):Fr:=match y with
 |.tmp t=>JV F t b
 |_=>F
theorem Ly :∀{F:Fr} {d:Nat} {b:Bool},lk F d=(true,.bool b)->JV F d b=F
 |[],d,b,h=>by simp[lk] at h
 |(s,e)::r,d,b,h=>by
  simp only[lk] at h;simp only[JV]
  cases hb:Nat.beq s d with
  |true=>rw[hb] at h;simp only[cond_true] at h⊢;rw[h]
  |false=>rw[hb] at h;simp only[cond_false] at h⊢;rw[Ly h]
mutual
def Ed (n:Nat):AV->Bool
 |.ptr b _=>Nat.blt b n
 |.KR b _ _ _=>Nat.blt b n
 |.Wr b=>Nat.blt b n
 |.CM b _ _ _ _=>Nat.blt b n
 |.Bf b _ _ _=>Nat.blt b n
 |.Gw b _ _ _ es=>Nat.blt b n&&AJ n es
 |.PD _ vs=>AJ n vs
 |.ro cs=>CB n cs
 |.sl _ es own=>AJ n es&&(match own with|some id=>Nat.blt id n|none=>true)
 |.fn _ a c=>CB n a&&CB n c
 |.iface _ v=>Ed n v
 |.agg cs=>CB n cs
 |.tup cs=>CB n cs
 |.C9 cs=>CB n cs
 |_=>true
def CB (n:Nat):List AV->Bool
 |[]=>true
 |v::r=>Ed n v&&CB n r
def AJ (n:Nat):List (List AV)->Bool
 |[]=>true
 |v::r=>CB n v&&AJ n r
end
mutual
theorem IM (n:Nat)(h:Hp):∀x,Ed n x=true->strip n h x=x
 |.top,_=>rfl
 |.bool _,_=>rfl
 |.int _ _,_=>rfl
 |.str _,_=>rfl
 |.Gb,_=>rfl
 |.ptr b o,hp=>by simp only[Ed] at hp;simp only[strip,hp,cond_true]
 |.ro cs,hp=>by rw[strip,DB n h cs (by simpa[Ed] using hp)]
 |.sl sz es own,hp=>by
  simp only[Ed,Bool.and_eq_true] at hp;rw[Ck,EC n h es hp.1]
  cases own with
  |none=>rfl
  |some id=>simp only[Ct,hp.2,cond_true]
 |.KR b o l s,hp=>by simp only[Ed] at hp;simp only[strip,hp,cond_true]
 |.Wr b,hp=>by simp only[Ed] at hp;simp only[strip,hp,cond_true]
 |.CM b _ _ _ _,hp=>by simp only[Ed] at hp;simp only[strip,hp,cond_true]
 |.Bf b _ _ _,hp=>by simp only[Ed] at hp;simp only[strip,hp,cond_true]
 |.Gw b _ _ _ es,hp=>by
  simp only[Ed,Bool.and_eq_true] at hp;simp only[strip,hp.1,cond_true,EC n h es hp.2]
 |.PD _ vs,hp=>by rw[strip,EC n h vs (by simpa[Ed] using hp)]
 |.fn f a c,hp=>by
  simp only[Ed,Bool.and_eq_true] at hp;rw[strip,DB n h a hp.1,DB n h c hp.2]
 |.HO,_=>rfl
 |.iface t v,hp=>by rw[strip,IM n h v (by simpa[Ed] using hp)]
 |.JX,_=>rfl
 |.agg cs,hp=>by rw[strip,DB n h cs (by simpa[Ed] using hp)]
 |.tup cs,hp=>by rw[strip,DB n h cs (by simpa[Ed] using hp)]
 |.C9 cs,hp=>by rw[strip,DB n h cs (by simpa[Ed] using hp)]
theorem DB (n:Nat)(h:Hp):∀xs,CB n xs=true->AQ n h xs=xs
 |[],_=>rfl
 |x::xs,hp=>by
  simp only[CB,Bool.and_eq_true] at hp;rw[AQ,IM n h x hp.1,DB n h xs hp.2]
theorem EC (n:Nat)(h:Hp):∀xs,AJ n xs=true->AE n h xs=xs
 |[],_=>rfl
 |x::xs,hp=>by
  simp only[AJ,Bool.and_eq_true] at hp;rw[AE,DB n h x hp.1,EC n h xs hp.2]
end
def Vc (n:Nat):AV->AV
 |.ptr b o=>match Nat.blt b n with|true=>.ptr b o|false=>.top
 |.KR b o l s=>match Nat.blt b n with|true=>.KR b o l s|false=>.top
 |.sl sz es (some id)=>match Nat.blt id n with|true=>.sl sz es (some id)|false=>.sl sz es none
 |v=>v
theorem Sa (n:Nat)(h:Hp){v:AV}(hl:Ed n (Vc n v)=true):strip n h v=Vc n v:=by
 have key:∀v,Ed n v=true->Vc n v=v->strip n h v=v:=fun v h1 _=>IM n h v h1
 cases v with
 |ptr b o=>
  simp only[Vc,strip]
  cases Nat.blt b n<;>rfl
 |KR b o l s=>
  simp only[Vc,strip]
  cases Nat.blt b n<;>rfl
 |sl sz es own=>
  cases own with
  |none=>exact IM n h _ hl
  |some id=>
   simp only[Vc] at hl⊢;rw[Ck]
   cases hb:Nat.blt id n with
   |true=>
    rw[hb] at hl;simp only[Ed,Bool.and_eq_true] at hl;rw[EC n h es hl.1];simp only[Ct,hb,cond_true]
   |false=>
    rw[hb] at hl;simp only[Ed,Bool.and_eq_true] at hl;rw[EC n h es hl.1];simp only[Ct,hb,cond_false]
 |_=>exact IM n h _ hl
def Tw (n:Nat):Fr->Fr
 |[]=>[]
 |e::r=>(e.1,e.2.1,Vc n e.2.2)::Tw n r
def gO (n:Nat):Fr->Bool
 |[]=>true
 |e::r=>Ed n e.2.2&&gO n r
def Kq (n:Nat):List AV->List AV
 |[]=>[]
 |v::r=>Vc n v::Kq n r
def eQ (n:Nat):Blk->Blk
 |.mem t cs=>.mem t (Kq n cs)
 |b=>b
def nu (n:Nat):Blk->Bool
 |.mem _ cs=>CB n cs
 |.Bi _ _ _ _ _ _ rows=>rows.all fun r=>CB n r.2
 |_=>true
def Ln (n:Nat):Hp->Hp
 |[]=>[]
 |b::r=>eQ n b::Ln n r
def Wf (n:Nat):Hp->Bool
 |[]=>true
 |b::r=>nu n b&&Wf n r
theorem Tv (n:Nat)(h:Hp):∀{F:Fr},gO n (Tw n F)=true->DC n h F=Tw n F
 |[],_=>rfl
 |e::r,hl=>by
  simp only[Tw,gO,Bool.and_eq_true] at hl;show(e.1,e.2.1,strip n h e.2.2)::DC n h r=_;rw[Sa n h hl.1,Tv n h hl.2,Tw]
theorem Vb (n:Nat)(h:Hp):∀{cs:List AV},CB n (Kq n cs)=true->AQ n h cs=Kq n cs
 |[],_=>rfl
 |v::r,hl=>by
  simp only[Kq,CB,Bool.and_eq_true] at hl;rw[AQ,Sa n h hl.1,Vb n h hl.2,Kq]
theorem Pv (n:Nat)(h:Hp):∀{bs:Hp},Wf n (Ln n bs)=true->bs.map (AN n h)=Ln n bs
 |[],_=>rfl
 |b::r,hl=>by
  simp only[Ln,Wf,Bool.and_eq_true] at hl;rw[List.map_cons,Pv n h hl.2,Ln]
  congr 1
  cases b with
  |mem t cs=>
   have:=hl.1;simp only[eQ,nu] at this;simp only[AN,eQ,Vb n h this]
  |Bi g t sz kc ke ksz rows=>
   have:=hl.1;simp only[eQ,nu] at this;simp only[AN,eQ]
   congr 1
   conv=>rhs;rw[<-List.map_id rows]
   exact List.map_congr_left fun r hr=>by rw[DB n h r.2 (List.all_eq_true.1 this r hr)];rfl
  |_=>rfl
inductive Sh where
 |int (k:IntKind)
 |str
 |bool
 |sl (sz:Nat)
 |av
def Gy :List Sh->(List AV->Prop)->Prop
 |[],K=>K []
 |.int k::r,K=>∃z:Int,Gy r (fun l=>K (.int k z::l))
 |.str::r,K=>∃s:List UInt8,Gy r (fun l=>K (.str s::l))
 |.bool::r,K=>∃b:Bool,Gy r (fun l=>K (.bool b::l))
 |.sl sz::r,K=>∃es:List (List AV),Gy r (fun l=>K (.sl sz es none::l))
 |.av::r,K=>∃v:AV,Gy r (fun l=>K (v::l))
theorem C6 :∀{l:List Sh} {K:List AV->Prop},Gy l K->∃cs,K cs
 |[],_,h=>⟨_,h⟩
 |.int k::r,_,h=>by obtain⟨z,h⟩:=h;obtain⟨cs,h⟩:=C6 h;exact⟨_,h⟩
 |.str::r,_,h=>by obtain⟨z,h⟩:=h;obtain⟨cs,h⟩:=C6 h;exact⟨_,h⟩
 |.bool::r,_,h=>by obtain⟨z,h⟩:=h;obtain⟨cs,h⟩:=C6 h;exact⟨_,h⟩
 |.sl sz::r,_,h=>by obtain⟨z,h⟩:=h;obtain⟨cs,h⟩:=C6 h;exact⟨_,h⟩
 |.av::r,_,h=>by obtain⟨z,h⟩:=h;obtain⟨cs,h⟩:=C6 h;exact⟨_,h⟩
structure Z6 where
 tD:List (List Nat)
 H8:List (List Nat×Nat×List Sh)
def pW :List Nat->List Nat->Bool
 |[],[]=>true
 |a::r,b::s=>Nat.beq a b&&pW r s
 |_,_=>false
def Yy :List (List Nat)->List Nat->Bool
 |[],_=>false
 |q::r,p=>pW q p||Yy r p
def HQ :List (List Nat×Nat×List Sh)->List Nat->Nat->Option (List Sh)
 |[],_,_=>none
 |(q,j,s)::r,p,i=>bif pW q p&&Nat.beq j i then some s else HQ r p i
def Uo (C:Bm)(draw:Bool)(F:Fr)(h:Hp)(o:Oper)(s:List Sh)(next:(Bool×AV)->Hp->Prop):Prop:=
 match o.op with
 |.indexAddr t x i=>
  match C.P.underlying t,ev C.G F x,ev C.G F i with
  |some (.slice e),(g,.sl sz es _),(g',.int _ n)=>
   AS (g&&g'&&Dk n es.length&&Nat.beq sz (C.P.cellsOf e)&&Nat.ble 1 sz) (Gy s fun cs=>CH es n=cs/\next (true,.ro cs) h)
  |some (.slice e),(g,.Gw _ _ _ sz es),(g',.int _ n)=>
   AS (!(draw||o.guard.isSome)&&(g&&g'&&Dk n es.length&&Nat.beq sz (C.P.cellsOf e)&&Nat.ble 1 sz)) (Gy s fun cs=>CH es n=cs/\next (true,.ro cs) h)
  |_,_,_=>False
 |_=>False
def lI (C:Bm)(T:dt)(draw:Bool)(F:Fr)(h:Hp)(o:Oper)(next:(Bool×AV)->Hp->Prop):Prop:=
 match o.op with
 |.call {callee:=.value x,args,argTypes:=_}=>
  match ev C.G F x,Nw C.G F args.toList with
  |(true,.fn (.func k) first cap),(true,vs)=>
   match C.ident k,first++vs++cap with
   |true,[v]=>next (true,v) h
   |true,_=>False
   |false,l=>
    match draw&&((C.Cr k).isSome||C.heap k) with
    |true=>False
    |false=>match T k with
     |some t=>t (B8 C k l) h fun v h'=>next (true,v) h'
     |none=>False
  |_,_=>False
 |.defer {callee:=.value x,args,argTypes:=_}=>
  match draw|| !EE o||o.dst.isSome|| !args.toList.isEmpty,ev C.G F x,lk F dS with
  |false,(true,.fn f first cap),(_,.C9 l)=>next (true,.C9 (.fn f first cap::l)) h
  |_,_,_=>False
 |_=>
  match Bl C (draw||o.guard.isSome) F h o with
  |some (g,e,h')=>AS g (next e h')
  |none=>False
def ah (C:Bm)(F:Fr)(h:Hp)(o:Oper)(s:List Sh)(next:(Bool×AV)->Hp->Prop):Prop:=
 match o.op with
 |.load t x=>
  match GF C.P t,C.P.underlying t,C.P.info? t,ev C.G F x with
  |false,some _,some _,(g,.ptr b off)=>
   match h[b]? with
   |some (.mem _ cs)=>AS g (Gy s fun l=>(cs.drop off).take 1=l/\match l with|[v]=>next (true,v) h|_=>False)
   |_=>False
  |_,_,_,_=>False
 |_=>False
def ae (C:Bm)(F:Fr)(h:Hp)(o:Oper)(next:(Bool×AV)->Hp->Prop):Prop:=
 match o.op with
 |.makeSlice t l c=>
  match C.P.underlying t with
  |some (.slice e)=>
   match C.P.info? e,ev C.G F l,ev C.G F c with
   |some i,(g,.int _ n),(g',.int _ m)=>
    match i.zero with
    |some z=>
     AS (g&&g'&&decide (0<=n)&&decide (n=m)&&decide ((i.bytes:Int)*m<=281474976710656)&&decide (m<=9223372036854775807)&&Nat.beq i.size 1&&Nat.beq z.cells.size 1&&z.cells.toList.all (·.oneCell'))
      (∃cs:List AV,cs=List.replicate n.toNat (match z.cells.toList with|[v]=>ofConst v|_=>.top)/\next (true,.KR h.length 0 n.toNat 1) (h++[.mem e cs]))
    |none=>False
   |_,_,_=>False
  |_=>False
 |_=>False
def Vk (C:Bm)(T:dt)(F:Fr)(h:Hp)(o:Oper)(next:(Bool×AV)->Hp->Prop):Prop:=match o.guard with
 |none=>lI C T (Je o) F h o next
 |some _=>False
def fO (C:Bm)(T:dt)(ops:Array Oper):List Oper->Fr->Hp->(Fr->Hp->Prop)->Prop
 |[],F,h,K=>K F h
 |o::os,F,h,K=>Vk C T F h o fun e h1=>fO C T ops os (Av F o.dst e) h1 K
def Pf :Op->Bool
 |.call {callee:=.value _,..}=>true
 |_=>false
def ay (C:Bm)(o:Oper)(h1 h:Hp)(p:Prop):Prop:=match Eb C o&&Pf o.op with
 |true=>h1=h/\p
 |false=>p
def MT (C:Bm)(ops:Array Oper)(l:List Nat):List Nat->Option Nat
 |[]=>none
 |i::r=>match Oa C ops l i with
  |true=>some i
  |false=>MT C ops l r
def fZ (ops:Array Oper)(l:List Nat)(p:Nat->Prop):List Nat->Prop
 |[]=>True
 |i::r=>match FQ ops l i with
  |true=>p i/\fZ ops l p r
  |false=>fZ ops l p r
def cN (C:Bm)(T:dt)(ops:Array Oper)(P:Fr->Hp->Prop):Nat->List Nat->Fr->Hp->Prop
 |0,_,_,_=>False
 |_+1,[],F,h=>P F h
 |n+1,k::l,F,h=>match MT C ops (k::l) (k::l) with
  |some i=>match ops[i]? with
   |some o=>Vk C T F h o fun e h1=>ay C o h1 h (cN C T ops P n ((k::l).erase i) (Av F o.dst e) h1)
   |none=>False
  |none=>fZ ops (k::l) (fun i=>match ops[i]? with
   |some o=>Vk C T F h o fun e h1=>ay C o h1 h (cN C T ops P n ((k::l).erase i) (Av F o.dst e) h1)
   |none=>False) (k::l)
def FV :List Nat->Fr->Fr->Prop
 |[],_,_=>True
 |d::ds,F,G=>lk F d=lk G d/\FV ds F G
def gj :Op->Bool
 |.makeSlice .. =>true
 |_=>false
def gl :Op->Bool
 |.load .. =>true
 |_=>false
def jE (C:Bm)(T:dt)(draw:Bool)(F:Fr)(h:Hp)(o:Oper)(s:Option (List Sh))(next:(Bool×AV)->Hp->Prop):Prop:=
 match s with
 |some s=>match gl o.op with
  |true=>ah C F h o s next
  |false=>match gj o.op with
   |true=>ae C F h o next
   |false=>Uo C draw F h o s next
 |none=>lI C T draw F h o next
def Wq :List Nat->Fr->Hp->Hp->Prop->Prop
 |[],_,_,_,p=>p
 |q::r,F,h,h',p=>match lk F q with
  |(_,.ptr b _)=>h[b]?=h'[b]?/\Wq r F h h' p
  |(_,.ro _)=>Wq r F h h' p
  |_=>False
def dw (C:Bm)(ops:Array Oper)(draw:Bool)(i:Nat)(F:Fr)(h h':Hp)(p:Prop):Prop:=match draw&&HP C ops i with
 |false=>p
 |true=>Wq (ZS ops i) F h h' p
theorem Q6 :∀(l:List Nat) {F:Fr} {h h':Hp} {p:Prop},Wq l F h h' p->(∀q∈l,Kt F h h' q)/\p
 |[],F,h,h',p,hk=>⟨(fun _ hq=>by cases hq),hk⟩
 |q::r,F,h,h',p,hk=>by
  simp only[Wq] at hk;split at hk
  ·rename_i g b o hl;obtain⟨k1,k2⟩:=Q6 r hk.2
   refine⟨fun x hx=> ?_,k2⟩
   rcases List.mem_cons.1 hx with rfl|hx
   ·unfold Kt;rw[hl];exact hk.1
   ·exact k1 x hx
  ·rename_i g cs hl;obtain⟨k1,k2⟩:=Q6 r hk
   refine⟨fun x hx=> ?_,k2⟩
   rcases List.mem_cons.1 hx with rfl|hx
   ·unfold Kt;rw[hl];trivial
   ·exact k1 x hx
  ·exact hk.elim
theorem aZ {C:Bm}{ops:Array Oper}{draw:Bool}{i:Nat}{F:Fr}{h h':Hp}{p:Prop}(hk:dw C ops draw i F h h' p):Ek C ops draw i F h h'=true/\p:=by
 unfold dw at hk;unfold Ek;split at hk
 ·rename_i hm;rw[hm];exact⟨rfl,hk⟩
 ·rename_i hm;rw[hm];obtain⟨k1,k2⟩:=Q6 _ hk;refine⟨?_,k2⟩;simp only;split
  ·rfl
  ·exact @decide_eq_true _ (Classical.propDecidable _) k1
theorem FB {C:Bm}{ops:Array Oper}{draw:Bool}{i:Nat}{o:Oper}(ho:ops[i]?=some o)(hg:o.guard.isSome=true){F:Fr}{h h':Hp}:Ek C ops draw i F h h'=true:=by
 have:HP C ops i=false:=by
  unfold HP;rw[ho]
  have:Np C o=false:=by
   unfold Np;split
   ·rename_i oh;rw[oh] at hg;cases hg
   ·rfl
  simp only[this,Bool.false_and]
 unfold Ek;rw[this,Bool.and_false]
def La (C:Bm)(T:dt)(draw:Bool)(ops:Array Oper)(F:Fr)(h:Hp)(o:Oper)(s:Option (List Sh))(next:(Bool×AV)->Hp->Prop):Prop:=
 match FL C.P draw ops o F h with
 |some (.ok (e,h'))=>next e h'
 |some (.error _)=>False
 |none=>jE C T draw F h o s next
def Hh (C:Bm)(f:FuncId)(body:Code)(T:dt)(pl:Z6)(Q:Fr->Hp->Prop):Nat->List Fm->XT->Fr->Hp->Prop
 |0,st,x,F,h=>AF C f body Q st x F h
 |n+1,[],x,F,h=>match gm x with|true=>Q F h|false=>False
 |n+1,.code p::st,.normal,F,h=>
  match Yy pl.tD p with
  |true=>AF C f body Q (.code p::st) .normal (Ha C f (Aa body p) F) h
  |false=>
   match Aa body p with
   |.skip=>Hh C f body T pl Q n st .normal F h
   |.label _=>Hh C f body T pl Q n st .normal F h
   |.ret=>Hh C f body T pl Q n st .ret F h
   |.exit id=>Hh C f body T pl Q n st (.exit id) F h
   |.goto l=>Hh C f body T pl Q n st (.goto l) F h
   |.seq _ _=>Hh C f body T pl Q n (.code (0::p):: .code (1::p)::st) .normal F h
   |.cond y _ _=>
    match ev C.G F y with
    |(true,.bool b)=>Ap b (Hh C f body T pl Q n (.code (0::p)::st) .normal (cI F y true) h) (Hh C f body T pl Q n (.code (1::p)::st) .normal (cI F y false) h)
    |_=>False
   |.block id _=>Hh C f body T pl Q n (.code (0::p):: .block id::st) .normal F h
   |.loop _=>Hh C f body T pl Q n (.code (0::p):: .loop p h.length::st) .normal F h
   |.scope _=>Hh C f body T pl Q n (.code (0::p):: .scope (0::p)::st) .normal F h
   |.region id ops draw=>match draw&&C.Hk f id with
    |true=>fO C T ops ops.toList ((C.live f id).map fun s=>(s,lk F s)) h fun G h'=>cN C T ops (fun F1 h1=>FV (ops.toList.filterMap (·.dst)) F1 G/\h1=h') (ops.size+1) (List.range ops.size) ((C.live f id).map fun s=>(s,lk F s)) h/\
      Hh C f body T pl Q n st .normal G h'
    |false=>match(!C.C9 f&&Fb ops.toList)||(draw&& !Ui ops.toList (JW (GA ops draw) h.length ((C.live f id).map fun s=>(s,lk F s)))) with
    |true=>False
    |false=>Hh C f body T pl Q n (.ops p 0::st) .normal (JW (GA ops draw) h.length ((C.live f id).map fun s=>(s,lk F s))) (Rz (GA ops draw) h)
   |_=>False
 |n+1,.loop p m::st,.normal,F,h=>match C.Fv f with
  |false=>Hh C f body T pl Q n (.code p::st) .normal F h
  |true=>match C.Pr f with
   |true=>Hh C f body T pl Q n (.code p::st) .normal (DC m h (Ha C f (Aa body p) F)) ((h.take m).map (AN m h))
   |false=>AS (gO m (Tw m (Ha C f (Aa body p) F))&&Wf m (Ln m (h.take m)))
    (Hh C f body T pl Q n (.code p::st) .normal (Tw m (Ha C f (Aa body p) F)) (Ln m (h.take m)))
 |n+1,.block id::st,.exit i,F,h=>match Nat.beq i id with|true=>Hh C f body T pl Q n st .normal F h|false=>Hh C f body T pl Q n st (.exit i) F h
 |n+1,.scope p::st,.goto l,F,h=>match(findLabel (Aa body p) l).isSome with
  |true=>Hh C f body T pl Q n (.code ((l+2)::p):: .scope p::st) .normal F h
  |false=>Hh C f body T pl Q n st (.goto l) F h
 |n+1,.ops p i::st,.normal,F,h=>
  match Aa body p with
  |.region _ ops draw=>
   match ops[i]? with
   |none=>Hh C f body T pl Q n st .normal F h
   |some o=>
    match o.guard with
    |none=>La C T (BB C ops draw i) ops F h o (HQ pl.H8 p i) fun e h'=>dw C ops draw i F h h' (Hh C f body T pl Q n (.ops p (i+1)::st) .normal (Av F (DF (BB C ops draw i) o) e) h')
    |some (j,want)=>
     match(ops[j]?).bind (·.dst) with
     |none=>False
     |some d=>
      match lk F d with
      |(true,.bool b)=>
       Ap b
        (match want with
        |true=>La C T (BB C ops draw i) ops (JV F d true) h o (HQ pl.H8 p i) fun e h'=>Hh C f body T pl Q n (.ops p (i+1)::st) .normal (Av (JV F d true) o.dst e) h'
        |false=>Hh C f body T pl Q n (.ops p (i+1)::st) .normal (Av (JV F d true) o.dst (false,.top)) h)
        (match want with
        |true=>Hh C f body T pl Q n (.ops p (i+1)::st) .normal (Av (JV F d false) o.dst (false,.top)) h
        |false=>La C T (BB C ops draw i) ops (JV F d false) h o (HQ pl.H8 p i) fun e h'=>Hh C f body T pl Q n (.ops p (i+1)::st) .normal (Av (JV F d false) o.dst e) h')
      |(false,_)=>Hh C f body T pl Q n (.ops p (i+1)::st) .normal (Av F o.dst (false,.top)) h
      |_=>False
  |_=>False
 |n+1,_::st,x,F,h=>Hh C f body T pl Q n st x F h
section
variable {C:Bm}{f:FuncId}{body:Code}{T:dt}{pl:Z6}{Q:Fr->Hp->Prop}
theorem Nv (n:Nat)(c:Code)(F:Fr)(h:Hp):exec C f n c (Ha C f c F) h=exec C f n c F h:=by
 unfold Ha;split
 ·exact IG n c F h (by assumption)
 ·rfl
theorem Nu (n:Nat)(c:Code)(m:Nat)(h:Hp)(F:Fr)(h1:Hp):exec C f n c (DC m h (Ha C f c F)) h1=exec C f n c (DC m h F) h1:=by
 rw[<-Nv n c (DC m h F) h1];unfold Ha;split
 ·congr 1
  unfold DC;rw[List.map_map]
  refine List.map_congr_left fun s _=> ?_
  have:=HC m h F s;unfold DC at this;rw[this];rfl
 ·rfl
theorem XD {p:List Nat}{st:List Fm}{F:Fr}{h:Hp}(k:AF C f body Q (.code p::st) .normal (Ha C f (Aa body p) F) h):AF C f body Q (.code p::st) .normal F h:=by
 obtain⟨x,F1,h1,⟨n0,hx⟩,k⟩:=k
 exact⟨x,F1,h1,⟨n0,fun n hn=>by rw[<-Nv n _ F h];exact hx n hn⟩,k⟩
theorem Tg {k:FuncId}(hk:((C.Cr k).isSome||C.heap k)=false)(draw:Bool)(n:Nat)(l:List AV)(h:Hp):call C draw n k l h=call C false n k l h:=by
 simp only[Bool.or_eq_false_iff,Option.isSome_eq_false_iff,Option.isNone_iff_eq_none] at hk
 cases n with
 |zero=>rfl
 |succ n=>simp only[call,hk.1,hk.2]
theorem bW (hT:AL C T){draw:Bool}{F:Fr}{h:Hp}{o:Oper}{next:(Bool×AV)->Hp->Prop}(hd:lI C T draw F h o next):
  ∃e h',(∃n0,∀n,n0<=n->BF C (call C draw n) draw o F h=.ok (e,h'))/\next e h':=by
 unfold lI at hd;split at hd
 ·rename_i x args ts Bo;split at hd
  ·rename_i k first cap vs hx hC
   split at hd
   ·rename_i v hid hl
    refine⟨(true,v),h,⟨0,fun n _=> ?_⟩,hd⟩
    simp only[BF,Bo,hx,hC,hid,hl]
   ·exact hd.elim
   ·rename_i hid;split at hd
    ·exact hd.elim
    ·rename_i ZG
     cases ht:T k with
     |none=>rw[ht] at hd;exact hd.elim
     |some t=>
      rw[ht] at hd;obtain⟨v,h',⟨n0,hc⟩,hn⟩:=hT k t ht _ _ _ hd
      refine⟨(true,v),h',⟨n0,fun n hn=> ?_⟩,hn⟩
      have DS:call C draw n k (first++vs++cap) h=.ok (v,h'):=by
       cases draw with
       |false=>exact hc n hn
       |true=>rw[Tg (by simpa using ZG)];exact hc n hn
      simp only[BF,Bo,hx,hC,hid,DS]
  ·exact hd.elim
 ·rename_i x args ts Bo;split at hd
  ·rename_i fn first cap b l hc hx hl
   refine⟨_,h,⟨0,fun n _=> ?_⟩,hd⟩
   simp only[BF,Bo,hc,hx,hl]
  ·exact hd.elim
 ·rename_i Bo iB;split at hd
  ·rename_i g e h' Nl;obtain⟨rfl,hn⟩:=ER hd
   refine⟨e,h',⟨0,fun n _=> ?_⟩,hn⟩
   obtain⟨dst,op,ty,pos,after,gd⟩:=o;unfold BF;split
   ·rename_i x args ts Nj;exact absurd Nj (Bo x args ts)
   ·rename_i x args ts Nj;exact absurd Nj (iB x args ts)
   ·simp only[Nl]
  ·exact hd.elim
theorem XE {C:Bm}{F:Fr}{h h1:Hp}{o:Oper}{g:Bool}{e:Bool×AV}(hq:Eb C o=true)(hx:Bl C (Je o) F h o=some (g,e,h1)):h1=h:=by
 obtain⟨d,op,ty,pos,after,gd⟩:=o
 cases op<;>simp only[Eb,Bool.false_eq_true] at hq
 case move x=>exact Gz (r:=(g,e)) ⟨d,.move x,ty,pos,after,gd⟩ rfl hx
 case assign x=>exact Gz (r:=(g,e)) ⟨d,.assign x,ty,pos,after,gd⟩ rfl hx
 case buildSlice t l ps=>exact Gz (r:=(g,e)) ⟨d,.buildSlice t l ps,ty,pos,after,gd⟩ rfl hx
 case load t x=>
  simp only[Je,Bl] at hx;split at hx
  ·rename_i r hr;rw[hx] at hr;simp only[B6] at hr
   repeat' (split at hr)
   all_goals first|(simp only[Option.some.injEq,Prod.mk.injEq] at hr;exact hr.2.2.symm)|cases hr
  ·simp only[evalOp,JD] at hx
   repeat' (split at hx)
   all_goals first|(simp only[Option.some.injEq,Prod.mk.injEq] at hx;exact hx.2.2.symm)|cases hx
 case nilCheck x=>
  simp only[Je,Bl] at hx;split at hx
  ·rename_i r hr;rw[hx] at hr;simp only[B6] at hr
   repeat' (split at hr)
   all_goals first|(simp only[Option.some.injEq,Prod.mk.injEq] at hr;exact hr.2.2.symm)|cases hr
  ·simp only[evalOp,Ez] at hx
   repeat' (split at hx)
   all_goals first|(simp only[Option.some.injEq,Prod.mk.injEq] at hx;exact hx.2.2.symm)|cases hx
 case fieldAddr s x f=>
  simp only[Je,Bl] at hx;split at hx
  ·rename_i r hr;rw[hx] at hr;simp only[B6] at hr
   repeat' (split at hr)
   all_goals first|(simp only[Option.some.injEq,Prod.mk.injEq] at hr;exact hr.2.2.symm)|cases hr
  ·simp only[evalOp,EH] at hx;split at hx
   ·split at hx
    ·rename_i fd _
     cases hc:Nat.beq (C.P.cellsOf fd.type) 0<;>rw[hc] at hx
     ·simp only[cond_false] at hx
      repeat' (split at hx)
      all_goals first|(simp only[Option.some.injEq,Prod.mk.injEq] at hx;exact hx.2.2.symm)|cases hx
     ·cases hx
    ·cases hx
   ·cases hx
 case field s x f=>
  simp only[Je,Bl,B6,evalOp,Ma] at hx
  repeat' (split at hx)
  all_goals first|(simp only[Option.some.injEq,Prod.mk.injEq] at hx;exact hx.2.2.symm)|cases hx
 case indexAddr t x i=>
  simp only[Je,Bl] at hx;split at hx
  ·rename_i r hr;rw[hx] at hr;simp only[B6] at hr
   repeat' (split at hr)
   all_goals first|(simp only[Option.some.injEq,Prod.mk.injEq] at hr;exact hr.2.2.symm)|cases hr
  ·simp only[evalOp,EG] at hx
   repeat' (split at hx)
   all_goals first|(simp only[Option.some.injEq,Prod.mk.injEq] at hx;exact hx.2.2.symm)|cases hx
 case index t x i=>
  simp only[Je,Bl,B6,evalOp,MZ] at hx
  repeat' (split at hx)
  all_goals first|(simp only[Option.some.injEq,Prod.mk.injEq] at hx;exact hx.2.2.symm)|cases hx
 case extract t ix=>
  simp only[Je,Bl,B6,evalOp,Ih] at hx
  repeat' (split at hx)
  all_goals first|(simp only[Option.some.injEq,Prod.mk.injEq] at hx;exact hx.2.2.symm)|cases hx
 case binOp op t x y u=>
  simp only[Je,Bl,B6,evalOp,XL,XK] at hx
  repeat' (split at hx)
  all_goals first|(simp only[Option.some.injEq,Prod.mk.injEq] at hx;exact hx.2.2.symm)|cases hx
 case unOp op t x=>
  simp only[Je,Bl,B6,evalOp] at hx
  repeat' (split at hx)
  all_goals first|(simp only[Option.some.injEq,Prod.mk.injEq] at hx;exact hx.2.2.symm)|cases hx
 case pick c x y=>
  simp only[Je,Bl,B6,evalOp,RV] at hx
  repeat' (split at hx)
  all_goals first|(simp only[Option.some.injEq,Prod.mk.injEq] at hx;exact hx.2.2.symm)|cases hx
 case call c=>
  obtain⟨callee,args,Xe⟩:=c
  cases callee with
  |builtin b=>
   cases b<;>simp only[Bool.false_eq_true] at hq
   simp only[Je,Bl] at hx;split at hx
   ·rename_i r hr;rw[hx] at hr;simp only[B6] at hr
    repeat' (split at hr)
    all_goals first|(simp only[Option.some.injEq,Prod.mk.injEq] at hr;exact hr.2.2.symm)|cases hr
   ·simp only[evalOp,HE] at hx;split at hx
    ·simp only[TW] at hx
     repeat' (split at hx)
     all_goals first|(simp only[Option.some.injEq,Prod.mk.injEq] at hx;exact hx.2.2.symm)|cases hx
    all_goals simp at *
  |_=>simp[Je,Bl,B6,evalOp] at hx
theorem eK {P:Program}{ops:Array Oper}{o:Oper}{F:Fr}{h:Hp}:FL P (Je o) ops o F h=none:=by
 unfold FL;split
 ·rfl
 ·rename_i hd;rw[Bool.and_eq_true] at hd;have:=hd.1;unfold Je at this;split at this
  ·rename_i Bo;rw[Bo]
  ·rename_i Bo;rw[Bo]
  ·rename_i Bo;rw[Bo]
  ·cases this
theorem QB (hT:AL C T){ops:Array Oper}{F:Fr}{h:Hp}{o:Oper}{next:(Bool×AV)->Hp->Prop}(hd:Vk C T F h o next):
  ∃e h',(∃n0,∀n,n0<=n->EW C (fun d=>call C d n) ops o F h=.ok (e,h'))/\next e h'/\(Eb C o=true->Pf o.op=false->h'=h):=by
 unfold Vk at hd;split at hd
 ·rename_i hg;obtain⟨e,h',⟨n0,hn⟩,hk⟩:=bW hT hd
  refine⟨e,h',⟨n0,fun n sT=> ?_⟩,hk,fun hq hc=> ?_⟩
  ·unfold EW AW guardOf;rw[hg];simp only[eK];exact hn n sT
  ·have:=hn n0 (Nat.le_refl _);unfold BF at this;split at this
   ·rename_i x args Xe Bo;rw[Bo] at hc;cases hc
   ·rename_i x args Xe Bo;simp only[Eb,Bo] at hq;cases hq
   ·split at this
    ·rename_i e2 h2 Nl;simp only[Except.ok.injEq,Prod.mk.injEq] at this;obtain⟨rfl,rfl⟩:=this;rw[hg] at Nl;simp only[Option.isSome_none,Bool.or_false] at Nl;exact XE hq Nl
    ·cases this
    ·cases this
 ·exact hd.elim
theorem Vr (hT:AL C T){ops:Array Oper}:∀(os:List Oper) {F:Fr} {h:Hp} {K:Fr->Hp->Prop},fO C T ops os F h K->∃G h',(∃n0,∀n,n0<=n->Oy C (fun d=>call C d n) ops os F h=.ok (G,h'))/\K G h'
 |[],F,h,K,hk=>⟨F,h,⟨0,fun _ _=>rfl⟩,hk⟩
 |o::os,F,h,K,hk=>by
  obtain⟨e,h1,⟨n0,hn⟩,hk,_⟩:=QB (ops:=ops) hT hk;obtain⟨G,h2,⟨m0,hm⟩,hk⟩:=Vr hT os hk
  exact⟨G,h2,⟨n0+m0,fun n sT=>by simp only[Oy,hn n (by omega),hm n (by omega)]⟩,hk⟩
theorem Kw {ops:Array Oper}{l:List Nat}:∀{r:List Nat} {i:Nat},MT C ops l r=some i->i∈r/\Oa C ops l i=true
 |[],_,h=>by cases h
 |j::r,i,h=>by
  unfold MT at h;split at h
  ·rename_i hf
   injection h with h
   subst h
   exact⟨by simp,hf⟩
  ·obtain⟨h1,h2⟩:=Kw h
   exact⟨by simp[h1],h2⟩
theorem NI {ops:Array Oper}{l:List Nat}{p:Nat->Prop}:∀{r:List Nat},fZ ops l p r->∀i∈r,FQ ops l i=true->p i
 |[],_,i,hi,_=>by cases hi
 |j::r,h,i,hi,hu=>by
  unfold fZ at h
  rcases List.mem_cons.1 hi with rfl|hi
  ·rw[hu] at h;exact h.1
  ·split at h
   ·exact NI h.2 i hi hu
   ·exact NI h i hi hu
theorem je {X:Nat->Nat->Prop}:∀(l:List Nat),(∀i∈l,∃n0,∀n,n0<=n->X i n)->∃n0,∀n,n0<=n->∀i∈l,X i n
 |[],_=>⟨0,fun _ _ i hi=>by cases hi⟩
 |j::l,h=>by
  obtain⟨n0,h0⟩:=h j (by simp)
  obtain⟨n1,h1⟩:=je l fun i hi=>h i (by simp[hi])
  refine⟨n0+n1,fun n hn i hi=> ?_⟩
  rcases List.mem_cons.1 hi with rfl|hi
  ·exact h0 n (by omega)
  ·exact h1 n (by omega) i hi
theorem Qz {o:Oper}{h1 h:Hp}{p:Prop}(hk:ay C o h1 h p)(hq:Eb C o=true->Pf o.op=false->h1=h):(Eb C o=true->h1=h)/\p:=by
 unfold ay at hk
 cases hc:Pf o.op with
 |false=>
  rw[hc,Bool.and_false] at hk
  exact⟨fun h=>hq h hc,hk⟩
 |true=>
  cases yo:Eb C o with
  |false=>rw[yo] at hk;exact⟨fun h=>(by cases h),hk⟩
  |true=>rw[yo,hc] at hk;exact⟨fun _=>hk.1,hk.2⟩
theorem UD (hT:AL C T){ops:Array Oper}{P Post:Fr->Hp->Prop}{Inv:Fr->Prop}(hI:∀F o e,o∈ops.toList->Inv F->Inv (Av F o.dst e))(hP:∀F h,Inv F->P F h->Post F h):∀(n:Nat) (l:List Nat) {F:Fr} {h:Hp},Inv F->cN C T ops P n l F h->
  ∃n0,∀m,n0<=m->PR C (fun d=>call C d m) ops Post n l F h
 |0,_,_,_,_,hx=>hx.elim
 |n+1,[],F,h,hi,hx=>⟨0,fun _ _=>hP F h hi hx⟩
 |n+1,k::l,F,h,hi,hx=>by
  unfold cN at hx;split at hx
  ·rename_i i hf;obtain⟨f1,f2⟩:=Kw hf;split at hx
   ·rename_i o ho;obtain⟨e,h1,⟨n0,hn⟩,hk,hq⟩:=QB (ops:=ops) hT hx;obtain⟨k1,k2⟩:=Qz hk hq;obtain⟨_,⟨o',g1,g2⟩,_⟩:=RL f2;rw[ho] at g1
    injection g1 with g1
    subst g1;have hh:=k1 g2;subst hh
    obtain⟨m0,hm⟩:=UD hT hI hP n _ (hI F o e (by simpa using Array.mem_of_getElem? ho) hi) k2
    exact⟨n0+m0,fun m sU=>.inl ⟨i,o,e,f1,f2,ho,hn m (by omega),hm m (by omega)⟩⟩
   ·exact hx.elim
  ·have:=je (X:=fun i m=>FQ ops (k::l) i=true->∃o e h1,ops[i]?=some o/\EW C (fun d=>call C d m) ops o F h=.ok (e,h1)/\(Eb C o=true->h1=h)/\PR C (fun d=>call C d m) ops Post n ((k::l).erase i) (Av F o.dst e) h1) (k::l) fun i qD=>by
    cases hu:FQ ops (k::l) i with
    |false=>exact⟨0,fun _ _ h=>by cases h⟩
    |true=>
     have:=NI hx i qD hu;split at this
     ·rename_i o ho;obtain⟨e,h1,⟨n0,hn⟩,hk,hq⟩:=QB (ops:=ops) hT this;obtain⟨k1,k2⟩:=Qz hk hq
      obtain⟨m0,hm⟩:=UD hT hI hP n _ (hI F o e (by simpa using Array.mem_of_getElem? ho) hi) k2
      exact⟨n0+m0,fun m sU _=>⟨o,e,h1,ho,hn m (by omega),k1,hm m (by omega)⟩⟩
     ·exact this.elim
   obtain⟨n0,hn⟩:=this
   exact⟨n0,fun m hm=>.inr fun i qD hu=>hn m hm i qD hu⟩
theorem QJ :∀{ds:List Nat} {F G:Fr},FV ds F G->∀d∈ds,lk F d=lk G d
 |[],_,_,_,d,hd=>by cases hd
 |x::ds,F,G,h,d,hd=>by
  rcases List.mem_cons.1 hd with rfl|hd
  ·exact h.1
  ·exact QJ h.2 d hd
theorem Vq {cl:Bool->FuncId->List AV->Hp->Except (List Nat) (AV×Hp)}{ops:Array Oper}{n:Nat}:∀(os:List Oper) {F G:Fr} {h h':Hp},(∀o∈os,o.dst≠some n)->Oy C cl ops os F h=.ok (G,h')->lk G n=lk F n
 |[],F,G,h,h',_,hx=>by
  simp only[Oy,Except.ok.injEq,Prod.mk.injEq] at hx;rw[hx.1]
 |o::os,F,G,h,h',hd,hx=>by
  simp only[Oy] at hx;split at hx
  ·rw[Vq os (fun o ho=>hd o (by simp[ho])) hx,A9 (hd o (by simp))]
  ·cases hx
theorem iu (hT:AL C T){ops:Array Oper}{F G:Fr}{h h':Hp}(hr:∃n0,∀n,n0<=n->Oy C (fun d=>call C d n) ops ops.toList F h=.ok (G,h'))
  (hs:cN C T ops (fun F1 h1=>FV (ops.toList.filterMap (·.dst)) F1 G/\h1=h') (ops.size+1) (List.range ops.size) F h):∃n0,∀n,n0<=n->J9 C (fun d=>call C d n) ops F h=.ok (G,h'):=by
 obtain⟨n0,hn⟩:=hr
 have PJ:∀n,(∀o∈ops.toList,o.dst≠some n)->lk G n=lk F n:=fun n hd=>Vq _ hd (hn n0 (Nat.le_refl _))
 obtain⟨m0,hm⟩:=UD hT (Inv:=fun F1=>∀n,(∀o∈ops.toList,o.dst≠some n)->lk F1 n=lk F n) (Post:=fun G' h1=>(∀n,lk G' n=lk G n)/\h1=h') (fun F1 o e ho hi n hd=>by rw[A9 (hd o ho)];exact hi n hd)
  (fun F1 h1 hi hp=>⟨fun n=>by
   by_cases hd:∀o∈ops.toList,o.dst≠some n
   ·rw[hi n hd,PJ n hd]
   ·have:∃o∈ops.toList,o.dst=some n:=Classical.byContradiction fun BM=>hd fun o ho e=>BM ⟨o,ho,e⟩
    obtain⟨o,ho,e⟩:=this
    exact QJ hp.1 n (List.mem_filterMap.2 ⟨o,ho,e⟩),hp.2⟩) (ops.size+1) (List.range ops.size) (fun _ _=>rfl) hs
 refine⟨n0+m0,fun n sT=> ?_⟩
 unfold J9
 rw[hn n (by omega)]
 simp only
 rw[@decide_eq_true _ (Classical.propDecidable _) (hm n (by omega))]
theorem RU {C:Bm}{dr:Bool}{F:Fr}{h:Hp}{o:Oper}(hn:B6 C F h o=none):Bl C dr F h o=evalOp C dr F h o:=by
 unfold Bl
 cases dr with
 |true=>rfl
 |false=>simp only[hn]
theorem TA {draw:Bool}{F:Fr}{h:Hp}{o:Oper}{s:List Sh}{next:(Bool×AV)->Hp->Prop}(hd:Uo C draw F h o s next):
  ∃e h',(∃n0,∀n,n0<=n->BF C (call C draw n) draw o F h=.ok (e,h'))/\next e h':=by
 unfold Uo at hd;split at hd
 ·rename_i t x i Bo;split at hd
  ·rename_i e g sz es own g' ik n hu hx hi;obtain⟨hg,hd⟩:=ER hd;obtain⟨cs,Fu,hn⟩:=C6 hd;subst Fu
   refine⟨_,h,⟨0,fun n _=> ?_⟩,hn⟩
   obtain⟨dst,op,ty,pos,after,gd⟩:=o;simp only at Bo;subst Bo
   simp only[BF,RU (show B6 C F h ⟨dst,.indexAddr t x i,ty,pos,after,gd⟩=none by simp only[B6,hu,hx,hi]),evalOp,EG,hu,hx,hi,hg]
  ·rename_i e g b0 n0 d0 sz es g' ik n hu hx hi;obtain⟨hg,Jc⟩:=ER hd;obtain⟨cs,Fu,hn⟩:=C6 Jc;subst Fu
   refine⟨_,h,⟨0,fun m _=> ?_⟩,hn⟩
   obtain⟨dst,op,ty,pos,after,gd⟩:=o;simp only at Bo;subst Bo;simp only[Bool.and_eq_true,Bool.not_eq_true'] at hg;obtain⟨ZG,hg⟩:=hg
   have ku:(g&&g'&&Dk n es.length&&Nat.beq sz (C.P.cellsOf e)&&Nat.ble 1 sz)=true:=by simp only[Bool.and_eq_true];exact hg
   simp only[BF,ZG,Bl,B6,hu,hx,hi,ku]
  ·exact hd.elim
 ·exact hd.elim
theorem Wh {draw:Bool}{F:Fr}{h:Hp}{o:Oper}{s:List Sh}{next:(Bool×AV)->Hp->Prop}(hd:ah C F h o s next):
  ∃e h',(∃n0,∀n,n0<=n->BF C (call C draw n) draw o F h=.ok (e,h'))/\next e h':=by
 unfold ah at hd;split at hd
 ·rename_i t x Bo;split at hd
  ·rename_i u ti g b off ha hu hi hx;split at hd
   ·rename_i t0 cs hb;obtain⟨hg,hd⟩:=ER hd;obtain⟨l,hl,hn⟩:=C6 hd;subst hl;split at hn
    ·rename_i v hv
     refine⟨_,h,⟨0,fun n _=> ?_⟩,hn⟩
     obtain⟨dst,op,ty,pos,after,gd⟩:=o;simp only at Bo;subst Bo;subst hg
     have hc:∃r,cs.drop off=v::r:=by
      cases Fu:cs.drop off with
      |nil=>rw[Fu] at hv;cases hv
      |cons c r=>rw[Fu] at hv;simp at hv;exact⟨r,by rw[hv]⟩
     obtain⟨r,hc⟩:=hc
     simp only[BF,RU (show B6 C F h ⟨dst,.load t x,ty,pos,after,gd⟩=none by simp only[B6,hx]),evalOp,JD,hx,hb,rd,hu,hi,ha,hc]
    ·exact hn.elim
   ·exact hd.elim
  ·exact hd.elim
 ·exact hd.elim
theorem Wb {draw:Bool}{F:Fr}{h:Hp}{o:Oper}{next:(Bool×AV)->Hp->Prop}(hd:ae C F h o next):
  ∃e h',(∃n0,∀n,n0<=n->BF C (call C draw n) draw o F h=.ok (e,h'))/\next e h':=by
 unfold ae at hd;split at hd
 ·rename_i t l c Bo;split at hd
  ·rename_i e hu;split at hd
   ·rename_i i g k n g' k' m hi hl hc;split at hd
    ·rename_i z hz;obtain⟨hg,cs,rfl,hn⟩:=ER hd
     refine⟨_,_,⟨0,fun n _=> ?_⟩,hn⟩
     obtain⟨dst,op,ty,pos,after,gd⟩:=o;simp only at Bo;subst Bo
     simp only[BF,RU (show B6 C F h ⟨dst,.makeSlice t l c,ty,pos,after,gd⟩=none by simp only[B6]),evalOp,U9,hu,hi,hl,hc,hz,hg]
     rfl
    ·exact hd.elim
   ·exact hd.elim
  ·exact hd.elim
 ·exact hd.elim
theorem jD (hT:AL C T){draw:Bool}{F:Fr}{h:Hp}{o:Oper}{s:Option (List Sh)}{next:(Bool×AV)->Hp->Prop}(hd:jE C T draw F h o s next):
  ∃e h',(∃n0,∀n,n0<=n->BF C (call C draw n) draw o F h=.ok (e,h'))/\next e h':=by
 cases s with
 |none=>exact bW hT hd
 |some s=>
  simp only[jE] at hd;split at hd
  ·exact Wh hd
  ·split at hd
   ·exact Wb hd
   ·exact TA hd
theorem TZ (hT:AL C T){draw:Bool}{ops:Array Oper}{F:Fr}{h:Hp}{o:Oper}{s:Option (List Sh)}{next:(Bool×AV)->Hp->Prop}(hd:La C T draw ops F h o s next):
  ∃e h',(∃n0,∀n,n0<=n->(match FL C.P draw ops o F h with|some r=>r|none=>BF C (call C draw n) draw o F h)=.ok (e,h'))/\next e h':=by
 unfold La at hd
 cases Gx:FL C.P draw ops o F h with
 |none=>rw[Gx] at hd;exact jD hT hd
 |some r=>
  rw[Gx] at hd
  cases r with
  |error x=>exact hd.elim
  |ok r=>exact⟨r.1,r.2,⟨0,fun n _=>rfl⟩,hd⟩
theorem DK (hT:AL C T):∀(n:Nat) (st:List Fm) (x:XT) (F:Fr) (h:Hp),Hh C f body T pl Q n st x F h->AF C f body Q st x F h:=by
 intro n
 induction n with
 |zero=>intro st x F h hu;exact hu
 |succ n ih=>
  intro st x F h hu
  cases st with
  |nil=>
   simp only[Hh] at hu;split at hu
   ·exact⟨by assumption,hu⟩
   ·exact hu.elim
  |cons fm st=>
   cases fm with
   |code p=>
    cases x with
    |normal=>
     simp only[Hh] at hu;split at hu
     ·exact XD hu
     ·split at hu
      ·rename_i hc
       exact CQ (Og fun m=>by rw[hc];rfl) (ih _ _ _ _ hu)
      ·rename_i hc
       exact CQ (Og fun m=>by rw[hc];rfl) (ih _ _ _ _ hu)
      ·rename_i hc
       exact CQ (Og fun m=>by rw[hc];rfl) (ih _ _ _ _ hu)
      ·rename_i hc
       exact CQ (Og fun m=>by rw[hc];rfl) (ih _ _ _ _ hu)
      ·rename_i hc
       exact CQ (Og fun m=>by rw[hc];rfl) (ih _ _ _ _ hu)
      ·rename_i hc;exact bO hc (ih _ _ _ _ hu)
      ·rename_i y a b hc;split at hu
       ·rename_i t hy
        have Q8:cI F y t=F:=by
         cases y with
         |tmp s=>exact Ly hy
         |_=>rfl
        refine RT hc hy ?_
        cases t with
        |true=>simp only[Ap] at hu;rw[Q8] at hu;exact ih _ _ _ _ hu
        |false=>simp only[Ap] at hu;rw[Q8] at hu;exact ih _ _ _ _ hu
       ·exact hu.elim
      ·rename_i hc;exact TS hc (ih _ _ _ _ hu)
      ·rename_i hc;exact MU hc (ih _ _ _ _ hu)
      ·rename_i hc;exact dT hc (ih _ _ _ _ hu)
      ·rename_i hc;split at hu
       ·rename_i CG;obtain⟨G,h1,Cb,iA,hu⟩:=Vr hT _ hu;exact RR hc CG (iu hT Cb iA) (ih _ _ _ _ hu)
       rename_i CG;split at hu
       ·exact hu.elim
       ·rename_i Fy;exact RS hc CG Fy (ih _ _ _ _ hu)
      ·exact hu.elim
    |_=>
     simp only[Hh] at hu;simp only[AF];exact ih _ _ _ _ hu
   |block id=>
    cases x with
    |exit i=>
     simp only[Hh] at hu;simp only[AF]
     cases hb:Nat.beq i id with
     |true=>rw[hb] at hu;exact ih _ _ _ _ hu
     |false=>rw[hb] at hu;exact ih _ _ _ _ hu
    |_=>
     simp only[Hh] at hu;simp only[AF];exact ih _ _ _ _ hu
   |loop p m=>
    cases x with
    |normal=>
     simp only[Hh] at hu;simp only[AF]
     cases ht:C.Fv f with
     |false=>
      rw[ht] at hu;exact ih (.code p::st) .normal F h hu
     |true=>
      rw[ht] at hu;simp only at hu
      have hk:AF C f body Q (.code p::st) .normal (DC m h (Ha C f (Aa body p) F)) ((h.take m).map (AN m h)):=by
       cases VU:C.Pr f with
       |true=>rw[VU] at hu;exact ih (.code p::st) .normal _ _ hu
       |false=>
        rw[VU] at hu;obtain⟨hl,hu⟩:=ER hu;rw[Bool.and_eq_true] at hl;have hk:=ih (.code p::st) .normal _ _ hu;rw[<-Tv m h hl.1,<-Pv m h hl.2] at hk;exact hk
      obtain⟨x1,F1,h1,⟨n0,hx⟩,k⟩:=hk
      refine⟨x1,F1,h1,⟨n0,fun n hn=> ?_⟩,k⟩
      rw[<-hx n hn];exact(Nu n _ m h F _).symm
    |_=>
     simp only[Hh] at hu;simp only[AF];exact ih _ _ _ _ hu
   |scope p=>
    cases x with
    |goto l=>
     simp only[Hh] at hu
     cases hf:(findLabel (Aa body p) l).isSome with
     |true=>rw[hf] at hu;exact iq hf (ih _ _ _ _ hu)
     |false=>
      rw[hf] at hu;simp only[Option.isSome_eq_false_iff,Option.isNone_iff_eq_none] at hf;simp only[AF,hf];exact ih _ _ _ _ hu
    |_=>
     simp only[Hh] at hu;simp only[AF];exact ih _ _ _ _ hu
   |ops p i=>
    cases x with
    |normal=>
     simp only[Hh] at hu;split at hu
     ·rename_i id ops draw hc;split at hu
      ·rename_i ho;exact Oc hc ho (ih _ _ _ _ hu)
      ·rename_i o ho
       have done:∀F,guardOf ops F o=some true->La C T (BB C ops draw i) ops F h o (HQ pl.H8 p i) (fun e h'=>dw C ops draw i F h h' (Hh C f body T pl Q n (.ops p (i+1)::st) .normal (Av F (DF (BB C ops draw i) o) e) h'))->AF C f body Q (.ops p i::st) .normal F h:=by
        intro F hg hd;obtain⟨e,h',⟨n0,hs⟩,hn⟩:=TZ hT hd;obtain⟨hm,hn⟩:=aZ hn
        refine Ns hc ho ⟨n0,fun n hn=> ?_⟩ hm (ih _ _ _ _ hn)
        simp only[AW,hg];exact hs n hn
       have XQ:∀F,o.guard.isSome=true->guardOf ops F o=some true->La C T (BB C ops draw i) ops F h o (HQ pl.H8 p i) (fun e h'=>Hh C f body T pl Q n (.ops p (i+1)::st) .normal (Av F (DF (BB C ops draw i) o) e) h')->AF C f body Q (.ops p i::st) .normal F h:=by
        intro F Iq hg hd;obtain⟨e,h',⟨n0,hs⟩,hn⟩:=TZ hT hd
        refine Ns hc ho ⟨n0,fun n hn=> ?_⟩ (FB ho Iq) (ih _ _ _ _ hn)
        simp only[AW,hg];exact hs n hn
       have RG:o.guard.isSome=true->DF (BB C ops draw i) o=o.dst:=by
        intro Iq
        have:EE o=false:=by
         unfold EE;split
         ·rename_i oh;rw[oh] at Iq;cases Iq
         ·rfl
        cases BB C ops draw i<;>simp[DF,this]
       have left:∀F,o.guard.isSome=true->guardOf ops F o=some false->Hh C f body T pl Q n (.ops p (i+1)::st) .normal (Av F o.dst (false,.top)) h->AF C f body Q (.ops p i::st) .normal F h:=by
        intro F Iq hg hd;rw[<-RG Iq] at hd
        refine Ns hc ho ⟨0,fun n hn=> ?_⟩ (FB ho Iq) (ih _ _ _ _ hd)
        simp only[AW,hg]
       split at hu
       ·rename_i TK
        exact done F (by simp only[guardOf,TK]) hu
       ·rename_i j want TK
        have Iq:o.guard.isSome=true:=by rw[TK];rfl
        rw[<-RG Iq] at hu;split at hu
        ·exact hu.elim
        ·rename_i d hj;split at hu
         ·rename_i b hl;have Q8:=Ly hl
          have hg:guardOf ops F o=some (b==want):=by simp[guardOf,TK,hj,hl]
          cases b with
          |true=>
           simp only[Ap] at hu;rw[Q8] at hu
           cases want with
           |true=>exact XQ F Iq (by rw[hg];rfl) hu
           |false=>exact left F Iq (by rw[hg];rfl) (by rw[<-RG Iq];exact hu)
          |false=>
           simp only[Ap] at hu;rw[Q8] at hu
           cases want with
           |true=>exact left F Iq (by rw[hg];rfl) (by rw[<-RG Iq];exact hu)
           |false=>exact XQ F Iq (by rw[hg];rfl) hu
         ·rename_i v hl
          refine left F Iq ?_ (by rw[<-RG Iq];exact hu)
          simp only[guardOf,TK,hj,hl]
          cases v<;>rfl
         ·exact hu.elim
     ·exact hu.elim
    |_=>
     simp only[Hh] at hu;simp only[AF];exact ih _ _ _ _ hu
def AK (P:Program)(fn:Func)(v:AV)(F:Fr)(h':Hp):Prop:=match result P fn F h' with
 |some u=>stripR 0 h' u=v
 |none=>False
def AX (P:Program)(fn:Func)(n:Nat)(K:AV->Hp->Prop)(F:Fr)(h':Hp):Prop:=match result P fn F h' with
 |some u=>K (stripR n h' u) ((h'.take n).map (AN n h'))
 |none=>False
theorem jQ {k:FuncId}{fn:Func}{c:Code}(Bk:C.ok k=true)(hh:C.Cr k=none)(hp:C.FM k=none)(hf:C.P.funcs[k]?=some fn)(hb:fn.body=some c)(JP:C.heap k=false)(Fy:C.C9 k=false)
  {l:List AV} {v:AV} (hr:AF C k c (AK C.P fn v) [.code []] .normal (Dz 0 (B8 C k l)) []) (draw:Bool) (h:Hp):K4 C draw k l h v h:=by
 obtain⟨x,F',h',⟨n0,hx⟩,he,hq⟩:=hr
 have ha:B8 C k l=AQ 0 [] l:=by simp[B8,hh,JP]
 rw[ha] at hx;simp only[Aa] at hx
 refine⟨n0+1,fun n hn=> ?_⟩
 obtain⟨m,rfl⟩:∃m,n=m+1:=⟨n-1,by omega⟩
 unfold AK at hq;split at hq
 ·rename_i u hu;subst hq
  cases x with
  |normal=>simp only[call,Bk,hh,hp,hf,hb,JP,DL,finish,Fy,hx m (by omega),hu,Bool.not_true,cond_false]
  |ret=>simp only[call,Bk,hh,hp,hf,hb,JP,DL,finish,Fy,hx m (by omega),hu,Bool.not_true,cond_false]
  |_=>cases he
 ·exact hq.elim
theorem Kz {k:FuncId}{fn:Func}{c:Code}(Bk:C.ok k=true)(hh:C.Cr k=none)(hp:C.FM k=none)(hf:C.P.funcs[k]?=some fn)(hb:fn.body=some c)(JP:C.heap k=true)(Fy:C.C9 k=false)(zD:C.LW k=false)(mE:C.pre k=none)
  {l:List AV} {h:Hp} {K:AV->Hp->Prop} (hr:AF C k c (AX C.P fn h.length K) [.code []] .normal (Dz 0 (B8 C k l)) h):∃v h',K4 C false k l h v h'/\K v h':=by
 obtain⟨x,F',h',⟨n0,hx⟩,he,hq⟩:=hr
 have ha:B8 C k l=l:=by simp[B8,JP]
 rw[ha] at hx;simp only[Aa] at hx;unfold AX at hq;split at hq
 ·rename_i u hu
  refine⟨_,_,⟨n0+1,fun n hn=> ?_⟩,hq⟩
  obtain⟨m,rfl⟩:∃m,n=m+1:=⟨n-1,by omega⟩
  cases x with
  |normal=>simp only[call,Bk,hh,hp,hf,hb,JP,mE,DL,finish,Fy,zD,Gq,hx m (by omega),hu,Bool.not_true,cond_false]
  |ret=>simp only[call,Bk,hh,hp,hf,hb,JP,mE,DL,finish,Fy,zD,Gq,hx m (by omega),hu,Bool.not_true,cond_false]
  |_=>cases he
 ·exact hq.elim
theorem VK {k:FuncId}{fn:Func}{c:Code}{m0:Nat}(Bk:C.ok k=true)(hh:C.Cr k=none)(hp:C.FM k=none)(hf:C.P.funcs[k]?=some fn)(hb:fn.body=some c)(JP:C.heap k=true)(Fy:C.C9 k=false){m1:Nat}(mE:C.pre k=some m1)
  {l:List AV} {h:Hp} {K:AV->Hp->Prop} (tq:O6 m1 h=m0) (kn:MB m0 h=true) (hr:AF C k c (AX C.P fn m0 fun v h1=>K v (h1++h.drop m0)) [.code []] .normal (Dz 0 (AQ m0 [] l)) ((h.take m0).map (AN m0 []))):∃v h',K4 C false k l h v h'/\K v h':=by
 obtain⟨x,F',h',⟨n0,hx⟩,he,hq⟩:=hr;simp only[Aa] at hx;unfold AX at hq;split at hq
 ·rename_i u hu
  refine⟨_,_,⟨n0+1,fun n hn=> ?_⟩,hq⟩
  obtain⟨m,rfl⟩:∃m,n=m+1:=⟨n-1,by omega⟩
  cases x with
  |normal=>simp only[call,Bk,hh,hp,hf,hb,JP,mE,tq,kn,DL,finish,Fy,hx m (by omega),hu,Bool.not_true,cond_false]
  |ret=>simp only[call,Bk,hh,hp,hf,hb,JP,mE,tq,kn,DL,finish,Fy,hx m (by omega),hu,Bool.not_true,cond_false]
  |_=>cases he
 ·exact hq.elim
theorem dZ {k:FuncId}{g:List AV->Option (Bool×AV)}(Bk:C.ok k=true)(hh:C.Cr k=none)(hp:C.FM k=some g)(JP:C.heap k=false){l:List AV}{v:AV}(hg:g (B8 C k l)=some (true,v))(draw:Bool)(h:Hp):K4 C draw k l h (strip 0 [] v) h:=by
 have ha:B8 C k l=AQ 0 [] l:=by simp[B8,hh,JP]
 rw[ha] at hg
 refine⟨1,fun n hn=> ?_⟩
 obtain⟨m,rfl⟩:∃m,n=m+1:=⟨n-1,by omega⟩
 simp only[call,Bk,hh,hp,hg,Bool.not_true,cond_false]
end
end Go.Ai
