/-
  The relation between abstract and concrete values, and that it is kept while the world grows.
-/
import Derived.Test.YtopjpnhgnopbiaaGreatDoorLAiDefs
set_option linter.unusedVariables false
set_option linter.unusedSimpArgs false
set_option linter.unnecessarySimpa false
namespace Go.Ai
open Go.RowKit
theorem EJ (a:Addr)(i j:Nat):(a.add i).add j=a.add (i+j):=by
 unfold Addr.add
 by_cases hi:i=0<;>by_cases hj:j=0<;>simp[hi,hj,Nat.add_assoc]
theorem JY (a:Addr)(i:Nat):(a.add i).block=a.block:=by unfold Addr.add;split<;>rfl
theorem N6 (a:Addr)(i:Nat):(a.add i).off=a.off+i:=by unfold Addr.add;split<;>simp_all
structure Env where
 B:Nat
 U:Nat->Nat->Prop
 w:World
 σ:Nat->Option Nat
 h:Hp
 A:Nat->Option (Nat×Nat×Nat):=fun _=>none
def Dp (E:Env)(b o:Nat):Prop:=
 (¬E.U b o/\∀id i m,E.A b=some (id,i,m)->o<m)/\∀(id:Nat) (x:Blk),E.h[id]?=some x->E.σ id=some b->x=.dead\/∃n sz e,x=.grow n sz e/\o<n*sz
def IW (w:World)(k n:Nat):Prop:=∃c ty,w.heap[k]?=some (.cells c ty)/\c.size=n
def Yb (E:Env)(b g d sz len:Nat)(a:Addr)(cap:Nat):Prop:=
 b<E.h.length/\∀g' t Dg kc ke ksz rows,E.h[b]?=some (.stk g' t Dg kc ke ksz rows)->g<=g'/\(g=g'->len+d=rows.length/\Dg=sz/\∃k,E.σ b=some k/\a=⟨k,0,none⟩/\IW E.w k (cap*sz))
def Yc (E:Env)(b g d o:Nat)(a:Addr):Prop:=
 b<E.h.length/\∀g' t sz kc ke ksz rows,E.h[b]?=some (.stk g' t sz kc ke ksz rows)->g<=g'/\(g=g'->d<rows.length->∃k,E.σ b=some k/\a=⟨k,(rows.length-1-d)*sz+o,none⟩)
def Ca (E:Env)(id i n:Nat)(ke:TypeId)(ksz:Nat)(v:Value):Prop:=(∃xs,E.w.ownsRow E.B ke ksz v n xs)/\∀g,v.ownBlock=some g->E.A g=some (id,i,n*ksz)
def Yd (E:Env)(b g d sz len:Nat)(v:Value):Prop:=
 b<E.h.length/\∀g' t Dg kc ke ksz rows,E.h[b]?=some (.stk g' t Dg kc ke ksz rows)->g<=g'/\(g=g'->∀r,rows[d]?=some r->len<=r.1/\(len=r.1->(0<len->ksz=sz)/\Ca E b (rows.length-1-d) r.1 ke ksz v))
def NH (E:Env)(sz len:Nat)(v:Value):Option Nat->Prop
 |none=>True
 |some id=>id<E.h.length/\∀n Dg e,E.h[id]?=some (.grow n Dg e)->len<=n/\(len=n->(0<len->Dg=sz)/\(∃xs,E.w.ownsRow E.B e Dg v n xs)/\v.ownBlock=E.σ id)
mutual
def Rel (E:Env):AV->Value->Prop
 |.top,_=>True
 |.bool b,v=>v=.bool b
 |.int k n,v=>v=.int k n
 |.str s,v=>v=.string ⟨s.toArray⟩
 |.HA,v=>v=.pointer none
 |.ptr b o,v=>∃t cs g,E.h[b]?=some (.mem t cs)/\E.σ b=some g/\v=.pointer (some ⟨g,o,none⟩)
 |.ro cs,v=>∃a,v=.pointer (some a)/\At E cs a
 |.sl sz es own,v=>(∃A cap,v=.slice A es.length cap/\es.length<=cap/\cap<=maxLen/\(∀e∈es,e.length=sz)/\(es≠[]->∃a,A=some a/\Rows E es a))/\NH E sz es.length v own
 |.IP b off len sz,v=>∃t cs g cap,E.h[b]?=some (.mem t cs)/\E.σ b=some g/\v=.slice (some ⟨g,off,none⟩) len cap/\len<=cap/\cap<=maxLen/\off+len*sz<=cs.length
 |.fn f first cap,v=>∃a b,v=.func f a b/\BK E first a.toList/\BK E cap b.toList
 |.GX,v=>v=.nilFunc
 |.iface t x,v=>∃y,v=.iface t y/\Rel E x y
 |.Ja,v=>v=.nilIface
 |.agg cs,v=>∃a,v=.agg a/\Ag E cs a.toList
 |.tup cs,v=>∃a,v=.tuple a/\BK E cs a.toList
 |.UT b,v=>∃s p g,E.h[b]?=some (.iter s p)/\E.σ b=some g/\v=.pointer (some ⟨g,0,none⟩)
 |.Cs _,_=>True
 |.CI b g d sz len,v=>∃a cap,v=.slice (some a) len cap/\len<=cap/\cap<=maxLen/\Yb E b g d sz len a cap
 |.BX b g d o,v=>∃a,v=.pointer (some a)/\Yc E b g d o a
 |.F7 b g d sz es,v=>(∃A cap,v=.slice A es.length cap/\es.length<=cap/\cap<=maxLen/\(∀e∈es,e.length=sz)/\(es≠[]->∃a,A=some a/\Rows E es a))/\Yd E b g d sz es.length v
 |.NT ks vs,v=>∃r es clock,v=.map (some r)/\E.w.heap[r]?=some (.map es clock)/\es.toList.map (·.key)=ks.map (.int .i64)/\Mc E vs (es.toList.map (·.val))
def Mc (E:Env):List (List AV)->List Value->Prop
 |[],es=>es=[]
 |v::vs,es=>∃a r,es=.agg a::r/\Ag E v a.toList/\Mc E vs r
def BK (E:Env):List AV->List Value->Prop
 |[],vs=>vs=[]
 |c::cs,vs=>∃v r,vs=v::r/\Rel E c v/\BK E cs r
def Ag (E:Env):List AV->List Value->Prop
 |[],vs=>vs=[]
 |c::cs,vs=>∃v r,vs=v::r/\v.oneCell'=true/\Rel E c v/\Ag E cs r
def At (E:Env):List AV->Addr->Prop
 |[],_=>True
 |c::cs,a=>(∃v,E.w.cell? a=some v/\v.oneCell'=true/\Dp E a.block a.off/\Rel E c v)/\At E cs (a.add 1)
def Rows (E:Env):List (List AV)->Addr->Prop
 |[],_=>True
 |e::es,a=>At E e a/\Rows E es (a.add e.length)
end
structure Le (E E':Env):Prop where
 B:E'.B=E.B
 cells:∀a v,E.w.cell? a=some v->Dp E a.block a.off->E'.w.cell? a=some v/\Dp E' a.block a.off
 len:E.h.length<=E'.h.length
 mem:∀(id:Nat) t cs,E.h[id]?=some (.mem t cs)->∃Fw,E'.h[id]?=some (.mem t Fw)/\Fw.length=cs.length/\E'.σ id=E.σ id
 grow:∀(id:Nat) n sz e,id<E.h.length->E'.h[id]?=some (.grow n sz e)->∃n0,E.h[id]?=some (.grow n0 sz e)/\n0<=n/\
  (n0=n->E'.σ id=E.σ id/\∀v xs,E.w.ownsRow E.B e sz v n xs->v.ownBlock=E.σ id->E'.w.ownsRow E.B e sz v n xs)
 iter:∀(id:Nat) s p,E.h[id]?=some (.iter s p)->∃p',E'.h[id]?=some (.iter s p')/\E'.σ id=E.σ id
 stk:∀(id:Nat) g t sz kc ke ksz rows,id<E.h.length->E'.h[id]?=some (.stk g t sz kc ke ksz rows)->∃g0 BT,E.h[id]?=some (.stk g0 t sz kc ke ksz BT)/\g0<=g/\
  (g0=g->BT.length=rows.length/\E'.σ id=E.σ id/\(∀k n,E.σ id=some k->IW E.w k n->IW E'.w k n)/\
   ∀d r r0,rows[d]?=some r->BT[d]?=some r0->r0.1<=r.1/\(r0.1=r.1->∀v,Ca E id (rows.length-1-d) r.1 ke ksz v->Ca E' id (rows.length-1-d) r.1 ke ksz v))
 maps:∀(r:Nat) es clock,E.w.heap[r]?=some (.map es clock)->E'.w.heap[r]?=some (.map es clock)
theorem NH.mono {E E':Env}(L:Le E E'){sz len:Nat}{v:Value}{own:Option Nat}(h:NH E sz len v own):NH E' sz len v own:=by
 cases own with
 |none=>trivial
 |some id=>
  obtain⟨h1,h2⟩:=h
  refine⟨Nat.lt_of_lt_of_le h1 L.len,fun n Dg e hg=> ?_⟩
  obtain⟨n0,xd,hle,UY⟩:=L.grow id n Dg e h1 hg;obtain⟨k1,k2⟩:=h2 n0 Dg e xd
  refine⟨Nat.le_trans k1 hle,fun hn=> ?_⟩
  have QG:n0=n:=by omega
  obtain⟨hs,ho⟩:=UY QG
  obtain⟨q1,⟨xs,q2⟩,q3⟩:=k2 (by omega)
  subst QG;refine⟨q1,⟨xs,?_⟩,q3.trans hs.symm⟩;rw[L.B];exact ho v xs q2 q3
theorem Yb.mono {E E':Env}(L:Le E E'){b g d sz len cap:Nat}{a:Addr}(h:Yb E b g d sz len a cap):Yb E' b g d sz len a cap:=by
 obtain⟨h1,h2⟩:=h
 refine⟨Nat.lt_of_lt_of_le h1 L.len,fun g' t Dg kc ke ksz rows hg=> ?_⟩
 obtain⟨g0,BT,k1,k2,k3⟩:=L.stk b g' t Dg kc ke ksz rows h1 hg;obtain⟨q1,q2⟩:=h2 g0 t Dg kc ke ksz BT k1
 refine⟨Nat.le_trans q1 k2,fun e=> ?_⟩
 obtain⟨r1,r2,r3,_⟩:=k3 (by omega)
 obtain⟨s1,s2,k,s3,s4,s5⟩:=q2 (by omega)
 exact⟨s1.trans r1,s2,k,r2.trans s3,s4,r3 k _ s3 s5⟩
theorem Yc.mono {E E':Env}(L:Le E E'){b g d o:Nat}{a:Addr}(h:Yc E b g d o a):Yc E' b g d o a:=by
 obtain⟨h1,h2⟩:=h
 refine⟨Nat.lt_of_lt_of_le h1 L.len,fun g' t sz kc ke ksz rows hg=> ?_⟩
 obtain⟨g0,BT,k1,k2,k3⟩:=L.stk b g' t sz kc ke ksz rows h1 hg;obtain⟨q1,q2⟩:=h2 g0 t sz kc ke ksz BT k1
 refine⟨Nat.le_trans q1 k2,fun e hd=> ?_⟩
 obtain⟨r1,r2,r3,_⟩:=k3 (by omega)
 obtain⟨k,s3,s4⟩:=q2 (by omega) (by omega)
 exact⟨k,r2.trans s3,by rw[s4,r1]⟩
theorem Yd.mono {E E':Env}(L:Le E E'){b g d sz len:Nat}{v:Value}(h:Yd E b g d sz len v):Yd E' b g d sz len v:=by
 obtain⟨h1,h2⟩:=h
 refine⟨Nat.lt_of_lt_of_le h1 L.len,fun g' t Dg kc ke ksz rows hg=> ?_⟩
 obtain⟨g0,BT,k1,k2,k3⟩:=L.stk b g' t Dg kc ke ksz rows h1 hg;obtain⟨q1,q2⟩:=h2 g0 t Dg kc ke ksz BT k1
 refine⟨Nat.le_trans q1 k2,fun e r hr=> ?_⟩
 obtain⟨r1,_,_,r4⟩:=k3 (by omega)
 have hd:d<BT.length:=by rw[r1];exact(List.getElem?_eq_some_iff.1 hr).1
 have YC:BT[d]?=some BT[d]:=List.getElem?_eq_getElem hd;obtain⟨s1,s2⟩:=r4 d r _ hr YC
 obtain⟨t1,t2⟩:=q2 (by omega) _ YC
 refine⟨Nat.le_trans t1 s1,fun hl=> ?_⟩
 obtain⟨u1,u2⟩:=t2 (by omega)
 have he:BT[d].1=r.1:=by omega
 refine⟨u1,s2 he v ?_⟩;rw[<-he,<-r1];exact u2
mutual
theorem Rel.mono {E E':Env}(L:Le E E'):∀(x:AV) (v:Value),Rel E x v->Rel E' x v
 |.top,_,_=>trivial
 |.Cs _,_,_=>trivial
 |.bool _,_,h=>h
 |.int _ _,_,h=>h
 |.str _,_,h=>h
 |.HA,_,h=>h
 |.ptr b o,v,h=>by
  obtain⟨t,cs,g,h1,h2,h3⟩:=h;obtain⟨Fw,k1,_,k3⟩:=L.mem b t cs h1;exact⟨t,Fw,g,k1,k3.trans h2,h3⟩
 |.ro cs,v,h=>by
  obtain⟨a,h1,h2⟩:=h;exact⟨a,h1,At.mono L cs a h2⟩
 |.sl sz es own,v,h=>by
  obtain⟨⟨A,cap,h1,h2,h3,h4,h5⟩,ht⟩:=h
  refine⟨⟨A,cap,h1,h2,h3,h4,fun BU=> ?_⟩,ht.mono L⟩
  obtain⟨a,ha,hr⟩:=h5 BU;exact⟨a,ha,Rows.mono L es a hr⟩
 |.IP b off len sz,v,h=>by
  obtain⟨t,cs,g,cap,h1,h2,h3,h4,h5,h6⟩:=h;obtain⟨Fw,k1,k2,k3⟩:=L.mem b t cs h1
  exact⟨t,Fw,g,cap,k1,k3.trans h2,h3,h4,h5,by rw[k2];exact h6⟩
 |.fn f first cap,v,h=>by
  obtain⟨a,b,h1,h2,h3⟩:=h
  exact⟨a,b,h1,BK.mono L first _ h2,BK.mono L cap _ h3⟩
 |.GX,_,h=>h
 |.iface t x,v,h=>by
  obtain⟨y,h1,h2⟩:=h;exact⟨y,h1,Rel.mono L x y h2⟩
 |.Ja,_,h=>h
 |.agg cs,v,h=>by
  obtain⟨a,h1,h2⟩:=h;exact⟨a,h1,Ag.mono L cs _ h2⟩
 |.tup cs,v,h=>by
  obtain⟨a,h1,h2⟩:=h;exact⟨a,h1,BK.mono L cs _ h2⟩
 |.UT b,v,h=>by
  obtain⟨s,p,g,h1,h2,h3⟩:=h;obtain⟨p',k1,k2⟩:=L.iter b s p h1;exact⟨s,p',g,k1,k2.trans h2,h3⟩
 |.CI b g d sz len,v,h=>by
  obtain⟨a,cap,h1,h2,h3,h4⟩:=h;exact⟨a,cap,h1,h2,h3,h4.mono L⟩
 |.BX b g d o,v,h=>by
  obtain⟨a,h1,h2⟩:=h;exact⟨a,h1,h2.mono L⟩
 |.F7 b g d sz es,v,h=>by
  obtain⟨⟨A,cap,h1,h2,h3,h4,h5⟩,ht⟩:=h
  refine⟨⟨A,cap,h1,h2,h3,h4,fun BU=> ?_⟩,ht.mono L⟩
  obtain⟨a,ha,hr⟩:=h5 BU;exact⟨a,ha,Rows.mono L es a hr⟩
 |.NT ks vs,v,h=>by
  obtain⟨r,es,clock,h1,h2,h3,h4⟩:=h;exact⟨r,es,clock,h1,L.maps r es clock h2,h3,Mc.mono L vs _ h4⟩
theorem Mc.mono {E E':Env}(L:Le E E'):∀(xs:List (List AV)) (es:List Value),Mc E xs es->Mc E' xs es
 |[],_,h=>h
 |v::vs,es,h=>by
  obtain⟨a,r,h1,h2,h3⟩:=h;exact⟨a,r,h1,Ag.mono L v _ h2,Mc.mono L vs r h3⟩
theorem BK.mono {E E':Env}(L:Le E E'):∀(xs:List AV) (vs:List Value),BK E xs vs->BK E' xs vs
 |[],_,h=>h
 |c::cs,vs,h=>by
  obtain⟨v,r,h1,h2,h3⟩:=h;exact⟨v,r,h1,Rel.mono L c v h2,BK.mono L cs r h3⟩
theorem Ag.mono {E E':Env}(L:Le E E'):∀(xs:List AV) (vs:List Value),Ag E xs vs->Ag E' xs vs
 |[],_,h=>h
 |c::cs,vs,h=>by
  obtain⟨v,r,h1,h0,h2,h3⟩:=h;exact⟨v,r,h1,h0,Rel.mono L c v h2,Ag.mono L cs r h3⟩
theorem At.mono {E E':Env}(L:Le E E'):∀(xs:List AV) (a:Addr),At E xs a->At E' xs a
 |[],_,_=>trivial
 |c::cs,a,h=>by
  obtain⟨⟨v,h1,h2,h3,h4⟩,h5⟩:=h;obtain⟨k1,k2⟩:=L.cells a v h1 h3;exact⟨⟨v,k1,h2,k2,Rel.mono L c v h4⟩,At.mono L cs _ h5⟩
theorem Rows.mono {E E':Env}(L:Le E E'):∀(xs:List (List AV)) (a:Addr),Rows E xs a->Rows E' xs a
 |[],_,_=>trivial
 |e::es,a,h=>⟨At.mono L e a h.1,Rows.mono L es _ h.2⟩
end
theorem Le.refl (E:Env):Le E E:=
 ⟨rfl,fun _ _ h s=>⟨h,s⟩,Nat.le_refl _,fun _ _ cs h=>⟨cs,h,rfl,rfl⟩,fun _ n _ _ _ h=>⟨n,h,Nat.le_refl _,fun _=>⟨rfl,fun _ _ h _=>h⟩⟩,fun _ _ p h=>⟨p,h,rfl⟩,
  fun _ g _ _ _ _ _ rows _ h=>⟨g,rows,h,Nat.le_refl _,fun _=>⟨rfl,rfl,fun _ _ _ h=>h,fun d r r0 h1 h2=>by rw[h1] at h2;injection h2 with h2;subst h2;exact⟨Nat.le_refl _,fun _ _ h=>h⟩⟩⟩,fun _ _ _ h=>h⟩
theorem Le.trans {E E' aJ:Env}(L:Le E E')(M:Le E' aJ):Le E aJ:=by
 refine⟨M.B.trans L.B,fun a v h s=> ?_,Nat.le_trans L.len M.len,fun id t cs h=> ?_,fun id n sz e hi h=> ?_,fun id s p h=> ?_,fun id g t sz kc ke ksz rows hi h=> ?_,fun r es clock h=>M.maps r es clock (L.maps r es clock h)⟩
 ·obtain⟨h1,s1⟩:=L.cells a v h s;exact M.cells a v h1 s1
 ·obtain⟨vf,h1,l1,s1⟩:=L.mem id t cs h;obtain⟨pC,h2,l2,s2⟩:=M.mem id t vf h1;exact⟨pC,h2,l2.trans l1,s2.trans s1⟩
 ·obtain⟨n1,h1,sJ,k1⟩:=M.grow id n sz e (Nat.lt_of_lt_of_le hi L.len) h;obtain⟨n0,h0,sL,k0⟩:=L.grow id n1 sz e hi h1
  refine⟨n0,h0,Nat.le_trans sL sJ,fun hn=> ?_⟩
  have VQ:n1=n:=by omega
  obtain⟨s1,o1⟩:=k1 VQ
  obtain⟨s0,o0⟩:=k0 (by omega)
  subst VQ
  refine⟨s1.trans s0,fun v xs hw hb=> ?_⟩
  have:=o0 v xs hw hb;rw[<-L.B]
  exact o1 v xs (by rw[L.B];exact this) (hb.trans s0.symm)
 ·obtain⟨p1,h1,s1⟩:=L.iter id s p h;obtain⟨p2,h2,s2⟩:=M.iter id s p1 h1;exact⟨p2,h2,s2.trans s1⟩
 ·obtain⟨g1,ID,h1,sJ,k1⟩:=M.stk id g t sz kc ke ksz rows (Nat.lt_of_lt_of_le hi L.len) h;obtain⟨g0,BT,h0,sL,k0⟩:=L.stk id g1 t sz kc ke ksz ID hi h1
  refine⟨g0,BT,h0,Nat.le_trans sL sJ,fun hn=> ?_⟩
  obtain⟨a1,a2,a3,a4⟩:=k1 (by omega)
  obtain⟨b1,b2,b3,b4⟩:=k0 (by omega)
  refine⟨b1.trans a1,a2.trans b2,fun k n hk hz=>a3 k n (b2.trans hk) (b3 k n hk hz),fun d r r0 hr YC=> ?_⟩
  have hd:d<ID.length:=by rw[a1];exact(List.getElem?_eq_some_iff.1 hr).1
  have Qv:ID[d]?=some ID[d]:=List.getElem?_eq_getElem hd;obtain⟨c1,c2⟩:=a4 d r _ hr Qv;obtain⟨d1,d2⟩:=b4 d _ r0 Qv YC
  refine⟨Nat.le_trans d1 c1,fun e v hv=> ?_⟩
  have e1:ID[d].1=r.1:=by omega
  refine c2 e1 v ?_
  have:=d2 (by omega) v (by rw[e1,a1];exact hv)
  rw[e1,a1] at this;exact this
theorem At.iff {E:Env}:∀{xs:List AV} {a:Addr},At E xs a↔∀(j:Nat) c,xs[j]?=some c->∃v,E.w.cell? (a.add j)=some v/\v.oneCell'=true/\Dp E a.block (a.off+j)/\Rel E c v
 |[],a=>by simp[At]
 |c::cs,a=>by
  rw[At,At.iff];constructor
  ·rintro⟨⟨v,h1,h2,h3,h4⟩,h5⟩ j x hj
   cases j with
   |zero=>
    simp only[List.getElem?_cons_zero,Option.some.injEq] at hj;subst hj
    exact⟨v,by simpa[Addr.add] using h1,h2,h3,h4⟩
   |succ j=>
    obtain⟨v,k1,k2,k3,k4⟩:=h5 j x (by simpa using hj)
    rw[EJ] at k1;rw[JY,N6] at k3
    exact⟨v,by rw[Nat.add_comm j 1];exact k1,k2,by rw[show a.off+(j+1)=a.off+1+j by omega];exact k3,k4⟩
  ·intro h
   refine⟨?_,fun j x hj=> ?_⟩
   ·obtain⟨v,k1,k2,k3,k4⟩:=h 0 c rfl
    exact⟨v,by simpa[Addr.add] using k1,k2,k3,k4⟩
   ·obtain⟨v,k1,k2,k3,k4⟩:=h (j+1) x (by simpa using hj)
    refine⟨v,?_,k2,?_,k4⟩
    ·rw[EJ,Nat.add_comm 1 j];exact k1
    ·rw[JY,N6,show a.off+1+j=a.off+(j+1) by omega];exact k3
theorem At.append {E:Env}{xs ys:List AV}{a:Addr}:At E (xs++ys) a↔At E xs a/\At E ys (a.add xs.length):=by
 induction xs generalizing a with
 |nil=>simp[At,Addr.add]
 |cons c cs ih=>
  simp only[List.cons_append,At,ih,List.length_cons,and_assoc];rw[EJ,Nat.add_comm 1]
theorem Rows.iff {E:Env}:∀{es:List (List AV)} {a:Addr},Rows E es a↔At E es.flatten a
 |[],a=>by simp[Rows,At]
 |e::es,a=>by rw[Rows,Rows.iff,List.flatten_cons,At.append]
theorem Ag.iff {E:Env}:∀{xs:List AV} {vs:List Value},Ag E xs vs↔vs.length=xs.length/\∀(j:Nat) (c:AV) (v:Value),xs[j]?=some c->vs[j]?=some v->v.oneCell'=true/\Rel E c v
 |[],vs=>by simp[Ag]
 |c::cs,vs=>by
  rw[Ag];constructor
  ·rintro⟨v,r,rfl,h1,h2,h3⟩
   rw[Ag.iff] at h3
   refine⟨by simp[h3.1],fun j x y hx hy=> ?_⟩
   cases j with
   |zero=>
    simp only[List.getElem?_cons_zero,Option.some.injEq] at hx hy;subst hx;subst hy;exact⟨h1,h2⟩
   |succ j=>exact h3.2 j x y (by simpa using hx) (by simpa using hy)
  ·rintro⟨hl,h⟩
   cases vs with
   |nil=>simp at hl
   |cons v r=>
    obtain⟨h1,h2⟩:=h 0 c v rfl rfl;refine⟨v,r,rfl,h1,h2,?_⟩;rw[Ag.iff]
    exact⟨by simpa using hl,fun j x y hx hy=>h (j+1) x y (by simpa using hx) (by simpa using hy)⟩
theorem BK.length {E:Env}:∀{xs:List AV} {vs:List Value},BK E xs vs->vs.length=xs.length
 |[],vs,h=>by simp only[BK] at h;simp[h]
 |c::cs,vs,h=>by
  obtain⟨v,r,rfl,_,h3⟩:=h;simp[h3.length]
theorem BK.append {E:Env}{xs ys:List AV}{vs ws:List Value}(h:BK E xs vs)(k:BK E ys ws):BK E (xs++ys) (vs++ws):=by
 induction xs generalizing vs with
 |nil=>simp only[BK] at h;simpa[h] using k
 |cons c cs ih=>
  obtain⟨v,r,rfl,h1,h2⟩:=h;exact⟨v,r++ws,rfl,h1,ih h2⟩
end Go.Ai
