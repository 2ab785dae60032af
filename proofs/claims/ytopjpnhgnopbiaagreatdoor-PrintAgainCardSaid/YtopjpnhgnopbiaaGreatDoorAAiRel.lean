/-
  The relation between abstract and concrete values, and that it is kept while the world grows.
-/
import Derived.Test.YtopjpnhgnopbiaaGreatDoorAAiDefs
set_option linter.unusedVariables false
set_option linter.unusedSimpArgs false
set_option linter.unnecessarySimpa false
namespace Go.Ai
open Go.RowKit
theorem Ep (a:Addr)(i j:Nat):(a.add i).add j=a.add (i+j):=by
 unfold Addr.add
 by_cases hi:i=0<;>by_cases hj:j=0<;>simp[hi,hj,Nat.add_assoc]
theorem Kl (a:Addr)(i:Nat):(a.add i).block=a.block:=by unfold Addr.add;split<;>rfl
theorem Po (a:Addr)(i:Nat):(a.add i).off=a.off+i:=by unfold Addr.add;split<;>simp_all
structure Env where
 B:Nat
 U:Nat->Nat->Prop
 w:World
 σ:Nat->Option Nat
 h:Hp
 A:Nat->Option (Nat×Nat×Nat):=fun _=>none
def EI (E:Env)(b o:Nat):Prop:=
 (¬E.U b o/\∀id i m,E.A b=some (id,i,m)->o<m)/\∀(id:Nat) (x:Blk),E.h[id]?=some x->E.σ id=some b->x=.dead\/∃n sz e,x=.grow n sz e/\o<n*sz
def Jf (w:World)(k n:Nat):Prop:=∃c ty,w.heap[k]?=some (.cells c ty)/\c.size=n
def bm (E:Env)(b g d sz len:Nat)(a:Addr)(cap:Nat):Prop:=
 b<E.h.length/\∀g' t EB kc ke ksz rows,E.h[b]?=some (.Bi g' t EB kc ke ksz rows)->g<=g'/\(g=g'->len+d=rows.length/\EB=sz/\∃k,E.σ b=some k/\a=⟨k,0,none⟩/\Jf E.w k (cap*sz))
def bo (E:Env)(b g d o:Nat)(a:Addr):Prop:=
 b<E.h.length/\∀g' t sz kc ke ksz rows,E.h[b]?=some (.Bi g' t sz kc ke ksz rows)->g<=g'/\(g=g'->d<rows.length->∃k,E.σ b=some k/\a=⟨k,(rows.length-1-d)*sz+o,none⟩)
def Ch (E:Env)(id i n:Nat)(ke:TypeId)(ksz:Nat)(v:Value):Prop:=(∃xs,E.w.ownsRow E.B ke ksz v n xs)/\∀g,v.ownBlock=some g->E.A g=some (id,i,n*ksz)
def bp (E:Env)(b g d sz len:Nat)(v:Value):Prop:=
 b<E.h.length/\∀g' t EB kc ke ksz rows,E.h[b]?=some (.Bi g' t EB kc ke ksz rows)->g<=g'/\(g=g'->∀r,rows[d]?=some r->len<=r.1/\(len=r.1->(0<len->ksz=sz)/\Ch E b (rows.length-1-d) r.1 ke ksz v))
def Oq (E:Env)(sz len:Nat)(v:Value):Option Nat->Prop
 |none=>True
 |some id=>id<E.h.length/\∀n EB e,E.h[id]?=some (.grow n EB e)->len<=n/\(len=n->(0<len->EB=sz)/\(∃xs,E.w.ownsRow E.B e EB v n xs)/\v.ownBlock=E.σ id)
mutual
def Rel (E:Env):AV->Value->Prop
 |.top,_=>True
 |.bool b,v=>v=.bool b
 |.int k n,v=>v=.int k n
 |.str s,v=>v=.string ⟨s.toArray⟩
 |.Gb,v=>v=.pointer none
 |.ptr b o,v=>∃t cs g,E.h[b]?=some (.mem t cs)/\E.σ b=some g/\v=.pointer (some ⟨g,o,none⟩)
 |.ro cs,v=>∃a,v=.pointer (some a)/\At E cs a
 |.sl sz es own,v=>(∃A cap,v=.slice A es.length cap/\es.length<=cap/\cap<=maxLen/\(∀e∈es,e.length=sz)/\(es≠[]->∃a,A=some a/\Rows E es a))/\Oq E sz es.length v own
 |.KR b off len sz,v=>∃t cs g cap,E.h[b]?=some (.mem t cs)/\E.σ b=some g/\v=.slice (some ⟨g,off,none⟩) len cap/\len<=cap/\cap<=maxLen/\off+len*sz<=cs.length
 |.fn f first cap,v=>∃a b,v=.func f a b/\BT E first a.toList/\BT E cap b.toList
 |.HO,v=>v=.nilFunc
 |.iface t x,v=>∃y,v=.iface t y/\Rel E x y
 |.JX,v=>v=.nilIface
 |.agg cs,v=>∃a,v=.agg a/\Ae E cs a.toList
 |.tup cs,v=>∃a,v=.tuple a/\BT E cs a.toList
 |.Wr b,v=>∃s p g,E.h[b]?=some (.iter s p)/\E.σ b=some g/\v=.pointer (some ⟨g,0,none⟩)
 |.C9 _,_=>True
 |.CM b g d sz len,v=>∃a cap,v=.slice (some a) len cap/\len<=cap/\cap<=maxLen/\bm E b g d sz len a cap
 |.Bf b g d o,v=>∃a,v=.pointer (some a)/\bo E b g d o a
 |.Gw b g d sz es,v=>(∃A cap,v=.slice A es.length cap/\es.length<=cap/\cap<=maxLen/\(∀e∈es,e.length=sz)/\(es≠[]->∃a,A=some a/\Rows E es a))/\bp E b g d sz es.length v
 |.PD ks vs,v=>∃r es clock,v=.map (some r)/\E.w.heap[r]?=some (.map es clock)/\es.toList.map (·.key)=ks.map (.int .i64)/\OC E vs (es.toList.map (·.val))
def OC (E:Env):List (List AV)->List Value->Prop
 |[],es=>es=[]
 |v::vs,es=>∃a r,es=.agg a::r/\Ae E v a.toList/\OC E vs r
def BT (E:Env):List AV->List Value->Prop
 |[],vs=>vs=[]
 |c::cs,vs=>∃v r,vs=v::r/\Rel E c v/\BT E cs r
def Ae (E:Env):List AV->List Value->Prop
 |[],vs=>vs=[]
 |c::cs,vs=>∃v r,vs=v::r/\v.oneCell'=true/\Rel E c v/\Ae E cs r
def At (E:Env):List AV->Addr->Prop
 |[],_=>True
 |c::cs,a=>(∃v,E.w.cell? a=some v/\v.oneCell'=true/\EI E a.block a.off/\Rel E c v)/\At E cs (a.add 1)
def Rows (E:Env):List (List AV)->Addr->Prop
 |[],_=>True
 |e::es,a=>At E e a/\Rows E es (a.add e.length)
end
structure Le (E E':Env):Prop where
 B:E'.B=E.B
 cells:∀a v,E.w.cell? a=some v->EI E a.block a.off->E'.w.cell? a=some v/\EI E' a.block a.off
 len:E.h.length<=E'.h.length
 mem:∀(id:Nat) t cs,E.h[id]?=some (.mem t cs)->∃Gh,E'.h[id]?=some (.mem t Gh)/\Gh.length=cs.length/\E'.σ id=E.σ id
 grow:∀(id:Nat) n sz e,id<E.h.length->E'.h[id]?=some (.grow n sz e)->∃n0,E.h[id]?=some (.grow n0 sz e)/\n0<=n/\
  (n0=n->E'.σ id=E.σ id/\∀v xs,E.w.ownsRow E.B e sz v n xs->v.ownBlock=E.σ id->E'.w.ownsRow E.B e sz v n xs)
 iter:∀(id:Nat) s p,E.h[id]?=some (.iter s p)->∃p',E'.h[id]?=some (.iter s p')/\E'.σ id=E.σ id
 Bi:∀(id:Nat) g t sz kc ke ksz rows,id<E.h.length->E'.h[id]?=some (.Bi g t sz kc ke ksz rows)->∃g0 Bd,E.h[id]?=some (.Bi g0 t sz kc ke ksz Bd)/\g0<=g/\
  (g0=g->Bd.length=rows.length/\E'.σ id=E.σ id/\(∀k n,E.σ id=some k->Jf E.w k n->Jf E'.w k n)/\
   ∀d r r0,rows[d]?=some r->Bd[d]?=some r0->r0.1<=r.1/\(r0.1=r.1->∀v,Ch E id (rows.length-1-d) r.1 ke ksz v->Ch E' id (rows.length-1-d) r.1 ke ksz v))
 maps:∀(r:Nat) es clock,E.w.heap[r]?=some (.map es clock)->E'.w.heap[r]?=some (.map es clock)
theorem Oq.mono {E E':Env}(L:Le E E'){sz len:Nat}{v:Value}{own:Option Nat}(h:Oq E sz len v own):Oq E' sz len v own:=by
 cases own with
 |none=>trivial
 |some id=>
  obtain⟨h1,h2⟩:=h
  refine⟨Nat.lt_of_lt_of_le h1 L.len,fun n EB e hg=> ?_⟩
  obtain⟨n0,hg0,hle,Wv⟩:=L.grow id n EB e h1 hg;obtain⟨k1,k2⟩:=h2 n0 EB e hg0
  refine⟨Nat.le_trans k1 hle,fun hn=> ?_⟩
  have SF:n0=n:=by omega
  obtain⟨hs,ho⟩:=Wv SF
  obtain⟨q1,⟨xs,q2⟩,q3⟩:=k2 (by omega)
  subst SF;refine⟨q1,⟨xs,?_⟩,q3.trans hs.symm⟩;rw[L.B];exact ho v xs q2 q3
theorem bm.mono {E E':Env}(L:Le E E'){b g d sz len cap:Nat}{a:Addr}(h:bm E b g d sz len a cap):bm E' b g d sz len a cap:=by
 obtain⟨h1,h2⟩:=h
 refine⟨Nat.lt_of_lt_of_le h1 L.len,fun g' t EB kc ke ksz rows hg=> ?_⟩
 obtain⟨g0,Bd,k1,k2,k3⟩:=L.Bi b g' t EB kc ke ksz rows h1 hg;obtain⟨q1,q2⟩:=h2 g0 t EB kc ke ksz Bd k1
 refine⟨Nat.le_trans q1 k2,fun e=> ?_⟩
 obtain⟨r1,r2,r3,_⟩:=k3 (by omega)
 obtain⟨s1,s2,k,s3,s4,s5⟩:=q2 (by omega)
 exact⟨s1.trans r1,s2,k,r2.trans s3,s4,r3 k _ s3 s5⟩
theorem bo.mono {E E':Env}(L:Le E E'){b g d o:Nat}{a:Addr}(h:bo E b g d o a):bo E' b g d o a:=by
 obtain⟨h1,h2⟩:=h
 refine⟨Nat.lt_of_lt_of_le h1 L.len,fun g' t sz kc ke ksz rows hg=> ?_⟩
 obtain⟨g0,Bd,k1,k2,k3⟩:=L.Bi b g' t sz kc ke ksz rows h1 hg;obtain⟨q1,q2⟩:=h2 g0 t sz kc ke ksz Bd k1
 refine⟨Nat.le_trans q1 k2,fun e hd=> ?_⟩
 obtain⟨r1,r2,r3,_⟩:=k3 (by omega)
 obtain⟨k,s3,s4⟩:=q2 (by omega) (by omega)
 exact⟨k,r2.trans s3,by rw[s4,r1]⟩
theorem bp.mono {E E':Env}(L:Le E E'){b g d sz len:Nat}{v:Value}(h:bp E b g d sz len v):bp E' b g d sz len v:=by
 obtain⟨h1,h2⟩:=h
 refine⟨Nat.lt_of_lt_of_le h1 L.len,fun g' t EB kc ke ksz rows hg=> ?_⟩
 obtain⟨g0,Bd,k1,k2,k3⟩:=L.Bi b g' t EB kc ke ksz rows h1 hg;obtain⟨q1,q2⟩:=h2 g0 t EB kc ke ksz Bd k1
 refine⟨Nat.le_trans q1 k2,fun e r hr=> ?_⟩
 obtain⟨r1,_,_,r4⟩:=k3 (by omega)
 have hd:d<Bd.length:=by rw[r1];exact(List.getElem?_eq_some_iff.1 hr).1
 have bG:Bd[d]?=some Bd[d]:=List.getElem?_eq_getElem hd;obtain⟨s1,s2⟩:=r4 d r _ hr bG
 obtain⟨t1,t2⟩:=q2 (by omega) _ bG
 refine⟨Nat.le_trans t1 s1,fun hl=> ?_⟩
 obtain⟨u1,u2⟩:=t2 (by omega)
 have he:Bd[d].1=r.1:=by omega
 refine⟨u1,s2 he v ?_⟩;rw[<-he,<-r1];exact u2
mutual
theorem Rel.mono {E E':Env}(L:Le E E'):∀(x:AV) (v:Value),Rel E x v->Rel E' x v
 |.top,_,_=>trivial
 |.C9 _,_,_=>trivial
 |.bool _,_,h=>h
 |.int _ _,_,h=>h
 |.str _,_,h=>h
 |.Gb,_,h=>h
 |.ptr b o,v,h=>by
  obtain⟨t,cs,g,h1,h2,h3⟩:=h;obtain⟨Gh,k1,_,k3⟩:=L.mem b t cs h1;exact⟨t,Gh,g,k1,k3.trans h2,h3⟩
 |.ro cs,v,h=>by
  obtain⟨a,h1,h2⟩:=h;exact⟨a,h1,At.mono L cs a h2⟩
 |.sl sz es own,v,h=>by
  obtain⟨⟨A,cap,h1,h2,h3,h4,h5⟩,ht⟩:=h
  refine⟨⟨A,cap,h1,h2,h3,h4,fun BM=> ?_⟩,ht.mono L⟩
  obtain⟨a,ha,hr⟩:=h5 BM;exact⟨a,ha,Rows.mono L es a hr⟩
 |.KR b off len sz,v,h=>by
  obtain⟨t,cs,g,cap,h1,h2,h3,h4,h5,h6⟩:=h;obtain⟨Gh,k1,k2,k3⟩:=L.mem b t cs h1
  exact⟨t,Gh,g,cap,k1,k3.trans h2,h3,h4,h5,by rw[k2];exact h6⟩
 |.fn f first cap,v,h=>by
  obtain⟨a,b,h1,h2,h3⟩:=h
  exact⟨a,b,h1,BT.mono L first _ h2,BT.mono L cap _ h3⟩
 |.HO,_,h=>h
 |.iface t x,v,h=>by
  obtain⟨y,h1,h2⟩:=h;exact⟨y,h1,Rel.mono L x y h2⟩
 |.JX,_,h=>h
 |.agg cs,v,h=>by
  obtain⟨a,h1,h2⟩:=h;exact⟨a,h1,Ae.mono L cs _ h2⟩
 |.tup cs,v,h=>by
  obtain⟨a,h1,h2⟩:=h;exact⟨a,h1,BT.mono L cs _ h2⟩
 |.Wr b,v,h=>by
  obtain⟨s,p,g,h1,h2,h3⟩:=h;obtain⟨p',k1,k2⟩:=L.iter b s p h1;exact⟨s,p',g,k1,k2.trans h2,h3⟩
 |.CM b g d sz len,v,h=>by
  obtain⟨a,cap,h1,h2,h3,h4⟩:=h;exact⟨a,cap,h1,h2,h3,h4.mono L⟩
 |.Bf b g d o,v,h=>by
  obtain⟨a,h1,h2⟩:=h;exact⟨a,h1,h2.mono L⟩
 |.Gw b g d sz es,v,h=>by
  obtain⟨⟨A,cap,h1,h2,h3,h4,h5⟩,ht⟩:=h
  refine⟨⟨A,cap,h1,h2,h3,h4,fun BM=> ?_⟩,ht.mono L⟩
  obtain⟨a,ha,hr⟩:=h5 BM;exact⟨a,ha,Rows.mono L es a hr⟩
 |.PD ks vs,v,h=>by
  obtain⟨r,es,clock,h1,h2,h3,h4⟩:=h;exact⟨r,es,clock,h1,L.maps r es clock h2,h3,OC.mono L vs _ h4⟩
theorem OC.mono {E E':Env}(L:Le E E'):∀(xs:List (List AV)) (es:List Value),OC E xs es->OC E' xs es
 |[],_,h=>h
 |v::vs,es,h=>by
  obtain⟨a,r,h1,h2,h3⟩:=h;exact⟨a,r,h1,Ae.mono L v _ h2,OC.mono L vs r h3⟩
theorem BT.mono {E E':Env}(L:Le E E'):∀(xs:List AV) (vs:List Value),BT E xs vs->BT E' xs vs
 |[],_,h=>h
 |c::cs,vs,h=>by
  obtain⟨v,r,h1,h2,h3⟩:=h;exact⟨v,r,h1,Rel.mono L c v h2,BT.mono L cs r h3⟩
theorem Ae.mono {E E':Env}(L:Le E E'):∀(xs:List AV) (vs:List Value),Ae E xs vs->Ae E' xs vs
 |[],_,h=>h
 |c::cs,vs,h=>by
  obtain⟨v,r,h1,h0,h2,h3⟩:=h;exact⟨v,r,h1,h0,Rel.mono L c v h2,Ae.mono L cs r h3⟩
theorem At.mono {E E':Env}(L:Le E E'):∀(xs:List AV) (a:Addr),At E xs a->At E' xs a
 |[],_,_=>trivial
 |c::cs,a,h=>by
  obtain⟨⟨v,h1,h2,h3,h4⟩,h5⟩:=h;obtain⟨k1,k2⟩:=L.cells a v h1 h3;exact⟨⟨v,k1,h2,k2,Rel.mono L c v h4⟩,At.mono L cs _ h5⟩
theorem Rows.mono {E E':Env}(L:Le E E'):∀(xs:List (List AV)) (a:Addr),Rows E xs a->Rows E' xs a
 |[],_,_=>trivial
 |e::es,a,h=>⟨At.mono L e a h.1,Rows.mono L es _ h.2⟩
end
theorem Le.refl (E:Env):Le E E:=
 ⟨rfl,fun _ _ h s=>⟨h,s⟩,Nat.le_refl _,fun _ _ cs h=>⟨cs,h,rfl,rfl⟩,fun _ n _ _ _ h=>⟨n,h,Nat.le_refl _,fun _=>⟨rfl,fun _ _ h _=>h⟩⟩,fun _ _ p h=>⟨p,h,rfl⟩,
  fun _ g _ _ _ _ _ rows _ h=>⟨g,rows,h,Nat.le_refl _,fun _=>⟨rfl,rfl,fun _ _ _ h=>h,fun d r r0 h1 h2=>by rw[h1] at h2;injection h2 with h2;subst h2;exact⟨Nat.le_refl _,fun _ _ h=>h⟩⟩⟩,fun _ _ _ h=>h⟩
theorem Le.trans {E E' eF:Env}(L:Le E E')(M:Le E' eF):Le E eF:=by
 refine⟨M.B.trans L.B,fun a v h s=> ?_,Nat.le_trans L.len M.len,fun id t cs h=> ?_,fun id n sz e hi h=> ?_,fun id s p h=> ?_,fun id g t sz kc ke ksz rows hi h=> ?_,fun r es clock h=>M.maps r es clock (L.maps r es clock h)⟩
 ·obtain⟨h1,s1⟩:=L.cells a v h s;exact M.cells a v h1 s1
 ·obtain⟨zU,h1,l1,s1⟩:=L.mem id t cs h;obtain⟨tE,h2,l2,s2⟩:=M.mem id t zU h1;exact⟨tE,h2,l2.trans l1,s2.trans s1⟩
 ·obtain⟨n1,h1,vt,k1⟩:=M.grow id n sz e (Nat.lt_of_lt_of_le hi L.len) h;obtain⟨n0,h0,vu,k0⟩:=L.grow id n1 sz e hi h1
  refine⟨n0,h0,Nat.le_trans vu vt,fun hn=> ?_⟩
  have JZ:n1=n:=by omega
  obtain⟨s1,o1⟩:=k1 JZ
  obtain⟨s0,o0⟩:=k0 (by omega)
  subst JZ
  refine⟨s1.trans s0,fun v xs hw hb=> ?_⟩
  have:=o0 v xs hw hb;rw[<-L.B]
  exact o1 v xs (by rw[L.B];exact this) (hb.trans s0.symm)
 ·obtain⟨p1,h1,s1⟩:=L.iter id s p h;obtain⟨p2,h2,s2⟩:=M.iter id s p1 h1;exact⟨p2,h2,s2.trans s1⟩
 ·obtain⟨g1,JK,h1,vt,k1⟩:=M.Bi id g t sz kc ke ksz rows (Nat.lt_of_lt_of_le hi L.len) h;obtain⟨g0,Bd,h0,vu,k0⟩:=L.Bi id g1 t sz kc ke ksz JK hi h1
  refine⟨g0,Bd,h0,Nat.le_trans vu vt,fun hn=> ?_⟩
  obtain⟨a1,a2,a3,a4⟩:=k1 (by omega)
  obtain⟨b1,b2,b3,b4⟩:=k0 (by omega)
  refine⟨b1.trans a1,a2.trans b2,fun k n hk hz=>a3 k n (b2.trans hk) (b3 k n hk hz),fun d r r0 hr bG=> ?_⟩
  have hd:d<JK.length:=by rw[a1];exact(List.getElem?_eq_some_iff.1 hr).1
  have TE:JK[d]?=some JK[d]:=List.getElem?_eq_getElem hd;obtain⟨c1,c2⟩:=a4 d r _ hr TE;obtain⟨d1,d2⟩:=b4 d _ r0 TE bG
  refine⟨Nat.le_trans d1 c1,fun e v hv=> ?_⟩
  have e1:JK[d].1=r.1:=by omega
  refine c2 e1 v ?_
  have:=d2 (by omega) v (by rw[e1,a1];exact hv)
  rw[e1,a1] at this;exact this
theorem At.iff {E:Env}:∀{xs:List AV} {a:Addr},At E xs a↔∀(j:Nat) c,xs[j]?=some c->∃v,E.w.cell? (a.add j)=some v/\v.oneCell'=true/\EI E a.block (a.off+j)/\Rel E c v
 |[],a=>by simp[At]
 |c::cs,a=>by
  rw[At,At.iff];constructor
  ·rintro⟨⟨v,h1,h2,h3,h4⟩,h5⟩ j x hj
   cases j with
   |zero=>
    simp only[List.getElem?_cons_zero,Option.some.injEq] at hj;subst hj
    exact⟨v,by simpa[Addr.add] using h1,h2,h3,h4⟩
   |succ j=>
    obtain⟨v,k1,k2,k3,k4⟩:=h5 j x (by simpa using hj)
    rw[Ep] at k1;rw[Kl,Po] at k3
    exact⟨v,by rw[Nat.add_comm j 1];exact k1,k2,by rw[show a.off+(j+1)=a.off+1+j by omega];exact k3,k4⟩
  ·intro h
   refine⟨?_,fun j x hj=> ?_⟩
   ·obtain⟨v,k1,k2,k3,k4⟩:=h 0 c rfl
    exact⟨v,by simpa[Addr.add] using k1,k2,k3,k4⟩
   ·obtain⟨v,k1,k2,k3,k4⟩:=h (j+1) x (by simpa using hj)
    refine⟨v,?_,k2,?_,k4⟩
    ·rw[Ep,Nat.add_comm 1 j];exact k1
    ·rw[Kl,Po,show a.off+1+j=a.off+(j+1) by omega];exact k3
theorem At.append {E:Env}{xs ys:List AV}{a:Addr}:At E (xs++ys) a↔At E xs a/\At E ys (a.add xs.length):=by
 induction xs generalizing a with
 |nil=>simp[At,Addr.add]
 |cons c cs ih=>
  simp only[List.cons_append,At,ih,List.length_cons,and_assoc];rw[Ep,Nat.add_comm 1]
theorem Rows.iff {E:Env}:∀{es:List (List AV)} {a:Addr},Rows E es a↔At E es.flatten a
 |[],a=>by simp[Rows,At]
 |e::es,a=>by rw[Rows,Rows.iff,List.flatten_cons,At.append]
theorem Ae.iff {E:Env}:∀{xs:List AV} {vs:List Value},Ae E xs vs↔vs.length=xs.length/\∀(j:Nat) (c:AV) (v:Value),xs[j]?=some c->vs[j]?=some v->v.oneCell'=true/\Rel E c v
 |[],vs=>by simp[Ae]
 |c::cs,vs=>by
  rw[Ae];constructor
  ·rintro⟨v,r,rfl,h1,h2,h3⟩
   rw[Ae.iff] at h3
   refine⟨by simp[h3.1],fun j x y hx hy=> ?_⟩
   cases j with
   |zero=>
    simp only[List.getElem?_cons_zero,Option.some.injEq] at hx hy;subst hx;subst hy;exact⟨h1,h2⟩
   |succ j=>exact h3.2 j x y (by simpa using hx) (by simpa using hy)
  ·rintro⟨hl,h⟩
   cases vs with
   |nil=>simp at hl
   |cons v r=>
    obtain⟨h1,h2⟩:=h 0 c v rfl rfl;refine⟨v,r,rfl,h1,h2,?_⟩;rw[Ae.iff]
    exact⟨by simpa using hl,fun j x y hx hy=>h (j+1) x y (by simpa using hx) (by simpa using hy)⟩
theorem BT.length {E:Env}:∀{xs:List AV} {vs:List Value},BT E xs vs->vs.length=xs.length
 |[],vs,h=>by simp only[BT] at h;simp[h]
 |c::cs,vs,h=>by
  obtain⟨v,r,rfl,_,h3⟩:=h;simp[h3.length]
theorem BT.append {E:Env}{xs ys:List AV}{vs ws:List Value}(h:BT E xs vs)(k:BT E ys ws):BT E (xs++ys) (vs++ws):=by
 induction xs generalizing vs with
 |nil=>simp only[BT] at h;simpa[h] using k
 |cons c cs ih=>
  obtain⟨v,r,rfl,h1,h2⟩:=h;exact⟨v,r++ws,rfl,h1,ih h2⟩
end Go.Ai
