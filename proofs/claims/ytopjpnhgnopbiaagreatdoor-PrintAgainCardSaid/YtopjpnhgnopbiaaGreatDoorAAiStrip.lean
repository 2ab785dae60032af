/-
  Calls: how values go into a callee's environment, and out of it.
-/
import Derived.Test.YtopjpnhgnopbiaaGreatDoorAAiAll
set_option linter.unusedVariables false
set_option linter.unusedSimpArgs false
set_option linter.unnecessarySimpa false
namespace Go.Ai
open Go.RowKit
section
variable {G:Nat->Option (List AV)}{I:World->Prop}{B0:Nat}{E:Env}
theorem LF (hI:∀w w',I w->Below B0 w w'->I w')(H:Good G I B0 E){w':World}(hw:Below E.w.heap.size E.w w'):Step G I B0 E {E with w:=w'}:=by
 have L:Le E {E with w:=w'}:=by
  refine⟨rfl,fun a v h s=>⟨(hw.cell (World.block_lt_of_cell? E.w a h)).trans h,s⟩,Nat.le_refl _,fun _ _ cs h=>⟨cs,h,rfl,rfl⟩,fun _ n _ _ _ h=>⟨n,h,Nat.le_refl _,fun _=>⟨rfl,fun v xs h _=> ?_⟩⟩,fun _ _ p h=>⟨p,h,rfl⟩,
   fun _ g _ _ _ _ _ rows _ h=>⟨g,rows,h,Nat.le_refl _,fun _=>⟨rfl,rfl,fun k _ _ h=>Jf.of (fun hk=>hw.block k hk) h,Cu fun _ _ _ h=>h.kept rfl rfl (fun q _ _ hq=>hw.block q hq)⟩⟩,fun r _ _ h=>(hw.block r (Array.getElem?_eq_some_iff.1 h).1).trans h⟩
  refine⟨h.1,?_⟩
  rcases h.2 with h2|⟨g,cap,cur,h2,h3,h4,h5⟩
  ·exact .inl h2
  ·exact .inr ⟨g,cap,cur,h2,h3,(hw.block g (Array.getElem?_eq_some_iff.1 h4).1).trans h4,h5⟩
 refine⟨L,⟨fun id x hx=> ?_,H.inj,fun g cs hg=>At.mono L _ _ (H.Fc g cs hg),H.U,fun g o i m h=>by
  obtain⟨a1,a2,a3⟩:=H.ar g o i m h
  exact⟨a1,Nat.lt_of_lt_of_le a2 hw.size,a3⟩,Nat.le_trans H.size hw.size,H.B0,hI _ _ H.I (hw.mono (Nat.le_trans H.B0 H.size))⟩,rfl,hw.mono H.size,Qd fun g hg=>hw.block g hg⟩
 have h:=H.Ld id x hx
 cases x with
 |mem t cs=>
  obtain⟨g,c,fr,h1,h2,h3,h4,h5,h6⟩:=h;have hg:=(Array.getElem?_eq_some_iff.1 h3).1
  refine⟨g,c,fr,h1,h2,(hw.block g hg).trans h3,h4,fun j hj=>(hw.frozen (p:=⟨g,j,none⟩) hg).trans (h5 j hj),fun j y hy=> ?_⟩
  obtain⟨v,k1,k2,k3⟩:=h6 j y hy;exact⟨v,k1,k2,Rel.mono L _ _ k3⟩
 |grow n sz e=>
  intro g hg;exact⟨(h g hg).1,Nat.lt_of_lt_of_le (h g hg).2 hw.size⟩
 |dead=>trivial
 |iter s p=>
  obtain⟨g,h1,h2,h3⟩:=h;exact⟨g,h1,h2,(hw.block g (Array.getElem?_eq_some_iff.1 h3).1).trans h3⟩
 |Bi n1 t1 H6 kc ke ksz rows=>exact Ea.Bi L rfl rfl (fun g _ hg=>hw.block g hg) (fun _ _ _ h=>h.kept rfl rfl (fun q _ _ hq=>hw.block q hq)) h
def AO :AV->Bool
 |.ptr .. |.KR .. |.Wr .. |.CM .. |.Bf .. |.Gw .. =>false
 |.PD _ vs=>BJ vs
 |.ro cs=>Ad cs
 |.sl _ es own=>own.isNone&&BJ es
 |.fn _ a c=>Ad a&&Ad c
 |.iface _ v=>AO v
 |.agg cs=>Ad cs
 |.tup cs=>Ad cs
 |.C9 cs=>Ad cs
 |_=>true
where
 Ad:List AV->Bool
  |[]=>true
  |v::r=>AO v&&Ad r
 BJ:List (List AV)->Bool
  |[]=>true
  |v::r=>Ad v&&BJ r
def Ct (n:Nat):Option Nat->Option Nat
 |some id=>bif Nat.blt id n then some id else none
 |none=>none
theorem Ck (n:Nat)(h:Hp)(sz:Nat)(es:List (List AV))(own:Option Nat):strip n h (.sl sz es own)=.sl sz (AE n h es) (Ct n own):=by
 cases own<;>rfl
mutual
theorem It (n:Nat)(h:Hp):∀x,AO x=true->strip n h x=x
 |.top,_=>rfl
 |.bool _,_=>rfl
 |.int _ _,_=>rfl
 |.str _,_=>rfl
 |.Gb,_=>rfl
 |.ptr _ _,hp=>by simp[AO] at hp
 |.ro cs,hp=>by rw[strip,Aw n h cs (by simpa[AO] using hp)]
 |.sl sz es own,hp=>by
  simp only[AO,Bool.and_eq_true] at hp;rw[Ck,As n h es hp.2]
  cases own with
  |none=>rfl
  |some _=>simp at hp
 |.KR _ _ _ _,hp=>by simp[AO] at hp
 |.Wr _,hp=>by simp[AO] at hp
 |.fn f a c,hp=>by
  simp only[AO,Bool.and_eq_true] at hp;rw[strip,Aw n h a hp.1,Aw n h c hp.2]
 |.HO,_=>rfl
 |.iface t v,hp=>by rw[strip,It n h v (by simpa[AO] using hp)]
 |.JX,_=>rfl
 |.agg cs,hp=>by rw[strip,Aw n h cs (by simpa[AO] using hp)]
 |.tup cs,hp=>by rw[strip,Aw n h cs (by simpa[AO] using hp)]
 |.C9 cs,hp=>by rw[strip,Aw n h cs (by simpa[AO] using hp)]
 |.CM ..,hp=>by simp[AO] at hp
 |.Bf ..,hp=>by simp[AO] at hp
 |.Gw ..,hp=>by simp[AO] at hp
 |.PD ks vs,hp=>by rw[strip,As n h vs (by simpa[AO] using hp)]
theorem Aw (n:Nat)(h:Hp):∀xs,AO.Ad xs=true->AQ n h xs=xs
 |[],_=>rfl
 |x::xs,hp=>by
  simp only[AO.Ad,Bool.and_eq_true] at hp;rw[AQ,It n h x hp.1,Aw n h xs hp.2]
theorem As (n:Nat)(h:Hp):∀xs,AO.BJ xs=true->AE n h xs=xs
 |[],_=>rfl
 |x::xs,hp=>by
  simp only[AO.BJ,Bool.and_eq_true] at hp;rw[AE,Aw n h x hp.1,As n h xs hp.2]
end
theorem BO (n:Nat)(h:Hp):∀xs:List AV,(AQ n h xs).length=xs.length
 |[]=>rfl
 |x::xs=>by rw[AQ,List.length_cons,List.length_cons,BO n h xs]
theorem CO (n:Nat)(h:Hp):∀xs:List (List AV),(AE n h xs).length=xs.length
 |[]=>rfl
 |x::xs=>by rw[AE,List.length_cons,List.length_cons,CO n h xs]
theorem HI (n:Nat)(h:Hp):∀(xs:List AV) (j:Nat),(AQ n h xs)[j]?=(xs[j]?).map (strip n h)
 |[],j=>by simp[AQ]
 |x::xs,0=>by simp[AQ]
 |x::xs,j+1=>by simpa[AQ] using HI n h xs j
theorem Gk (n:Nat)(h:Hp):∀(xs:List (List AV)) (sz:Nat),(∀e∈xs,e.length=sz)->∀e∈AE n h xs,e.length=sz
 |[],_,_,e,he=>by simp[AE] at he
 |x::xs,sz,hl,e,he=>by
  rw[AE] at he
  rcases List.mem_cons.1 he with rfl|he
  ·rw[BO];exact hl x (by simp)
  ·exact Gk n h xs sz (fun e he=>hl e (by simp[he])) e he
theorem Db (n:Nat)(h:Hp):∀xs:List (List AV),AE n h xs=xs.map (AQ n h)
 |[]=>rfl
 |x::xs=>by rw[AE,List.map_cons,Db n h xs]
theorem M7 (n:Nat)(h:Hp):∀xs:List AV,AQ n h xs=xs.map (strip n h)
 |[]=>rfl
 |x::xs=>by rw[AQ,List.map_cons,M7 n h xs]
theorem Ov (n:Nat)(h:Hp)(xs:List (List AV)):AE n h xs.reverse=(AE n h xs).reverse:=by
 rw[Db,Db,List.map_reverse]
theorem Ow (n:Nat)(h:Hp)(xs:List (List AV)):AQ n h xs.flatten=(AE n h xs).flatten:=by
 rw[Db,M7,List.map_flatten]
 congr 1
 apply List.map_congr_left;intro r _;rw[M7]
theorem P6 (n:Nat)(h:Hp){xs:List (List AV)}(BM:AE n h xs≠[]):xs≠[]:=by
 rintro rfl
 exact BM rfl
structure Cut (n:Nat) (h0:Hp) (E E':Env):Prop where
 w:E'.w=E.w
 B:∀(id:Nat),id<n->E'.B=E.B
 st:∀b o v,E.w.cell? ⟨b,o,none⟩=some v->EI E b o->EI E' b o
 mem:∀(id:Nat) t cs,id<n->E.h[id]?=some (.mem t cs)->∃Gh,E'.h[id]?=some (.mem t Gh)/\Gh.length=cs.length
 σ:∀(id:Nat),id<n->E'.σ id=E.σ id
 len:n<=E'.h.length
 grow:∀(id:Nat) m sz e,id<n->E'.h[id]?=some (.grow m sz e)->E.h[id]?=some (.grow m sz e)
 iter:∀(id:Nat) s p,id<n->E.h[id]?=some (.iter s p)->E'.h[id]?=some (.iter s p)
 Bi:∀(id:Nat) g t sz kc ke ksz rows,id<n->E'.h[id]?=some (.Bi g t sz kc ke ksz rows)->∃Bd,E.h[id]?=some (.Bi g t sz kc ke ksz Bd)/\Bd.map (·.1)=rows.map (·.1)
 A:∀(id:Nat),id<n->∀g x,E.A g=some x->(x.1<4->∀t cs,E.h[x.1]?≠some (.mem t cs))->E'.A g=some x
 out:∀(b:Nat) t cs,n<=b->h0[b]?=some (.mem t cs)->E.h[b]?=some (.mem t cs)/\∀g,E.σ b=some g->∀(j:Nat) x,cs[j]?=some x->∃v,E.w.cell? ⟨g,j,none⟩=some v/\v.oneCell'=true/\Rel E x v/\EI E' g j
theorem T6 {w:World}{a:Addr}{v:Value}(h:w.cell? a=some v):a.spot=none:=by
 unfold World.cell? at h;split at h
 ·cases HT:a.spot with
  |none=>rfl
  |some _=>simp[HT] at h
 ·cases h
mutual
theorem Rel.cut {n:Nat}{h0:Hp}{E E':Env}(K:Cut n h0 E E'):∀(x:AV) (v:Value),Rel E x v->Rel E' (strip n h0 x) v
 |.top,_,_=>trivial
 |.bool _,_,h=>h
 |.int _ _,_,h=>h
 |.str _,_,h=>h
 |.Gb,_,h=>h
 |.ptr b o,v,h=>by
  rw[strip]
  cases hb:Nat.blt b n with
  |false=>trivial
  |true=>
   have BC:b<n:=Nat.le_of_ble_eq_true hb;obtain⟨t,cs,g,h1,h2,h3⟩:=h;obtain⟨Gh,k1,_⟩:=K.mem b t cs BC h1;exact⟨t,Gh,g,k1,(K.σ b BC).trans h2,h3⟩
 |.ro cs,v,h=>by
  obtain⟨a,h1,h2⟩:=h;exact⟨a,h1,At.cut K cs a h2⟩
 |.sl sz es own,v,h=>by
  obtain⟨⟨A,cap,h1,h2,h3,h4,h5⟩,ht⟩:=h;rw[Ck]
  refine⟨⟨A,cap,by rw[CO];exact h1,by rw[CO];exact h2,h3,Gk n h0 es sz h4,fun BM=> ?_⟩,?_⟩
  ·obtain⟨a,ha,hr⟩:=h5 (P6 n h0 BM);exact⟨a,ha,Rows.cut K es a hr⟩
  ·cases own with
   |none=>trivial
   |some id=>
    simp only[Ct]
    cases hb:Nat.blt id n with
    |false=>trivial
    |true=>
     have BC:id<n:=Nat.le_of_ble_eq_true hb
     refine⟨Nat.lt_of_lt_of_le BC K.len,fun m EB e hg=> ?_⟩
     obtain⟨k1,k2⟩:=ht.2 m EB e (K.grow id m EB e BC hg);rw[CO]
     refine⟨k1,fun hn=> ?_⟩
     obtain⟨q1,q2,q3⟩:=k2 hn;refine⟨q1,?_,q3.trans (K.σ id BC).symm⟩;rw[K.w,K.B id BC];exact q2
 |.KR b off len sz,v,h=>by
  rw[strip]
  cases hb:Nat.blt b n with
  |false=>trivial
  |true=>
   have BC:b<n:=Nat.le_of_ble_eq_true hb;obtain⟨t,cs,g,cap,h1,h2,h3,h4,h5,h6⟩:=h;obtain⟨Gh,k1,k2⟩:=K.mem b t cs BC h1
   exact⟨t,Gh,g,cap,k1,(K.σ b BC).trans h2,h3,h4,h5,by rw[k2];exact h6⟩
 |.Wr b,v,h=>by
  rw[strip]
  cases hb:Nat.blt b n with
  |false=>trivial
  |true=>
   have BC:b<n:=Nat.le_of_ble_eq_true hb;obtain⟨s,p,g,h1,h2,h3⟩:=h;exact⟨s,p,g,K.iter b s p BC h1,(K.σ b BC).trans h2,h3⟩
 |.CM b g d sz len,v,h=>by
  rw[strip]
  cases hb:Nat.blt b n with
  |false=>trivial
  |true=>
   have BC:b<n:=Nat.le_of_ble_eq_true hb;obtain⟨a,cap,h1,h2,h3,h4,h5⟩:=h
   refine⟨a,cap,h1,h2,h3,Nat.lt_of_lt_of_le BC K.len,fun g' t EB kc ke ksz rows hg=> ?_⟩
   obtain⟨Bd,k1,k2⟩:=K.Bi b g' t EB kc ke ksz rows BC hg
   have k2:Bd.length=rows.length:=by simpa using congrArg List.length k2
   obtain⟨q1,q2⟩:=h5 g' t EB kc ke ksz Bd k1
   refine⟨q1,fun e=> ?_⟩
   obtain⟨s1,s2,k,s3,s4,s5⟩:=q2 e
   exact⟨s1.trans k2,s2,k,(K.σ b BC).trans s3,s4,by rw[K.w];exact s5⟩
 |.Bf b g d o,v,h=>by
  rw[strip]
  cases hb:Nat.blt b n with
  |false=>trivial
  |true=>
   have BC:b<n:=Nat.le_of_ble_eq_true hb;obtain⟨a,h1,h4,h5⟩:=h
   refine⟨a,h1,Nat.lt_of_lt_of_le BC K.len,fun g' t EB kc ke ksz rows hg=> ?_⟩
   obtain⟨Bd,k1,k2⟩:=K.Bi b g' t EB kc ke ksz rows BC hg
   have k2:Bd.length=rows.length:=by simpa using congrArg List.length k2
   obtain⟨q1,q2⟩:=h5 g' t EB kc ke ksz Bd k1
   refine⟨q1,fun e hd=> ?_⟩
   obtain⟨k,s3,s4⟩:=q2 e (by omega)
   exact⟨k,(K.σ b BC).trans s3,by rw[s4,k2]⟩
 |.Gw b g d sz es,v,h=>by
  obtain⟨⟨A,cap,h1,h2,h3,h4,h5⟩,ht⟩:=h
  have base:Rel E' (.sl sz (AE n h0 es) none) v:=by
   refine⟨⟨A,cap,by rw[CO];exact h1,by rw[CO];exact h2,h3,Gk n h0 es sz h4,fun BM=> ?_⟩,trivial⟩
   obtain⟨a,ha,hr⟩:=h5 (P6 n h0 BM);exact⟨a,ha,Rows.cut K es a hr⟩
  rw[strip]
  cases hb:Nat.blt b n with
  |false=>trivial
  |true=>
   have BC:b<n:=Nat.le_of_ble_eq_true hb
   refine⟨base.1,Nat.lt_of_lt_of_le BC K.len,fun g' t EB kc ke ksz rows hg=> ?_⟩
   obtain⟨Bd,k1,k2⟩:=K.Bi b g' t EB kc ke ksz rows BC hg
   have kl:Bd.length=rows.length:=by simpa using congrArg List.length k2
   obtain⟨q1,q2⟩:=ht.2 g' t EB kc ke ksz Bd k1
   refine⟨q1,fun e r hr=> ?_⟩
   have hd:d<Bd.length:=by rw[kl];exact(List.getElem?_eq_some_iff.1 hr).1
   have bG:Bd[d]?=some Bd[d]:=List.getElem?_eq_getElem hd
   have e1:Bd[d].1=r.1:=by
    have:=congrArg (·[d]?) k2;simp only[List.getElem?_map,bG,hr,Option.map_some,Option.some.injEq] at this;exact this
   obtain⟨t1,t2⟩:=q2 e _ bG;rw[CO,<-e1,<-kl]
   refine⟨t1,fun hl=> ?_⟩
   obtain⟨u1,⟨xs,u2⟩,u3⟩:=t2 hl
   exact⟨u1,⟨xs,by rw[K.w,K.B b BC];exact u2⟩,fun g hg=>K.A b BC g _ (u3 g hg) fun _ t1 zU h1=>by simp only at h1;rw[h1] at k1;cases k1⟩
 |.PD ks vs,v,h=>by
  obtain⟨r,es,clock,h1,h2,h3,h4⟩:=h
  exact⟨r,es,clock,h1,by rw[K.w];exact h2,h3,OC.cut K vs _ h4⟩
 |.fn f first cap,v,h=>by
  obtain⟨a,b,h1,h2,h3⟩:=h
  exact⟨a,b,h1,BT.cut K first _ h2,BT.cut K cap _ h3⟩
 |.C9 _,_,_=>trivial
 |.HO,_,h=>h
 |.iface t x,v,h=>by
  obtain⟨y,h1,h2⟩:=h;exact⟨y,h1,Rel.cut K x y h2⟩
 |.JX,_,h=>h
 |.agg cs,v,h=>by
  obtain⟨a,h1,h2⟩:=h;exact⟨a,h1,Ae.cut K cs _ h2⟩
 |.tup cs,v,h=>by
  obtain⟨a,h1,h2⟩:=h;exact⟨a,h1,BT.cut K cs _ h2⟩
theorem OC.cut {n:Nat}{h0:Hp}{E E':Env}(K:Cut n h0 E E'):∀(xs:List (List AV)) (es:List Value),OC E xs es->OC E' (AE n h0 xs) es
 |[],_,h=>h
 |v::vs,es,h=>by
  obtain⟨a,r,h1,h2,h3⟩:=h;exact⟨a,r,h1,Ae.cut K v _ h2,OC.cut K vs r h3⟩
theorem BT.cut {n:Nat}{h0:Hp}{E E':Env}(K:Cut n h0 E E'):∀(xs:List AV) (vs:List Value),BT E xs vs->BT E' (AQ n h0 xs) vs
 |[],_,h=>h
 |c::cs,vs,h=>by
  obtain⟨v,r,h1,h2,h3⟩:=h;exact⟨v,r,h1,Rel.cut K c v h2,BT.cut K cs r h3⟩
theorem Ae.cut {n:Nat}{h0:Hp}{E E':Env}(K:Cut n h0 E E'):∀(xs:List AV) (vs:List Value),Ae E xs vs->Ae E' (AQ n h0 xs) vs
 |[],_,h=>h
 |c::cs,vs,h=>by
  obtain⟨v,r,h1,h0',h2,h3⟩:=h;exact⟨v,r,h1,h0',Rel.cut K c v h2,Ae.cut K cs r h3⟩
theorem At.cut {n:Nat}{h0:Hp}{E E':Env}(K:Cut n h0 E E'):∀(xs:List AV) (a:Addr),At E xs a->At E' (AQ n h0 xs) a
 |[],_,_=>trivial
 |c::cs,a,h=>by
  obtain⟨⟨v,h1,h2,h3,h4⟩,h5⟩:=h
  refine⟨⟨v,by rw[K.w];exact h1,h2,?_,Rel.cut K c v h4⟩,At.cut K cs _ h5⟩
  have HT:=T6 h1;obtain⟨ab,ao,zj⟩:=a;simp only at HT;subst HT;exact K.st ab ao v h1 h3
theorem Rows.cut {n:Nat}{h0:Hp}{E E':Env}(K:Cut n h0 E E'):∀(xs:List (List AV)) (a:Addr),Rows E xs a->Rows E' (AE n h0 xs) a
 |[],_,_=>trivial
 |e::es,a,h=>⟨At.cut K e a h.1,by rw[BO];exact Rows.cut K es _ h.2⟩
end
theorem fY {E E':Env}{x:AV}{v:Value}(hx:bh x=true)(h:Rel E x v):Rel E' x v:=by
 cases x<;>first|exact h|simp[bh] at hx
theorem Rel.yB {n:Nat}{h0:Hp}{E E':Env}(K:Cut n h0 E E'){b off len sz:Nat}{v:Value}(hb:n<=b)(h:Rel E (.KR b off len sz) v):Rel E' (Bh h0 b off len sz) v:=by
 unfold Bh;split
 ·rename_i t cs hm
  cases hc:(Nat.beq sz 1&&((cs.drop off).take len).all bh) with
  |false=>trivial
  |true=>
   rw[Bool.and_eq_true] at hc;obtain⟨CD,o7⟩:=hc;obtain rfl:=Nat.eq_of_beq_eq_true CD;obtain⟨hE,DY⟩:=K.out b t cs hb hm;obtain⟨t',Gh,g,cap,h1,h2,h3,h4,h5,h6⟩:=h;rw[hE] at h1
   injection h1 with h1
   injection h1 with _ h1
   subst h1
   have hl:((cs.drop off).take len).length=len:=by simp;omega
   refine⟨⟨some ⟨g,off,none⟩,cap,by rw[List.length_map,hl];exact h3,by rw[List.length_map,hl];exact h4,h5,fun e he=> ?_,fun _=>⟨_,rfl,?_⟩⟩,trivial⟩
   ·obtain⟨c,_,rfl⟩:=List.mem_map.1 he;rfl
   ·have hf:(((cs.drop off).take len).map fun c=>[c]).flatten=(cs.drop off).take len:=by
     induction ((cs.drop off).take len) with
     |nil=>rfl
     |cons x r ih=>simp[ih]
    rw[Rows.iff,hf,At.iff];intro j x hx
    have hj:j<len:=by
     have:=(List.getElem?_eq_some_iff.1 hx).1;omega
    have KW:cs[off+j]?=some x:=by
     rw[List.getElem?_take_of_lt hj,List.getElem?_drop] at hx;exact hx
    obtain⟨u,q1,q2,q3,q4⟩:=DY g h2 (off+j) x KW;refine⟨u,?_,q2,q4,fY (List.all_eq_true.1 o7 x (List.mem_of_getElem? hx)) q3⟩;rw[K.w]
    have:(⟨g,off,none⟩:Addr).add j=⟨g,off+j,none⟩:=by
     unfold Addr.add
     by_cases h0:j=0<;>simp[h0]
    rw[this];exact q1
 ·trivial
theorem Rel.mT {n:Nat}{h0:Hp}{E E':Env}(K:Cut n h0 E E')(x:AV)(v:Value)(h:Rel E x v):Rel E' (Lp n h0 x) v:=by
 cases x with
 |KR b off len sz=>
  simp only[Lp]
  cases hb:Nat.blt b n with
  |true=>
   have:=Rel.cut K _ v h
   rwa [strip,hb] at this
  |false=>exact Rel.yB K (by
    rcases Nat.lt_or_ge b n with h1|h1
    ·have:Nat.blt b n=true:=Nat.ble_eq_true_of_le h1;rw[hb] at this;cases this
    ·exact h1) h
 |_=>exact Rel.cut K _ v h
theorem BT.Zg {n:Nat}{h0:Hp}{E E':Env}(K:Cut n h0 E E'):∀(xs:List AV) (vs:List Value),BT E xs vs->BT E' (xs.map (Lp n h0)) vs
 |[],_,h=>h
 |c::cs,vs,h=>by
  obtain⟨v,r,h1,h2,h3⟩:=h;exact⟨v,r,h1,Rel.mT K c v h2,BT.Zg K cs r h3⟩
theorem Rel.Zg {n:Nat}{h0:Hp}{E E':Env}(K:Cut n h0 E E')(x:AV)(v:Value)(h:Rel E x v):Rel E' (stripR n h0 x) v:=by
 cases x with
 |tup cs=>
  obtain⟨a,h1,h2⟩:=h;exact⟨a,h1,BT.Zg K cs _ h2⟩
 |_=>exact Rel.mT K _ v h
def fresh (E:Env):Env:={B:=E.w.heap.size,U:=fun b o=>b<E.w.heap.size/\¬EI E b o,w:=E.w,σ:=fun _=>none,h:=[],A:=fun _=>none}
theorem Re :Cut 0 [] E (fresh E):=
 ⟨rfl,fun _ h=>absurd h (Nat.not_lt_zero _),fun b o v _ hs=>⟨⟨fun hu=>hu.2 hs,fun _ _ _ h=>(by cases h)⟩,fun id x hx=>by simp[fresh] at hx⟩,fun _ _ _ h=>absurd h (Nat.not_lt_zero _),fun _ h=>absurd h (Nat.not_lt_zero _),Nat.zero_le _,
  fun _ _ _ _ h=>absurd h (Nat.not_lt_zero _),fun _ _ _ h=>absurd h (Nat.not_lt_zero _),fun _ _ _ _ _ _ _ _ h=>absurd h (Nat.not_lt_zero _),fun _ h=>absurd h (Nat.not_lt_zero _),fun b t cs _ h=>by simp at h⟩
theorem Qp {t:TypeId}{cs:List AV}{b:Nat}(H:Good G I B0 E)(hb:E.h[b]?=some (.mem t cs)){g:Nat}(hg:E.σ b=some g):E.B<=g/\∀(j:Nat) x,cs[j]?=some x->∃v,E.w.cell? ⟨g,j,none⟩=some v/\v.oneCell'=true/\Rel E x v:=by
 obtain⟨g',c,fr,h1,h2,h3,h4,h5,h6⟩:=H.Ld b _ hb;rw[hg] at h1
 injection h1 with h1
 subst h1
 refine⟨h2,fun j x hx=> ?_⟩
 obtain⟨v,k1,k2,k3⟩:=h6 j x hx;refine⟨v,?_,k2,k3⟩;simp only[World.cell?,h3];exact k1
theorem VH (H:Good G I B0 E)(h0:Hp){E':Env}(hU:E'.U=(fresh E).U)(hh:h0=[]\/(h0=E'.h/\Good G I B0 E'/\E'.B=E.w.heap.size)):Cut 0 h0 E' {E with w:=E'.w}:=by
 have high:∀b o,E.w.heap.size<=b->EI {E with w:=E'.w} b o:=fun b o hb=>by
  refine⟨⟨fun hu=> ?_,fun q i m hq=> ?_⟩,fun id x hx hσ=> ?_⟩
  ·have:=H.U b o hu;have:=H.size;omega
  ·have:=(H.ar b q i m hq).2.1;omega
  ·by_cases hd:x=.dead
   ·exact .inl hd
   ·have wB:E.σ id=some b:=hσ;have:=(H.lt hx hd wB).2;omega
 refine⟨rfl,fun _ h=>absurd h (Nat.not_lt_zero _),fun b o v _ hs=> ?_,fun _ _ _ h=>absurd h (Nat.not_lt_zero _),fun _ h=>absurd h (Nat.not_lt_zero _),Nat.zero_le _,
  fun _ _ _ _ h=>absurd h (Nat.not_lt_zero _),fun _ _ _ h=>absurd h (Nat.not_lt_zero _),fun _ _ _ _ _ _ _ _ h=>absurd h (Nat.not_lt_zero _),fun _ h=>absurd h (Nat.not_lt_zero _),fun b t cs _ hb=> ?_⟩
 rotate_left
 ·rcases hh with rfl|⟨rfl,H',hB⟩
  ·simp at hb
  ·refine⟨hb,fun g hg j x hx=> ?_⟩
   obtain⟨k0,k1⟩:=Qp H' hb hg;obtain⟨v,q1,q2,q3⟩:=k1 j x hx
   exact⟨v,q1,q2,q3,high g j (by omega)⟩
 have h1:=hs.1;rw[hU] at h1
 by_cases hb:b<E.w.heap.size
 ·have:EI E b o:=Classical.byContradiction fun hn=>h1.1 ⟨hb,hn⟩
  exact this
 ·exact high b o (by omega)
theorem I8 (H:Good G I B0 E)(hG:∀g cs,G g=some cs->AO.Ad cs=true):Good G I B0 (fresh E):=by
 refine⟨fun id x hx=>by simp[fresh] at hx,fun i j x y g hi=>by simp[fresh] at hi,fun g cs hg=> ?_,fun b o hu=>hu.1,fun _ _ _ _ h=>(by cases h),Nat.le_refl _,Nat.le_trans H.B0 H.size,H.I⟩
 have:=At.cut (Re (E:=E)) cs _ (H.Fc g cs hg)
 rwa [Aw 0 [] cs (hG g cs hg)] at this
theorem E8 {n:Nat}{h:Hp}{x:Blk}{m sz:Nat}{e:TypeId}(hx:AN n h x=.grow m sz e):x=.grow m sz e:=by
 cases x<;>simp_all[AN]
theorem HJ {n:Nat}{h:Hp}{x:Blk}{g t sz kc ke ksz:Nat}{rows:List (Nat×List AV)}(hx:AN n h x=.Bi g t sz kc ke ksz rows):∃Bd,x=.Bi g t sz kc ke ksz Bd/\rows=Bd.map fun r=>(r.1,AQ n h r.2):=by
 cases x<;>simp_all[AN]
theorem Bb {n:Nat}{h:Hp}{x:Blk}:AN n h x=.dead↔x=.dead:=by
 cases x<;>simp[AN]
theorem QA (H:Good G I B0 E){E':Env}(S:Step G I B0 E E')(hG:∀g cs,G g=some cs->AO.Ad cs=true){n0:Nat}(SF:E.h.length<=n0)(JZ:n0<=E'.h.length):
  Cut n0 E'.h E' {E' with h:=(E'.h.take n0).map (AN n0 E'.h)}/\Step G I B0 E {E' with h:=(E'.h.take n0).map (AN n0 E'.h)}:=by
 have hl:=S.le.len
 have FN:∀(id:Nat) y,((E'.h.take n0).map (AN n0 E'.h))[id]?=some y->∃x,id<n0/\E'.h[id]?=some x/\y=AN n0 E'.h x:=by
  intro id y hy;rw[List.getElem?_map] at hy
  have hid:id<n0:=by
   rcases Nat.lt_or_ge id n0 with h|h
   ·exact h
   ·rw[List.getElem?_eq_none (by simp;omega)] at hy
    cases hy
  rw[List.getElem?_take_of_lt hid] at hy
  cases hx:E'.h[id]? with
  |none=>rw[hx] at hy;cases hy
  |some x=>
   rw[hx] at hy
   injection hy with hy
   exact⟨x,hid,rfl,hy.symm⟩
 have W6:∀(id:Nat) x,id<n0->E'.h[id]?=some x->((E'.h.take n0).map (AN n0 E'.h))[id]?=some (AN n0 E'.h x):=by
  intro id x hid hx;rw[List.getElem?_map,List.getElem?_take_of_lt hid,hx];rfl
 have DH:∀b o,EI E' b o->EI {E' with h:=(E'.h.take n0).map (AN n0 E'.h)} b o:=by
  intro b o hs
  refine⟨hs.1,fun id y hy hσ=> ?_⟩
  obtain⟨x,_,hx,rfl⟩:=FN id y hy
  rcases hs.2 id x hx hσ with rfl|⟨n,sz,e,rfl,ho⟩
  ·exact .inl rfl
  ·exact .inr ⟨n,sz,e,rfl,ho⟩
 have K:Cut n0 E'.h E' {E' with h:=(E'.h.take n0).map (AN n0 E'.h)}:=by
  refine⟨rfl,fun _ _=>rfl,fun b o v _=>DH b o,fun id t cs hid hm=>⟨_,W6 id _ hid hm,BO _ _ _⟩,fun _ _=>rfl,?_,fun id m sz e hid hg=> ?_,fun id s p hid hm=>W6 id _ hid hm,fun id g t sz kc ke ksz rows hid hm=> ?_,fun _ _ _ _ h _=>h,fun b t cs hb hm=>⟨hm,fun g hg j x hx=> ?_⟩⟩
  ·simp;omega
  ·obtain⟨x,_,hx,hy⟩:=FN id _ hg;rw[hx,E8 hy.symm]
  ·obtain⟨x,_,hx,hy⟩:=FN id _ hm;obtain⟨Bd,h1,h2⟩:=HJ hy.symm
   exact⟨Bd,by rw[hx,h1],by rw[h2,List.map_map];rfl⟩
  ·obtain⟨k0,k1⟩:=Qp S.Co hm hg;obtain⟨v,q1,q2,q3⟩:=k1 j x hx
   refine⟨v,q1,q2,q3,⟨fun hu=> ?_,fun q i m hq=> ?_⟩,fun id y hy hσ=> ?_⟩
   ·have:=S.Co.U _ _ hu;omega
   ·exact absurd rfl (Hd S.Co hm (by simp) hg _ _ hq)
   ·obtain⟨z,hid,hz,rfl⟩:=FN id y hy
    by_cases hd:z=.dead
    ·exact .inl (by rw[hd];rfl)
    ·have:=S.Co.inj id b z _ g hz hm hd (by simp) hσ hg
     omega
 have H':=S.Co
 refine⟨K,⟨⟨S.le.B,fun a v h s=> ?_,by simp;omega,fun id t cs h=> ?_,fun id n sz e hi h=> ?_,fun id s p h=> ?_,fun id g t sz kc ke ksz rows hi h=> ?_,S.le.maps⟩,⟨fun id y hy=> ?_,fun i j x y g hi hj hx hy D8 Fo=> ?_,fun g cs hg=> ?_,H'.U,fun g o i m hq=>by
  obtain⟨a1,a2,a3⟩:=H'.ar g o i m hq
  refine⟨a1,a2,fun j y hy hd=> ?_⟩
  obtain⟨x,_,hx,rfl⟩:=FN j y hy
  exact a3 j x hx (fun e=>hd (Bb.2 e)),H'.size,H'.B0,H'.I⟩,S.U,S.below,fun g h1 h2 h3=>by
   obtain⟨a1,a2,a3⟩:=S.own g h1 h2 h3;refine⟨a1,?_,a3⟩
   rintro(⟨id,y,hy,hd,hs⟩|⟨id,i,m,hA,BM⟩)
   ·obtain⟨x,_,hx,rfl⟩:=FN id y hy
    exact a2 (.inl ⟨id,x,hx,fun e=>hd (Bb.2 e),hs⟩)
   ·refine h3 (.inr ⟨id,i,m,a3▸hA,fun e t cs h0=> ?_⟩)
    have BC:=(List.getElem?_eq_some_iff.1 h0).1;obtain⟨Gh,k1,_,_⟩:=S.le.mem id t cs h0
    exact BM e t _ (W6 id _ (by omega) k1)⟩⟩
 ·obtain⟨k1,k2⟩:=S.le.cells a v h s;exact⟨k1,DH _ _ k2⟩
 ·have hid:=Nat.lt_of_lt_of_le (List.getElem?_eq_some_iff.1 h).1 SF;obtain⟨Gh,k1,k2,k3⟩:=S.le.mem id t cs h;exact⟨_,W6 id _ hid k1,(BO _ _ _).trans k2,k3⟩
 ·obtain⟨x,_,hx,hy⟩:=FN id _ h;rw[E8 hy.symm] at hx;exact S.le.grow id n sz e hi hx
 ·have hid:=Nat.lt_of_lt_of_le (List.getElem?_eq_some_iff.1 h).1 SF;obtain⟨p',k1,k2⟩:=S.le.iter id s p h;exact⟨p',W6 id _ hid k1,k2⟩
 ·obtain⟨x,_,hx,hy⟩:=FN id _ h;obtain⟨Bd,h1,h2⟩:=HJ hy.symm;rw[h1] at hx;obtain⟨g0,r0,k1,k2,k3⟩:=S.le.Bi id g t sz kc ke ksz Bd hi hx
  have hl:Bd.length=rows.length:=by rw[h2,List.length_map]
  refine⟨g0,r0,k1,k2,fun e=> ?_⟩
  obtain⟨a1,a2,a3,a4⟩:=k3 e
  refine⟨a1.trans hl,a2,a3,fun d r q hr hq=> ?_⟩
  have hd:d<Bd.length:=by rw[hl];exact(List.getElem?_eq_some_iff.1 hr).1
  have bG:Bd[d]?=some Bd[d]:=List.getElem?_eq_getElem hd
  have e1:r.1=Bd[d].1:=by
   rw[h2,List.getElem?_map,bG] at hr
   injection hr with hr
   rw[<-hr]
  obtain⟨b1,b2⟩:=a4 d _ q bG hq;rw[e1,<-hl];exact⟨b1,b2⟩
 ·obtain⟨x,hid,hx,rfl⟩:=FN id y hy;have h:=H'.Ld id x hx
  cases x with
  |mem t cs=>
   obtain⟨g,c,fr,h1,h2,h3,h4,h5,h6⟩:=h
   refine⟨g,c,fr,h1,h2,h3,by rw[BO];exact h4,fun j hj=>h5 j (by rwa [BO] at hj),fun j z hz=> ?_⟩
   rw[HI] at hz
   cases dN:cs[j]? with
   |none=>rw[dN] at hz;cases hz
   |some x=>
    rw[dN] at hz
    injection hz with hz
    obtain⟨v,k1,k2,k3⟩:=h6 j x dN;exact⟨v,k1,k2,hz▸Rel.cut K x v k3⟩
  |grow n sz e=>exact h
  |dead=>trivial
  |iter s p=>exact h
  |Bi n1 t1 H6 kc ke ksz rows=>
   obtain⟨g,c,h1,h2,h3,h4,h5,h6,h7,h8⟩:=h
   have hm:((rows.map fun r=>(r.1,AQ n0 E'.h r.2)).map (·.2)).reverse.flatten=AQ n0 E'.h (rows.map (·.2)).reverse.flatten:=by
    rw[Ow,Ov,Db,List.map_map,List.map_map];rfl
   refine⟨g,c,h1,h2,h3,h4,fun r hr=> ?_,by rw[List.length_map];exact h6,fun j z hz=> ?_,fun d r v s es own k1 k2 k3=> ?_⟩
   ·obtain⟨r0,bG,rfl⟩:=List.mem_map.1 hr;rw[BO];exact h5 r0 bG
   ·rw[hm,HI] at hz
    cases dN:(rows.map (·.2)).reverse.flatten[j]? with
    |none=>rw[dN] at hz;cases hz
    |some x=>
     rw[dN] at hz
     injection hz with hz
     obtain⟨v,k1,k2,k3⟩:=h7 j x dN;exact⟨v,k1,k2,hz▸Rel.cut K x v k3⟩
   ·rw[List.length_map] at k3⊢;rw[List.getElem?_map] at k1
    cases JN:rows[d]? with
    |none=>rw[JN] at k1;cases k1
    |some r0=>
     rw[JN] at k1
     injection k1 with k1
     subst k1;simp only at k2⊢;rw[HI] at k2
     cases kq:r0.2[kc]? with
     |none=>rw[kq] at k2;cases k2
     |some x=>
      rw[kq] at k2
      injection k2 with k2
      cases x with
      |sl s0 es0 WC=>
       rw[Ck] at k2
       injection k2 with e1 e2 e3
       obtain⟨q0,q1,q2⟩:=h8 d r0 v s0 es0 WC JN kq k3;rw[<-e2,CO,<-e1]
       refine⟨by rw[<-e3,q0];rfl,q1,q2⟩
      |ptr b o=>simp only[strip] at k2;cases hb:Nat.blt b n0<;>rw[hb] at k2<;>cases k2
      |KR b o l z=>simp only[strip] at k2;cases hb:Nat.blt b n0<;>rw[hb] at k2<;>cases k2
      |Wr b=>simp only[strip] at k2;cases hb:Nat.blt b n0<;>rw[hb] at k2<;>cases k2
      |CM b g d z l=>simp only[strip] at k2;cases hb:Nat.blt b n0<;>rw[hb] at k2<;>cases k2
      |Bf b g d z=>simp only[strip] at k2;cases hb:Nat.blt b n0<;>rw[hb] at k2<;>cases k2
      |Gw b g d z l=>simp only[strip] at k2;cases hb:Nat.blt b n0<;>rw[hb] at k2<;>cases k2
      |_=>simp only[strip] at k2;cases k2
 ·obtain⟨x0,_,JM,rfl⟩:=FN i x hi;obtain⟨y0,_,Y5,rfl⟩:=FN j y hj
  exact H'.inj i j x0 y0 g JM Y5 (fun e=>hx (Bb.2 e)) (fun e=>hy (Bb.2 e)) D8 Fo
 ·have:=At.cut K cs _ (H'.Fc g cs hg)
  rwa [Aw _ _ cs (hG g cs hg)] at this
theorem NB (H:Good G I B0 E){E':Env}(S:Step G I B0 E E')(hG:∀g cs,G g=some cs->AO.Ad cs=true):
  Cut E.h.length E'.h E' {E' with h:=(E'.h.take E.h.length).map (AN E.h.length E'.h)}/\Step G I B0 E {E' with h:=(E'.h.take E.h.length).map (AN E.h.length E'.h)}:=QA H S hG (Nat.le_refl _) S.le.len
end
end Go.Ai
