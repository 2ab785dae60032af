/-
  Calls: how values go into a callee's environment, and out of it.
-/
import Derived.Test.YtopjpnhgnopbiaaGreatDoorLAiAll
set_option linter.unusedVariables false
set_option linter.unusedSimpArgs false
set_option linter.unnecessarySimpa false
namespace Go.Ai
open Go.RowKit
section
variable {G:Nat->Option (List AV)}{I:World->Prop}{B0:Nat}{E:Env}
theorem Jz (hI:∀w w',I w->Below B0 w w'->I w')(H:Good G I B0 E){w':World}(hw:Below E.w.heap.size E.w w'):Step G I B0 E {E with w:=w'}:=by
 have L:Le E {E with w:=w'}:=by
  refine⟨rfl,fun a v h s=>⟨(hw.cell (World.block_lt_of_cell? E.w a h)).trans h,s⟩,Nat.le_refl _,fun _ _ cs h=>⟨cs,h,rfl,rfl⟩,fun _ n _ _ _ h=>⟨n,h,Nat.le_refl _,fun _=>⟨rfl,fun v xs h _=> ?_⟩⟩,fun _ _ p h=>⟨p,h,rfl⟩,
   fun _ g _ _ _ _ _ rows _ h=>⟨g,rows,h,Nat.le_refl _,fun _=>⟨rfl,rfl,fun k _ _ h=>IW.of (fun hk=>hw.block k hk) h,Cl fun _ _ _ h=>h.kept rfl rfl (fun q _ _ hq=>hw.block q hq)⟩⟩,fun r _ _ h=>(hw.block r (Array.getElem?_eq_some_iff.1 h).1).trans h⟩
  refine⟨h.1,?_⟩
  rcases h.2 with h2|⟨g,cap,cur,h2,h3,h4,h5⟩
  ·exact .inl h2
  ·exact .inr ⟨g,cap,cur,h2,h3,(hw.block g (Array.getElem?_eq_some_iff.1 h4).1).trans h4,h5⟩
 refine⟨L,⟨fun id x hx=> ?_,H.inj,fun g cs hg=>At.mono L _ _ (H.Es g cs hg),H.U,fun g o i m h=>by
  obtain⟨a1,a2,a3⟩:=H.ar g o i m h
  exact⟨a1,Nat.lt_of_lt_of_le a2 hw.size,a3⟩,Nat.le_trans H.size hw.size,H.B0,hI _ _ H.I (hw.mono (Nat.le_trans H.B0 H.size))⟩,rfl,hw.mono H.size,Od fun g hg=>hw.block g hg⟩
 have h:=H.KS id x hx
 cases x with
 |mem t cs=>
  obtain⟨g,c,fr,h1,h2,h3,h4,h5,h6⟩:=h;have hg:=(Array.getElem?_eq_some_iff.1 h3).1
  refine⟨g,c,fr,h1,h2,(hw.block g hg).trans h3,h4,fun j hj=>(hw.frozen (p:=⟨g,j,none⟩) hg).trans (h5 j hj),fun j y hy=> ?_⟩
  obtain⟨v,k1,k2,k3⟩:=h6 j y hy;exact⟨v,k1,k2,Rel.mono L _ _ k3⟩
 |grow n sz e=>
  intro g hg;exact⟨(h g hg).1,Nat.lt_of_lt_of_le (h g hg).2 hw.size⟩
 |dead=>trivial
 |iter s p=>
  obtain⟨g,h1,h2,h3⟩:=h;exact⟨g,h1,h2,(hw.block g (Array.getElem?_eq_some_iff.1 h3).1).trans h3⟩
 |stk n1 t1 Gz kc ke ksz rows=>exact EB.stk L rfl rfl (fun g _ hg=>hw.block g hg) (fun _ _ _ h=>h.kept rfl rfl (fun q _ _ hq=>hw.block q hq)) h
def Aa :AV->Bool
 |.ptr .. |.IP .. |.UT .. |.CI .. |.BX .. |.F7 .. =>false
 |.NT _ vs=>BZ vs
 |.ro cs=>Ax cs
 |.sl _ es own=>own.isNone&&BZ es
 |.fn _ a c=>Ax a&&Ax c
 |.iface _ v=>Aa v
 |.agg cs=>Ax cs
 |.tup cs=>Ax cs
 |.Cs cs=>Ax cs
 |_=>true
where
 Ax:List AV->Bool
  |[]=>true
  |v::r=>Aa v&&Ax r
 BZ:List (List AV)->Bool
  |[]=>true
  |v::r=>Ax v&&BZ r
def Cj (n:Nat):Option Nat->Option Nat
 |some id=>bif Nat.blt id n then some id else none
 |none=>none
theorem Cd (n:Nat)(h:Hp)(sz:Nat)(es:List (List AV))(own:Option Nat):strip n h (.sl sz es own)=.sl sz (AB n h es) (Cj n own):=by
 cases own<;>rfl
mutual
theorem Hj (n:Nat)(h:Hp):∀x,Aa x=true->strip n h x=x
 |.top,_=>rfl
 |.bool _,_=>rfl
 |.int _ _,_=>rfl
 |.str _,_=>rfl
 |.HA,_=>rfl
 |.ptr _ _,hp=>by simp[Aa] at hp
 |.ro cs,hp=>by rw[strip,BL n h cs (by simpa[Aa] using hp)]
 |.sl sz es own,hp=>by
  simp only[Aa,Bool.and_eq_true] at hp;rw[Cd,BA n h es hp.2]
  cases own with
  |none=>rfl
  |some _=>simp at hp
 |.IP _ _ _ _,hp=>by simp[Aa] at hp
 |.UT _,hp=>by simp[Aa] at hp
 |.fn f a c,hp=>by
  simp only[Aa,Bool.and_eq_true] at hp;rw[strip,BL n h a hp.1,BL n h c hp.2]
 |.GX,_=>rfl
 |.iface t v,hp=>by rw[strip,Hj n h v (by simpa[Aa] using hp)]
 |.Ja,_=>rfl
 |.agg cs,hp=>by rw[strip,BL n h cs (by simpa[Aa] using hp)]
 |.tup cs,hp=>by rw[strip,BL n h cs (by simpa[Aa] using hp)]
 |.Cs cs,hp=>by rw[strip,BL n h cs (by simpa[Aa] using hp)]
 |.CI ..,hp=>by simp[Aa] at hp
 |.BX ..,hp=>by simp[Aa] at hp
 |.F7 ..,hp=>by simp[Aa] at hp
 |.NT ks vs,hp=>by rw[strip,BA n h vs (by simpa[Aa] using hp)]
theorem BL (n:Nat)(h:Hp):∀xs,Aa.Ax xs=true->AQ n h xs=xs
 |[],_=>rfl
 |x::xs,hp=>by
  simp only[Aa.Ax,Bool.and_eq_true] at hp;rw[AQ,Hj n h x hp.1,BL n h xs hp.2]
theorem BA (n:Nat)(h:Hp):∀xs,Aa.BZ xs=true->AB n h xs=xs
 |[],_=>rfl
 |x::xs,hp=>by
  simp only[Aa.BZ,Bool.and_eq_true] at hp;rw[AB,BL n h x hp.1,BA n h xs hp.2]
end
theorem BI (n:Nat)(h:Hp):∀xs:List AV,(AQ n h xs).length=xs.length
 |[]=>rfl
 |x::xs=>by rw[AQ,List.length_cons,List.length_cons,BI n h xs]
theorem CK (n:Nat)(h:Hp):∀xs:List (List AV),(AB n h xs).length=xs.length
 |[]=>rfl
 |x::xs=>by rw[AB,List.length_cons,List.length_cons,CK n h xs]
theorem GQ (n:Nat)(h:Hp):∀(xs:List AV) (j:Nat),(AQ n h xs)[j]?=(xs[j]?).map (strip n h)
 |[],j=>by simp[AQ]
 |x::xs,0=>by simp[AQ]
 |x::xs,j+1=>by simpa[AQ] using GQ n h xs j
theorem Fu (n:Nat)(h:Hp):∀(xs:List (List AV)) (sz:Nat),(∀e∈xs,e.length=sz)->∀e∈AB n h xs,e.length=sz
 |[],_,_,e,he=>by simp[AB] at he
 |x::xs,sz,hl,e,he=>by
  rw[AB] at he
  rcases List.mem_cons.1 he with rfl|he
  ·rw[BI];exact hl x (by simp)
  ·exact Fu n h xs sz (fun e he=>hl e (by simp[he])) e he
theorem DM (n:Nat)(h:Hp):∀xs:List (List AV),AB n h xs=xs.map (AQ n h)
 |[]=>rfl
 |x::xs=>by rw[AB,List.map_cons,DM n h xs]
theorem Lb (n:Nat)(h:Hp):∀xs:List AV,AQ n h xs=xs.map (strip n h)
 |[]=>rfl
 |x::xs=>by rw[AQ,List.map_cons,Lb n h xs]
theorem NJ (n:Nat)(h:Hp)(xs:List (List AV)):AB n h xs.reverse=(AB n h xs).reverse:=by
 rw[DM,DM,List.map_reverse]
theorem NK (n:Nat)(h:Hp)(xs:List (List AV)):AQ n h xs.flatten=(AB n h xs).flatten:=by
 rw[DM,Lb,List.map_flatten]
 congr 1
 apply List.map_congr_left;intro r _;rw[Lb]
theorem OC (n:Nat)(h:Hp){xs:List (List AV)}(BU:AB n h xs≠[]):xs≠[]:=by
 rintro rfl
 exact BU rfl
structure Cut (n:Nat) (h0:Hp) (E E':Env):Prop where
 w:E'.w=E.w
 B:∀(id:Nat),id<n->E'.B=E.B
 st:∀b o v,E.w.cell? ⟨b,o,none⟩=some v->Dp E b o->Dp E' b o
 mem:∀(id:Nat) t cs,id<n->E.h[id]?=some (.mem t cs)->∃Fw,E'.h[id]?=some (.mem t Fw)/\Fw.length=cs.length
 σ:∀(id:Nat),id<n->E'.σ id=E.σ id
 len:n<=E'.h.length
 grow:∀(id:Nat) m sz e,id<n->E'.h[id]?=some (.grow m sz e)->E.h[id]?=some (.grow m sz e)
 iter:∀(id:Nat) s p,id<n->E.h[id]?=some (.iter s p)->E'.h[id]?=some (.iter s p)
 stk:∀(id:Nat) g t sz kc ke ksz rows,id<n->E'.h[id]?=some (.stk g t sz kc ke ksz rows)->∃BT,E.h[id]?=some (.stk g t sz kc ke ksz BT)/\BT.map (·.1)=rows.map (·.1)
 A:∀(id:Nat),id<n->∀g x,E.A g=some x->(x.1<4->∀t cs,E.h[x.1]?≠some (.mem t cs))->E'.A g=some x
 out:∀(b:Nat) t cs,n<=b->h0[b]?=some (.mem t cs)->E.h[b]?=some (.mem t cs)/\∀g,E.σ b=some g->∀(j:Nat) x,cs[j]?=some x->∃v,E.w.cell? ⟨g,j,none⟩=some v/\v.oneCell'=true/\Rel E x v/\Dp E' g j
theorem Ri {w:World}{a:Addr}{v:Value}(h:w.cell? a=some v):a.spot=none:=by
 unfold World.cell? at h;split at h
 ·cases D9:a.spot with
  |none=>rfl
  |some _=>simp[D9] at h
 ·cases h
mutual
theorem Rel.cut {n:Nat}{h0:Hp}{E E':Env}(K:Cut n h0 E E'):∀(x:AV) (v:Value),Rel E x v->Rel E' (strip n h0 x) v
 |.top,_,_=>trivial
 |.bool _,_,h=>h
 |.int _ _,_,h=>h
 |.str _,_,h=>h
 |.HA,_,h=>h
 |.ptr b o,v,h=>by
  rw[strip]
  cases hb:Nat.blt b n with
  |false=>trivial
  |true=>
   have Au:b<n:=Nat.le_of_ble_eq_true hb;obtain⟨t,cs,g,h1,h2,h3⟩:=h;obtain⟨Fw,k1,_⟩:=K.mem b t cs Au h1;exact⟨t,Fw,g,k1,(K.σ b Au).trans h2,h3⟩
 |.ro cs,v,h=>by
  obtain⟨a,h1,h2⟩:=h;exact⟨a,h1,At.cut K cs a h2⟩
 |.sl sz es own,v,h=>by
  obtain⟨⟨A,cap,h1,h2,h3,h4,h5⟩,ht⟩:=h;rw[Cd]
  refine⟨⟨A,cap,by rw[CK];exact h1,by rw[CK];exact h2,h3,Fu n h0 es sz h4,fun BU=> ?_⟩,?_⟩
  ·obtain⟨a,ha,hr⟩:=h5 (OC n h0 BU);exact⟨a,ha,Rows.cut K es a hr⟩
  ·cases own with
   |none=>trivial
   |some id=>
    simp only[Cj]
    cases hb:Nat.blt id n with
    |false=>trivial
    |true=>
     have Au:id<n:=Nat.le_of_ble_eq_true hb
     refine⟨Nat.lt_of_lt_of_le Au K.len,fun m Dg e hg=> ?_⟩
     obtain⟨k1,k2⟩:=ht.2 m Dg e (K.grow id m Dg e Au hg);rw[CK]
     refine⟨k1,fun hn=> ?_⟩
     obtain⟨q1,q2,q3⟩:=k2 hn;refine⟨q1,?_,q3.trans (K.σ id Au).symm⟩;rw[K.w,K.B id Au];exact q2
 |.IP b off len sz,v,h=>by
  rw[strip]
  cases hb:Nat.blt b n with
  |false=>trivial
  |true=>
   have Au:b<n:=Nat.le_of_ble_eq_true hb;obtain⟨t,cs,g,cap,h1,h2,h3,h4,h5,h6⟩:=h;obtain⟨Fw,k1,k2⟩:=K.mem b t cs Au h1
   exact⟨t,Fw,g,cap,k1,(K.σ b Au).trans h2,h3,h4,h5,by rw[k2];exact h6⟩
 |.UT b,v,h=>by
  rw[strip]
  cases hb:Nat.blt b n with
  |false=>trivial
  |true=>
   have Au:b<n:=Nat.le_of_ble_eq_true hb;obtain⟨s,p,g,h1,h2,h3⟩:=h;exact⟨s,p,g,K.iter b s p Au h1,(K.σ b Au).trans h2,h3⟩
 |.CI b g d sz len,v,h=>by
  rw[strip]
  cases hb:Nat.blt b n with
  |false=>trivial
  |true=>
   have Au:b<n:=Nat.le_of_ble_eq_true hb;obtain⟨a,cap,h1,h2,h3,h4,h5⟩:=h
   refine⟨a,cap,h1,h2,h3,Nat.lt_of_lt_of_le Au K.len,fun g' t Dg kc ke ksz rows hg=> ?_⟩
   obtain⟨BT,k1,k2⟩:=K.stk b g' t Dg kc ke ksz rows Au hg
   have k2:BT.length=rows.length:=by simpa using congrArg List.length k2
   obtain⟨q1,q2⟩:=h5 g' t Dg kc ke ksz BT k1
   refine⟨q1,fun e=> ?_⟩
   obtain⟨s1,s2,k,s3,s4,s5⟩:=q2 e
   exact⟨s1.trans k2,s2,k,(K.σ b Au).trans s3,s4,by rw[K.w];exact s5⟩
 |.BX b g d o,v,h=>by
  rw[strip]
  cases hb:Nat.blt b n with
  |false=>trivial
  |true=>
   have Au:b<n:=Nat.le_of_ble_eq_true hb;obtain⟨a,h1,h4,h5⟩:=h
   refine⟨a,h1,Nat.lt_of_lt_of_le Au K.len,fun g' t Dg kc ke ksz rows hg=> ?_⟩
   obtain⟨BT,k1,k2⟩:=K.stk b g' t Dg kc ke ksz rows Au hg
   have k2:BT.length=rows.length:=by simpa using congrArg List.length k2
   obtain⟨q1,q2⟩:=h5 g' t Dg kc ke ksz BT k1
   refine⟨q1,fun e hd=> ?_⟩
   obtain⟨k,s3,s4⟩:=q2 e (by omega)
   exact⟨k,(K.σ b Au).trans s3,by rw[s4,k2]⟩
 |.F7 b g d sz es,v,h=>by
  obtain⟨⟨A,cap,h1,h2,h3,h4,h5⟩,ht⟩:=h
  have base:Rel E' (.sl sz (AB n h0 es) none) v:=by
   refine⟨⟨A,cap,by rw[CK];exact h1,by rw[CK];exact h2,h3,Fu n h0 es sz h4,fun BU=> ?_⟩,trivial⟩
   obtain⟨a,ha,hr⟩:=h5 (OC n h0 BU);exact⟨a,ha,Rows.cut K es a hr⟩
  rw[strip]
  cases hb:Nat.blt b n with
  |false=>trivial
  |true=>
   have Au:b<n:=Nat.le_of_ble_eq_true hb
   refine⟨base.1,Nat.lt_of_lt_of_le Au K.len,fun g' t Dg kc ke ksz rows hg=> ?_⟩
   obtain⟨BT,k1,k2⟩:=K.stk b g' t Dg kc ke ksz rows Au hg
   have kl:BT.length=rows.length:=by simpa using congrArg List.length k2
   obtain⟨q1,q2⟩:=ht.2 g' t Dg kc ke ksz BT k1
   refine⟨q1,fun e r hr=> ?_⟩
   have hd:d<BT.length:=by rw[kl];exact(List.getElem?_eq_some_iff.1 hr).1
   have YC:BT[d]?=some BT[d]:=List.getElem?_eq_getElem hd
   have e1:BT[d].1=r.1:=by
    have:=congrArg (·[d]?) k2;simp only[List.getElem?_map,YC,hr,Option.map_some,Option.some.injEq] at this;exact this
   obtain⟨t1,t2⟩:=q2 e _ YC;rw[CK,<-e1,<-kl]
   refine⟨t1,fun hl=> ?_⟩
   obtain⟨u1,⟨xs,u2⟩,u3⟩:=t2 hl
   exact⟨u1,⟨xs,by rw[K.w,K.B b Au];exact u2⟩,fun g hg=>K.A b Au g _ (u3 g hg) fun _ t1 vf h1=>by simp only at h1;rw[h1] at k1;cases k1⟩
 |.NT ks vs,v,h=>by
  obtain⟨r,es,clock,h1,h2,h3,h4⟩:=h
  exact⟨r,es,clock,h1,by rw[K.w];exact h2,h3,Mc.cut K vs _ h4⟩
 |.fn f first cap,v,h=>by
  obtain⟨a,b,h1,h2,h3⟩:=h
  exact⟨a,b,h1,BK.cut K first _ h2,BK.cut K cap _ h3⟩
 |.Cs _,_,_=>trivial
 |.GX,_,h=>h
 |.iface t x,v,h=>by
  obtain⟨y,h1,h2⟩:=h;exact⟨y,h1,Rel.cut K x y h2⟩
 |.Ja,_,h=>h
 |.agg cs,v,h=>by
  obtain⟨a,h1,h2⟩:=h;exact⟨a,h1,Ag.cut K cs _ h2⟩
 |.tup cs,v,h=>by
  obtain⟨a,h1,h2⟩:=h;exact⟨a,h1,BK.cut K cs _ h2⟩
theorem Mc.cut {n:Nat}{h0:Hp}{E E':Env}(K:Cut n h0 E E'):∀(xs:List (List AV)) (es:List Value),Mc E xs es->Mc E' (AB n h0 xs) es
 |[],_,h=>h
 |v::vs,es,h=>by
  obtain⟨a,r,h1,h2,h3⟩:=h;exact⟨a,r,h1,Ag.cut K v _ h2,Mc.cut K vs r h3⟩
theorem BK.cut {n:Nat}{h0:Hp}{E E':Env}(K:Cut n h0 E E'):∀(xs:List AV) (vs:List Value),BK E xs vs->BK E' (AQ n h0 xs) vs
 |[],_,h=>h
 |c::cs,vs,h=>by
  obtain⟨v,r,h1,h2,h3⟩:=h;exact⟨v,r,h1,Rel.cut K c v h2,BK.cut K cs r h3⟩
theorem Ag.cut {n:Nat}{h0:Hp}{E E':Env}(K:Cut n h0 E E'):∀(xs:List AV) (vs:List Value),Ag E xs vs->Ag E' (AQ n h0 xs) vs
 |[],_,h=>h
 |c::cs,vs,h=>by
  obtain⟨v,r,h1,yS,h2,h3⟩:=h;exact⟨v,r,h1,yS,Rel.cut K c v h2,Ag.cut K cs r h3⟩
theorem At.cut {n:Nat}{h0:Hp}{E E':Env}(K:Cut n h0 E E'):∀(xs:List AV) (a:Addr),At E xs a->At E' (AQ n h0 xs) a
 |[],_,_=>trivial
 |c::cs,a,h=>by
  obtain⟨⟨v,h1,h2,h3,h4⟩,h5⟩:=h
  refine⟨⟨v,by rw[K.w];exact h1,h2,?_,Rel.cut K c v h4⟩,At.cut K cs _ h5⟩
  have D9:=Ri h1;obtain⟨ab,ao,vv⟩:=a;simp only at D9;subst D9;exact K.st ab ao v h1 h3
theorem Rows.cut {n:Nat}{h0:Hp}{E E':Env}(K:Cut n h0 E E'):∀(xs:List (List AV)) (a:Addr),Rows E xs a->Rows E' (AB n h0 xs) a
 |[],_,_=>trivial
 |e::es,a,h=>⟨At.cut K e a h.1,by rw[BI];exact Rows.cut K es _ h.2⟩
end
theorem bh {E E':Env}{x:AV}{v:Value}(hx:YZ x=true)(h:Rel E x v):Rel E' x v:=by
 cases x<;>first|exact h|simp[YZ] at hx
theorem Rel.uQ {n:Nat}{h0:Hp}{E E':Env}(K:Cut n h0 E E'){b off len sz:Nat}{v:Value}(hb:n<=b)(h:Rel E (.IP b off len sz) v):Rel E' (kD h0 b off len sz) v:=by
 unfold kD;split
 ·rename_i t cs hm
  cases hc:(Nat.beq sz 1&&((cs.drop off).take len).all YZ) with
  |false=>trivial
  |true=>
   rw[Bool.and_eq_true] at hc;obtain⟨CC,oo⟩:=hc;obtain rfl:=Nat.eq_of_beq_eq_true CC;obtain⟨hE,DK⟩:=K.out b t cs hb hm;obtain⟨t',Fw,g,cap,h1,h2,h3,h4,h5,h6⟩:=h;rw[hE] at h1
   injection h1 with h1
   injection h1 with _ h1
   subst h1
   have hl:((cs.drop off).take len).length=len:=by simp;omega
   refine⟨⟨some ⟨g,off,none⟩,cap,by rw[List.length_map,hl];exact h3,by rw[List.length_map,hl];exact h4,h5,fun e he=> ?_,fun _=>⟨_,rfl,?_⟩⟩,trivial⟩
   ·obtain⟨c,_,rfl⟩:=List.mem_map.1 he;rfl
   ·have hf:(((cs.drop off).take len).map fun c=>[c]).flatten=(cs.drop off).take len:=by
     induction ((cs.drop off).take len) with
     |nil=>rfl
     |cons x r ih=>simp[ih]
    rw[Rows.iff,hf,At.iff];intro j x hx
    have hj:j<len:=by
     have:=(List.getElem?_eq_some_iff.1 hx).1;omega
    have IS:cs[off+j]?=some x:=by
     rw[List.getElem?_take_of_lt hj,List.getElem?_drop] at hx;exact hx
    obtain⟨u,q1,q2,q3,q4⟩:=DK g h2 (off+j) x IS;refine⟨u,?_,q2,q4,bh (List.all_eq_true.1 oo x (List.mem_of_getElem? hx)) q3⟩;rw[K.w]
    have:(⟨g,off,none⟩:Addr).add j=⟨g,off+j,none⟩:=by
     unfold Addr.add
     by_cases h0:j=0<;>simp[h0]
    rw[this];exact q1
 ·trivial
theorem Rel.ja {n:Nat}{h0:Hp}{E E':Env}(K:Cut n h0 E E')(x:AV)(v:Value)(h:Rel E x v):Rel E' (Kc n h0 x) v:=by
 cases x with
 |IP b off len sz=>
  simp only[Kc]
  cases hb:Nat.blt b n with
  |true=>
   have:=Rel.cut K _ v h
   rwa [strip,hb] at this
  |false=>exact Rel.uQ K (by
    rcases Nat.lt_or_ge b n with h1|h1
    ·have:Nat.blt b n=true:=Nat.ble_eq_true_of_le h1;rw[hb] at this;cases this
    ·exact h1) h
 |_=>exact Rel.cut K _ v h
theorem BK.XA {n:Nat}{h0:Hp}{E E':Env}(K:Cut n h0 E E'):∀(xs:List AV) (vs:List Value),BK E xs vs->BK E' (xs.map (Kc n h0)) vs
 |[],_,h=>h
 |c::cs,vs,h=>by
  obtain⟨v,r,h1,h2,h3⟩:=h;exact⟨v,r,h1,Rel.ja K c v h2,BK.XA K cs r h3⟩
theorem Rel.XA {n:Nat}{h0:Hp}{E E':Env}(K:Cut n h0 E E')(x:AV)(v:Value)(h:Rel E x v):Rel E' (stripR n h0 x) v:=by
 cases x with
 |tup cs=>
  obtain⟨a,h1,h2⟩:=h;exact⟨a,h1,BK.XA K cs _ h2⟩
 |_=>exact Rel.ja K _ v h
def fresh (E:Env):Env:={B:=E.w.heap.size,U:=fun b o=>b<E.w.heap.size/\¬Dp E b o,w:=E.w,σ:=fun _=>none,h:=[],A:=fun _=>none}
theorem Ph :Cut 0 [] E (fresh E):=
 ⟨rfl,fun _ h=>absurd h (Nat.not_lt_zero _),fun b o v _ hs=>⟨⟨fun hu=>hu.2 hs,fun _ _ _ h=>(by cases h)⟩,fun id x hx=>by simp[fresh] at hx⟩,fun _ _ _ h=>absurd h (Nat.not_lt_zero _),fun _ h=>absurd h (Nat.not_lt_zero _),Nat.zero_le _,
  fun _ _ _ _ h=>absurd h (Nat.not_lt_zero _),fun _ _ _ h=>absurd h (Nat.not_lt_zero _),fun _ _ _ _ _ _ _ _ h=>absurd h (Nat.not_lt_zero _),fun _ h=>absurd h (Nat.not_lt_zero _),fun b t cs _ h=>by simp at h⟩
theorem On {t:TypeId}{cs:List AV}{b:Nat}(H:Good G I B0 E)(hb:E.h[b]?=some (.mem t cs)){g:Nat}(hg:E.σ b=some g):E.B<=g/\∀(j:Nat) x,cs[j]?=some x->∃v,E.w.cell? ⟨g,j,none⟩=some v/\v.oneCell'=true/\Rel E x v:=by
 obtain⟨g',c,fr,h1,h2,h3,h4,h5,h6⟩:=H.KS b _ hb;rw[hg] at h1
 injection h1 with h1
 subst h1
 refine⟨h2,fun j x hx=> ?_⟩
 obtain⟨v,k1,k2,k3⟩:=h6 j x hx;refine⟨v,?_,k2,k3⟩;simp only[World.cell?,h3];exact k1
theorem Sr (H:Good G I B0 E)(h0:Hp){E':Env}(hU:E'.U=(fresh E).U)(hh:h0=[]\/(h0=E'.h/\Good G I B0 E'/\E'.B=E.w.heap.size)):Cut 0 h0 E' {E with w:=E'.w}:=by
 have high:∀b o,E.w.heap.size<=b->Dp {E with w:=E'.w} b o:=fun b o hb=>by
  refine⟨⟨fun hu=> ?_,fun q i m hq=> ?_⟩,fun id x hx hσ=> ?_⟩
  ·have:=H.U b o hu;have:=H.size;omega
  ·have:=(H.ar b q i m hq).2.1;omega
  ·by_cases hd:x=.dead
   ·exact .inl hd
   ·have sS:E.σ id=some b:=hσ;have:=(H.lt hx hd sS).2;omega
 refine⟨rfl,fun _ h=>absurd h (Nat.not_lt_zero _),fun b o v _ hs=> ?_,fun _ _ _ h=>absurd h (Nat.not_lt_zero _),fun _ h=>absurd h (Nat.not_lt_zero _),Nat.zero_le _,
  fun _ _ _ _ h=>absurd h (Nat.not_lt_zero _),fun _ _ _ h=>absurd h (Nat.not_lt_zero _),fun _ _ _ _ _ _ _ _ h=>absurd h (Nat.not_lt_zero _),fun _ h=>absurd h (Nat.not_lt_zero _),fun b t cs _ hb=> ?_⟩
 rotate_left
 ·rcases hh with rfl|⟨rfl,H',hB⟩
  ·simp at hb
  ·refine⟨hb,fun g hg j x hx=> ?_⟩
   obtain⟨k0,k1⟩:=On H' hb hg;obtain⟨v,q1,q2,q3⟩:=k1 j x hx
   exact⟨v,q1,q2,q3,high g j (by omega)⟩
 have h1:=hs.1;rw[hU] at h1
 by_cases hb:b<E.w.heap.size
 ·have:Dp E b o:=Classical.byContradiction fun hn=>h1.1 ⟨hb,hn⟩
  exact this
 ·exact high b o (by omega)
theorem Hu (H:Good G I B0 E)(hG:∀g cs,G g=some cs->Aa.Ax cs=true):Good G I B0 (fresh E):=by
 refine⟨fun id x hx=>by simp[fresh] at hx,fun i j x y g hi=>by simp[fresh] at hi,fun g cs hg=> ?_,fun b o hu=>hu.1,fun _ _ _ _ h=>(by cases h),Nat.le_refl _,Nat.le_trans H.B0 H.size,H.I⟩
 have:=At.cut (Ph (E:=E)) cs _ (H.Es g cs hg)
 rwa [BL 0 [] cs (hG g cs hg)] at this
theorem EW {n:Nat}{h:Hp}{x:Blk}{m sz:Nat}{e:TypeId}(hx:AN n h x=.grow m sz e):x=.grow m sz e:=by
 cases x<;>simp_all[AN]
theorem GR {n:Nat}{h:Hp}{x:Blk}{g t sz kc ke ksz:Nat}{rows:List (Nat×List AV)}(hx:AN n h x=.stk g t sz kc ke ksz rows):∃BT,x=.stk g t sz kc ke ksz BT/\rows=BT.map fun r=>(r.1,AQ n h r.2):=by
 cases x<;>simp_all[AN]
theorem BR {n:Nat}{h:Hp}{x:Blk}:AN n h x=.dead↔x=.dead:=by
 cases x<;>simp[AN]
theorem OF (H:Good G I B0 E){E':Env}(S:Step G I B0 E E')(hG:∀g cs,G g=some cs->Aa.Ax cs=true){n0:Nat}(QG:E.h.length<=n0)(VQ:n0<=E'.h.length):
  Cut n0 E'.h E' {E' with h:=(E'.h.take n0).map (AN n0 E'.h)}/\Step G I B0 E {E' with h:=(E'.h.take n0).map (AN n0 E'.h)}:=by
 have hl:=S.le.len
 have Eh:∀(id:Nat) y,((E'.h.take n0).map (AN n0 E'.h))[id]?=some y->∃x,id<n0/\E'.h[id]?=some x/\y=AN n0 E'.h x:=by
  intro id y hy;rw[List.getElem?_map] at hy
  have hid:id<n0:=by
   rcases Nat.lt_or_ge id n0 with h|h
   ·exact h
   ·rw[List.getElem?_eq_none (by simp;omega)] at hy
    cases hy
  rw[List.getElem?_take_of_lt hid] at hy
  cases hx:E'.h[id]? with
  |none=>rw[hx] at hy;cases hy
  |some x=>
   rw[hx] at hy
   injection hy with hy
   exact⟨x,hid,rfl,hy.symm⟩
 have Uf:∀(id:Nat) x,id<n0->E'.h[id]?=some x->((E'.h.take n0).map (AN n0 E'.h))[id]?=some (AN n0 E'.h x):=by
  intro id x hid hx;rw[List.getElem?_map,List.getElem?_take_of_lt hid,hx];rfl
 have DJ:∀b o,Dp E' b o->Dp {E' with h:=(E'.h.take n0).map (AN n0 E'.h)} b o:=by
  intro b o hs
  refine⟨hs.1,fun id y hy hσ=> ?_⟩
  obtain⟨x,_,hx,rfl⟩:=Eh id y hy
  rcases hs.2 id x hx hσ with rfl|⟨n,sz,e,rfl,ho⟩
  ·exact .inl rfl
  ·exact .inr ⟨n,sz,e,rfl,ho⟩
 have K:Cut n0 E'.h E' {E' with h:=(E'.h.take n0).map (AN n0 E'.h)}:=by
  refine⟨rfl,fun _ _=>rfl,fun b o v _=>DJ b o,fun id t cs hid hm=>⟨_,Uf id _ hid hm,BI _ _ _⟩,fun _ _=>rfl,?_,fun id m sz e hid hg=> ?_,fun id s p hid hm=>Uf id _ hid hm,fun id g t sz kc ke ksz rows hid hm=> ?_,fun _ _ _ _ h _=>h,fun b t cs hb hm=>⟨hm,fun g hg j x hx=> ?_⟩⟩
  ·simp;omega
  ·obtain⟨x,_,hx,hy⟩:=Eh id _ hg;rw[hx,EW hy.symm]
  ·obtain⟨x,_,hx,hy⟩:=Eh id _ hm;obtain⟨BT,h1,h2⟩:=GR hy.symm
   exact⟨BT,by rw[hx,h1],by rw[h2,List.map_map];rfl⟩
  ·obtain⟨k0,k1⟩:=On S.Cg hm hg;obtain⟨v,q1,q2,q3⟩:=k1 j x hx
   refine⟨v,q1,q2,q3,⟨fun hu=> ?_,fun q i m hq=> ?_⟩,fun id y hy hσ=> ?_⟩
   ·have:=S.Cg.U _ _ hu;omega
   ·exact absurd rfl (Gq S.Cg hm (by simp) hg _ _ hq)
   ·obtain⟨z,hid,hz,rfl⟩:=Eh id y hy
    by_cases hd:z=.dead
    ·exact .inl (by rw[hd];rfl)
    ·have:=S.Cg.inj id b z _ g hz hm hd (by simp) hσ hg
     omega
 have H':=S.Cg
 refine⟨K,⟨⟨S.le.B,fun a v h s=> ?_,by simp;omega,fun id t cs h=> ?_,fun id n sz e hi h=> ?_,fun id s p h=> ?_,fun id g t sz kc ke ksz rows hi h=> ?_,S.le.maps⟩,⟨fun id y hy=> ?_,fun i j x y g hi hj hx hy De E8=> ?_,fun g cs hg=> ?_,H'.U,fun g o i m hq=>by
  obtain⟨a1,a2,a3⟩:=H'.ar g o i m hq
  refine⟨a1,a2,fun j y hy hd=> ?_⟩
  obtain⟨x,_,hx,rfl⟩:=Eh j y hy
  exact a3 j x hx (fun e=>hd (BR.2 e)),H'.size,H'.B0,H'.I⟩,S.U,S.below,fun g h1 h2 h3=>by
   obtain⟨a1,a2,a3⟩:=S.own g h1 h2 h3;refine⟨a1,?_,a3⟩
   rintro(⟨id,y,hy,hd,hs⟩|⟨id,i,m,hA,BU⟩)
   ·obtain⟨x,_,hx,rfl⟩:=Eh id y hy
    exact a2 (.inl ⟨id,x,hx,fun e=>hd (BR.2 e),hs⟩)
   ·refine h3 (.inr ⟨id,i,m,a3▸hA,fun e t cs h0=> ?_⟩)
    have Au:=(List.getElem?_eq_some_iff.1 h0).1;obtain⟨Fw,k1,_,_⟩:=S.le.mem id t cs h0
    exact BU e t _ (Uf id _ (by omega) k1)⟩⟩
 ·obtain⟨k1,k2⟩:=S.le.cells a v h s;exact⟨k1,DJ _ _ k2⟩
 ·have hid:=Nat.lt_of_lt_of_le (List.getElem?_eq_some_iff.1 h).1 QG;obtain⟨Fw,k1,k2,k3⟩:=S.le.mem id t cs h;exact⟨_,Uf id _ hid k1,(BI _ _ _).trans k2,k3⟩
 ·obtain⟨x,_,hx,hy⟩:=Eh id _ h;rw[EW hy.symm] at hx;exact S.le.grow id n sz e hi hx
 ·have hid:=Nat.lt_of_lt_of_le (List.getElem?_eq_some_iff.1 h).1 QG;obtain⟨p',k1,k2⟩:=S.le.iter id s p h;exact⟨p',Uf id _ hid k1,k2⟩
 ·obtain⟨x,_,hx,hy⟩:=Eh id _ h;obtain⟨BT,h1,h2⟩:=GR hy.symm;rw[h1] at hx;obtain⟨g0,r0,k1,k2,k3⟩:=S.le.stk id g t sz kc ke ksz BT hi hx
  have hl:BT.length=rows.length:=by rw[h2,List.length_map]
  refine⟨g0,r0,k1,k2,fun e=> ?_⟩
  obtain⟨a1,a2,a3,a4⟩:=k3 e
  refine⟨a1.trans hl,a2,a3,fun d r q hr hq=> ?_⟩
  have hd:d<BT.length:=by rw[hl];exact(List.getElem?_eq_some_iff.1 hr).1
  have YC:BT[d]?=some BT[d]:=List.getElem?_eq_getElem hd
  have e1:r.1=BT[d].1:=by
   rw[h2,List.getElem?_map,YC] at hr
   injection hr with hr
   rw[<-hr]
  obtain⟨b1,b2⟩:=a4 d _ q YC hq;rw[e1,<-hl];exact⟨b1,b2⟩
 ·obtain⟨x,hid,hx,rfl⟩:=Eh id y hy;have h:=H'.KS id x hx
  cases x with
  |mem t cs=>
   obtain⟨g,c,fr,h1,h2,h3,h4,h5,h6⟩:=h
   refine⟨g,c,fr,h1,h2,h3,by rw[BI];exact h4,fun j hj=>h5 j (by rwa [BI] at hj),fun j z hz=> ?_⟩
   rw[GQ] at hz
   cases Zc:cs[j]? with
   |none=>rw[Zc] at hz;cases hz
   |some x=>
    rw[Zc] at hz
    injection hz with hz
    obtain⟨v,k1,k2,k3⟩:=h6 j x Zc;exact⟨v,k1,k2,hz▸Rel.cut K x v k3⟩
  |grow n sz e=>exact h
  |dead=>trivial
  |iter s p=>exact h
  |stk n1 t1 Gz kc ke ksz rows=>
   obtain⟨g,c,h1,h2,h3,h4,h5,h6,h7,h8⟩:=h
   have hm:((rows.map fun r=>(r.1,AQ n0 E'.h r.2)).map (·.2)).reverse.flatten=AQ n0 E'.h (rows.map (·.2)).reverse.flatten:=by
    rw[NK,NJ,DM,List.map_map,List.map_map];rfl
   refine⟨g,c,h1,h2,h3,h4,fun r hr=> ?_,by rw[List.length_map];exact h6,fun j z hz=> ?_,fun d r v s es own k1 k2 k3=> ?_⟩
   ·obtain⟨r0,YC,rfl⟩:=List.mem_map.1 hr;rw[BI];exact h5 r0 YC
   ·rw[hm,GQ] at hz
    cases Zc:(rows.map (·.2)).reverse.flatten[j]? with
    |none=>rw[Zc] at hz;cases hz
    |some x=>
     rw[Zc] at hz
     injection hz with hz
     obtain⟨v,k1,k2,k3⟩:=h7 j x Zc;exact⟨v,k1,k2,hz▸Rel.cut K x v k3⟩
   ·rw[List.length_map] at k3⊢;rw[List.getElem?_map] at k1
    cases IG:rows[d]? with
    |none=>rw[IG] at k1;cases k1
    |some r0=>
     rw[IG] at k1
     injection k1 with k1
     subst k1;simp only at k2⊢;rw[GQ] at k2
     cases gq:r0.2[kc]? with
     |none=>rw[gq] at k2;cases k2
     |some x=>
      rw[gq] at k2
      injection k2 with k2
      cases x with
      |sl s0 yW sC=>
       rw[Cd] at k2
       injection k2 with e1 e2 e3
       obtain⟨q0,q1,q2⟩:=h8 d r0 v s0 yW sC IG gq k3;rw[<-e2,CK,<-e1]
       refine⟨by rw[<-e3,q0];rfl,q1,q2⟩
      |ptr b o=>simp only[strip] at k2;cases hb:Nat.blt b n0<;>rw[hb] at k2<;>cases k2
      |IP b o l z=>simp only[strip] at k2;cases hb:Nat.blt b n0<;>rw[hb] at k2<;>cases k2
      |UT b=>simp only[strip] at k2;cases hb:Nat.blt b n0<;>rw[hb] at k2<;>cases k2
      |CI b g d z l=>simp only[strip] at k2;cases hb:Nat.blt b n0<;>rw[hb] at k2<;>cases k2
      |BX b g d z=>simp only[strip] at k2;cases hb:Nat.blt b n0<;>rw[hb] at k2<;>cases k2
      |F7 b g d z l=>simp only[strip] at k2;cases hb:Nat.blt b n0<;>rw[hb] at k2<;>cases k2
      |_=>simp only[strip] at k2;cases k2
 ·obtain⟨x0,_,GJ,rfl⟩:=Eh i x hi;obtain⟨y0,_,WY,rfl⟩:=Eh j y hj
  exact H'.inj i j x0 y0 g GJ WY (fun e=>hx (BR.2 e)) (fun e=>hy (BR.2 e)) De E8
 ·have:=At.cut K cs _ (H'.Es g cs hg)
  rwa [BL _ _ cs (hG g cs hg)] at this
theorem Lg (H:Good G I B0 E){E':Env}(S:Step G I B0 E E')(hG:∀g cs,G g=some cs->Aa.Ax cs=true):
  Cut E.h.length E'.h E' {E' with h:=(E'.h.take E.h.length).map (AN E.h.length E'.h)}/\Step G I B0 E {E' with h:=(E'.h.take E.h.length).map (AN E.h.length E'.h)}:=OF H S hG (Nat.le_refl _) S.le.len
end
end Go.Ai
