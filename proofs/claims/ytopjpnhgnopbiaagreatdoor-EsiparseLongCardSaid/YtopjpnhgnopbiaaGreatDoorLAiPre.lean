/-
  A call that sees only the first blocks of its caller's memory: the others stay as they are.
-/
import Derived.Test.YtopjpnhgnopbiaaGreatDoorLAiStrip
set_option linter.unusedVariables false
set_option linter.unusedSimpArgs false
set_option linter.unnecessarySimpa false
namespace Go.Ai
open Go.RowKit
section
variable {G:Nat->Option (List AV)}{I:World->Prop}{B0:Nat}{E:Env}{m:Nat}
def iW :Option Blk->Nat
 |some (.grow n sz _)=>n*sz
 |_=>0
def Je (E:Env)(m g:Nat):Prop:=∃id,m<=id/\∃x,E.h[id]?=some x/\x≠.dead/\E.σ id=some g
noncomputable def PH(E:Env)(m g:Nat):Option (Nat×Nat×Nat):=
 match Classical.propDecidable (Je E m g) with
 |.isTrue h=>some (ZM E.h,0,iW (E.h[Classical.choose h]?))
 |.isFalse _=>E.A g
noncomputable def IJ(E:Env)(A:Nat->Option (Nat×Nat×Nat))(m g:Nat):Option (Nat×Nat×Nat):=
 match Classical.propDecidable (Je E m g) with
 |.isTrue _=>none
 |.isFalse _=>A g
theorem Io {m g:Nat}(h:¬Je E m g):PH E m g=E.A g:=by
 unfold PH;split
 ·rename_i h1 _;exact absurd h1 h
 ·rfl
theorem GP {A:Nat->Option (Nat×Nat×Nat)}{m g:Nat}(h:¬Je E m g):IJ E A m g=A g:=by
 unfold IJ;split
 ·rename_i h1 _;exact absurd h1 h
 ·rfl
theorem RV {A:Nat->Option (Nat×Nat×Nat)}{m g:Nat}(h:Je E m g):IJ E A m g=none:=by
 unfold IJ;split
 ·rfl
 ·rename_i h1 _;exact absurd h h1
theorem K4 (H:Good G I B0 E){m id g:Nat}{x:Blk}(hm:m<=id)(hx:E.h[id]?=some x)(hd:x≠.dead)(hs:E.σ id=some g):PH E m g=some (ZM E.h,0,iW (some x)):=by
 unfold PH;split
 ·rename_i h1 _;obtain⟨c1,y,c2,c3,c4⟩:=Classical.choose_spec h1;have e:=H.inj (Classical.choose h1) id y x g c2 hx c3 hd c4 hs;rw[e,hx]
 ·rename_i h1 _;exact absurd ⟨id,hm,x,hx,hd,hs⟩ h1
theorem oQ (H:Good G I B0 E){m g:Nat}(h:Je E m g):E.A g=none:=by
 obtain⟨id,_,x,hx,hd,hs⟩:=h
 cases hA:E.A g with
 |none=>rfl
 |some y=>exact absurd rfl (Gq H hx hd hs g y hA)
noncomputable def UK(E:Env)(m:Nat):Env:={E with h:=(E.h.take m).map (AN m []),A:=PH E m}
noncomputable def F6(E E1:Env)(m:Nat):Env:={E1 with h:=(E1.h.take m).map (AN m E1.h)++E.h.drop m,σ:=fun id=>bif Nat.blt id m then E1.σ id else E.σ id,A:=IJ E E1.A m}
theorem Co {h h0:Hp}{m id:Nat}{y:Blk}(hy:((h.take m).map (AN m h0))[id]?=some y):∃x,id<m/\h[id]?=some x/\y=AN m h0 x:=by
 rw[List.getElem?_map] at hy
 have hid:id<m:=by
  rcases Nat.lt_or_ge id m with h|h
  ·exact h
  ·rw[List.getElem?_eq_none (by simp;omega)] at hy
   cases hy
 rw[List.getElem?_take_of_lt hid] at hy
 cases hx:h[id]? with
 |none=>rw[hx] at hy;cases hy
 |some x=>
  rw[hx] at hy
  injection hy with hy
  exact⟨x,hid,rfl,hy.symm⟩
theorem Fj {h h0:Hp}{m id:Nat}{x:Blk}(hid:id<m)(hx:h[id]?=some x):((h.take m).map (AN m h0))[id]?=some (AN m h0 x):=by
 rw[List.getElem?_map,List.getElem?_take_of_lt hid,hx];rfl
theorem Kd {n:Nat}{h:Hp}{x:Blk}:HT (AN n h x)=HT x:=by cases x<;>rfl
structure VM (E:Env) (m:Nat):Prop where
 pos:ZM E.h<m
 le:m<=E.h.length
 first:∃t cs,E.h[ZM E.h]?=some (.mem t cs)
 four:ZM E.h<4
 vp:4<=m
 Ty:∀(id:Nat) x,E.h[id]?=some x->HT x=false
theorem j7 {m:Nat}{h:Hp}(hx:HO m h=true)(hE:E.h=h):VM E m:=by
 subst hE;simp only[HO,Bool.and_eq_true,Nat.blt_eq,Nat.ble_eq] at hx;obtain⟨⟨⟨⟨⟨h1,h2⟩,h3⟩,h5⟩,h6⟩,h4⟩:=hx
 refine⟨h1,h2,?_,h5,h6,fun id x hx=> ?_⟩
 ·cases h0:E.h[ZM E.h]? with
  |none=>rw[h0] at h3;cases h3
  |some x=>cases x with
   |mem t cs=>exact⟨t,cs,rfl⟩
   |_=>rw[h0] at h3;cases h3
 ·have:=List.all_eq_true.1 h4 x (List.mem_of_getElem? hx);simpa using this
theorem Oq (H:Good G I B0 E){m b o:Nat}(hs:Dp E b o):Dp (UK E m) b o:=by
 refine⟨⟨hs.1.1,fun q i k hq=> ?_⟩,fun id y hy hσ=> ?_⟩
 ·have hq:PH E m b=some (q,i,k):=hq
  by_cases hh:Je E m b
  ·obtain⟨id,hm,x,hx,hd,gj⟩:=hh;rw[K4 H hm hx hd gj] at hq;simp only[Option.some.injEq,Prod.mk.injEq] at hq
   rcases hs.2 id x hx gj with h1|⟨n,sz,e,rfl,ho⟩
   ·exact absurd h1 hd
   ·rw[<-hq.2.2];exact ho
  ·rw[Io hh] at hq;exact hs.1.2 q i k hq
 ·obtain⟨x,_,hx,rfl⟩:=Co hy
  rcases hs.2 id x hx hσ with rfl|⟨n,sz,e,rfl,ho⟩
  ·exact .inl rfl
  ·exact .inr ⟨n,sz,e,rfl,ho⟩
theorem Xs (H:Good G I B0 E){m:Nat}(hp:VM E m):Cut m [] E (UK E m):=by
 refine⟨rfl,fun _ _=>rfl,fun b o v _ hs=>Oq H hs,fun id t cs hid hm=>⟨_,Fj hid hm,BI _ _ _⟩,fun _ _=>rfl,?_,fun id k sz e hid hg=> ?_,fun id s p hid hm=>Fj hid hm,fun id g t sz kc ke ksz rows hid hm=> ?_,fun id _ g x hA _=> ?_,fun b t cs hb hm=>by simp at hm⟩
 ·show m<=((E.h.take m).map (AN m [])).length;have:=hp.le;simp;omega
 ·obtain⟨x,_,hx,hy⟩:=Co hg;rw[hx,EW hy.symm]
 ·obtain⟨x,_,hx,hy⟩:=Co hm;obtain⟨BT,h1,h2⟩:=GR hy.symm
  exact⟨BT,by rw[hx,h1],by rw[h2,List.map_map];rfl⟩
 ·show PH E m g=some x
  rw[Io fun hh=>by rw[oQ H hh] at hA;cases hA]
  exact hA
theorem YW {n:Nat}{h0:Hp}{E E':Env}(K:Cut n h0 E E'){id:Nat}(hσ:E'.σ id=E.σ id)(hB:E'.B=E.B){x:Blk}(hs:HT x=false)(h:EB E id x):EB E' id (AN n h0 x):=by
 cases x with
 |mem t cs=>
  obtain⟨g,c,fr,h1,h2,h3,h4,h5,h6⟩:=h
  refine⟨g,c,fr,hσ.trans h1,by rw[hB];exact h2,by rw[K.w];exact h3,by rw[BI];exact h4,fun j hj=>by rw[K.w];exact h5 j (by rwa [BI] at hj),fun j z hz=> ?_⟩
  rw[GQ] at hz
  cases Zc:cs[j]? with
  |none=>rw[Zc] at hz;cases hz
  |some x=>
   rw[Zc] at hz
   injection hz with hz
   obtain⟨v,k1,k2,k3⟩:=h6 j x Zc;exact⟨v,k1,k2,hz▸Rel.cut K x v k3⟩
 |grow n sz e=>exact fun g hg=>by rw[hB,K.w];exact h g (hσ▸hg)
 |dead=>trivial
 |iter s p=>
  obtain⟨g,h1,h2,h3⟩:=h
  exact⟨g,hσ.trans h1,by rw[hB];exact h2,by rw[K.w];exact h3⟩
 |stk _ _ _ _ _ _ _=>cases hs
theorem cS (H:Good G I B0 E)(hG:∀g cs,G g=some cs->Aa.Ax cs=true){m:Nat}(hp:VM E m):Good G I B0 (UK E m):=by
 have K:=Xs H hp
 refine⟨fun id y hy=> ?_,fun i j x y g hi hj hx hy De E8=> ?_,fun g cs hg=> ?_,H.U,fun g o i k hA=> ?_,H.size,H.B0,H.I⟩
 ·obtain⟨x,_,hx,rfl⟩:=Co hy;exact YW K rfl rfl (hp.Ty id x hx) (H.KS id x hx)
 ·obtain⟨x0,_,GJ,rfl⟩:=Co hi;obtain⟨y0,_,WY,rfl⟩:=Co hj
  exact H.inj i j x0 y0 g GJ WY (fun e=>hx (BR.2 e)) (fun e=>hy (BR.2 e)) De E8
 ·have:=At.cut K cs _ (H.Es g cs hg)
  rwa [BL _ _ cs (hG g cs hg)] at this
 ·have hA:PH E m g=some (o,i,k):=hA
  by_cases hh:Je E m g
  ·obtain⟨id,hm,x,hx,hd,gj⟩:=hh;obtain⟨a1,a2⟩:=H.lt hx hd gj
   refine⟨a1,a2,fun j y hy nr hs=> ?_⟩
   obtain⟨z,hj,hz,rfl⟩:=Co hy
   have:=H.inj j id z x g hz hx (fun e=>nr (BR.2 e)) hd hs gj
   omega
  ·rw[Io hh] at hA;obtain⟨a1,a2,a3⟩:=H.ar g o i k hA
   refine⟨a1,a2,fun j y hy nr hs=> ?_⟩
   obtain⟨z,hj,hz,rfl⟩:=Co hy
   exact a3 j z hz (fun e=>nr (BR.2 e)) hs
theorem dc (H:Good G I B0 E){m g:Nat}(hp:VM E m)(hh:Je E m g):¬Tr (UK E m) g/\E.B<=g/\g<E.w.heap.size:=by
 obtain⟨id,hm,x,hx,hd,gj⟩:=hh;obtain⟨a1,a2⟩:=H.lt hx hd gj;refine⟨?_,a1,a2⟩
 rintro(⟨j,y,hy,nr,hs⟩|⟨q,i,k,hA,BU⟩)
 ·obtain⟨z,hj,hz,rfl⟩:=Co hy
  have:=H.inj j id z x g hz hx (fun e=>nr (BR.2 e)) hd hs gj
  omega
 ·have hA:PH E m g=some (q,i,k):=hA;rw[K4 H hm hx hd gj] at hA;simp only[Option.some.injEq,Prod.mk.injEq] at hA
  obtain⟨t,cs,h0⟩:=hp.first
  rw[<-hA.1] at BU;exact BU hp.four t _ (Fj hp.pos h0)
theorem DY (hm:m<=E.h.length){E1:Env}(h1:m<=E1.h.length){id:Nat}{y:Blk}(hy:(F6 E E1 m).h[id]?=some y):(id<m/\∃x,E1.h[id]?=some x/\y=AN m E1.h x)\/(m<=id/\E.h[id]?=some y):=by
 have hy:((E1.h.take m).map (AN m E1.h)++E.h.drop m)[id]?=some y:=hy
 have hl:((E1.h.take m).map (AN m E1.h)).length=m:=by simp;omega
 by_cases hid:id<m
 ·rw[List.getElem?_append_left (by omega)] at hy
  obtain⟨x,_,hx,wO⟩:=Co hy;exact .inl ⟨hid,x,hx,wO⟩
 ·rw[List.getElem?_append_right (by omega),hl,List.getElem?_drop,show m+(id-m)=id by omega] at hy
  exact .inr ⟨by omega,hy⟩
theorem Et (hm:m<=E.h.length){E1:Env}{id:Nat}{x:Blk}(hid:id<m)(h1:m<=E1.h.length)(hx:E1.h[id]?=some x):(F6 E E1 m).h[id]?=some (AN m E1.h x):=by
 show((E1.h.take m).map (AN m E1.h)++E.h.drop m)[id]?=_
 rw[List.getElem?_append_left (by simp;omega)]
 exact Fj hid hx
theorem Jj {E1:Env}(h1:m<=E1.h.length){id:Nat}{x:Blk}(hid:m<=id)(hx:E.h[id]?=some x):(F6 E E1 m).h[id]?=some x:=by
 show((E1.h.take m).map (AN m E1.h)++E.h.drop m)[id]?=_
 have hl:((E1.h.take m).map (AN m E1.h)).length=m:=by simp;omega
 rw[List.getElem?_append_right (by omega),hl,List.getElem?_drop,show m+(id-m)=id by omega]
 exact hx
theorem Bo {E1:Env}{id:Nat}(h:id<m):(F6 E E1 m).σ id=E1.σ id:=by
 show(bif Nat.blt id m then E1.σ id else E.σ id)=_
 rw[show Nat.blt id m=true by simp[Nat.blt_eq,h]];rfl
theorem BO {E1:Env}{id:Nat}(h:m<=id):(F6 E E1 m).σ id=E.σ id:=by
 show(bif Nat.blt id m then E1.σ id else E.σ id)=_
 rw[show Nat.blt id m=false by rw[<-Bool.not_eq_true,Nat.blt_eq];omega];rfl
theorem iR (H:Good G I B0 E)(hG:∀g cs,G g=some cs->Aa.Ax cs=true){m:Nat}(hp:VM E m){E1:Env}(S:Step G I B0 (UK E m) E1):
  Cut m E1.h E1 (F6 E E1 m)/\Step G I B0 E (F6 E E1 m):=by
 have hm:=hp.le
 have dZ:(UK E m).h.length=m:=by show((E.h.take m).map (AN m [])).length=m;simp;omega
 have h1:m<=E1.h.length:=by have:=S.le.len;omega
 have H1:=S.Cg;have HE:E1.B=E.B:=S.le.B
 have Wg:∀g,Je E m g->E1.w.heap[g]?=E.w.heap[g]?/\¬Tr E1 g/\E1.A g=PH E m g:=fun g hh=>by
  obtain⟨a1,a2,a3⟩:=dc H hp hh;exact S.own g a2 a3 a1
 have DJ:∀b o,Dp E1 b o->Dp (F6 E E1 m) b o:=by
  intro b o hs
  by_cases hh:Je E m b
  ·obtain⟨k1,k2,k3⟩:=Wg b hh;obtain⟨sQ,ff,x0,GJ,aG,jI⟩:=hh;have ho:=hs.1.2 (ZM E.h) 0 _ (k3.trans (K4 H ff GJ aG jI))
   refine⟨⟨hs.1.1,fun q i k hq=> ?_⟩,fun id y hy hσ=> ?_⟩
   ·have hq:IJ E E1.A m b=some (q,i,k):=hq;rw[RV ⟨sQ,ff,x0,GJ,aG,jI⟩] at hq;cases hq
   ·rcases DY hm h1 hy with ⟨hid,x,hx,rfl⟩|⟨hid,hx⟩
    ·rw[Bo hid] at hσ
     by_cases hd:x=.dead
     ·exact .inl (by rw[hd];rfl)
     ·exact absurd (.inl ⟨id,x,hx,hd,hσ⟩) k2
    ·rw[BO hid] at hσ
     by_cases hd:y=.dead
     ·exact .inl hd
     ·obtain rfl:=H.inj id sQ y x0 b hx GJ hd aG hσ jI;rw[hx] at GJ
      injection GJ with GJ
      subst GJ
      cases y with
      |grow n sz e=>exact .inr ⟨n,sz,e,rfl,ho⟩
      |mem _ _=>exact absurd ho (Nat.not_lt_zero _)
      |dead=>exact .inl rfl
      |iter _ _=>exact absurd ho (Nat.not_lt_zero _)
      |stk _ _ _ _ _ _ _=>exact absurd ho (Nat.not_lt_zero _)
  ·refine⟨⟨hs.1.1,fun q i k hq=> ?_⟩,fun id y hy hσ=> ?_⟩
   ·have hq:IJ E E1.A m b=some (q,i,k):=hq;rw[GP hh] at hq;exact hs.1.2 q i k hq
   ·rcases DY hm h1 hy with ⟨hid,x,hx,rfl⟩|⟨hid,hx⟩
    ·rw[Bo hid] at hσ
     rcases hs.2 id x hx hσ with rfl|⟨n,sz,e,rfl,ho⟩
     ·exact .inl rfl
     ·exact .inr ⟨n,sz,e,rfl,ho⟩
    ·rw[BO hid] at hσ
     by_cases hd:y=.dead
     ·exact .inl hd
     ·exact absurd ⟨id,hid,y,hx,hd,hσ⟩ hh
 have uI:∀id,id<m->∀g x,E1.A g=some x->Je E m g->x.1=ZM E.h:=fun id _ g x hA hh=>by
  obtain⟨k1,k2,k3⟩:=Wg g hh;obtain⟨sQ,ff,x0,GJ,aG,jI⟩:=hh;rw[k3,K4 H ff GJ aG jI] at hA
  injection hA with hA
  rw[<-hA]
 have K:Cut m E1.h E1 (F6 E E1 m):=by
  refine⟨rfl,fun _ _=>rfl,fun b o v _ hs=>DJ b o hs,fun id t cs hid hx=>⟨_,Et hm hid h1 hx,BI _ _ _⟩,fun id hid=>Bo hid,?_,fun id k sz e hid hg=> ?_,fun id s p hid hx=>Et hm hid h1 hx,fun id g t sz kc ke ksz rows hid hx=> ?_,?_,fun b t cs hb hx=>⟨hx,fun g hg j x hj=> ?_⟩⟩
  ·show m<=((E1.h.take m).map (AN m E1.h)++E.h.drop m).length;simp;omega
  ·rcases DY hm h1 hg with ⟨_,x,hx,hy⟩|⟨tK,_⟩
   ·rw[hx,EW hy.symm]
   ·omega
  ·rcases DY hm h1 hx with ⟨_,x,hx,hy⟩|⟨tK,_⟩
   ·obtain⟨BT,e1,e2⟩:=GR hy.symm
    exact⟨BT,by rw[hx,e1],by rw[e2,List.map_map];rfl⟩
   ·omega
  ·intro id hid g x hA BU;show IJ E E1.A m g=some x
   by_cases hh:Je E m g
   ·have e0:=uI id hid g x hA hh
    obtain⟨t,cs,h0⟩:=hp.first
    obtain⟨Fw,k1,_,_⟩:=S.le.mem (ZM E.h) t _ (Fj hp.pos h0);rw[e0] at BU;exact absurd k1 (BU hp.four t Fw)
   ·rw[GP hh];exact hA
  ·obtain⟨k0,k1⟩:=On H1 hx hg;obtain⟨v,q1,q2,q3⟩:=k1 j x hj
   have km:¬Je E m g:=fun hh=>(Wg g hh).2.1 (.inl ⟨b,_,hx,by simp,hg⟩)
   refine⟨v,q1,q2,q3,⟨fun hu=> ?_,fun q i k hq=> ?_⟩,fun id y hy hσ=> ?_⟩
   ·have:=H1.U _ _ hu;omega
   ·have hq:IJ E E1.A m g=some (q,i,k):=hq;rw[GP km] at hq
    exact absurd rfl (Gq H1 hx (by simp) hg _ _ hq)
   ·rcases DY hm h1 hy with ⟨hid,z,hz,rfl⟩|⟨hid,hz⟩
    ·rw[Bo hid] at hσ
     by_cases hd:z=.dead
     ·exact .inl (by rw[hd];rfl)
     ·have:=H1.inj id b z _ g hz hx hd (by simp) hσ hg
      omega
    ·rw[BO hid] at hσ
     by_cases hd:y=.dead
     ·exact .inl hd
     ·exact absurd ⟨id,hid,y,hz,hd,hσ⟩ km
 have L:Le E (F6 E E1 m):=by
  refine⟨HE,fun a v h s=> ?_,?_,fun id t cs h=> ?_,fun id n sz e hi h=> ?_,fun id s p h=> ?_,fun id g t sz kc ke ksz rows hi h=> ?_,S.le.maps⟩
  ·obtain⟨k1,k2⟩:=S.le.cells a v h (Oq H s);exact⟨k1,DJ _ _ k2⟩
  ·show E.h.length<=((E1.h.take m).map (AN m E1.h)++E.h.drop m).length;simp;omega
  ·by_cases hid:id<m
   ·obtain⟨Fw,k1,k2,k3⟩:=S.le.mem id t _ (Fj hid h)
    exact⟨_,Et hm hid h1 k1,by rw[BI,k2,BI],by rw[Bo hid];exact k3⟩
   ·exact⟨cs,Jj h1 (by omega) h,rfl,BO (by omega)⟩
  ·rcases DY hm h1 h with ⟨hid,x,hx,hy⟩|⟨hid,hx⟩
   ·rw[EW hy.symm] at hx
    obtain⟨n0,k1,k2,k3⟩:=S.le.grow id n sz e (by omega) hx
    obtain⟨x0,_,GJ,WY⟩:=Co k1;rw[EW WY.symm] at GJ
    refine⟨n0,GJ,k2,fun hn=> ?_⟩
    obtain⟨q1,q2⟩:=k3 hn
    exact⟨by rw[Bo hid];exact q1,q2⟩
   ·refine⟨n,hx,Nat.le_refl _,fun _=>⟨BO hid,fun v xs hv Am=>⟨hv.1,?_⟩⟩⟩
    rcases hv.2 with h2|⟨g,cap,cur,h2,h3,h4,h5⟩
    ·exact .inl h2
    ·have hσ:E.σ id=some g:=by rw[<-Am,h2];rfl
     exact .inr ⟨g,cap,cur,h2,h3,(Wg g ⟨id,hid,_,hx,by simp,hσ⟩).1.trans h4,h5⟩
  ·by_cases hid:id<m
   ·obtain⟨p',k1,k2⟩:=S.le.iter id s p (Fj hid h)
    exact⟨p',Et hm hid h1 k1,by rw[Bo hid];exact k2⟩
   ·exact⟨p,Jj h1 (by omega) h,BO (by omega)⟩
  ·rcases DY hm h1 h with ⟨hid,x,hx,hy⟩|⟨hid,hx⟩
   ·obtain⟨BT,e1,e2⟩:=GR hy.symm;rw[e1] at hx
    obtain⟨g0,r0,k1,_⟩:=S.le.stk id g t sz kc ke ksz BT (by omega) hx
    obtain⟨x0,_,GJ,WY⟩:=Co k1;have:=hp.Ty id x0 GJ;rw[<-Kd (n:=m) (h:=[]),<-WY] at this;cases this
   ·have:=hp.Ty id _ hx;cases this
 refine⟨K,L,⟨fun id y hy=> ?_,fun i j x y g hi hj hx hy De E8=> ?_,fun g cs hg=>At.mono L _ _ (H.Es g cs hg),fun b o hu=>by rw[show(F6 E E1 m).B=E.B from HE,<-HE];exact H1.U b o hu,fun g o i k hA=> ?_,H1.size,by rw[show(F6 E E1 m).B=E.B from HE];exact H.B0,H1.I⟩,S.U,S.below,fun g g1 g2 g3=> ?_⟩
 ·rcases DY hm h1 hy with ⟨hid,x,hx,rfl⟩|⟨hid,hx⟩
  ·have TD:HT x=false:=by
    cases hk:HT x with
    |false=>rfl
    |true=>
     cases x<;>simp[HT] at hk
     rename_i g t sz kc ke ksz rows
     obtain⟨g0,r0,k1,_⟩:=S.le.stk id g t sz kc ke ksz rows (by omega) hx
     obtain⟨x0,_,GJ,WY⟩:=Co k1;have:=hp.Ty id x0 GJ;rw[<-Kd (n:=m) (h:=[]),<-WY] at this;cases this
   exact YW K (Bo hid) rfl TD (H1.KS id x hx)
  ·have h:=H.KS id y hx
   have hb:∀g,E.σ id=some g->y≠.dead->E1.w.heap[g]?=E.w.heap[g]? :=fun g hg hd=>(Wg g ⟨id,hid,y,hx,hd,hg⟩).1
   cases y with
   |mem t cs=>
    obtain⟨g,c,fr,e1,e2,e3,e4,e5,e6⟩:=h
    have hY:=hb g e1 (by simp)
    refine⟨g,c,fr,by rw[BO hid];exact e1,by rw[show(F6 E E1 m).B=E.B from HE];exact e2,hY.trans e3,e4,fun j hj=>(World.frozen?_of_block (a:=⟨g,j,none⟩) hY).trans (e5 j hj),fun j z hz=> ?_⟩
    obtain⟨v,q1,q2,q3⟩:=e6 j z hz;exact⟨v,q1,q2,Rel.mono L _ _ q3⟩
   |grow n sz e=>
    intro g hg;rw[BO hid] at hg;obtain⟨a1,a2⟩:=h g hg
    exact⟨by rw[show(F6 E E1 m).B=E.B from HE];exact a1,Nat.lt_of_lt_of_le a2 S.below.size⟩
   |dead=>trivial
   |iter s p=>
    obtain⟨g,e1,e2,e3⟩:=h
    exact⟨g,by rw[BO hid];exact e1,by rw[show(F6 E E1 m).B=E.B from HE];exact e2,(hb g e1 (by simp)).trans e3⟩
   |stk _ _ _ _ _ _ _=>have:=hp.Ty id _ hx;cases this
 ·rcases DY hm h1 hi with ⟨hid,x0,GJ,rfl⟩|⟨hid,GJ⟩<;>rcases DY hm h1 hj with ⟨mC,y0,WY,rfl⟩|⟨mC,WY⟩
  ·rw[Bo hid] at De;rw[Bo mC] at E8
   exact H1.inj i j x0 y0 g GJ WY (fun e=>hx (BR.2 e)) (fun e=>hy (BR.2 e)) De E8
  ·rw[Bo hid] at De;rw[BO mC] at E8
   exact absurd (.inl ⟨i,x0,GJ,fun e=>hx (BR.2 e),De⟩) (Wg g ⟨j,mC,y,WY,hy,E8⟩).2.1
  ·rw[BO hid] at De;rw[Bo mC] at E8
   exact absurd (.inl ⟨j,y0,WY,fun e=>hy (BR.2 e),E8⟩) (Wg g ⟨i,hid,x,GJ,hx,De⟩).2.1
  ·rw[BO hid] at De;rw[BO mC] at E8;exact H.inj i j x y g GJ WY hx hy De E8
 ·have hA:IJ E E1.A m g=some (o,i,k):=hA
  by_cases hh:Je E m g
  ·rw[RV hh] at hA;cases hA
  ·rw[GP hh] at hA;obtain⟨a1,a2,a3⟩:=H1.ar g o i k hA
   refine⟨a1,a2,fun j y hy hd hs=> ?_⟩
   rcases DY hm h1 hy with ⟨hid,x,hx,rfl⟩|⟨hid,hx⟩
   ·rw[Bo hid] at hs
    exact a3 j x hx (fun e=>hd (BR.2 e)) hs
   ·rw[BO hid] at hs;exact hh ⟨j,hid,y,hx,hd,hs⟩
 ·have km:¬Je E m g:=fun⟨id,_,x,hx,hd,hs⟩=>g3 (.inl ⟨id,x,hx,hd,hs⟩)
  have Uc:¬Tr (UK E m) g:=by
   rintro(⟨id,y,hy,hd,hs⟩|⟨q,i,k,hA,BU⟩)
   ·obtain⟨x,_,hx,rfl⟩:=Co hy
    exact g3 (.inl ⟨id,x,hx,fun e=>hd (BR.2 e),hs⟩)
   ·have hA:PH E m g=some (q,i,k):=hA;rw[Io km] at hA
    exact g3 (.inr ⟨q,i,k,hA,fun e t cs h0=>BU e t _ (Fj (Nat.lt_of_lt_of_le e hp.vp) h0)⟩)
  obtain⟨k1,k2,k3⟩:=S.own g g1 g2 Uc;refine⟨k1,?_,?_⟩
  ·rintro(⟨id,y,hy,hd,hs⟩|⟨q,i,k,hA,BU⟩)
   ·rcases DY hm h1 hy with ⟨hid,x,hx,rfl⟩|⟨hid,hx⟩
    ·rw[Bo hid] at hs
     exact k2 (.inl ⟨id,x,hx,fun e=>hd (BR.2 e),hs⟩)
    ·rw[BO hid] at hs;exact g3 (.inl ⟨id,y,hx,hd,hs⟩)
   ·have hA:IJ E E1.A m g=some (q,i,k):=hA;rw[GP km] at hA
    exact k2 (.inr ⟨q,i,k,hA,fun e t cs h0=>BU e t _ (Et hm (Nat.lt_of_lt_of_le e hp.vp) h1 h0)⟩)
  ·show IJ E E1.A m g=E.A g;rw[GP km,k3];exact Io km
end
end Go.Ai
