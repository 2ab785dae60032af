/-
  A call that sees only the first blocks of its caller's memory: the others stay as they are.
-/
import Derived.Test.YtopjpnhgnopbiaaGreatDoorTAiStrip
set_option linter.unusedVariables false
set_option linter.unusedSimpArgs false
set_option linter.unnecessarySimpa false
namespace Go.Ai
open Go.RowKit
section
variable {G:Nat->Option (List AV)}{I:World->Prop}{B0:Nat}{E:Env}{m:Nat}
def iL :Option Blk->Nat
 |some (.grow n sz _)=>n*sz
 |_=>0
def Jc (E:Env)(m g:Nat):Prop:=∃id,m<=id/\∃x,E.h[id]?=some x/\x≠.dead/\E.σ id=some g
noncomputable def PB(E:Env)(m g:Nat):Option (Nat×Nat×Nat):=
 match Classical.propDecidable (Jc E m g) with
 |.isTrue h=>some (ZJ E.h,0,iL (E.h[Classical.choose h]?))
 |.isFalse _=>E.A g
noncomputable def IH(E:Env)(A:Nat->Option (Nat×Nat×Nat))(m g:Nat):Option (Nat×Nat×Nat):=
 match Classical.propDecidable (Jc E m g) with
 |.isTrue _=>none
 |.isFalse _=>A g
theorem Ik {m g:Nat}(h:¬Jc E m g):PB E m g=E.A g:=by
 unfold PB;split
 ·rename_i h1 _;exact absurd h1 h
 ·rfl
theorem GN {A:Nat->Option (Nat×Nat×Nat)}{m g:Nat}(h:¬Jc E m g):IH E A m g=A g:=by
 unfold IH;split
 ·rename_i h1 _;exact absurd h1 h
 ·rfl
theorem RQ {A:Nat->Option (Nat×Nat×Nat)}{m g:Nat}(h:Jc E m g):IH E A m g=none:=by
 unfold IH;split
 ·rfl
 ·rename_i h1 _;exact absurd h h1
theorem K0 (H:Good G I B0 E){m id g:Nat}{x:Blk}(hm:m<=id)(hx:E.h[id]?=some x)(hd:x≠.dead)(hs:E.σ id=some g):PB E m g=some (ZJ E.h,0,iL (some x)):=by
 unfold PB;split
 ·rename_i h1 _;obtain⟨c1,y,c2,c3,c4⟩:=Classical.choose_spec h1;have e:=H.inj (Classical.choose h1) id y x g c2 hx c3 hd c4 hs;rw[e,hx]
 ·rename_i h1 _;exact absurd ⟨id,hm,x,hx,hd,hs⟩ h1
theorem oC (H:Good G I B0 E){m g:Nat}(h:Jc E m g):E.A g=none:=by
 obtain⟨id,_,x,hx,hd,hs⟩:=h
 cases hA:E.A g with
 |none=>rfl
 |some y=>exact absurd rfl (Gm H hx hd hs g y hA)
noncomputable def UF(E:Env)(m:Nat):Env:={E with h:=(E.h.take m).map (AL m []),A:=PB E m}
noncomputable def Fy(E E1:Env)(m:Nat):Env:={E1 with h:=(E1.h.take m).map (AL m E1.h)++E.h.drop m,σ:=fun id=>bif Nat.blt id m then E1.σ id else E.σ id,A:=IH E E1.A m}
theorem Co {h h0:Hp}{m id:Nat}{y:Blk}(hy:((h.take m).map (AL m h0))[id]?=some y):∃x,id<m/\h[id]?=some x/\y=AL m h0 x:=by
 rw[List.getElem?_map] at hy
 have hid:id<m:=by
  rcases Nat.lt_or_ge id m with h|h
  ·exact h
  ·rw[List.getElem?_eq_none (by simp;omega)] at hy
   cases hy
 rw[List.getElem?_take_of_lt hid] at hy
 cases hx:h[id]? with
 |none=>rw[hx] at hy;cases hy
 |some x=>
  rw[hx] at hy
  injection hy with hy
  exact⟨x,hid,rfl,hy.symm⟩
theorem Fh {h h0:Hp}{m id:Nat}{x:Blk}(hid:id<m)(hx:h[id]?=some x):((h.take m).map (AL m h0))[id]?=some (AL m h0 x):=by
 rw[List.getElem?_map,List.getElem?_take_of_lt hid,hx];rfl
theorem Ka {n:Nat}{h:Hp}{x:Blk}:HS (AL n h x)=HS x:=by cases x<;>rfl
structure VF (E:Env) (m:Nat):Prop where
 pos:ZJ E.h<m
 le:m<=E.h.length
 first:∃t cs,E.h[ZJ E.h]?=some (.mem t cs)
 four:ZJ E.h<4
 vb:4<=m
 Tt:∀(id:Nat) x,E.h[id]?=some x->HS x=false
theorem ju {m:Nat}{h:Hp}(hx:HN m h=true)(hE:E.h=h):VF E m:=by
 subst hE;simp only[HN,Bool.and_eq_true,Nat.blt_eq,Nat.ble_eq] at hx;obtain⟨⟨⟨⟨⟨h1,h2⟩,h3⟩,h5⟩,h6⟩,h4⟩:=hx
 refine⟨h1,h2,?_,h5,h6,fun id x hx=> ?_⟩
 ·cases h0:E.h[ZJ E.h]? with
  |none=>rw[h0] at h3;cases h3
  |some x=>cases x with
   |mem t cs=>exact⟨t,cs,rfl⟩
   |_=>rw[h0] at h3;cases h3
 ·have:=List.all_eq_true.1 h4 x (List.mem_of_getElem? hx);simpa using this
theorem Ok (H:Good G I B0 E){m b o:Nat}(hs:Dn E b o):Dn (UF E m) b o:=by
 refine⟨⟨hs.1.1,fun q i k hq=> ?_⟩,fun id y hy hσ=> ?_⟩
 ·have hq:PB E m b=some (q,i,k):=hq
  by_cases hh:Jc E m b
  ·obtain⟨id,hm,x,hx,hd,gV⟩:=hh;rw[K0 H hm hx hd gV] at hq;simp only[Option.some.injEq,Prod.mk.injEq] at hq
   rcases hs.2 id x hx gV with h1|⟨n,sz,e,rfl,ho⟩
   ·exact absurd h1 hd
   ·rw[<-hq.2.2];exact ho
  ·rw[Ik hh] at hq;exact hs.1.2 q i k hq
 ·obtain⟨x,_,hx,rfl⟩:=Co hy
  rcases hs.2 id x hx hσ with rfl|⟨n,sz,e,rfl,ho⟩
  ·exact .inl rfl
  ·exact .inr ⟨n,sz,e,rfl,ho⟩
theorem Xo (H:Good G I B0 E){m:Nat}(hp:VF E m):Cut m [] E (UF E m):=by
 refine⟨rfl,fun _ _=>rfl,fun b o v _ hs=>Ok H hs,fun id t cs hid hm=>⟨_,Fh hid hm,BH _ _ _⟩,fun _ _=>rfl,?_,fun id k sz e hid hg=> ?_,fun id s p hid hm=>Fh hid hm,fun id g t sz kc ke ksz rows hid hm=> ?_,fun id _ g x hA _=> ?_,fun b t cs hb hm=>by simp at hm⟩
 ·show m<=((E.h.take m).map (AL m [])).length;have:=hp.le;simp;omega
 ·obtain⟨x,_,hx,hy⟩:=Co hg;rw[hx,EW hy.symm]
 ·obtain⟨x,_,hx,hy⟩:=Co hm;obtain⟨BS,h1,h2⟩:=GP hy.symm
  exact⟨BS,by rw[hx,h1],by rw[h2,List.map_map];rfl⟩
 ·show PB E m g=some x
  rw[Ik fun hh=>by rw[oC H hh] at hA;cases hA]
  exact hA
theorem YT {n:Nat}{h0:Hp}{E E':Env}(K:Cut n h0 E E'){id:Nat}(hσ:E'.σ id=E.σ id)(hB:E'.B=E.B){x:Blk}(hs:HS x=false)(h:EA E id x):EA E' id (AL n h0 x):=by
 cases x with
 |mem t cs=>
  obtain⟨g,c,fr,h1,h2,h3,h4,h5,h6⟩:=h
  refine⟨g,c,fr,hσ.trans h1,by rw[hB];exact h2,by rw[K.w];exact h3,by rw[BH];exact h4,fun j hj=>by rw[K.w];exact h5 j (by rwa [BH] at hj),fun j z hz=> ?_⟩
  rw[GO] at hz
  cases ZZ:cs[j]? with
  |none=>rw[ZZ] at hz;cases hz
  |some x=>
   rw[ZZ] at hz
   injection hz with hz
   obtain⟨v,k1,k2,k3⟩:=h6 j x ZZ;exact⟨v,k1,k2,hz▸Rel.cut K x v k3⟩
 |grow n sz e=>exact fun g hg=>by rw[hB,K.w];exact h g (hσ▸hg)
 |dead=>trivial
 |iter s p=>
  obtain⟨g,h1,h2,h3⟩:=h
  exact⟨g,hσ.trans h1,by rw[hB];exact h2,by rw[K.w];exact h3⟩
 |stk _ _ _ _ _ _ _=>cases hs
theorem cM (H:Good G I B0 E)(hG:∀g cs,G g=some cs->AZ.Aw cs=true){m:Nat}(hp:VF E m):Good G I B0 (UF E m):=by
 have K:=Xo H hp
 refine⟨fun id y hy=> ?_,fun i j x y g hi hj hx hy Dd E6=> ?_,fun g cs hg=> ?_,H.U,fun g o i k hA=> ?_,H.size,H.B0,H.I⟩
 ·obtain⟨x,_,hx,rfl⟩:=Co hy;exact YT K rfl rfl (hp.Tt id x hx) (H.KO id x hx)
 ·obtain⟨x0,_,GH,rfl⟩:=Co hi;obtain⟨y0,_,WS,rfl⟩:=Co hj
  exact H.inj i j x0 y0 g GH WS (fun e=>hx (BQ.2 e)) (fun e=>hy (BQ.2 e)) Dd E6
 ·have:=At.cut K cs _ (H.Ep g cs hg)
  rwa [BK _ _ cs (hG g cs hg)] at this
 ·have hA:PB E m g=some (o,i,k):=hA
  by_cases hh:Jc E m g
  ·obtain⟨id,hm,x,hx,hd,gV⟩:=hh;obtain⟨a1,a2⟩:=H.lt hx hd gV
   refine⟨a1,a2,fun j y hy nW hs=> ?_⟩
   obtain⟨z,hj,hz,rfl⟩:=Co hy
   have:=H.inj j id z x g hz hx (fun e=>nW (BQ.2 e)) hd hs gV
   omega
  ·rw[Ik hh] at hA;obtain⟨a1,a2,a3⟩:=H.ar g o i k hA
   refine⟨a1,a2,fun j y hy nW hs=> ?_⟩
   obtain⟨z,hj,hz,rfl⟩:=Co hy
   exact a3 j z hz (fun e=>nW (BQ.2 e)) hs
theorem dW (H:Good G I B0 E){m g:Nat}(hp:VF E m)(hh:Jc E m g):¬Tr (UF E m) g/\E.B<=g/\g<E.w.heap.size:=by
 obtain⟨id,hm,x,hx,hd,gV⟩:=hh;obtain⟨a1,a2⟩:=H.lt hx hd gV;refine⟨?_,a1,a2⟩
 rintro(⟨j,y,hy,nW,hs⟩|⟨q,i,k,hA,BT⟩)
 ·obtain⟨z,hj,hz,rfl⟩:=Co hy
  have:=H.inj j id z x g hz hx (fun e=>nW (BQ.2 e)) hd hs gV
  omega
 ·have hA:PB E m g=some (q,i,k):=hA;rw[K0 H hm hx hd gV] at hA;simp only[Option.some.injEq,Prod.mk.injEq] at hA
  obtain⟨t,cs,h0⟩:=hp.first
  rw[<-hA.1] at BT;exact BT hp.four t _ (Fh hp.pos h0)
theorem DX (hm:m<=E.h.length){E1:Env}(h1:m<=E1.h.length){id:Nat}{y:Blk}(hy:(Fy E E1 m).h[id]?=some y):(id<m/\∃x,E1.h[id]?=some x/\y=AL m E1.h x)\/(m<=id/\E.h[id]?=some y):=by
 have hy:((E1.h.take m).map (AL m E1.h)++E.h.drop m)[id]?=some y:=hy
 have hl:((E1.h.take m).map (AL m E1.h)).length=m:=by simp;omega
 by_cases hid:id<m
 ·rw[List.getElem?_append_left (by omega)] at hy
  obtain⟨x,_,hx,vz⟩:=Co hy;exact .inl ⟨hid,x,hx,vz⟩
 ·rw[List.getElem?_append_right (by omega),hl,List.getElem?_drop,show m+(id-m)=id by omega] at hy
  exact .inr ⟨by omega,hy⟩
theorem Er (hm:m<=E.h.length){E1:Env}{id:Nat}{x:Blk}(hid:id<m)(h1:m<=E1.h.length)(hx:E1.h[id]?=some x):(Fy E E1 m).h[id]?=some (AL m E1.h x):=by
 show((E1.h.take m).map (AL m E1.h)++E.h.drop m)[id]?=_
 rw[List.getElem?_append_left (by simp;omega)]
 exact Fh hid hx
theorem Jh {E1:Env}(h1:m<=E1.h.length){id:Nat}{x:Blk}(hid:m<=id)(hx:E.h[id]?=some x):(Fy E E1 m).h[id]?=some x:=by
 show((E1.h.take m).map (AL m E1.h)++E.h.drop m)[id]?=_
 have hl:((E1.h.take m).map (AL m E1.h)).length=m:=by simp;omega
 rw[List.getElem?_append_right (by omega),hl,List.getElem?_drop,show m+(id-m)=id by omega]
 exact hx
theorem Bo {E1:Env}{id:Nat}(h:id<m):(Fy E E1 m).σ id=E1.σ id:=by
 show(bif Nat.blt id m then E1.σ id else E.σ id)=_
 rw[show Nat.blt id m=true by simp[Nat.blt_eq,h]];rfl
theorem BN {E1:Env}{id:Nat}(h:m<=id):(Fy E E1 m).σ id=E.σ id:=by
 show(bif Nat.blt id m then E1.σ id else E.σ id)=_
 rw[show Nat.blt id m=false by rw[<-Bool.not_eq_true,Nat.blt_eq];omega];rfl
theorem iG (H:Good G I B0 E)(hG:∀g cs,G g=some cs->AZ.Aw cs=true){m:Nat}(hp:VF E m){E1:Env}(S:Step G I B0 (UF E m) E1):
  Cut m E1.h E1 (Fy E E1 m)/\Step G I B0 E (Fy E E1 m):=by
 have hm:=hp.le
 have dT:(UF E m).h.length=m:=by show((E.h.take m).map (AL m [])).length=m;simp;omega
 have h1:m<=E1.h.length:=by have:=S.le.len;omega
 have H1:=S.Cg;have HD:E1.B=E.B:=S.le.B
 have Wa:∀g,Jc E m g->E1.w.heap[g]?=E.w.heap[g]?/\¬Tr E1 g/\E1.A g=PB E m g:=fun g hh=>by
  obtain⟨a1,a2,a3⟩:=dW H hp hh;exact S.own g a2 a3 a1
 have DI:∀b o,Dn E1 b o->Dn (Fy E E1 m) b o:=by
  intro b o hs
  by_cases hh:Jc E m b
  ·obtain⟨k1,k2,k3⟩:=Wa b hh;obtain⟨sC,fU,x0,GH,Z9,iy⟩:=hh;have ho:=hs.1.2 (ZJ E.h) 0 _ (k3.trans (K0 H fU GH Z9 iy))
   refine⟨⟨hs.1.1,fun q i k hq=> ?_⟩,fun id y hy hσ=> ?_⟩
   ·have hq:IH E E1.A m b=some (q,i,k):=hq;rw[RQ ⟨sC,fU,x0,GH,Z9,iy⟩] at hq;cases hq
   ·rcases DX hm h1 hy with ⟨hid,x,hx,rfl⟩|⟨hid,hx⟩
    ·rw[Bo hid] at hσ
     by_cases hd:x=.dead
     ·exact .inl (by rw[hd];rfl)
     ·exact absurd (.inl ⟨id,x,hx,hd,hσ⟩) k2
    ·rw[BN hid] at hσ
     by_cases hd:y=.dead
     ·exact .inl hd
     ·obtain rfl:=H.inj id sC y x0 b hx GH hd Z9 hσ iy;rw[hx] at GH
      injection GH with GH
      subst GH
      cases y with
      |grow n sz e=>exact .inr ⟨n,sz,e,rfl,ho⟩
      |mem _ _=>exact absurd ho (Nat.not_lt_zero _)
      |dead=>exact .inl rfl
      |iter _ _=>exact absurd ho (Nat.not_lt_zero _)
      |stk _ _ _ _ _ _ _=>exact absurd ho (Nat.not_lt_zero _)
  ·refine⟨⟨hs.1.1,fun q i k hq=> ?_⟩,fun id y hy hσ=> ?_⟩
   ·have hq:IH E E1.A m b=some (q,i,k):=hq;rw[GN hh] at hq;exact hs.1.2 q i k hq
   ·rcases DX hm h1 hy with ⟨hid,x,hx,rfl⟩|⟨hid,hx⟩
    ·rw[Bo hid] at hσ
     rcases hs.2 id x hx hσ with rfl|⟨n,sz,e,rfl,ho⟩
     ·exact .inl rfl
     ·exact .inr ⟨n,sz,e,rfl,ho⟩
    ·rw[BN hid] at hσ
     by_cases hd:y=.dead
     ·exact .inl hd
     ·exact absurd ⟨id,hid,y,hx,hd,hσ⟩ hh
 have tt:∀id,id<m->∀g x,E1.A g=some x->Jc E m g->x.1=ZJ E.h:=fun id _ g x hA hh=>by
  obtain⟨k1,k2,k3⟩:=Wa g hh;obtain⟨sC,fU,x0,GH,Z9,iy⟩:=hh;rw[k3,K0 H fU GH Z9 iy] at hA
  injection hA with hA
  rw[<-hA]
 have K:Cut m E1.h E1 (Fy E E1 m):=by
  refine⟨rfl,fun _ _=>rfl,fun b o v _ hs=>DI b o hs,fun id t cs hid hx=>⟨_,Er hm hid h1 hx,BH _ _ _⟩,fun id hid=>Bo hid,?_,fun id k sz e hid hg=> ?_,fun id s p hid hx=>Er hm hid h1 hx,fun id g t sz kc ke ksz rows hid hx=> ?_,?_,fun b t cs hb hx=>⟨hx,fun g hg j x hj=> ?_⟩⟩
  ·show m<=((E1.h.take m).map (AL m E1.h)++E.h.drop m).length;simp;omega
  ·rcases DX hm h1 hg with ⟨_,x,hx,hy⟩|⟨sx,_⟩
   ·rw[hx,EW hy.symm]
   ·omega
  ·rcases DX hm h1 hx with ⟨_,x,hx,hy⟩|⟨sx,_⟩
   ·obtain⟨BS,e1,e2⟩:=GP hy.symm
    exact⟨BS,by rw[hx,e1],by rw[e2,List.map_map];rfl⟩
   ·omega
  ·intro id hid g x hA BT;show IH E E1.A m g=some x
   by_cases hh:Jc E m g
   ·have e0:=tt id hid g x hA hh
    obtain⟨t,cs,h0⟩:=hp.first
    obtain⟨Fu,k1,_,_⟩:=S.le.mem (ZJ E.h) t _ (Fh hp.pos h0);rw[e0] at BT;exact absurd k1 (BT hp.four t Fu)
   ·rw[GN hh];exact hA
  ·obtain⟨k0,k1⟩:=Oi H1 hx hg;obtain⟨v,q1,q2,q3⟩:=k1 j x hj
   have kX:¬Jc E m g:=fun hh=>(Wa g hh).2.1 (.inl ⟨b,_,hx,by simp,hg⟩)
   refine⟨v,q1,q2,q3,⟨fun hu=> ?_,fun q i k hq=> ?_⟩,fun id y hy hσ=> ?_⟩
   ·have:=H1.U _ _ hu;omega
   ·have hq:IH E E1.A m g=some (q,i,k):=hq;rw[GN kX] at hq
    exact absurd rfl (Gm H1 hx (by simp) hg _ _ hq)
   ·rcases DX hm h1 hy with ⟨hid,z,hz,rfl⟩|⟨hid,hz⟩
    ·rw[Bo hid] at hσ
     by_cases hd:z=.dead
     ·exact .inl (by rw[hd];rfl)
     ·have:=H1.inj id b z _ g hz hx hd (by simp) hσ hg
      omega
    ·rw[BN hid] at hσ
     by_cases hd:y=.dead
     ·exact .inl hd
     ·exact absurd ⟨id,hid,y,hz,hd,hσ⟩ kX
 have L:Le E (Fy E E1 m):=by
  refine⟨HD,fun a v h s=> ?_,?_,fun id t cs h=> ?_,fun id n sz e hi h=> ?_,fun id s p h=> ?_,fun id g t sz kc ke ksz rows hi h=> ?_,S.le.maps⟩
  ·obtain⟨k1,k2⟩:=S.le.cells a v h (Ok H s);exact⟨k1,DI _ _ k2⟩
  ·show E.h.length<=((E1.h.take m).map (AL m E1.h)++E.h.drop m).length;simp;omega
  ·by_cases hid:id<m
   ·obtain⟨Fu,k1,k2,k3⟩:=S.le.mem id t _ (Fh hid h)
    exact⟨_,Er hm hid h1 k1,by rw[BH,k2,BH],by rw[Bo hid];exact k3⟩
   ·exact⟨cs,Jh h1 (by omega) h,rfl,BN (by omega)⟩
  ·rcases DX hm h1 h with ⟨hid,x,hx,hy⟩|⟨hid,hx⟩
   ·rw[EW hy.symm] at hx
    obtain⟨n0,k1,k2,k3⟩:=S.le.grow id n sz e (by omega) hx
    obtain⟨x0,_,GH,WS⟩:=Co k1;rw[EW WS.symm] at GH
    refine⟨n0,GH,k2,fun hn=> ?_⟩
    obtain⟨q1,q2⟩:=k3 hn
    exact⟨by rw[Bo hid];exact q1,q2⟩
   ·refine⟨n,hx,Nat.le_refl _,fun _=>⟨BN hid,fun v xs hv Am=>⟨hv.1,?_⟩⟩⟩
    rcases hv.2 with h2|⟨g,cap,cur,h2,h3,h4,h5⟩
    ·exact .inl h2
    ·have hσ:E.σ id=some g:=by rw[<-Am,h2];rfl
     exact .inr ⟨g,cap,cur,h2,h3,(Wa g ⟨id,hid,_,hx,by simp,hσ⟩).1.trans h4,h5⟩
  ·by_cases hid:id<m
   ·obtain⟨p',k1,k2⟩:=S.le.iter id s p (Fh hid h)
    exact⟨p',Er hm hid h1 k1,by rw[Bo hid];exact k2⟩
   ·exact⟨p,Jh h1 (by omega) h,BN (by omega)⟩
  ·rcases DX hm h1 h with ⟨hid,x,hx,hy⟩|⟨hid,hx⟩
   ·obtain⟨BS,e1,e2⟩:=GP hy.symm;rw[e1] at hx
    obtain⟨g0,r0,k1,_⟩:=S.le.stk id g t sz kc ke ksz BS (by omega) hx
    obtain⟨x0,_,GH,WS⟩:=Co k1;have:=hp.Tt id x0 GH;rw[<-Ka (n:=m) (h:=[]),<-WS] at this;cases this
   ·have:=hp.Tt id _ hx;cases this
 refine⟨K,L,⟨fun id y hy=> ?_,fun i j x y g hi hj hx hy Dd E6=> ?_,fun g cs hg=>At.mono L _ _ (H.Ep g cs hg),fun b o hu=>by rw[show(Fy E E1 m).B=E.B from HD,<-HD];exact H1.U b o hu,fun g o i k hA=> ?_,H1.size,by rw[show(Fy E E1 m).B=E.B from HD];exact H.B0,H1.I⟩,S.U,S.below,fun g g1 g2 g3=> ?_⟩
 ·rcases DX hm h1 hy with ⟨hid,x,hx,rfl⟩|⟨hid,hx⟩
  ·have Sy:HS x=false:=by
    cases hk:HS x with
    |false=>rfl
    |true=>
     cases x<;>simp[HS] at hk
     rename_i g t sz kc ke ksz rows
     obtain⟨g0,r0,k1,_⟩:=S.le.stk id g t sz kc ke ksz rows (by omega) hx
     obtain⟨x0,_,GH,WS⟩:=Co k1;have:=hp.Tt id x0 GH;rw[<-Ka (n:=m) (h:=[]),<-WS] at this;cases this
   exact YT K (Bo hid) rfl Sy (H1.KO id x hx)
  ·have h:=H.KO id y hx
   have hb:∀g,E.σ id=some g->y≠.dead->E1.w.heap[g]?=E.w.heap[g]? :=fun g hg hd=>(Wa g ⟨id,hid,y,hx,hd,hg⟩).1
   cases y with
   |mem t cs=>
    obtain⟨g,c,fr,e1,e2,e3,e4,e5,e6⟩:=h
    have gl:=hb g e1 (by simp)
    refine⟨g,c,fr,by rw[BN hid];exact e1,by rw[show(Fy E E1 m).B=E.B from HD];exact e2,gl.trans e3,e4,fun j hj=>(World.frozen?_of_block (a:=⟨g,j,none⟩) gl).trans (e5 j hj),fun j z hz=> ?_⟩
    obtain⟨v,q1,q2,q3⟩:=e6 j z hz;exact⟨v,q1,q2,Rel.mono L _ _ q3⟩
   |grow n sz e=>
    intro g hg;rw[BN hid] at hg;obtain⟨a1,a2⟩:=h g hg
    exact⟨by rw[show(Fy E E1 m).B=E.B from HD];exact a1,Nat.lt_of_lt_of_le a2 S.below.size⟩
   |dead=>trivial
   |iter s p=>
    obtain⟨g,e1,e2,e3⟩:=h
    exact⟨g,by rw[BN hid];exact e1,by rw[show(Fy E E1 m).B=E.B from HD];exact e2,(hb g e1 (by simp)).trans e3⟩
   |stk _ _ _ _ _ _ _=>have:=hp.Tt id _ hx;cases this
 ·rcases DX hm h1 hi with ⟨hid,x0,GH,rfl⟩|⟨hid,GH⟩<;>rcases DX hm h1 hj with ⟨lp,y0,WS,rfl⟩|⟨lp,WS⟩
  ·rw[Bo hid] at Dd;rw[Bo lp] at E6
   exact H1.inj i j x0 y0 g GH WS (fun e=>hx (BQ.2 e)) (fun e=>hy (BQ.2 e)) Dd E6
  ·rw[Bo hid] at Dd;rw[BN lp] at E6
   exact absurd (.inl ⟨i,x0,GH,fun e=>hx (BQ.2 e),Dd⟩) (Wa g ⟨j,lp,y,WS,hy,E6⟩).2.1
  ·rw[BN hid] at Dd;rw[Bo lp] at E6
   exact absurd (.inl ⟨j,y0,WS,fun e=>hy (BQ.2 e),E6⟩) (Wa g ⟨i,hid,x,GH,hx,Dd⟩).2.1
  ·rw[BN hid] at Dd;rw[BN lp] at E6;exact H.inj i j x y g GH WS hx hy Dd E6
 ·have hA:IH E E1.A m g=some (o,i,k):=hA
  by_cases hh:Jc E m g
  ·rw[RQ hh] at hA;cases hA
  ·rw[GN hh] at hA;obtain⟨a1,a2,a3⟩:=H1.ar g o i k hA
   refine⟨a1,a2,fun j y hy hd hs=> ?_⟩
   rcases DX hm h1 hy with ⟨hid,x,hx,rfl⟩|⟨hid,hx⟩
   ·rw[Bo hid] at hs
    exact a3 j x hx (fun e=>hd (BQ.2 e)) hs
   ·rw[BN hid] at hs;exact hh ⟨j,hid,y,hx,hd,hs⟩
 ·have kX:¬Jc E m g:=fun⟨id,_,x,hx,hd,hs⟩=>g3 (.inl ⟨id,x,hx,hd,hs⟩)
  have UX:¬Tr (UF E m) g:=by
   rintro(⟨id,y,hy,hd,hs⟩|⟨q,i,k,hA,BT⟩)
   ·obtain⟨x,_,hx,rfl⟩:=Co hy
    exact g3 (.inl ⟨id,x,hx,fun e=>hd (BQ.2 e),hs⟩)
   ·have hA:PB E m g=some (q,i,k):=hA;rw[Ik kX] at hA
    exact g3 (.inr ⟨q,i,k,hA,fun e t cs h0=>BT e t _ (Fh (Nat.lt_of_lt_of_le e hp.vb) h0)⟩)
  obtain⟨k1,k2,k3⟩:=S.own g g1 g2 UX;refine⟨k1,?_,?_⟩
  ·rintro(⟨id,y,hy,hd,hs⟩|⟨q,i,k,hA,BT⟩)
   ·rcases DX hm h1 hy with ⟨hid,x,hx,rfl⟩|⟨hid,hx⟩
    ·rw[Bo hid] at hs
     exact k2 (.inl ⟨id,x,hx,fun e=>hd (BQ.2 e),hs⟩)
    ·rw[BN hid] at hs;exact g3 (.inl ⟨id,y,hx,hd,hs⟩)
   ·have hA:IH E E1.A m g=some (q,i,k):=hA;rw[GN kX] at hA
    exact k2 (.inr ⟨q,i,k,hA,fun e t cs h0=>BT e t _ (Er hm (Nat.lt_of_lt_of_le e hp.vb) h1 h0)⟩)
  ·show IH E E1.A m g=E.A g;rw[GN kX,k3];exact Ik kX
end
end Go.Ai
