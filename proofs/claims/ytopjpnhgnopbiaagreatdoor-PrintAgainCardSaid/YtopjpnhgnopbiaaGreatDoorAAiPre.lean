/-
  A call that sees only the first blocks of its caller's memory: the others stay as they are.
-/
import Derived.Test.YtopjpnhgnopbiaaGreatDoorAAiStrip
set_option linter.unusedVariables false
set_option linter.unusedSimpArgs false
set_option linter.unnecessarySimpa false
namespace Go.Ai
open Go.RowKit
section
variable {G:Nat->Option (List AV)}{I:World->Prop}{B0:Nat}{E:Env}{m:Nat}
def la :Option Blk->Nat
 |some (.grow n sz _)=>n*sz
 |_=>0
def Kp (E:Env)(m g:Nat):Prop:=∃id,m<=id/\∃x,E.h[id]?=some x/\x≠.dead/\E.σ id=some g
noncomputable def RE(E:Env)(m g:Nat):Option (Nat×Nat×Nat):=
 match Classical.propDecidable (Kp E m g) with
 |.isTrue h=>some (cr E.h,0,la (E.h[Classical.choose h]?))
 |.isFalse _=>E.A g
noncomputable def JR(E:Env)(A:Nat->Option (Nat×Nat×Nat))(m g:Nat):Option (Nat×Nat×Nat):=
 match Classical.propDecidable (Kp E m g) with
 |.isTrue _=>none
 |.isFalse _=>A g
theorem Jw {m g:Nat}(h:¬Kp E m g):RE E m g=E.A g:=by
 unfold RE;split
 ·rename_i h1 _;exact absurd h1 h
 ·rfl
theorem HH {A:Nat->Option (Nat×Nat×Nat)}{m g:Nat}(h:¬Kp E m g):JR E A m g=A g:=by
 unfold JR;split
 ·rename_i h1 _;exact absurd h1 h
 ·rfl
theorem Tj {A:Nat->Option (Nat×Nat×Nat)}{m g:Nat}(h:Kp E m g):JR E A m g=none:=by
 unfold JR;split
 ·rfl
 ·rename_i h1 _;exact absurd h h1
theorem MP (H:Good G I B0 E){m id g:Nat}{x:Blk}(hm:m<=id)(hx:E.h[id]?=some x)(hd:x≠.dead)(hs:E.σ id=some g):RE E m g=some (cr E.h,0,la (some x)):=by
 unfold RE;split
 ·rename_i h1 _;obtain⟨c1,y,c2,c3,c4⟩:=Classical.choose_spec h1;have e:=H.inj (Classical.choose h1) id y x g c2 hx c3 hd c4 hs;rw[e,hx]
 ·rename_i h1 _;exact absurd ⟨id,hm,x,hx,hd,hs⟩ h1
theorem sb (H:Good G I B0 E){m g:Nat}(h:Kp E m g):E.A g=none:=by
 obtain⟨id,_,x,hx,hd,hs⟩:=h
 cases hA:E.A g with
 |none=>rfl
 |some y=>exact absurd rfl (Hd H hx hd hs g y hA)
noncomputable def We(E:Env)(m:Nat):Env:={E with h:=(E.h.take m).map (AN m []),A:=RE E m}
noncomputable def Gu(E E1:Env)(m:Nat):Env:={E1 with h:=(E1.h.take m).map (AN m E1.h)++E.h.drop m,σ:=fun id=>bif Nat.blt id m then E1.σ id else E.σ id,A:=JR E E1.A m}
theorem Cz {h h0:Hp}{m id:Nat}{y:Blk}(hy:((h.take m).map (AN m h0))[id]?=some y):∃x,id<m/\h[id]?=some x/\y=AN m h0 x:=by
 rw[List.getElem?_map] at hy
 have hid:id<m:=by
  rcases Nat.lt_or_ge id m with h|h
  ·exact h
  ·rw[List.getElem?_eq_none (by simp;omega)] at hy
   cases hy
 rw[List.getElem?_take_of_lt hid] at hy
 cases hx:h[id]? with
 |none=>rw[hx] at hy;cases hy
 |some x=>
  rw[hx] at hy
  injection hy with hy
  exact⟨x,hid,rfl,hy.symm⟩
theorem Gd {h h0:Hp}{m id:Nat}{x:Blk}(hid:id<m)(hx:h[id]?=some x):((h.take m).map (AN m h0))[id]?=some (AN m h0 x):=by
 rw[List.getElem?_map,List.getElem?_take_of_lt hid,hx];rfl
theorem Lr {n:Nat}{h:Hp}{x:Blk}:OT (AN n h x)=OT x:=by cases x<;>rfl
structure Xl (E:Env) (m:Nat):Prop where
 pos:cr E.h<m
 le:m<=E.h.length
 first:∃t cs,E.h[cr E.h]?=some (.mem t cs)
 four:cr E.h<4
 zh:4<=m
 WO:∀(id:Nat) x,E.h[id]?=some x->OT x=false
theorem nS {m:Nat}{h:Hp}(hx:MB m h=true)(hE:E.h=h):Xl E m:=by
 subst hE;simp only[MB,Bool.and_eq_true,Nat.blt_eq,Nat.ble_eq] at hx;obtain⟨⟨⟨⟨⟨h1,h2⟩,h3⟩,h5⟩,h6⟩,h4⟩:=hx
 refine⟨h1,h2,?_,h5,h6,fun id x hx=> ?_⟩
 ·cases h0:E.h[cr E.h]? with
  |none=>rw[h0] at h3;cases h3
  |some x=>cases x with
   |mem t cs=>exact⟨t,cs,rfl⟩
   |_=>rw[h0] at h3;cases h3
 ·have:=List.all_eq_true.1 h4 x (List.mem_of_getElem? hx);simpa using this
theorem Qr (H:Good G I B0 E){m b o:Nat}(hs:EI E b o):EI (We E m) b o:=by
 refine⟨⟨hs.1.1,fun q i k hq=> ?_⟩,fun id y hy hσ=> ?_⟩
 ·have hq:RE E m b=some (q,i,k):=hq
  by_cases hh:Kp E m b
  ·obtain⟨id,hm,x,hx,hd,ki⟩:=hh;rw[MP H hm hx hd ki] at hq;simp only[Option.some.injEq,Prod.mk.injEq] at hq
   rcases hs.2 id x hx ki with h1|⟨n,sz,e,rfl,ho⟩
   ·exact absurd h1 hd
   ·rw[<-hq.2.2];exact ho
  ·rw[Jw hh] at hq;exact hs.1.2 q i k hq
 ·obtain⟨x,_,hx,rfl⟩:=Cz hy
  rcases hs.2 id x hx hσ with rfl|⟨n,sz,e,rfl,ho⟩
  ·exact .inl rfl
  ·exact .inr ⟨n,sz,e,rfl,ho⟩
theorem af (H:Good G I B0 E){m:Nat}(hp:Xl E m):Cut m [] E (We E m):=by
 refine⟨rfl,fun _ _=>rfl,fun b o v _ hs=>Qr H hs,fun id t cs hid hm=>⟨_,Gd hid hm,BO _ _ _⟩,fun _ _=>rfl,?_,fun id k sz e hid hg=> ?_,fun id s p hid hm=>Gd hid hm,fun id g t sz kc ke ksz rows hid hm=> ?_,fun id _ g x hA _=> ?_,fun b t cs hb hm=>by simp at hm⟩
 ·show m<=((E.h.take m).map (AN m [])).length;have:=hp.le;simp;omega
 ·obtain⟨x,_,hx,hy⟩:=Cz hg;rw[hx,E8 hy.symm]
 ·obtain⟨x,_,hx,hy⟩:=Cz hm;obtain⟨Bd,h1,h2⟩:=HJ hy.symm
  exact⟨Bd,by rw[hx,h1],by rw[h2,List.map_map];rfl⟩
 ·show RE E m g=some x
  rw[Jw fun hh=>by rw[sb H hh] at hA;cases hA]
  exact hA
theorem bf {n:Nat}{h0:Hp}{E E':Env}(K:Cut n h0 E E'){id:Nat}(hσ:E'.σ id=E.σ id)(hB:E'.B=E.B){x:Blk}(hs:OT x=false)(h:Ea E id x):Ea E' id (AN n h0 x):=by
 cases x with
 |mem t cs=>
  obtain⟨g,c,fr,h1,h2,h3,h4,h5,h6⟩:=h
  refine⟨g,c,fr,hσ.trans h1,by rw[hB];exact h2,by rw[K.w];exact h3,by rw[BO];exact h4,fun j hj=>by rw[K.w];exact h5 j (by rwa [BO] at hj),fun j z hz=> ?_⟩
  rw[HI] at hz
  cases dN:cs[j]? with
  |none=>rw[dN] at hz;cases hz
  |some x=>
   rw[dN] at hz
   injection hz with hz
   obtain⟨v,k1,k2,k3⟩:=h6 j x dN;exact⟨v,k1,k2,hz▸Rel.cut K x v k3⟩
 |grow n sz e=>exact fun g hg=>by rw[hB,K.w];exact h g (hσ▸hg)
 |dead=>trivial
 |iter s p=>
  obtain⟨g,h1,h2,h3⟩:=h
  exact⟨g,hσ.trans h1,by rw[hB];exact h2,by rw[K.w];exact h3⟩
 |Bi _ _ _ _ _ _ _=>cases hs
theorem gM (H:Good G I B0 E)(hG:∀g cs,G g=some cs->AO.Ad cs=true){m:Nat}(hp:Xl E m):Good G I B0 (We E m):=by
 have K:=af H hp
 refine⟨fun id y hy=> ?_,fun i j x y g hi hj hx hy D8 Fo=> ?_,fun g cs hg=> ?_,H.U,fun g o i k hA=> ?_,H.size,H.B0,H.I⟩
 ·obtain⟨x,_,hx,rfl⟩:=Cz hy;exact bf K rfl rfl (hp.WO id x hx) (H.Ld id x hx)
 ·obtain⟨x0,_,JM,rfl⟩:=Cz hi;obtain⟨y0,_,Y5,rfl⟩:=Cz hj
  exact H.inj i j x0 y0 g JM Y5 (fun e=>hx (Bb.2 e)) (fun e=>hy (Bb.2 e)) D8 Fo
 ·have:=At.cut K cs _ (H.Fc g cs hg)
  rwa [Aw _ _ cs (hG g cs hg)] at this
 ·have hA:RE E m g=some (o,i,k):=hA
  by_cases hh:Kp E m g
  ·obtain⟨id,hm,x,hx,hd,ki⟩:=hh;obtain⟨a1,a2⟩:=H.lt hx hd ki
   refine⟨a1,a2,fun j y hy rr hs=> ?_⟩
   obtain⟨z,hj,hz,rfl⟩:=Cz hy
   have:=H.inj j id z x g hz hx (fun e=>rr (Bb.2 e)) hd hs ki
   omega
  ·rw[Jw hh] at hA;obtain⟨a1,a2,a3⟩:=H.ar g o i k hA
   refine⟨a1,a2,fun j y hy rr hs=> ?_⟩
   obtain⟨z,hj,hz,rfl⟩:=Cz hy
   exact a3 j z hz (fun e=>rr (Bb.2 e)) hs
theorem iK (H:Good G I B0 E){m g:Nat}(hp:Xl E m)(hh:Kp E m g):¬Tr (We E m) g/\E.B<=g/\g<E.w.heap.size:=by
 obtain⟨id,hm,x,hx,hd,ki⟩:=hh;obtain⟨a1,a2⟩:=H.lt hx hd ki;refine⟨?_,a1,a2⟩
 rintro(⟨j,y,hy,rr,hs⟩|⟨q,i,k,hA,BM⟩)
 ·obtain⟨z,hj,hz,rfl⟩:=Cz hy
  have:=H.inj j id z x g hz hx (fun e=>rr (Bb.2 e)) hd hs ki
  omega
 ·have hA:RE E m g=some (q,i,k):=hA;rw[MP H hm hx hd ki] at hA;simp only[Option.some.injEq,Prod.mk.injEq] at hA
  obtain⟨t,cs,h0⟩:=hp.first
  rw[<-hA.1] at BM;exact BM hp.four t _ (Gd hp.pos h0)
theorem Ds (hm:m<=E.h.length){E1:Env}(h1:m<=E1.h.length){id:Nat}{y:Blk}(hy:(Gu E E1 m).h[id]?=some y):(id<m/\∃x,E1.h[id]?=some x/\y=AN m E1.h x)\/(m<=id/\E.h[id]?=some y):=by
 have hy:((E1.h.take m).map (AN m E1.h)++E.h.drop m)[id]?=some y:=hy
 have hl:((E1.h.take m).map (AN m E1.h)).length=m:=by simp;omega
 by_cases hid:id<m
 ·rw[List.getElem?_append_left (by omega)] at hy
  obtain⟨x,_,hx,hyx⟩:=Cz hy;exact .inl ⟨hid,x,hx,hyx⟩
 ·rw[List.getElem?_append_right (by omega),hl,List.getElem?_drop,show m+(id-m)=id by omega] at hy
  exact .inr ⟨by omega,hy⟩
theorem Fe (hm:m<=E.h.length){E1:Env}{id:Nat}{x:Blk}(hid:id<m)(h1:m<=E1.h.length)(hx:E1.h[id]?=some x):(Gu E E1 m).h[id]?=some (AN m E1.h x):=by
 show((E1.h.take m).map (AN m E1.h)++E.h.drop m)[id]?=_
 rw[List.getElem?_append_left (by simp;omega)]
 exact Gd hid hx
theorem Kv {E1:Env}(h1:m<=E1.h.length){id:Nat}{x:Blk}(hid:m<=id)(hx:E.h[id]?=some x):(Gu E E1 m).h[id]?=some x:=by
 show((E1.h.take m).map (AN m E1.h)++E.h.drop m)[id]?=_
 have hl:((E1.h.take m).map (AN m E1.h)).length=m:=by simp;omega
 rw[List.getElem?_append_right (by omega),hl,List.getElem?_drop,show m+(id-m)=id by omega]
 exact hx
theorem Br {E1:Env}{id:Nat}(h:id<m):(Gu E E1 m).σ id=E1.σ id:=by
 show(bif Nat.blt id m then E1.σ id else E.σ id)=_
 rw[show Nat.blt id m=true by simp[Nat.blt_eq,h]];rfl
theorem BX {E1:Env}{id:Nat}(h:m<=id):(Gu E E1 m).σ id=E.σ id:=by
 show(bif Nat.blt id m then E1.σ id else E.σ id)=_
 rw[show Nat.blt id m=false by rw[<-Bool.not_eq_true,Nat.blt_eq];omega];rfl
theorem lQ (H:Good G I B0 E)(hG:∀g cs,G g=some cs->AO.Ad cs=true){m:Nat}(hp:Xl E m){E1:Env}(S:Step G I B0 (We E m) E1):
  Cut m E1.h E1 (Gu E E1 m)/\Step G I B0 E (Gu E E1 m):=by
 have hm:=hp.le
 have iH:(We E m).h.length=m:=by show((E.h.take m).map (AN m [])).length=m;simp;omega
 have h1:m<=E1.h.length:=by have:=S.le.len;omega
 have H1:=S.Co;have HD:E1.B=E.B:=S.le.B
 have ZD:∀g,Kp E m g->E1.w.heap[g]?=E.w.heap[g]?/\¬Tr E1 g/\E1.A g=RE E m g:=fun g hh=>by
  obtain⟨a1,a2,a3⟩:=iK H hp hh;exact S.own g a2 a3 a1
 have DH:∀b o,EI E1 b o->EI (Gu E E1 m) b o:=by
  intro b o hs
  by_cases hh:Kp E m b
  ·obtain⟨k1,k2,k3⟩:=ZD b hh;obtain⟨vz,jn,x0,JM,ZI,TD⟩:=hh;have ho:=hs.1.2 (cr E.h) 0 _ (k3.trans (MP H jn JM ZI TD))
   refine⟨⟨hs.1.1,fun q i k hq=> ?_⟩,fun id y hy hσ=> ?_⟩
   ·have hq:JR E E1.A m b=some (q,i,k):=hq;rw[Tj ⟨vz,jn,x0,JM,ZI,TD⟩] at hq;cases hq
   ·rcases Ds hm h1 hy with ⟨hid,x,hx,rfl⟩|⟨hid,hx⟩
    ·rw[Br hid] at hσ
     by_cases hd:x=.dead
     ·exact .inl (by rw[hd];rfl)
     ·exact absurd (.inl ⟨id,x,hx,hd,hσ⟩) k2
    ·rw[BX hid] at hσ
     by_cases hd:y=.dead
     ·exact .inl hd
     ·obtain rfl:=H.inj id vz y x0 b hx JM hd ZI hσ TD;rw[hx] at JM
      injection JM with JM
      subst JM
      cases y with
      |grow n sz e=>exact .inr ⟨n,sz,e,rfl,ho⟩
      |mem _ _=>exact absurd ho (Nat.not_lt_zero _)
      |dead=>exact .inl rfl
      |iter _ _=>exact absurd ho (Nat.not_lt_zero _)
      |Bi _ _ _ _ _ _ _=>exact absurd ho (Nat.not_lt_zero _)
  ·refine⟨⟨hs.1.1,fun q i k hq=> ?_⟩,fun id y hy hσ=> ?_⟩
   ·have hq:JR E E1.A m b=some (q,i,k):=hq;rw[HH hh] at hq;exact hs.1.2 q i k hq
   ·rcases Ds hm h1 hy with ⟨hid,x,hx,rfl⟩|⟨hid,hx⟩
    ·rw[Br hid] at hσ
     rcases hs.2 id x hx hσ with rfl|⟨n,sz,e,rfl,ho⟩
     ·exact .inl rfl
     ·exact .inr ⟨n,sz,e,rfl,ho⟩
    ·rw[BX hid] at hσ
     by_cases hd:y=.dead
     ·exact .inl hd
     ·exact absurd ⟨id,hid,y,hx,hd,hσ⟩ hh
 have xv:∀id,id<m->∀g x,E1.A g=some x->Kp E m g->x.1=cr E.h:=fun id _ g x hA hh=>by
  obtain⟨k1,k2,k3⟩:=ZD g hh;obtain⟨vz,jn,x0,JM,ZI,TD⟩:=hh;rw[k3,MP H jn JM ZI TD] at hA
  injection hA with hA
  rw[<-hA]
 have K:Cut m E1.h E1 (Gu E E1 m):=by
  refine⟨rfl,fun _ _=>rfl,fun b o v _ hs=>DH b o hs,fun id t cs hid hx=>⟨_,Fe hm hid h1 hx,BO _ _ _⟩,fun id hid=>Br hid,?_,fun id k sz e hid hg=> ?_,fun id s p hid hx=>Fe hm hid h1 hx,fun id g t sz kc ke ksz rows hid hx=> ?_,?_,fun b t cs hb hx=>⟨hx,fun g hg j x hj=> ?_⟩⟩
  ·show m<=((E1.h.take m).map (AN m E1.h)++E.h.drop m).length;simp;omega
  ·rcases Ds hm h1 hg with ⟨_,x,hx,hy⟩|⟨Ft,_⟩
   ·rw[hx,E8 hy.symm]
   ·omega
  ·rcases Ds hm h1 hx with ⟨_,x,hx,hy⟩|⟨Ft,_⟩
   ·obtain⟨Bd,e1,e2⟩:=HJ hy.symm
    exact⟨Bd,by rw[hx,e1],by rw[e2,List.map_map];rfl⟩
   ·omega
  ·intro id hid g x hA BM;show JR E E1.A m g=some x
   by_cases hh:Kp E m g
   ·have e0:=xv id hid g x hA hh
    obtain⟨t,cs,h0⟩:=hp.first
    obtain⟨Gh,k1,_,_⟩:=S.le.mem (cr E.h) t _ (Gd hp.pos h0);rw[e0] at BM;exact absurd k1 (BM hp.four t Gh)
   ·rw[HH hh];exact hA
  ·obtain⟨k0,k1⟩:=Qp H1 hx hg;obtain⟨v,q1,q2,q3⟩:=k1 j x hj
   have oU:¬Kp E m g:=fun hh=>(ZD g hh).2.1 (.inl ⟨b,_,hx,by simp,hg⟩)
   refine⟨v,q1,q2,q3,⟨fun hu=> ?_,fun q i k hq=> ?_⟩,fun id y hy hσ=> ?_⟩
   ·have:=H1.U _ _ hu;omega
   ·have hq:JR E E1.A m g=some (q,i,k):=hq;rw[HH oU] at hq
    exact absurd rfl (Hd H1 hx (by simp) hg _ _ hq)
   ·rcases Ds hm h1 hy with ⟨hid,z,hz,rfl⟩|⟨hid,hz⟩
    ·rw[Br hid] at hσ
     by_cases hd:z=.dead
     ·exact .inl (by rw[hd];rfl)
     ·have:=H1.inj id b z _ g hz hx hd (by simp) hσ hg
      omega
    ·rw[BX hid] at hσ
     by_cases hd:y=.dead
     ·exact .inl hd
     ·exact absurd ⟨id,hid,y,hz,hd,hσ⟩ oU
 have L:Le E (Gu E E1 m):=by
  refine⟨HD,fun a v h s=> ?_,?_,fun id t cs h=> ?_,fun id n sz e hi h=> ?_,fun id s p h=> ?_,fun id g t sz kc ke ksz rows hi h=> ?_,S.le.maps⟩
  ·obtain⟨k1,k2⟩:=S.le.cells a v h (Qr H s);exact⟨k1,DH _ _ k2⟩
  ·show E.h.length<=((E1.h.take m).map (AN m E1.h)++E.h.drop m).length;simp;omega
  ·by_cases hid:id<m
   ·obtain⟨Gh,k1,k2,k3⟩:=S.le.mem id t _ (Gd hid h)
    exact⟨_,Fe hm hid h1 k1,by rw[BO,k2,BO],by rw[Br hid];exact k3⟩
   ·exact⟨cs,Kv h1 (by omega) h,rfl,BX (by omega)⟩
  ·rcases Ds hm h1 h with ⟨hid,x,hx,hy⟩|⟨hid,hx⟩
   ·rw[E8 hy.symm] at hx
    obtain⟨n0,k1,k2,k3⟩:=S.le.grow id n sz e (by omega) hx
    obtain⟨x0,_,JM,Y5⟩:=Cz k1;rw[E8 Y5.symm] at JM
    refine⟨n0,JM,k2,fun hn=> ?_⟩
    obtain⟨q1,q2⟩:=k3 hn
    exact⟨by rw[Br hid];exact q1,q2⟩
   ·refine⟨n,hx,Nat.le_refl _,fun _=>⟨BX hid,fun v xs hv Ar=>⟨hv.1,?_⟩⟩⟩
    rcases hv.2 with h2|⟨g,cap,cur,h2,h3,h4,h5⟩
    ·exact .inl h2
    ·have hσ:E.σ id=some g:=by rw[<-Ar,h2];rfl
     exact .inr ⟨g,cap,cur,h2,h3,(ZD g ⟨id,hid,_,hx,by simp,hσ⟩).1.trans h4,h5⟩
  ·by_cases hid:id<m
   ·obtain⟨p',k1,k2⟩:=S.le.iter id s p (Gd hid h)
    exact⟨p',Fe hm hid h1 k1,by rw[Br hid];exact k2⟩
   ·exact⟨p,Kv h1 (by omega) h,BX (by omega)⟩
  ·rcases Ds hm h1 h with ⟨hid,x,hx,hy⟩|⟨hid,hx⟩
   ·obtain⟨Bd,e1,e2⟩:=HJ hy.symm;rw[e1] at hx
    obtain⟨g0,r0,k1,_⟩:=S.le.Bi id g t sz kc ke ksz Bd (by omega) hx
    obtain⟨x0,_,JM,Y5⟩:=Cz k1;have:=hp.WO id x0 JM;rw[<-Lr (n:=m) (h:=[]),<-Y5] at this;cases this
   ·have:=hp.WO id _ hx;cases this
 refine⟨K,L,⟨fun id y hy=> ?_,fun i j x y g hi hj hx hy D8 Fo=> ?_,fun g cs hg=>At.mono L _ _ (H.Fc g cs hg),fun b o hu=>by rw[show(Gu E E1 m).B=E.B from HD,<-HD];exact H1.U b o hu,fun g o i k hA=> ?_,H1.size,by rw[show(Gu E E1 m).B=E.B from HD];exact H.B0,H1.I⟩,S.U,S.below,fun g g1 g2 g3=> ?_⟩
 ·rcases Ds hm h1 hy with ⟨hid,x,hx,rfl⟩|⟨hid,hx⟩
  ·have VW:OT x=false:=by
    cases hk:OT x with
    |false=>rfl
    |true=>
     cases x<;>simp[OT] at hk
     rename_i g t sz kc ke ksz rows
     obtain⟨g0,r0,k1,_⟩:=S.le.Bi id g t sz kc ke ksz rows (by omega) hx
     obtain⟨x0,_,JM,Y5⟩:=Cz k1;have:=hp.WO id x0 JM;rw[<-Lr (n:=m) (h:=[]),<-Y5] at this;cases this
   exact bf K (Br hid) rfl VW (H1.Ld id x hx)
  ·have h:=H.Ld id y hx
   have hb:∀g,E.σ id=some g->y≠.dead->E1.w.heap[g]?=E.w.heap[g]? :=fun g hg hd=>(ZD g ⟨id,hid,y,hx,hd,hg⟩).1
   cases y with
   |mem t cs=>
    obtain⟨g,c,fr,e1,e2,e3,e4,e5,e6⟩:=h
    have ky:=hb g e1 (by simp)
    refine⟨g,c,fr,by rw[BX hid];exact e1,by rw[show(Gu E E1 m).B=E.B from HD];exact e2,ky.trans e3,e4,fun j hj=>(World.frozen?_of_block (a:=⟨g,j,none⟩) ky).trans (e5 j hj),fun j z hz=> ?_⟩
    obtain⟨v,q1,q2,q3⟩:=e6 j z hz;exact⟨v,q1,q2,Rel.mono L _ _ q3⟩
   |grow n sz e=>
    intro g hg;rw[BX hid] at hg;obtain⟨a1,a2⟩:=h g hg
    exact⟨by rw[show(Gu E E1 m).B=E.B from HD];exact a1,Nat.lt_of_lt_of_le a2 S.below.size⟩
   |dead=>trivial
   |iter s p=>
    obtain⟨g,e1,e2,e3⟩:=h
    exact⟨g,by rw[BX hid];exact e1,by rw[show(Gu E E1 m).B=E.B from HD];exact e2,(hb g e1 (by simp)).trans e3⟩
   |Bi _ _ _ _ _ _ _=>have:=hp.WO id _ hx;cases this
 ·rcases Ds hm h1 hi with ⟨hid,x0,JM,rfl⟩|⟨hid,JM⟩<;>rcases Ds hm h1 hj with ⟨qC,y0,Y5,rfl⟩|⟨qC,Y5⟩
  ·rw[Br hid] at D8;rw[Br qC] at Fo
   exact H1.inj i j x0 y0 g JM Y5 (fun e=>hx (Bb.2 e)) (fun e=>hy (Bb.2 e)) D8 Fo
  ·rw[Br hid] at D8;rw[BX qC] at Fo
   exact absurd (.inl ⟨i,x0,JM,fun e=>hx (Bb.2 e),D8⟩) (ZD g ⟨j,qC,y,Y5,hy,Fo⟩).2.1
  ·rw[BX hid] at D8;rw[Br qC] at Fo
   exact absurd (.inl ⟨j,y0,Y5,fun e=>hy (Bb.2 e),Fo⟩) (ZD g ⟨i,hid,x,JM,hx,D8⟩).2.1
  ·rw[BX hid] at D8;rw[BX qC] at Fo;exact H.inj i j x y g JM Y5 hx hy D8 Fo
 ·have hA:JR E E1.A m g=some (o,i,k):=hA
  by_cases hh:Kp E m g
  ·rw[Tj hh] at hA;cases hA
  ·rw[HH hh] at hA;obtain⟨a1,a2,a3⟩:=H1.ar g o i k hA
   refine⟨a1,a2,fun j y hy hd hs=> ?_⟩
   rcases Ds hm h1 hy with ⟨hid,x,hx,rfl⟩|⟨hid,hx⟩
   ·rw[Br hid] at hs
    exact a3 j x hx (fun e=>hd (Bb.2 e)) hs
   ·rw[BX hid] at hs;exact hh ⟨j,hid,y,hx,hd,hs⟩
 ·have oU:¬Kp E m g:=fun⟨id,_,x,hx,hd,hs⟩=>g3 (.inl ⟨id,x,hx,hd,hs⟩)
  have SG:¬Tr (We E m) g:=by
   rintro(⟨id,y,hy,hd,hs⟩|⟨q,i,k,hA,BM⟩)
   ·obtain⟨x,_,hx,rfl⟩:=Cz hy
    exact g3 (.inl ⟨id,x,hx,fun e=>hd (Bb.2 e),hs⟩)
   ·have hA:RE E m g=some (q,i,k):=hA;rw[Jw oU] at hA
    exact g3 (.inr ⟨q,i,k,hA,fun e t cs h0=>BM e t _ (Gd (Nat.lt_of_lt_of_le e hp.zh) h0)⟩)
  obtain⟨k1,k2,k3⟩:=S.own g g1 g2 SG;refine⟨k1,?_,?_⟩
  ·rintro(⟨id,y,hy,hd,hs⟩|⟨q,i,k,hA,BM⟩)
   ·rcases Ds hm h1 hy with ⟨hid,x,hx,rfl⟩|⟨hid,hx⟩
    ·rw[Br hid] at hs
     exact k2 (.inl ⟨id,x,hx,fun e=>hd (Bb.2 e),hs⟩)
    ·rw[BX hid] at hs;exact g3 (.inl ⟨id,y,hx,hd,hs⟩)
   ·have hA:JR E E1.A m g=some (q,i,k):=hA;rw[HH oU] at hA
    exact k2 (.inr ⟨q,i,k,hA,fun e t cs h0=>BM e t _ (Fe hm (Nat.lt_of_lt_of_le e hp.zh) h1 h0)⟩)
  ·show JR E E1.A m g=E.A g;rw[HH oU,k3];exact Jw oU
end
end Go.Ai
