/-
  A call that sees only the first blocks of its caller's memory: the others stay as they are.
-/
import Derived.Test.YtopjpnhgnopbiaaGreatDoorAiStrip
set_option linter.unusedVariables false
set_option linter.unusedSimpArgs false
set_option linter.unnecessarySimpa false
namespace Go.Ai
open Go.RowKit
section
variable {G:Nat->Option (List AV)}{I:World->Prop}{B0:Nat}{E:Env}{m:Nat}
def lz :Option Blk->Nat
 |some (.grow n sz _)=>n*sz
 |_=>0
def Kt (E:Env)(m g:Nat):Prop:=∃id,m<=id/\∃x,E.h[id]?=some x/\x≠.dead/\E.σ id=some g
noncomputable def RG(E:Env)(m g:Nat):Option (Nat×Nat×Nat):=
 match Classical.propDecidable (Kt E m g) with
 |.isTrue h=>some (dB E.h,0,lz (E.h[Classical.choose h]?))
 |.isFalse _=>E.A g
noncomputable def JU(E:Env)(A:Nat->Option (Nat×Nat×Nat))(m g:Nat):Option (Nat×Nat×Nat):=
 match Classical.propDecidable (Kt E m g) with
 |.isTrue _=>none
 |.isFalse _=>A g
theorem Jz {m g:Nat}(h:¬Kt E m g):RG E m g=E.A g:=by
 unfold RG;split
 ·rename_i h1 _;exact absurd h1 h
 ·rfl
theorem HM {A:Nat->Option (Nat×Nat×Nat)}{m g:Nat}(h:¬Kt E m g):JU E A m g=A g:=by
 unfold JU;split
 ·rename_i h1 _;exact absurd h1 h
 ·rfl
theorem Tk {A:Nat->Option (Nat×Nat×Nat)}{m g:Nat}(h:Kt E m g):JU E A m g=none:=by
 unfold JU;split
 ·rfl
 ·rename_i h1 _;exact absurd h h1
theorem MU (H:Good G I B0 E){m id g:Nat}{x:Blk}(hm:m<=id)(hx:E.h[id]?=some x)(hd:x≠.dead)(hs:E.σ id=some g):RG E m g=some (dB E.h,0,lz (some x)):=by
 unfold RG;split
 ·rename_i h1 _;obtain⟨c1,y,c2,c3,c4⟩:=Classical.choose_spec h1;have e:=H.inj (Classical.choose h1) id y x g c2 hx c3 hd c4 hs;rw[e,hx]
 ·rename_i h1 _;exact absurd ⟨id,hm,x,hx,hd,hs⟩ h1
theorem sr (H:Good G I B0 E){m g:Nat}(h:Kt E m g):E.A g=none:=by
 obtain⟨id,_,x,hx,hd,hs⟩:=h
 cases hA:E.A g with
 |none=>rfl
 |some y=>exact absurd rfl (Hi H hx hd hs g y hA)
noncomputable def Wg(E:Env)(m:Nat):Env:={E with h:=(E.h.take m).map (AO m []),A:=RG E m}
noncomputable def Gx(E E1:Env)(m:Nat):Env:={E1 with h:=(E1.h.take m).map (AO m E1.h)++E.h.drop m,σ:=fun id=>bif Nat.blt id m then E1.σ id else E.σ id,A:=JU E E1.A m}
theorem Cz {h h0:Hp}{m id:Nat}{y:Blk}(hy:((h.take m).map (AO m h0))[id]?=some y):∃x,id<m/\h[id]?=some x/\y=AO m h0 x:=by
 rw[List.getElem?_map] at hy
 have hid:id<m:=by
  rcases Nat.lt_or_ge id m with h|h
  ·exact h
  ·rw[List.getElem?_eq_none (by simp;omega)] at hy
   cases hy
 rw[List.getElem?_take_of_lt hid] at hy
 cases hx:h[id]? with
 |none=>rw[hx] at hy;cases hy
 |some x=>
  rw[hx] at hy
  injection hy with hy
  exact⟨x,hid,rfl,hy.symm⟩
theorem Gg {h h0:Hp}{m id:Nat}{x:Blk}(hid:id<m)(hx:h[id]?=some x):((h.take m).map (AO m h0))[id]?=some (AO m h0 x):=by
 rw[List.getElem?_map,List.getElem?_take_of_lt hid,hx];rfl
theorem Ly {n:Nat}{h:Hp}{x:Blk}:OX (AO n h x)=OX x:=by cases x<;>rfl
structure Xn (E:Env) (m:Nat):Prop where
 pos:dB E.h<m
 le:m<=E.h.length
 first:∃t cs,E.h[dB E.h]?=some (.mem t cs)
 four:dB E.h<4
 zw:4<=m
 WS:∀(id:Nat) x,E.h[id]?=some x->OX x=false
theorem nq {m:Nat}{h:Hp}(hx:MG m h=true)(hE:E.h=h):Xn E m:=by
 subst hE;simp only[MG,Bool.and_eq_true,Nat.blt_eq,Nat.ble_eq] at hx;obtain⟨⟨⟨⟨⟨h1,h2⟩,h3⟩,h5⟩,h6⟩,h4⟩:=hx
 refine⟨h1,h2,?_,h5,h6,fun id x hx=> ?_⟩
 ·cases h0:E.h[dB E.h]? with
  |none=>rw[h0] at h3;cases h3
  |some x=>cases x with
   |mem t cs=>exact⟨t,cs,rfl⟩
   |_=>rw[h0] at h3;cases h3
 ·have:=List.all_eq_true.1 h4 x (List.mem_of_getElem? hx);simpa using this
theorem Qu (H:Good G I B0 E){m b o:Nat}(hs:EM E b o):EM (Wg E m) b o:=by
 refine⟨⟨hs.1.1,fun q i k hq=> ?_⟩,fun id y hy hσ=> ?_⟩
 ·have hq:RG E m b=some (q,i,k):=hq
  by_cases hh:Kt E m b
  ·obtain⟨id,hm,x,hx,hd,lC⟩:=hh;rw[MU H hm hx hd lC] at hq;simp only[Option.some.injEq,Prod.mk.injEq] at hq
   rcases hs.2 id x hx lC with h1|⟨n,sz,e,rfl,ho⟩
   ·exact absurd h1 hd
   ·rw[<-hq.2.2];exact ho
  ·rw[Jz hh] at hq;exact hs.1.2 q i k hq
 ·obtain⟨x,_,hx,rfl⟩:=Cz hy
  rcases hs.2 id x hx hσ with rfl|⟨n,sz,e,rfl,ho⟩
  ·exact .inl rfl
  ·exact .inr ⟨n,sz,e,rfl,ho⟩
theorem au (H:Good G I B0 E){m:Nat}(hp:Xn E m):Cut m [] E (Wg E m):=by
 refine⟨rfl,fun _ _=>rfl,fun b o v _ hs=>Qu H hs,fun id t cs hid hm=>⟨_,Gg hid hm,BQ _ _ _⟩,fun _ _=>rfl,?_,fun id k sz e hid hg=> ?_,fun id s p hid hm=>Gg hid hm,fun id g t sz kc ke ksz rows hid hm=> ?_,fun id _ g x hA _=> ?_,fun b t cs hb hm=>by simp at hm⟩
 ·show m<=((E.h.take m).map (AO m [])).length;have:=hp.le;simp;omega
 ·obtain⟨x,_,hx,hy⟩:=Cz hg;rw[hx,FC hy.symm]
 ·obtain⟨x,_,hx,hy⟩:=Cz hm;obtain⟨Bd,h1,h2⟩:=HO hy.symm
  exact⟨Bd,by rw[hx,h1],by rw[h2,List.map_map];rfl⟩
 ·show RG E m g=some x
  rw[Jz fun hh=>by rw[sr H hh] at hA;cases hA]
  exact hA
theorem bo {n:Nat}{h0:Hp}{E E':Env}(K:Cut n h0 E E'){id:Nat}(hσ:E'.σ id=E.σ id)(hB:E'.B=E.B){x:Blk}(hs:OX x=false)(h:Ee E id x):Ee E' id (AO n h0 x):=by
 cases x with
 |mem t cs=>
  obtain⟨g,c,fr,h1,h2,h3,h4,h5,h6⟩:=h
  refine⟨g,c,fr,hσ.trans h1,by rw[hB];exact h2,by rw[K.w];exact h3,by rw[BQ];exact h4,fun j hj=>by rw[K.w];exact h5 j (by rwa [BQ] at hj),fun j z hz=> ?_⟩
  rw[HN] at hz
  cases dV:cs[j]? with
  |none=>rw[dV] at hz;cases hz
  |some x=>
   rw[dV] at hz
   injection hz with hz
   obtain⟨v,k1,k2,k3⟩:=h6 j x dV;exact⟨v,k1,k2,hz▸Rel.cut K x v k3⟩
 |grow n sz e=>exact fun g hg=>by rw[hB,K.w];exact h g (hσ▸hg)
 |dead=>trivial
 |iter s p=>
  obtain⟨g,h1,h2,h3⟩:=h
  exact⟨g,hσ.trans h1,by rw[hB];exact h2,by rw[K.w];exact h3⟩
 |Bh _ _ _ _ _ _ _=>cases hs
theorem gY (H:Good G I B0 E)(hG:∀g cs,G g=some cs->AP.Ad cs=true){m:Nat}(hp:Xn E m):Good G I B0 (Wg E m):=by
 have K:=au H hp
 refine⟨fun id y hy=> ?_,fun i j x y g hi hj hx hy EB Ft=> ?_,fun g cs hg=> ?_,H.U,fun g o i k hA=> ?_,H.size,H.B0,H.I⟩
 ·obtain⟨x,_,hx,rfl⟩:=Cz hy;exact bo K rfl rfl (hp.WS id x hx) (H.Li id x hx)
 ·obtain⟨x0,_,JP,rfl⟩:=Cz hi;obtain⟨y0,_,ZB,rfl⟩:=Cz hj
  exact H.inj i j x0 y0 g JP ZB (fun e=>hx (Bb.2 e)) (fun e=>hy (Bb.2 e)) EB Ft
 ·have:=At.cut K cs _ (H.Fh g cs hg)
  rwa [Aw _ _ cs (hG g cs hg)] at this
 ·have hA:RG E m g=some (o,i,k):=hA
  by_cases hh:Kt E m g
  ·obtain⟨id,hm,x,hx,hd,lC⟩:=hh;obtain⟨a1,a2⟩:=H.lt hx hd lC
   refine⟨a1,a2,fun j y hy sH hs=> ?_⟩
   obtain⟨z,hj,hz,rfl⟩:=Cz hy
   have:=H.inj j id z x g hz hx (fun e=>sH (Bb.2 e)) hd hs lC
   omega
  ·rw[Jz hh] at hA;obtain⟨a1,a2,a3⟩:=H.ar g o i k hA
   refine⟨a1,a2,fun j y hy sH hs=> ?_⟩
   obtain⟨z,hj,hz,rfl⟩:=Cz hy
   exact a3 j z hz (fun e=>sH (Bb.2 e)) hs
theorem iZ (H:Good G I B0 E){m g:Nat}(hp:Xn E m)(hh:Kt E m g):¬Tr (Wg E m) g/\E.B<=g/\g<E.w.heap.size:=by
 obtain⟨id,hm,x,hx,hd,lC⟩:=hh;obtain⟨a1,a2⟩:=H.lt hx hd lC;refine⟨?_,a1,a2⟩
 rintro(⟨j,y,hy,sH,hs⟩|⟨q,i,k,hA,BO⟩)
 ·obtain⟨z,hj,hz,rfl⟩:=Cz hy
  have:=H.inj j id z x g hz hx (fun e=>sH (Bb.2 e)) hd hs lC
  omega
 ·have hA:RG E m g=some (q,i,k):=hA;rw[MU H hm hx hd lC] at hA;simp only[Option.some.injEq,Prod.mk.injEq] at hA
  obtain⟨t,cs,h0⟩:=hp.first
  rw[<-hA.1] at BO;exact BO hp.four t _ (Gg hp.pos h0)
theorem Dv (hm:m<=E.h.length){E1:Env}(h1:m<=E1.h.length){id:Nat}{y:Blk}(hy:(Gx E E1 m).h[id]?=some y):(id<m/\∃x,E1.h[id]?=some x/\y=AO m E1.h x)\/(m<=id/\E.h[id]?=some y):=by
 have hy:((E1.h.take m).map (AO m E1.h)++E.h.drop m)[id]?=some y:=hy
 have hl:((E1.h.take m).map (AO m E1.h)).length=m:=by simp;omega
 by_cases hid:id<m
 ·rw[List.getElem?_append_left (by omega)] at hy
  obtain⟨x,_,hx,hyx⟩:=Cz hy;exact .inl ⟨hid,x,hx,hyx⟩
 ·rw[List.getElem?_append_right (by omega),hl,List.getElem?_drop,show m+(id-m)=id by omega] at hy
  exact .inr ⟨by omega,hy⟩
theorem Fi (hm:m<=E.h.length){E1:Env}{id:Nat}{x:Blk}(hid:id<m)(h1:m<=E1.h.length)(hx:E1.h[id]?=some x):(Gx E E1 m).h[id]?=some (AO m E1.h x):=by
 show((E1.h.take m).map (AO m E1.h)++E.h.drop m)[id]?=_
 rw[List.getElem?_append_left (by simp;omega)]
 exact Gg hid hx
theorem Kz {E1:Env}(h1:m<=E1.h.length){id:Nat}{x:Blk}(hid:m<=id)(hx:E.h[id]?=some x):(Gx E E1 m).h[id]?=some x:=by
 show((E1.h.take m).map (AO m E1.h)++E.h.drop m)[id]?=_
 have hl:((E1.h.take m).map (AO m E1.h)).length=m:=by simp;omega
 rw[List.getElem?_append_right (by omega),hl,List.getElem?_drop,show m+(id-m)=id by omega]
 exact hx
theorem Bs {E1:Env}{id:Nat}(h:id<m):(Gx E E1 m).σ id=E1.σ id:=by
 show(bif Nat.blt id m then E1.σ id else E.σ id)=_
 rw[show Nat.blt id m=true by simp[Nat.blt_eq,h]];rfl
theorem BX {E1:Env}{id:Nat}(h:m<=id):(Gx E E1 m).σ id=E.σ id:=by
 show(bif Nat.blt id m then E1.σ id else E.σ id)=_
 rw[show Nat.blt id m=false by rw[<-Bool.not_eq_true,Nat.blt_eq];omega];rfl
theorem lj (H:Good G I B0 E)(hG:∀g cs,G g=some cs->AP.Ad cs=true){m:Nat}(hp:Xn E m){E1:Env}(S:Step G I B0 (Wg E m) E1):
  Cut m E1.h E1 (Gx E E1 m)/\Step G I B0 E (Gx E E1 m):=by
 have hm:=hp.le
 have iW:(Wg E m).h.length=m:=by show((E.h.take m).map (AO m [])).length=m;simp;omega
 have h1:m<=E1.h.length:=by have:=S.le.len;omega
 have H1:=S.Cn;have HI:E1.B=E.B:=S.le.B
 have ZJ:∀g,Kt E m g->E1.w.heap[g]?=E.w.heap[g]?/\¬Tr E1 g/\E1.A g=RG E m g:=fun g hh=>by
  obtain⟨a1,a2,a3⟩:=iZ H hp hh;exact S.own g a2 a3 a1
 have DI:∀b o,EM E1 b o->EM (Gx E E1 m) b o:=by
  intro b o hs
  by_cases hh:Kt E m b
  ·obtain⟨k1,k2,k3⟩:=ZJ b hh;obtain⟨wQ,j4,x0,JP,ZO,TE⟩:=hh;have ho:=hs.1.2 (dB E.h) 0 _ (k3.trans (MU H j4 JP ZO TE))
   refine⟨⟨hs.1.1,fun q i k hq=> ?_⟩,fun id y hy hσ=> ?_⟩
   ·have hq:JU E E1.A m b=some (q,i,k):=hq;rw[Tk ⟨wQ,j4,x0,JP,ZO,TE⟩] at hq;cases hq
   ·rcases Dv hm h1 hy with ⟨hid,x,hx,rfl⟩|⟨hid,hx⟩
    ·rw[Bs hid] at hσ
     by_cases hd:x=.dead
     ·exact .inl (by rw[hd];rfl)
     ·exact absurd (.inl ⟨id,x,hx,hd,hσ⟩) k2
    ·rw[BX hid] at hσ
     by_cases hd:y=.dead
     ·exact .inl hd
     ·obtain rfl:=H.inj id wQ y x0 b hx JP hd ZO hσ TE;rw[hx] at JP
      injection JP with JP
      subst JP
      cases y with
      |grow n sz e=>exact .inr ⟨n,sz,e,rfl,ho⟩
      |mem _ _=>exact absurd ho (Nat.not_lt_zero _)
      |dead=>exact .inl rfl
      |iter _ _=>exact absurd ho (Nat.not_lt_zero _)
      |Bh _ _ _ _ _ _ _=>exact absurd ho (Nat.not_lt_zero _)
  ·refine⟨⟨hs.1.1,fun q i k hq=> ?_⟩,fun id y hy hσ=> ?_⟩
   ·have hq:JU E E1.A m b=some (q,i,k):=hq;rw[HM hh] at hq;exact hs.1.2 q i k hq
   ·rcases Dv hm h1 hy with ⟨hid,x,hx,rfl⟩|⟨hid,hx⟩
    ·rw[Bs hid] at hσ
     rcases hs.2 id x hx hσ with rfl|⟨n,sz,e,rfl,ho⟩
     ·exact .inl rfl
     ·exact .inr ⟨n,sz,e,rfl,ho⟩
    ·rw[BX hid] at hσ
     by_cases hd:y=.dead
     ·exact .inl hd
     ·exact absurd ⟨id,hid,y,hx,hd,hσ⟩ hh
 have yK:∀id,id<m->∀g x,E1.A g=some x->Kt E m g->x.1=dB E.h:=fun id _ g x hA hh=>by
  obtain⟨k1,k2,k3⟩:=ZJ g hh;obtain⟨wQ,j4,x0,JP,ZO,TE⟩:=hh;rw[k3,MU H j4 JP ZO TE] at hA
  injection hA with hA
  rw[<-hA]
 have K:Cut m E1.h E1 (Gx E E1 m):=by
  refine⟨rfl,fun _ _=>rfl,fun b o v _ hs=>DI b o hs,fun id t cs hid hx=>⟨_,Fi hm hid h1 hx,BQ _ _ _⟩,fun id hid=>Bs hid,?_,fun id k sz e hid hg=> ?_,fun id s p hid hx=>Fi hm hid h1 hx,fun id g t sz kc ke ksz rows hid hx=> ?_,?_,fun b t cs hb hx=>⟨hx,fun g hg j x hj=> ?_⟩⟩
  ·show m<=((E1.h.take m).map (AO m E1.h)++E.h.drop m).length;simp;omega
  ·rcases Dv hm h1 hg with ⟨_,x,hx,hy⟩|⟨Fw,_⟩
   ·rw[hx,FC hy.symm]
   ·omega
  ·rcases Dv hm h1 hx with ⟨_,x,hx,hy⟩|⟨Fw,_⟩
   ·obtain⟨Bd,e1,e2⟩:=HO hy.symm
    exact⟨Bd,by rw[hx,e1],by rw[e2,List.map_map];rfl⟩
   ·omega
  ·intro id hid g x hA BO;show JU E E1.A m g=some x
   by_cases hh:Kt E m g
   ·have e0:=yK id hid g x hA hh
    obtain⟨t,cs,h0⟩:=hp.first
    obtain⟨Gk,k1,_,_⟩:=S.le.mem (dB E.h) t _ (Gg hp.pos h0);rw[e0] at BO;exact absurd k1 (BO hp.four t Gk)
   ·rw[HM hh];exact hA
  ·obtain⟨k0,k1⟩:=Qs H1 hx hg;obtain⟨v,q1,q2,q3⟩:=k1 j x hj
   have ox:¬Kt E m g:=fun hh=>(ZJ g hh).2.1 (.inl ⟨b,_,hx,by simp,hg⟩)
   refine⟨v,q1,q2,q3,⟨fun hu=> ?_,fun q i k hq=> ?_⟩,fun id y hy hσ=> ?_⟩
   ·have:=H1.U _ _ hu;omega
   ·have hq:JU E E1.A m g=some (q,i,k):=hq;rw[HM ox] at hq
    exact absurd rfl (Hi H1 hx (by simp) hg _ _ hq)
   ·rcases Dv hm h1 hy with ⟨hid,z,hz,rfl⟩|⟨hid,hz⟩
    ·rw[Bs hid] at hσ
     by_cases hd:z=.dead
     ·exact .inl (by rw[hd];rfl)
     ·have:=H1.inj id b z _ g hz hx hd (by simp) hσ hg
      omega
    ·rw[BX hid] at hσ
     by_cases hd:y=.dead
     ·exact .inl hd
     ·exact absurd ⟨id,hid,y,hz,hd,hσ⟩ ox
 have L:Le E (Gx E E1 m):=by
  refine⟨HI,fun a v h s=> ?_,?_,fun id t cs h=> ?_,fun id n sz e hi h=> ?_,fun id s p h=> ?_,fun id g t sz kc ke ksz rows hi h=> ?_,S.le.maps⟩
  ·obtain⟨k1,k2⟩:=S.le.cells a v h (Qu H s);exact⟨k1,DI _ _ k2⟩
  ·show E.h.length<=((E1.h.take m).map (AO m E1.h)++E.h.drop m).length;simp;omega
  ·by_cases hid:id<m
   ·obtain⟨Gk,k1,k2,k3⟩:=S.le.mem id t _ (Gg hid h)
    exact⟨_,Fi hm hid h1 k1,by rw[BQ,k2,BQ],by rw[Bs hid];exact k3⟩
   ·exact⟨cs,Kz h1 (by omega) h,rfl,BX (by omega)⟩
  ·rcases Dv hm h1 h with ⟨hid,x,hx,hy⟩|⟨hid,hx⟩
   ·rw[FC hy.symm] at hx
    obtain⟨n0,k1,k2,k3⟩:=S.le.grow id n sz e (by omega) hx
    obtain⟨x0,_,JP,ZB⟩:=Cz k1;rw[FC ZB.symm] at JP
    refine⟨n0,JP,k2,fun hn=> ?_⟩
    obtain⟨q1,q2⟩:=k3 hn
    exact⟨by rw[Bs hid];exact q1,q2⟩
   ·refine⟨n,hx,Nat.le_refl _,fun _=>⟨BX hid,fun v xs hv Ar=>⟨hv.1,?_⟩⟩⟩
    rcases hv.2 with h2|⟨g,cap,cur,h2,h3,h4,h5⟩
    ·exact .inl h2
    ·have hσ:E.σ id=some g:=by rw[<-Ar,h2];rfl
     exact .inr ⟨g,cap,cur,h2,h3,(ZJ g ⟨id,hid,_,hx,by simp,hσ⟩).1.trans h4,h5⟩
  ·by_cases hid:id<m
   ·obtain⟨p',k1,k2⟩:=S.le.iter id s p (Gg hid h)
    exact⟨p',Fi hm hid h1 k1,by rw[Bs hid];exact k2⟩
   ·exact⟨p,Kz h1 (by omega) h,BX (by omega)⟩
  ·rcases Dv hm h1 h with ⟨hid,x,hx,hy⟩|⟨hid,hx⟩
   ·obtain⟨Bd,e1,e2⟩:=HO hy.symm;rw[e1] at hx
    obtain⟨g0,r0,k1,_⟩:=S.le.Bh id g t sz kc ke ksz Bd (by omega) hx
    obtain⟨x0,_,JP,ZB⟩:=Cz k1;have:=hp.WS id x0 JP;rw[<-Ly (n:=m) (h:=[]),<-ZB] at this;cases this
   ·have:=hp.WS id _ hx;cases this
 refine⟨K,L,⟨fun id y hy=> ?_,fun i j x y g hi hj hx hy EB Ft=> ?_,fun g cs hg=>At.mono L _ _ (H.Fh g cs hg),fun b o hu=>by rw[show(Gx E E1 m).B=E.B from HI,<-HI];exact H1.U b o hu,fun g o i k hA=> ?_,H1.size,by rw[show(Gx E E1 m).B=E.B from HI];exact H.B0,H1.I⟩,S.U,S.below,fun g g1 g2 g3=> ?_⟩
 ·rcases Dv hm h1 hy with ⟨hid,x,hx,rfl⟩|⟨hid,hx⟩
  ·have VX:OX x=false:=by
    cases hk:OX x with
    |false=>rfl
    |true=>
     cases x<;>simp[OX] at hk
     rename_i g t sz kc ke ksz rows
     obtain⟨g0,r0,k1,_⟩:=S.le.Bh id g t sz kc ke ksz rows (by omega) hx
     obtain⟨x0,_,JP,ZB⟩:=Cz k1;have:=hp.WS id x0 JP;rw[<-Ly (n:=m) (h:=[]),<-ZB] at this;cases this
   exact bo K (Bs hid) rfl VX (H1.Li id x hx)
  ·have h:=H.Li id y hx
   have hb:∀g,E.σ id=some g->y≠.dead->E1.w.heap[g]?=E.w.heap[g]? :=fun g hg hd=>(ZJ g ⟨id,hid,y,hx,hd,hg⟩).1
   cases y with
   |mem t cs=>
    obtain⟨g,c,fr,e1,e2,e3,e4,e5,e6⟩:=h
    have lO:=hb g e1 (by simp)
    refine⟨g,c,fr,by rw[BX hid];exact e1,by rw[show(Gx E E1 m).B=E.B from HI];exact e2,lO.trans e3,e4,fun j hj=>(World.frozen?_of_block (a:=⟨g,j,none⟩) lO).trans (e5 j hj),fun j z hz=> ?_⟩
    obtain⟨v,q1,q2,q3⟩:=e6 j z hz;exact⟨v,q1,q2,Rel.mono L _ _ q3⟩
   |grow n sz e=>
    intro g hg;rw[BX hid] at hg;obtain⟨a1,a2⟩:=h g hg
    exact⟨by rw[show(Gx E E1 m).B=E.B from HI];exact a1,Nat.lt_of_lt_of_le a2 S.below.size⟩
   |dead=>trivial
   |iter s p=>
    obtain⟨g,e1,e2,e3⟩:=h
    exact⟨g,by rw[BX hid];exact e1,by rw[show(Gx E E1 m).B=E.B from HI];exact e2,(hb g e1 (by simp)).trans e3⟩
   |Bh _ _ _ _ _ _ _=>have:=hp.WS id _ hx;cases this
 ·rcases Dv hm h1 hi with ⟨hid,x0,JP,rfl⟩|⟨hid,JP⟩<;>rcases Dv hm h1 hj with ⟨qQ,y0,ZB,rfl⟩|⟨qQ,ZB⟩
  ·rw[Bs hid] at EB;rw[Bs qQ] at Ft
   exact H1.inj i j x0 y0 g JP ZB (fun e=>hx (Bb.2 e)) (fun e=>hy (Bb.2 e)) EB Ft
  ·rw[Bs hid] at EB;rw[BX qQ] at Ft
   exact absurd (.inl ⟨i,x0,JP,fun e=>hx (Bb.2 e),EB⟩) (ZJ g ⟨j,qQ,y,ZB,hy,Ft⟩).2.1
  ·rw[BX hid] at EB;rw[Bs qQ] at Ft
   exact absurd (.inl ⟨j,y0,ZB,fun e=>hy (Bb.2 e),Ft⟩) (ZJ g ⟨i,hid,x,JP,hx,EB⟩).2.1
  ·rw[BX hid] at EB;rw[BX qQ] at Ft;exact H.inj i j x y g JP ZB hx hy EB Ft
 ·have hA:JU E E1.A m g=some (o,i,k):=hA
  by_cases hh:Kt E m g
  ·rw[Tk hh] at hA;cases hA
  ·rw[HM hh] at hA;obtain⟨a1,a2,a3⟩:=H1.ar g o i k hA
   refine⟨a1,a2,fun j y hy hd hs=> ?_⟩
   rcases Dv hm h1 hy with ⟨hid,x,hx,rfl⟩|⟨hid,hx⟩
   ·rw[Bs hid] at hs
    exact a3 j x hx (fun e=>hd (Bb.2 e)) hs
   ·rw[BX hid] at hs;exact hh ⟨j,hid,y,hx,hd,hs⟩
 ·have ox:¬Kt E m g:=fun⟨id,_,x,hx,hd,hs⟩=>g3 (.inl ⟨id,x,hx,hd,hs⟩)
  have SI:¬Tr (Wg E m) g:=by
   rintro(⟨id,y,hy,hd,hs⟩|⟨q,i,k,hA,BO⟩)
   ·obtain⟨x,_,hx,rfl⟩:=Cz hy
    exact g3 (.inl ⟨id,x,hx,fun e=>hd (Bb.2 e),hs⟩)
   ·have hA:RG E m g=some (q,i,k):=hA;rw[Jz ox] at hA
    exact g3 (.inr ⟨q,i,k,hA,fun e t cs h0=>BO e t _ (Gg (Nat.lt_of_lt_of_le e hp.zw) h0)⟩)
  obtain⟨k1,k2,k3⟩:=S.own g g1 g2 SI;refine⟨k1,?_,?_⟩
  ·rintro(⟨id,y,hy,hd,hs⟩|⟨q,i,k,hA,BO⟩)
   ·rcases Dv hm h1 hy with ⟨hid,x,hx,rfl⟩|⟨hid,hx⟩
    ·rw[Bs hid] at hs
     exact k2 (.inl ⟨id,x,hx,fun e=>hd (Bb.2 e),hs⟩)
    ·rw[BX hid] at hs;exact g3 (.inl ⟨id,y,hx,hd,hs⟩)
   ·have hA:JU E E1.A m g=some (q,i,k):=hA;rw[HM ox] at hA
    exact k2 (.inr ⟨q,i,k,hA,fun e t cs h0=>BO e t _ (Fi hm (Nat.lt_of_lt_of_le e hp.zw) h1 h0)⟩)
  ·show JU E E1.A m g=E.A g;rw[HM ox,k3];exact Jz ox
end
end Go.Ai
