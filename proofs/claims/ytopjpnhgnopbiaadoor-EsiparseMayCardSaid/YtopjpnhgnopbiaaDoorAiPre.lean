/-
  A call that sees only the first blocks of its caller's memory: the others stay as they are.
-/
import Derived.Test.YtopjpnhgnopbiaaDoorAiStrip
set_option linter.unusedVariables false
set_option linter.unusedSimpArgs false
set_option linter.unnecessarySimpa false
namespace Go.Ai
open Go.RowKit
section
variable {G:Nat→Option (List AV)}{I:World→Prop}{B0:Nat}{E:Env}{m:Nat}
def usedB :Option Blk→Nat
 |some (.grow n sz _)=>n*sz
 |_=>0
def HidB (E:Env)(m g:Nat):Prop:=∃id,m≤id∧∃x,E.h[id]?=some x∧x≠.dead∧E.σ id=some g
noncomputable def hidA(E:Env)(m g:Nat):Option (Nat×Nat×Nat):=
 match Classical.propDecidable (HidB E m g) with
 |.isTrue h=>some (0,0,usedB (E.h[Classical.choose h]?))
 |.isFalse _=>E.A g
noncomputable def backA(E:Env)(A:Nat→Option (Nat×Nat×Nat))(m g:Nat):Option (Nat×Nat×Nat):=
 match Classical.propDecidable (HidB E m g) with
 |.isTrue _=>none
 |.isFalse _=>A g
theorem hidA_not {m g:Nat}(h:¬HidB E m g):hidA E m g=E.A g:=by
 unfold hidA;split
 ·rename_i h1 _;exact absurd h1 h
 ·rfl
theorem backA_not {A:Nat→Option (Nat×Nat×Nat)}{m g:Nat}(h:¬HidB E m g):backA E A m g=A g:=by
 unfold backA;split
 ·rename_i h1 _;exact absurd h1 h
 ·rfl
theorem backA_hid {A:Nat→Option (Nat×Nat×Nat)}{m g:Nat}(h:HidB E m g):backA E A m g=none:=by
 unfold backA;split
 ·rfl
 ·rename_i h1 _;exact absurd h h1
theorem hidA_hid (H:Good G I B0 E){m id g:Nat}{x:Blk}(hm:m≤id)(hx:E.h[id]?=some x)(hd:x≠.dead)(hs:E.σ id=some g):hidA E m g=some (0,0,usedB (some x)):=by
 unfold hidA;split
 ·rename_i h1 _;obtain⟨c1,y,c2,c3,c4⟩:=Classical.choose_spec h1;have e:=H.inj (Classical.choose h1) id y x g c2 hx c3 hd c4 hs;rw[e,hx]
 ·rename_i h1 _;exact absurd ⟨id,hm,x,hx,hd,hs⟩ h1
theorem hid_A (H:Good G I B0 E){m g:Nat}(h:HidB E m g):E.A g=none:=by
 obtain⟨id,_,x,hx,hd,hs⟩:=h
 cases hA:E.A g with
 |none=>rfl
 |some y=>exact absurd rfl (ar_ne H hx hd hs g y hA)
noncomputable def lowE(E:Env)(m:Nat):Env:={E with h:=(E.h.take m).map (stripB m []),A:=hidA E m}
noncomputable def backE(E E1:Env)(m:Nat):Env:={E1 with h:=(E1.h.take m).map (stripB m E1.h)++E.h.drop m,σ:=fun id=>bif Nat.blt id m then E1.σ id else E.σ id,A:=backA E E1.A m}
theorem take_get {h h0:Hp}{m id:Nat}{y:Blk}(hy:((h.take m).map (stripB m h0))[id]?=some y):∃x,id<m∧h[id]?=some x∧y=stripB m h0 x:=by
 rw[List.getElem?_map] at hy
 have hid:id<m:=by
  rcases Nat.lt_or_ge id m with h|h
  ·exact h
  ·rw[List.getElem?_eq_none (by simp;omega)] at hy
   cases hy
 rw[List.getElem?_take_of_lt hid] at hy
 cases hx:h[id]? with
 |none=>rw[hx] at hy;cases hy
 |some x=>
  rw[hx] at hy
  injection hy with hy
  exact⟨x,hid,rfl,hy.symm⟩
theorem get_take {h h0:Hp}{m id:Nat}{x:Blk}(hid:id<m)(hx:h[id]?=some x):((h.take m).map (stripB m h0))[id]?=some (stripB m h0 x):=by
 rw[List.getElem?_map,List.getElem?_take_of_lt hid,hx];rfl
theorem stripB_isStk {n:Nat}{h:Hp}{x:Blk}:isStk (stripB n h x)=isStk x:=by cases x<;>rfl
structure PreOk (E:Env) (m:Nat):Prop where
 pos:0<m
 le:m≤E.h.length
 first:∃t cs,E.h[0]?=some (.mem t cs)
 nostk:∀(id:Nat) x,E.h[id]?=some x→isStk x=false
theorem pre_of {m:Nat}{h:Hp}(hx:preOk m h=true)(hE:E.h=h):PreOk E m:=by
 subst hE;simp only[preOk,Bool.and_eq_true,Nat.blt_eq,Nat.ble_eq] at hx;obtain⟨⟨⟨h1,h2⟩,h3⟩,h4⟩:=hx
 refine⟨h1,h2,?_,fun id x hx=> ?_⟩
 ·cases h0:E.h[0]? with
  |none=>rw[h0] at h3;cases h3
  |some x=>cases x with
   |mem t cs=>exact⟨t,cs,rfl⟩
   |_=>rw[h0] at h3;cases h3
 ·have:=List.all_eq_true.1 h4 x (List.mem_of_getElem? hx);simpa using this
theorem low_stable (H:Good G I B0 E){m b o:Nat}(hs:Stable E b o):Stable (lowE E m) b o:=by
 refine⟨⟨hs.1.1,fun q i k hq=> ?_⟩,fun id y hy hσ=> ?_⟩
 ·have hq:hidA E m b=some (q,i,k):=hq
  by_cases hh:HidB E m b
  ·obtain⟨id,hm,x,hx,hd,hsg⟩:=hh;rw[hidA_hid H hm hx hd hsg] at hq;simp only[Option.some.injEq,Prod.mk.injEq] at hq
   rcases hs.2 id x hx hsg with h1|⟨n,sz,e,rfl,ho⟩
   ·exact absurd h1 hd
   ·rw[←hq.2.2];exact ho
  ·rw[hidA_not hh] at hq;exact hs.1.2 q i k hq
 ·obtain⟨x,_,hx,rfl⟩:=take_get hy
  rcases hs.2 id x hx hσ with rfl|⟨n,sz,e,rfl,ho⟩
  ·exact .inl rfl
  ·exact .inr ⟨n,sz,e,rfl,ho⟩
theorem low_cut (H:Good G I B0 E){m:Nat}(hp:PreOk E m):Cut m [] E (lowE E m):=by
 refine⟨rfl,fun _ _=>rfl,fun b o v _ hs=>low_stable H hs,fun id t cs hid hm=>⟨_,get_take hid hm,strips_length _ _ _⟩,fun _ _=>rfl,?_,fun id k sz e hid hg=> ?_,fun id s p hid hm=>get_take hid hm,fun id g t sz kc ke ksz rows hid hm=> ?_,fun id _ g x hA _=> ?_,fun b t cs hb hm=>by simp at hm⟩
 ·show m≤((E.h.take m).map (stripB m [])).length;have:=hp.le;simp;omega
 ·obtain⟨x,_,hx,hy⟩:=take_get hg;rw[hx,stripB_grow hy.symm]
 ·obtain⟨x,_,hx,hy⟩:=take_get hm;obtain⟨rows0,h1,h2⟩:=stripB_stk hy.symm
  exact⟨rows0,by rw[hx,h1],by rw[h2,List.map_map];rfl⟩
 ·show hidA E m g=some x
  rw[hidA_not fun hh=>by rw[hid_A H hh] at hA;cases hA]
  exact hA
theorem blk_cut {n:Nat}{h0:Hp}{E E':Env}(K:Cut n h0 E E'){id:Nat}(hσ:E'.σ id=E.σ id)(hB:E'.B=E.B){x:Blk}(hs:isStk x=false)(h:BlkOk E id x):BlkOk E' id (stripB n h0 x):=by
 cases x with
 |mem t cs=>
  obtain⟨g,c,fr,h1,h2,h3,h4,h5,h6⟩:=h
  refine⟨g,c,fr,hσ.trans h1,by rw[hB];exact h2,by rw[K.w];exact h3,by rw[strips_length];exact h4,fun j hj=>by rw[K.w];exact h5 j (by rwa [strips_length] at hj),fun j z hz=> ?_⟩
  rw[strips_get] at hz
  cases hcj:cs[j]? with
  |none=>rw[hcj] at hz;cases hz
  |some x=>
   rw[hcj] at hz
   injection hz with hz
   obtain⟨v,k1,k2,k3⟩:=h6 j x hcj;exact⟨v,k1,k2,hz▸Rel.cut K x v k3⟩
 |grow n sz e=>exact fun g hg=>by rw[hB,K.w];exact h g (hσ▸hg)
 |dead=>trivial
 |iter s p=>
  obtain⟨g,h1,h2,h3⟩:=h
  exact⟨g,hσ.trans h1,by rw[hB];exact h2,by rw[K.w];exact h3⟩
 |stk _ _ _ _ _ _ _=>cases hs
theorem low_good (H:Good G I B0 E)(hG:∀g cs,G g=some cs→pureV.pureVs cs=true){m:Nat}(hp:PreOk E m):Good G I B0 (lowE E m):=by
 have K:=low_cut H hp
 refine⟨fun id y hy=> ?_,fun i j x y g hi hj hx hy hsi hsj=> ?_,fun g cs hg=> ?_,H.U,fun g o i k hA=> ?_,H.size,H.B0,H.I⟩
 ·obtain⟨x,_,hx,rfl⟩:=take_get hy;exact blk_cut K rfl rfl (hp.nostk id x hx) (H.blk id x hx)
 ·obtain⟨x0,_,hx0,rfl⟩:=take_get hi;obtain⟨y0,_,hy0,rfl⟩:=take_get hj
  exact H.inj i j x0 y0 g hx0 hy0 (fun e=>hx (stripB_dead.2 e)) (fun e=>hy (stripB_dead.2 e)) hsi hsj
 ·have:=At.cut K cs _ (H.glob g cs hg)
  rwa [strips_pure _ _ cs (hG g cs hg)] at this
 ·have hA:hidA E m g=some (o,i,k):=hA
  by_cases hh:HidB E m g
  ·obtain⟨id,hm,x,hx,hd,hsg⟩:=hh;obtain⟨a1,a2⟩:=H.lt hx hd hsg
   refine⟨a1,a2,fun j y hy hyd hs=> ?_⟩
   obtain⟨z,hj,hz,rfl⟩:=take_get hy
   have:=H.inj j id z x g hz hx (fun e=>hyd (stripB_dead.2 e)) hd hs hsg
   omega
  ·rw[hidA_not hh] at hA;obtain⟨a1,a2,a3⟩:=H.ar g o i k hA
   refine⟨a1,a2,fun j y hy hyd hs=> ?_⟩
   obtain⟨z,hj,hz,rfl⟩:=take_get hy
   exact a3 j z hz (fun e=>hyd (stripB_dead.2 e)) hs
theorem hid_free (H:Good G I B0 E){m g:Nat}(hp:PreOk E m)(hh:HidB E m g):¬Tr (lowE E m) g∧E.B≤g∧g<E.w.heap.size:=by
 obtain⟨id,hm,x,hx,hd,hsg⟩:=hh;obtain⟨a1,a2⟩:=H.lt hx hd hsg;refine⟨?_,a1,a2⟩
 rintro(⟨j,y,hy,hyd,hs⟩|⟨q,i,k,hA,hne⟩)
 ·obtain⟨z,hj,hz,rfl⟩:=take_get hy
  have:=H.inj j id z x g hz hx (fun e=>hyd (stripB_dead.2 e)) hd hs hsg
  omega
 ·have hA:hidA E m g=some (q,i,k):=hA;rw[hidA_hid H hm hx hd hsg] at hA;simp only[Option.some.injEq,Prod.mk.injEq] at hA
  obtain⟨t,cs,h0⟩:=hp.first
  exact hne hA.1.symm t _ (get_take hp.pos h0)
theorem back_get (hm:m≤E.h.length){E1:Env}(h1:m≤E1.h.length){id:Nat}{y:Blk}(hy:(backE E E1 m).h[id]?=some y):(id<m∧∃x,E1.h[id]?=some x∧y=stripB m E1.h x)∨(m≤id∧E.h[id]?=some y):=by
 have hy:((E1.h.take m).map (stripB m E1.h)++E.h.drop m)[id]?=some y:=hy
 have hl:((E1.h.take m).map (stripB m E1.h)).length=m:=by simp;omega
 by_cases hid:id<m
 ·rw[List.getElem?_append_left (by omega)] at hy
  obtain⟨x,_,hx,hyx⟩:=take_get hy;exact .inl ⟨hid,x,hx,hyx⟩
 ·rw[List.getElem?_append_right (by omega),hl,List.getElem?_drop,show m+(id-m)=id by omega] at hy
  exact .inr ⟨by omega,hy⟩
theorem get_back_low (hm:m≤E.h.length){E1:Env}{id:Nat}{x:Blk}(hid:id<m)(h1:m≤E1.h.length)(hx:E1.h[id]?=some x):(backE E E1 m).h[id]?=some (stripB m E1.h x):=by
 show((E1.h.take m).map (stripB m E1.h)++E.h.drop m)[id]?=_
 rw[List.getElem?_append_left (by simp;omega)]
 exact get_take hid hx
theorem get_back_high {E1:Env}(h1:m≤E1.h.length){id:Nat}{x:Blk}(hid:m≤id)(hx:E.h[id]?=some x):(backE E E1 m).h[id]?=some x:=by
 show((E1.h.take m).map (stripB m E1.h)++E.h.drop m)[id]?=_
 have hl:((E1.h.take m).map (stripB m E1.h)).length=m:=by simp;omega
 rw[List.getElem?_append_right (by omega),hl,List.getElem?_drop,show m+(id-m)=id by omega]
 exact hx
theorem back_σ_low {E1:Env}{id:Nat}(h:id<m):(backE E E1 m).σ id=E1.σ id:=by
 show(bif Nat.blt id m then E1.σ id else E.σ id)=_
 rw[show Nat.blt id m=true by simp[Nat.blt_eq,h]];rfl
theorem back_σ_high {E1:Env}{id:Nat}(h:m≤id):(backE E E1 m).σ id=E.σ id:=by
 show(bif Nat.blt id m then E1.σ id else E.σ id)=_
 rw[show Nat.blt id m=false by rw[←Bool.not_eq_true,Nat.blt_eq];omega];rfl
theorem back_ok (H:Good G I B0 E)(hG:∀g cs,G g=some cs→pureV.pureVs cs=true){m:Nat}(hp:PreOk E m){E1:Env}(S:Step G I B0 (lowE E m) E1):
  Cut m E1.h E1 (backE E E1 m)∧Step G I B0 E (backE E E1 m):=by
 have hm:=hp.le
 have hll:(lowE E m).h.length=m:=by show((E.h.take m).map (stripB m [])).length=m;simp;omega
 have h1:m≤E1.h.length:=by have:=S.le.len;omega
 have H1:=S.good;have hbl:E1.B=E.B:=S.le.B
 have hhid:∀g,HidB E m g→E1.w.heap[g]?=E.w.heap[g]?∧¬Tr E1 g∧E1.A g=hidA E m g:=fun g hh=>by
  obtain⟨a1,a2,a3⟩:=hid_free H hp hh;exact S.own g a2 a3 a1
 have hst:∀b o,Stable E1 b o→Stable (backE E E1 m) b o:=by
  intro b o hs
  by_cases hh:HidB E m b
  ·obtain⟨k1,k2,k3⟩:=hhid b hh;obtain⟨id0,hm0,x0,hx0,hd0,hs0⟩:=hh;have ho:=hs.1.2 0 0 _ (k3.trans (hidA_hid H hm0 hx0 hd0 hs0))
   refine⟨⟨hs.1.1,fun q i k hq=> ?_⟩,fun id y hy hσ=> ?_⟩
   ·have hq:backA E E1.A m b=some (q,i,k):=hq;rw[backA_hid ⟨id0,hm0,x0,hx0,hd0,hs0⟩] at hq;cases hq
   ·rcases back_get hm h1 hy with ⟨hid,x,hx,rfl⟩|⟨hid,hx⟩
    ·rw[back_σ_low hid] at hσ
     by_cases hd:x=.dead
     ·exact .inl (by rw[hd];rfl)
     ·exact absurd (.inl ⟨id,x,hx,hd,hσ⟩) k2
    ·rw[back_σ_high hid] at hσ
     by_cases hd:y=.dead
     ·exact .inl hd
     ·obtain rfl:=H.inj id id0 y x0 b hx hx0 hd hd0 hσ hs0;rw[hx] at hx0
      injection hx0 with hx0
      subst hx0
      cases y with
      |grow n sz e=>exact .inr ⟨n,sz,e,rfl,ho⟩
      |mem _ _=>exact absurd ho (Nat.not_lt_zero _)
      |dead=>exact .inl rfl
      |iter _ _=>exact absurd ho (Nat.not_lt_zero _)
      |stk _ _ _ _ _ _ _=>exact absurd ho (Nat.not_lt_zero _)
  ·refine⟨⟨hs.1.1,fun q i k hq=> ?_⟩,fun id y hy hσ=> ?_⟩
   ·have hq:backA E E1.A m b=some (q,i,k):=hq;rw[backA_not hh] at hq;exact hs.1.2 q i k hq
   ·rcases back_get hm h1 hy with ⟨hid,x,hx,rfl⟩|⟨hid,hx⟩
    ·rw[back_σ_low hid] at hσ
     rcases hs.2 id x hx hσ with rfl|⟨n,sz,e,rfl,ho⟩
     ·exact .inl rfl
     ·exact .inr ⟨n,sz,e,rfl,ho⟩
    ·rw[back_σ_high hid] at hσ
     by_cases hd:y=.dead
     ·exact .inl hd
     ·exact absurd ⟨id,hid,y,hx,hd,hσ⟩ hh
 have hA':∀id,id<m→∀g x,E1.A g=some x→HidB E m g→x.1=0:=fun id _ g x hA hh=>by
  obtain⟨k1,k2,k3⟩:=hhid g hh;obtain⟨id0,hm0,x0,hx0,hd0,hs0⟩:=hh;rw[k3,hidA_hid H hm0 hx0 hd0 hs0] at hA
  injection hA with hA
  rw[←hA]
 have K:Cut m E1.h E1 (backE E E1 m):=by
  refine⟨rfl,fun _ _=>rfl,fun b o v _ hs=>hst b o hs,fun id t cs hid hx=>⟨_,get_back_low hm hid h1 hx,strips_length _ _ _⟩,fun id hid=>back_σ_low hid,?_,fun id k sz e hid hg=> ?_,fun id s p hid hx=>get_back_low hm hid h1 hx,fun id g t sz kc ke ksz rows hid hx=> ?_,?_,fun b t cs hb hx=>⟨hx,fun g hg j x hj=> ?_⟩⟩
  ·show m≤((E1.h.take m).map (stripB m E1.h)++E.h.drop m).length;simp;omega
  ·rcases back_get hm h1 hg with ⟨_,x,hx,hy⟩|⟨hid',_⟩
   ·rw[hx,stripB_grow hy.symm]
   ·omega
  ·rcases back_get hm h1 hx with ⟨_,x,hx,hy⟩|⟨hid',_⟩
   ·obtain⟨rows0,e1,e2⟩:=stripB_stk hy.symm
    exact⟨rows0,by rw[hx,e1],by rw[e2,List.map_map];rfl⟩
   ·omega
  ·intro id hid g x hA hne;show backA E E1.A m g=some x
   by_cases hh:HidB E m g
   ·have e0:=hA' id hid g x hA hh
    obtain⟨t,cs,h0⟩:=hp.first
    obtain⟨cs',k1,_,_⟩:=S.le.mem 0 t _ (get_take hp.pos h0);exact absurd k1 (hne e0 t cs')
   ·rw[backA_not hh];exact hA
  ·obtain⟨k0,k1⟩:=mem_cell H1 hx hg;obtain⟨v,q1,q2,q3⟩:=k1 j x hj
   have hnh:¬HidB E m g:=fun hh=>(hhid g hh).2.1 (.inl ⟨b,_,hx,by simp,hg⟩)
   refine⟨v,q1,q2,q3,⟨fun hu=> ?_,fun q i k hq=> ?_⟩,fun id y hy hσ=> ?_⟩
   ·have:=H1.U _ _ hu;omega
   ·have hq:backA E E1.A m g=some (q,i,k):=hq;rw[backA_not hnh] at hq
    exact absurd rfl (ar_ne H1 hx (by simp) hg _ _ hq)
   ·rcases back_get hm h1 hy with ⟨hid,z,hz,rfl⟩|⟨hid,hz⟩
    ·rw[back_σ_low hid] at hσ
     by_cases hd:z=.dead
     ·exact .inl (by rw[hd];rfl)
     ·have:=H1.inj id b z _ g hz hx hd (by simp) hσ hg
      omega
    ·rw[back_σ_high hid] at hσ
     by_cases hd:y=.dead
     ·exact .inl hd
     ·exact absurd ⟨id,hid,y,hz,hd,hσ⟩ hnh
 have L:Le E (backE E E1 m):=by
  refine⟨hbl,fun a v h s=> ?_,?_,fun id t cs h=> ?_,fun id n sz e hi h=> ?_,fun id s p h=> ?_,fun id g t sz kc ke ksz rows hi h=> ?_,S.le.maps⟩
  ·obtain⟨k1,k2⟩:=S.le.cells a v h (low_stable H s);exact⟨k1,hst _ _ k2⟩
  ·show E.h.length≤((E1.h.take m).map (stripB m E1.h)++E.h.drop m).length;simp;omega
  ·by_cases hid:id<m
   ·obtain⟨cs',k1,k2,k3⟩:=S.le.mem id t _ (get_take hid h)
    exact⟨_,get_back_low hm hid h1 k1,by rw[strips_length,k2,strips_length],by rw[back_σ_low hid];exact k3⟩
   ·exact⟨cs,get_back_high h1 (by omega) h,rfl,back_σ_high (by omega)⟩
  ·rcases back_get hm h1 h with ⟨hid,x,hx,hy⟩|⟨hid,hx⟩
   ·rw[stripB_grow hy.symm] at hx
    obtain⟨n0,k1,k2,k3⟩:=S.le.grow id n sz e (by omega) hx
    obtain⟨x0,_,hx0,hy0⟩:=take_get k1;rw[stripB_grow hy0.symm] at hx0
    refine⟨n0,hx0,k2,fun hn=> ?_⟩
    obtain⟨q1,q2⟩:=k3 hn
    exact⟨by rw[back_σ_low hid];exact q1,q2⟩
   ·refine⟨n,hx,Nat.le_refl _,fun _=>⟨back_σ_high hid,fun v xs hv hob=>⟨hv.1,?_⟩⟩⟩
    rcases hv.2 with h2|⟨g,cap,cur,h2,h3,h4,h5⟩
    ·exact .inl h2
    ·have hσ:E.σ id=some g:=by rw[←hob,h2];rfl
     exact .inr ⟨g,cap,cur,h2,h3,(hhid g ⟨id,hid,_,hx,by simp,hσ⟩).1.trans h4,h5⟩
  ·by_cases hid:id<m
   ·obtain⟨p',k1,k2⟩:=S.le.iter id s p (get_take hid h)
    exact⟨p',get_back_low hm hid h1 k1,by rw[back_σ_low hid];exact k2⟩
   ·exact⟨p,get_back_high h1 (by omega) h,back_σ_high (by omega)⟩
  ·rcases back_get hm h1 h with ⟨hid,x,hx,hy⟩|⟨hid,hx⟩
   ·obtain⟨rows0,e1,e2⟩:=stripB_stk hy.symm;rw[e1] at hx
    obtain⟨g0,r0,k1,_⟩:=S.le.stk id g t sz kc ke ksz rows0 (by omega) hx
    obtain⟨x0,_,hx0,hy0⟩:=take_get k1;have:=hp.nostk id x0 hx0;rw[←stripB_isStk (n:=m) (h:=[]),←hy0] at this;cases this
   ·have:=hp.nostk id _ hx;cases this
 refine⟨K,L,⟨fun id y hy=> ?_,fun i j x y g hi hj hx hy hsi hsj=> ?_,fun g cs hg=>At.mono L _ _ (H.glob g cs hg),fun b o hu=>by rw[show(backE E E1 m).B=E.B from hbl,←hbl];exact H1.U b o hu,fun g o i k hA=> ?_,H1.size,by rw[show(backE E E1 m).B=E.B from hbl];exact H.B0,H1.I⟩,S.U,S.below,fun g g1 g2 g3=> ?_⟩
 ·rcases back_get hm h1 hy with ⟨hid,x,hx,rfl⟩|⟨hid,hx⟩
  ·have hnx:isStk x=false:=by
    cases hk:isStk x with
    |false=>rfl
    |true=>
     cases x<;>simp[isStk] at hk
     rename_i g t sz kc ke ksz rows
     obtain⟨g0,r0,k1,_⟩:=S.le.stk id g t sz kc ke ksz rows (by omega) hx
     obtain⟨x0,_,hx0,hy0⟩:=take_get k1;have:=hp.nostk id x0 hx0;rw[←stripB_isStk (n:=m) (h:=[]),←hy0] at this;cases this
   exact blk_cut K (back_σ_low hid) rfl hnx (H1.blk id x hx)
  ·have h:=H.blk id y hx
   have hb:∀g,E.σ id=some g→y≠.dead→E1.w.heap[g]?=E.w.heap[g]? :=fun g hg hd=>(hhid g ⟨id,hid,y,hx,hd,hg⟩).1
   cases y with
   |mem t cs=>
    obtain⟨g,c,fr,e1,e2,e3,e4,e5,e6⟩:=h
    have hbg:=hb g e1 (by simp)
    refine⟨g,c,fr,by rw[back_σ_high hid];exact e1,by rw[show(backE E E1 m).B=E.B from hbl];exact e2,hbg.trans e3,e4,fun j hj=>(World.frozen?_of_block (a:=⟨g,j,none⟩) hbg).trans (e5 j hj),fun j z hz=> ?_⟩
    obtain⟨v,q1,q2,q3⟩:=e6 j z hz;exact⟨v,q1,q2,Rel.mono L _ _ q3⟩
   |grow n sz e=>
    intro g hg;rw[back_σ_high hid] at hg;obtain⟨a1,a2⟩:=h g hg
    exact⟨by rw[show(backE E E1 m).B=E.B from hbl];exact a1,Nat.lt_of_lt_of_le a2 S.below.size⟩
   |dead=>trivial
   |iter s p=>
    obtain⟨g,e1,e2,e3⟩:=h
    exact⟨g,by rw[back_σ_high hid];exact e1,by rw[show(backE E E1 m).B=E.B from hbl];exact e2,(hb g e1 (by simp)).trans e3⟩
   |stk _ _ _ _ _ _ _=>have:=hp.nostk id _ hx;cases this
 ·rcases back_get hm h1 hi with ⟨hid,x0,hx0,rfl⟩|⟨hid,hx0⟩<;>rcases back_get hm h1 hj with ⟨hjd,y0,hy0,rfl⟩|⟨hjd,hy0⟩
  ·rw[back_σ_low hid] at hsi;rw[back_σ_low hjd] at hsj
   exact H1.inj i j x0 y0 g hx0 hy0 (fun e=>hx (stripB_dead.2 e)) (fun e=>hy (stripB_dead.2 e)) hsi hsj
  ·rw[back_σ_low hid] at hsi;rw[back_σ_high hjd] at hsj
   exact absurd (.inl ⟨i,x0,hx0,fun e=>hx (stripB_dead.2 e),hsi⟩) (hhid g ⟨j,hjd,y,hy0,hy,hsj⟩).2.1
  ·rw[back_σ_high hid] at hsi;rw[back_σ_low hjd] at hsj
   exact absurd (.inl ⟨j,y0,hy0,fun e=>hy (stripB_dead.2 e),hsj⟩) (hhid g ⟨i,hid,x,hx0,hx,hsi⟩).2.1
  ·rw[back_σ_high hid] at hsi;rw[back_σ_high hjd] at hsj;exact H.inj i j x y g hx0 hy0 hx hy hsi hsj
 ·have hA:backA E E1.A m g=some (o,i,k):=hA
  by_cases hh:HidB E m g
  ·rw[backA_hid hh] at hA;cases hA
  ·rw[backA_not hh] at hA;obtain⟨a1,a2,a3⟩:=H1.ar g o i k hA
   refine⟨a1,a2,fun j y hy hd hs=> ?_⟩
   rcases back_get hm h1 hy with ⟨hid,x,hx,rfl⟩|⟨hid,hx⟩
   ·rw[back_σ_low hid] at hs
    exact a3 j x hx (fun e=>hd (stripB_dead.2 e)) hs
   ·rw[back_σ_high hid] at hs;exact hh ⟨j,hid,y,hx,hd,hs⟩
 ·have hnh:¬HidB E m g:=fun⟨id,_,x,hx,hd,hs⟩=>g3 (.inl ⟨id,x,hx,hd,hs⟩)
  have hlow:¬Tr (lowE E m) g:=by
   rintro(⟨id,y,hy,hd,hs⟩|⟨q,i,k,hA,hne⟩)
   ·obtain⟨x,_,hx,rfl⟩:=take_get hy
    exact g3 (.inl ⟨id,x,hx,fun e=>hd (stripB_dead.2 e),hs⟩)
   ·have hA:hidA E m g=some (q,i,k):=hA;rw[hidA_not hnh] at hA
    exact g3 (.inr ⟨q,i,k,hA,fun e t cs h0=>hne e t _ (get_take hp.pos h0)⟩)
  obtain⟨k1,k2,k3⟩:=S.own g g1 g2 hlow;refine⟨k1,?_,?_⟩
  ·rintro(⟨id,y,hy,hd,hs⟩|⟨q,i,k,hA,hne⟩)
   ·rcases back_get hm h1 hy with ⟨hid,x,hx,rfl⟩|⟨hid,hx⟩
    ·rw[back_σ_low hid] at hs
     exact k2 (.inl ⟨id,x,hx,fun e=>hd (stripB_dead.2 e),hs⟩)
    ·rw[back_σ_high hid] at hs;exact g3 (.inl ⟨id,y,hx,hd,hs⟩)
   ·have hA:backA E E1.A m g=some (q,i,k):=hA;rw[backA_not hnh] at hA
    exact k2 (.inr ⟨q,i,k,hA,fun e t cs h0=>hne e t _ (get_back_low hm hp.pos h1 h0)⟩)
  ·show backA E E1.A m g=E.A g;rw[backA_not hnh,k3];exact hidA_not hnh
end
end Go.Ai
