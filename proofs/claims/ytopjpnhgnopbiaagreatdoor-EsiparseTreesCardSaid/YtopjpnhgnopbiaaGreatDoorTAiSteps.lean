/-
  Stores into memory of the call's own, and appends.
-/
import Derived.Test.YtopjpnhgnopbiaaGreatDoorTAiApp
set_option linter.unusedVariables false
set_option linter.unusedSimpArgs false
set_option linter.unnecessarySimpa false
namespace Go.Ai
open Go.RowKit
section
variable {G:Nat->Option (List AV)}{I:World->Prop}{B0:Nat}{E:Env}
theorem AH {h:Hp}{b:Nat}{x y:Blk}{id:Nat}(hy:(h.set b x)[id]?=some y):(id=b/\y=x/\b<h.length)\/(id≠b/\h[id]?=some y):=by
 rw[List.getElem?_set] at hy
 by_cases hb:b=id
 ·subst hb;rw[if_pos rfl] at hy;split at hy
  ·injection hy with hy;exact .inl ⟨rfl,hy.symm,by assumption⟩
  ·cases hy
 ·rw[if_neg hb] at hy
  exact .inr ⟨fun e=>hb e.symm,hy⟩
theorem Nb {w':World}{b:Nat}{x y:Blk}{o:Option Nat}(hx:E.h[b]?=some x)(hb:∀g,g<E.w.heap.size->(x≠.dead->E.σ b≠some g)->w'.heap[g]?=E.w.heap[g]?)
  (ho:(o=E.σ b/\x≠.dead)\/∀g,o=some g->E.w.heap.size<=g) (hm:∀t cs,x=.mem t cs->∃Fu,y=.mem t Fu):fL E {E with w:=w',σ:=Ct E.σ b o,h:=E.h.set b y}:=by
 intro g _ hg h
 refine⟨hb g hg fun hd hs=>h (.inl ⟨b,x,hx,hd,hs⟩),?_,rfl⟩
 rintro(⟨id,z,hz,hd,hs⟩|⟨id,i,m,hA,BT⟩)
 ·have hs:Ct E.σ b o id=some g:=hs;have hz:(E.h.set b y)[id]?=some z:=hz
  by_cases hid:id=b
  ·rw[hid,Av] at hs
   rcases ho with ⟨e,nZ⟩|ho
   ·exact h (.inl ⟨b,x,hx,nZ,e▸hs⟩)
   ·have:=ho g hs;omega
  ·rw[Ah hid] at hs
   rw[List.getElem?_set_ne (fun e=>hid e.symm)] at hz
   exact h (.inl ⟨id,z,hz,hd,hs⟩)
 ·refine h (.inr ⟨id,i,m,hA,fun e t cs h0=> ?_⟩)
  by_cases gn:b=id
  ·subst gn;rw[hx] at h0
   injection h0 with h0
   obtain⟨Fu,hy⟩:=hm t cs h0;refine BT e t Fu ?_;show(E.h.set b y)[b]?=_;rw[List.getElem?_set_self (List.getElem?_eq_some_iff.1 hx).1,hy]
  ·refine BT e t cs ?_;show(E.h.set b y)[id]?=_;rw[List.getElem?_set_ne gn];exact h0
theorem OW {w':World}{b:Nat}{x y:Blk}(hx:E.h[b]?=some x)(hd:x≠.dead)(hb:∀g,g<E.w.heap.size->E.σ b≠some g->w'.heap[g]?=E.w.heap[g]?)(hm:∀t cs,x=.mem t cs->∃Fu,y=.mem t Fu):fL E {E with w:=w',h:=E.h.set b y}:=by
 have:=Nb (y:=y) (w':=w') (o:=E.σ b) hx (fun g hg h=>hb g hg (h hd)) (.inl ⟨rfl,hd⟩) hm
 rwa [aH] at this
theorem Vg (hI:∀w w',I w->Below B0 w w'->I w')(H:Good G I B0 E){w':World}{b g:Nat}{cs ds:List AV}{c d:Array Value}{t:TypeId}{fr:Nat×Nat}
  (hb:E.h[b]?=some (.mem t cs)) (hg:E.σ b=some g) (hold:E.w.heap[g]?=some (.cells c t fr)) (hw:E.w.grownBy w' (some g)) (CC:w'.heap.size=E.w.heap.size)
  (De:w'.heap[g]?=some (.cells d t fr)) (xY:d.size=c.size) (hlen:ds.length=cs.length)
  (Gs:∀(j:Nat) x,ds[j]?=some x->∃v,d[j]?=some v/\v.oneCell'=true/\Rel E x v):
  Step G I B0 E {E with w:=w',h:=E.h.set b (.mem t ds)}:=by
 have hB:E.B<=g:=(H.lt hb (by simp) hg).1
 have HD:b<E.h.length:=(List.getElem?_eq_some_iff.1 hb).1
 have vG:∀j,w'.frozen? ⟨g,j,none⟩=E.w.frozen? ⟨g,j,none⟩:=fun j=>by simp[World.frozen?,De,hold]
 have BT:∀(id:Nat) x g',id≠b->E.h[id]?=some x->x≠.dead->E.σ id=some g'->g'≠g:=by
  rintro id x g' hid hx hd hs rfl
  exact hid (H.inj id b x _ g' hx hb hd (by simp) hs hg)
 have Ck:∀(e:TypeId) (size n:Nat) v xs,v.ownBlock≠some g->E.w.ownsRow E.B e size v n xs->w'.ownsRow E.B e size v n xs:=fun e size n v xs hv h=>h.kept hw (.inr hv)
 have L:Le E {E with w:=w',h:=E.h.set b (.mem t ds)}:=by
  refine⟨rfl,fun a v h s=> ?_,by simp,fun id t' Fu h=> ?_,fun id n sz e hi h=> ?_,fun id s p h=> ?_,fun id n t1 Gw kc ke ksz rows hi h=> ?_,fun r es clock h=> ?_⟩
  rotate_left 4
  ·rcases AH h with ⟨rfl,h1,_⟩|⟨hid,h1⟩
   ·cases h1
   ·exact⟨n,rows,h1,Nat.le_refl _,fun _=>⟨rfl,rfl,fun k m hk hz=>IT.of (fun As=>hw.block k As (fun e=>BT id _ k hid h1 (by simp) hk (by injection e))) hz,Cl fun _ _ _ h=>h.kept rfl rfl (fun q y hq As=>hw.block q As (fun e=>Gm H hb (by simp) hg q y hq (by injection e)))⟩⟩
  ·exact(hw.block r (Array.getElem?_eq_some_iff.1 h).1 (fun e=>by injection e with e;subst e;rw[hold] at h;cases h)).trans h
  ·have fW:a.block≠g:=by
    intro e
    rcases s.2 b _ hb (e▸hg) with h1|⟨_,_,_,h1,_⟩<;>cases h1
   refine⟨hw.cell h (fun e=>fW (by injection e)),s.1,fun id x hx hs=> ?_⟩
   rcases AH hx with ⟨rfl,rfl,_⟩|⟨_,IM⟩
   ·have FC:E.σ id=some a.block:=hs;rw[hg] at FC
    injection FC with FC
    exact absurd FC.symm fW
   ·exact s.2 id x IM hs
  ·by_cases hid:id=b
   ·subst hid;rw[hb] at h
    injection h with h
    injection h with h0 h
    subst h;subst h0
    exact⟨ds,by simp[HD],hlen,rfl⟩
   ·exact⟨Fu,by rw[List.getElem?_set_ne (fun e=>hid e.symm)];exact h,rfl,rfl⟩
  ·rcases AH h with ⟨rfl,h1,_⟩|⟨hid,h1⟩
   ·cases h1
   ·refine⟨n,h1,Nat.le_refl _,fun _=>⟨rfl,fun v xs hv Am=>Ck e sz n v xs (fun he=> ?_) hv⟩⟩
    rw[he] at Am
    exact BT id _ g hid h1 (by simp) Am.symm rfl
  ·have hid:id≠b:=by rintro rfl;rw[hb] at h;cases h
   exact⟨p,by rw[List.getElem?_set_ne (fun e=>hid e.symm)];exact h,rfl⟩
 refine⟨L,⟨fun id y hy=> ?_,fun i j x y g' hi hj hx hy Dd E6=> ?_,fun k gs hk=>At.mono L _ _ (H.Ep k gs hk),H.U,Su H (Nat.le_of_eq CC.symm) hb (by simp),?_,H.B0,hI _ _ H.I ?_⟩,rfl,?_,OW hb (by simp) (fun q hq hs=>hw.block q hq (fun e=>hs (hg.trans e.symm))) (fun t' Fu h=>⟨ds,by injection h with h1 _;rw[h1]⟩)⟩
 ·rcases AH hy with ⟨rfl,rfl,_⟩|⟨hid,E8⟩
  ·have h:=H.KO id _ hb;obtain⟨g',c',LV,h1,h2,h3,h4,h5,h6⟩:=h;rw[hg] at h1
   injection h1 with h1
   subst h1;rw[hold] at h3
   injection h3 with h3
   injection h3 with h3 y9 tv
   subst h3;subst tv
   refine⟨g,d,fr,hg,h2,De,by rw[hlen,xY];exact h4,fun j hj=>(vG j).trans (h5 j (by rw[<-hlen];exact hj)),fun j z hz=> ?_⟩
   obtain⟨v,k1,k2,k3⟩:=Gs j z hz;exact⟨v,k1,k2,Rel.mono L _ _ k3⟩
  ·have h:=H.KO id y E8
   cases y with
   |mem t' es=>
    obtain⟨g',c',LV,h1,h2,h3,h4,h5,h6⟩:=h
    have Nk:=BT id _ g' hid E8 (by simp) h1
    have FP:w'.heap[g']?=E.w.heap[g']? :=hw.block g' (Array.getElem?_eq_some_iff.1 h3).1 (fun e=>Nk (by injection e))
    refine⟨g',c',LV,h1,h2,FP.trans h3,h4,fun j hj=>(World.frozen?_of_block (a:=⟨g',j,none⟩) FP).trans (h5 j hj),fun j z hz=> ?_⟩
    obtain⟨v,k1,k2,k3⟩:=h6 j z hz;exact⟨v,k1,k2,Rel.mono L _ _ k3⟩
   |grow n sz e=>
    intro g' CR;show E.B<=g'/\g'<w'.heap.size;rw[CC];exact h g' CR
   |dead=>trivial
   |iter s p=>
    obtain⟨g',h1,h2,h3⟩:=h
    have Nk:=BT id _ g' hid E8 (by simp) h1
    exact⟨g',h1,h2,(hw.block g' (Array.getElem?_eq_some_iff.1 h3).1 (fun e=>Nk (by injection e))).trans h3⟩
   |stk n t1 Gw kc ke ksz rows=>exact EA.stk L rfl rfl (fun k hk As=>hw.block k As (fun e=>BT id _ k hid E8 (by simp) hk (by injection e))) (fun _ _ _ h=>h.kept rfl rfl (fun q y hq As=>hw.block q As (fun e=>Gm H hb (by simp) hg q y hq (by injection e)))) h
 ·rcases AH hi with ⟨rfl,rfl,_⟩|⟨MG,IP⟩<;>rcases AH hj with ⟨rfl,rfl,_⟩|⟨ZW,IE⟩
  ·rfl
  ·exact H.inj _ _ _ _ g' hb IE (by simp) hy Dd E6
  ·exact H.inj _ _ _ _ g' IP hb hx (by simp) Dd E6
  ·exact H.inj _ _ _ _ g' IP IE hx hy Dd E6
 ·show E.B<=w'.heap.size;rw[CC];exact H.size
 ·exact⟨hw.os,hw.tape,hw.output,hw.size,fun k hk=>hw.block k (by have:=H.size;have:=H.B0;omega) (fun e=>by injection e with e;have:=H.B0;omega)⟩
 ·exact⟨hw.os,hw.tape,hw.output,hw.size,fun k hk=>hw.block k (by have:=H.size;show k<E.w.heap.size;omega) (fun e=>by injection e with e;omega)⟩
theorem Yi (hI:∀w w',I w->Below B0 w w'->I w')(H:Good G I B0 E){w':World}{b g p p':Nat}{s:List UInt8}
  (hb:E.h[b]?=some (.iter s p)) (hg:E.σ b=some g) (hold:E.w.heap[g]?=some (.stringIter ⟨s.toArray⟩ p)) (hw:E.w.grownBy w' (some g)) (CC:w'.heap.size=E.w.heap.size)
  (De:w'.heap[g]?=some (.stringIter ⟨s.toArray⟩ p')):
  Step G I B0 E {E with w:=w',h:=E.h.set b (.iter s p')}:=by
 have hB:E.B<=g:=(H.lt hb (by simp) hg).1
 have HD:b<E.h.length:=(List.getElem?_eq_some_iff.1 hb).1
 have BT:∀(id:Nat) x g',id≠b->E.h[id]?=some x->x≠.dead->E.σ id=some g'->g'≠g:=by
  rintro id x g' hid hx hd hs rfl
  exact hid (H.inj id b x _ g' hx hb hd (by simp) hs hg)
 have L:Le E {E with w:=w',h:=E.h.set b (.iter s p')}:=by
  refine⟨rfl,fun a v h st=> ?_,by simp,fun id t' Fu h=> ?_,fun id n sz e hi h=> ?_,fun id s1 p1 h=> ?_,fun id n t1 Gw kc ke ksz rows hi h=> ?_,fun r es clock h=> ?_⟩
  rotate_left 4
  ·rcases AH h with ⟨rfl,h1,_⟩|⟨hid,h1⟩
   ·cases h1
   ·exact⟨n,rows,h1,Nat.le_refl _,fun _=>⟨rfl,rfl,fun k m hk hz=>IT.of (fun As=>hw.block k As (fun e=>BT id _ k hid h1 (by simp) hk (by injection e))) hz,Cl fun _ _ _ h=>h.kept rfl rfl (fun q y hq As=>hw.block q As (fun e=>Gm H hb (by simp) hg q y hq (by injection e)))⟩⟩
  ·exact(hw.block r (Array.getElem?_eq_some_iff.1 h).1 (fun e=>by injection e with e;subst e;rw[hold] at h;cases h)).trans h
  ·have fW:a.block≠g:=by
    intro e
    rcases st.2 b _ hb (e▸hg) with h1|⟨_,_,_,h1,_⟩<;>cases h1
   refine⟨hw.cell h (fun e=>fW (by injection e)),st.1,fun id x hx hs=> ?_⟩
   rcases AH hx with ⟨rfl,rfl,_⟩|⟨_,IM⟩
   ·have FC:E.σ id=some a.block:=hs;rw[hg] at FC
    injection FC with FC
    exact absurd FC.symm fW
   ·exact st.2 id x IM hs
  ·have hid:id≠b:=by rintro rfl;rw[hb] at h;cases h
   exact⟨Fu,by rw[List.getElem?_set_ne (fun e=>hid e.symm)];exact h,rfl,rfl⟩
  ·rcases AH h with ⟨rfl,h1,_⟩|⟨hid,h1⟩
   ·cases h1
   ·refine⟨n,h1,Nat.le_refl _,fun _=>⟨rfl,fun v xs hv Am=>hv.kept hw (.inr fun he=> ?_)⟩⟩
    rw[he] at Am
    exact BT id _ g hid h1 (by simp) Am.symm rfl
  ·by_cases hid:id=b
   ·subst hid;rw[hb] at h
    injection h with h
    injection h with h0 h1
    subst h0;subst h1
    exact⟨p',by simp[HD],rfl⟩
   ·exact⟨p1,by rw[List.getElem?_set_ne (fun e=>hid e.symm)];exact h,rfl⟩
 refine⟨L,⟨fun id y hy=> ?_,fun i j x y g' hi hj hx hy Dd E6=> ?_,fun k gs hk=>At.mono L _ _ (H.Ep k gs hk),H.U,Su H (Nat.le_of_eq CC.symm) hb (by simp),?_,H.B0,hI _ _ H.I ?_⟩,rfl,?_,OW hb (by simp) (fun q hq hs=>hw.block q hq (fun e=>hs (hg.trans e.symm))) (fun _ _ h=>by cases h)⟩
 ·rcases AH hy with ⟨rfl,rfl,_⟩|⟨hid,E8⟩
  ·exact⟨g,hg,hB,De⟩
  ·have h:=H.KO id y E8
   cases y with
   |mem t' es=>
    obtain⟨g',c',LV,h1,h2,h3,h4,h5,h6⟩:=h
    have Nk:=BT id _ g' hid E8 (by simp) h1
    have FP:w'.heap[g']?=E.w.heap[g']? :=hw.block g' (Array.getElem?_eq_some_iff.1 h3).1 (fun e=>Nk (by injection e))
    refine⟨g',c',LV,h1,h2,FP.trans h3,h4,fun j hj=>(World.frozen?_of_block (a:=⟨g',j,none⟩) FP).trans (h5 j hj),fun j z hz=> ?_⟩
    obtain⟨v,k1,k2,k3⟩:=h6 j z hz;exact⟨v,k1,k2,Rel.mono L _ _ k3⟩
   |grow n sz e=>
    intro g' CR;show E.B<=g'/\g'<w'.heap.size;rw[CC];exact h g' CR
   |dead=>trivial
   |iter s1 p1=>
    obtain⟨g',h1,h2,h3⟩:=h
    have Nk:=BT id _ g' hid E8 (by simp) h1
    exact⟨g',h1,h2,(hw.block g' (Array.getElem?_eq_some_iff.1 h3).1 (fun e=>Nk (by injection e))).trans h3⟩
   |stk n t1 Gw kc ke ksz rows=>exact EA.stk L rfl rfl (fun k hk As=>hw.block k As (fun e=>BT id _ k hid E8 (by simp) hk (by injection e))) (fun _ _ _ h=>h.kept rfl rfl (fun q y hq As=>hw.block q As (fun e=>Gm H hb (by simp) hg q y hq (by injection e)))) h
 ·rcases AH hi with ⟨rfl,rfl,_⟩|⟨MG,IP⟩<;>rcases AH hj with ⟨rfl,rfl,_⟩|⟨ZW,IE⟩
  ·rfl
  ·exact H.inj _ _ _ _ g' hb IE (by simp) hy Dd E6
  ·exact H.inj _ _ _ _ g' IP hb hx (by simp) Dd E6
  ·exact H.inj _ _ _ _ g' IP IE hx hy Dd E6
 ·show E.B<=w'.heap.size;rw[CC];exact H.size
 ·exact⟨hw.os,hw.tape,hw.output,hw.size,fun k hk=>hw.block k (by have:=H.size;have:=H.B0;omega) (fun e=>by injection e with e;have:=H.B0;omega)⟩
 ·exact⟨hw.os,hw.tape,hw.output,hw.size,fun k hk=>hw.block k (by have:=H.size;show k<E.w.heap.size;omega) (fun e=>by injection e with e;omega)⟩
theorem step_append (hI:∀w w',I w->Below B0 w w'->I w')(H:Good G I B0 E){w':World}{id n m sz:Nat}{e:TypeId}{v v':Value}{xs news:List Value}
  (hb:E.h[id]?=some (.grow n sz e)) (Ck:E.w.ownsRow E.B e sz v n xs) (Am:v.ownBlock=E.σ id)
  (Fw:w'.ownsRow E.B e sz v' (n+m) (xs++news)) (Sx:w'.os=E.w.os) (Qp:w'.tape=E.w.tape) (NP:w'.output=E.w.output)
  (Br:(v'.ownBlock=v.ownBlock/\E.w.grownBy w' v.ownBlock/\w'.heap.size=E.w.heap.size/\(m=0->v'=v/\w'.heap=E.w.heap))\/(0<m/\v'.ownBlock=some E.w.heap.size/\E.w.grownBy w' none)):
  Step G I B0 E {E with w:=w',σ:=Ct E.σ id v'.ownBlock,h:=E.h.set id (.grow (n+m) sz e)}:=by
 have Kz:id<E.h.length:=(List.getElem?_eq_some_iff.1 hb).1
 have hg:E.w.grownBy w' v.ownBlock:=by
  rcases Br with h|h
  ·exact h.2.1
  ·exact⟨h.2.2.os,h.2.2.tape,h.2.2.output,h.2.2.size,fun k hk _=>h.2.2.block k hk (by simp)⟩
 have CC:E.w.heap.size<=w'.heap.size:=hg.size;have vN:∀k,v.ownBlock=some k->E.B<=k/\k<E.w.heap.size:=Ck.lt
 have BT:∀(j:Nat) x g',j≠id->E.h[j]?=some x->x≠.dead->E.σ j=some g'->some g'≠v.ownBlock:=by
  intro j x g' hj hx hd hs he;rw[Am] at he
  exact hj (H.inj j id x _ g' hx hb hd (by simp) hs he.symm)
 have hσ:∀{j:Nat},j≠id->Ct E.σ id v'.ownBlock j=E.σ j:=fun h=>Ah h
 have wm:∀g,v'.ownBlock=some g->E.B<=g/\g<w'.heap.size:=Fw.lt
 have Qs:∀g,v'.ownBlock=some g->v.ownBlock=some g\/g=E.w.heap.size:=by
  intro g CR
  rcases Br with h|h
  ·exact .inl (h.1▸CR)
  ·rw[h.2.1] at CR
   injection CR with CR
   exact .inr CR.symm
 have BO:∀q y,E.A q=some y->some q≠v.ownBlock:=by
  intro q y hq he;rw[Am] at he
  exact Gm H hb (by simp) he.symm q y hq rfl
 have L:Le E {E with w:=w',σ:=Ct E.σ id v'.ownBlock,h:=E.h.set id (.grow (n+m) sz e)}:=by
  refine⟨rfl,fun a u h s=> ?_,by simp,fun j t' Fu h=> ?_,fun j n' Df e' hj h=> ?_,fun j s p h=> ?_,fun j n1 t1 Gw kc ke ksz rows hj h=> ?_,fun r es clock h=> ?_⟩
  rotate_left 4
  ·rcases AH h with ⟨rfl,h1,_⟩|⟨HC,h1⟩
   ·cases h1
   ·exact⟨n1,rows,h1,Nat.le_refl _,fun _=>⟨rfl,hσ HC,fun k m hk hz=>IT.of (fun As=>hg.block k As (BT j _ k HC h1 (by simp) hk)) hz,Cl fun _ _ _ h=>h.kept rfl rfl (fun q y hq As=>hg.block q As (BO q y hq))⟩⟩
  ·refine(hg.block r (Array.getElem?_eq_some_iff.1 h).1 (fun he=> ?_)).trans h
   rcases Ck.2 with ⟨hv,_⟩|⟨g,cap,cur,hv,_,Nk,_⟩
   ·rw[hv] at he;cases he
   ·rw[hv] at he
    have he:r=g:=by injection he
    rw[<-he,h] at Nk;cases Nk
  ·have As:=World.block_lt_of_cell? E.w a h
   refine⟨?_,s.1,fun j x hx hs=> ?_⟩
   ·by_cases Qv:some a.block=v.ownBlock
    ·rcases Br with hc|hc
     ·rcases s.2 id _ hb (Am.symm.trans Qv.symm) with h1|⟨n1,Gw,e1,h1,NR⟩
      ·cases h1
      injection h1 with h1 h2 h3
      subst h1;subst h2;subst h3
      have D8:a.spot=none:=by
       unfold World.cell? at h;split at h
       ·cases D8:a.spot with
        |none=>rfl
        |some _=>simp[D8] at h
       ·cases h
      obtain⟨ab,ao,vg⟩:=a;simp only at D8 Qv NR h;subst D8
      have HA:xs[ao]?=some u:=by
       have n5:ao<xs.length:=by rw[Ck.1];exact NR
       have:=Ck.cells Qv.symm ao _ (List.getElem?_eq_getElem n5);rw[Addr.add_lit,Nat.zero_add] at this;rw[h] at this
       injection this with this
       rw[List.getElem?_eq_getElem n5,this]
      have:=Fw.cells (hc.1.trans Qv.symm) ao u (by rw[List.getElem?_append_left (by rw[Ck.1];exact NR)];exact HA)
      rwa [Addr.add_lit,Nat.zero_add] at this
     ·exact hc.2.2.cell h (by simp)
    ·exact hg.cell h Qv
   ·rcases AH hx with ⟨rfl,rfl,_⟩|⟨HC,IM⟩
    ·have FC:v'.ownBlock=some a.block:=by simpa[Av] using hs
     rcases Qs _ FC with h1|h1
     ·rcases s.2 j _ hb (Am.symm.trans h1) with h2|⟨n1,Gw,e1,h2,NR⟩
      ·cases h2
      injection h2 with h2 h3 h4
      subst h2;subst h3;subst h4;exact .inr ⟨n+m,sz,e,rfl,Nat.lt_of_lt_of_le NR (Nat.mul_le_mul_right _ (Nat.le_add_right _ _))⟩
     ·omega
    ·exact s.2 j x IM (by simpa[hσ HC] using hs)
  ·have HC:j≠id:=by rintro rfl;rw[hb] at h;cases h
   exact⟨Fu,by rw[List.getElem?_set_ne (fun e=>HC e.symm)];exact h,rfl,hσ HC⟩
  ·rcases AH h with ⟨rfl,h1,_⟩|⟨HC,h1⟩
   ·injection h1 with h1 h2 h3
    subst h1;subst h2;subst h3
    refine⟨n,hb,Nat.le_add_right _ _,fun VJ=> ?_⟩
    have hm:m=0:=by omega
    rcases Br with hc|hc
    ·obtain⟨hv,hh⟩:=hc.2.2.2 hm
     refine⟨by show Ct E.σ j v'.ownBlock j=_;rw[Av,hv,Am],fun u ys hu _=> ?_⟩
     subst hm;refine⟨hu.1,?_⟩
     rcases hu.2 with h2|⟨g,cap,cur,h2,h3,h4,h5⟩
     ·exact .inl h2
     ·exact .inr ⟨g,cap,cur,h2,h3,by show w'.heap[g]?=_;rw[hh];exact h4,h5⟩
    ·omega
   ·refine⟨n',h1,Nat.le_refl _,fun _=>⟨hσ HC,fun u ys hu QA=> ?_⟩⟩
    refine hu.kept hg ?_
    cases kN:u.ownBlock with
    |none=>exact .inl rfl
    |some g'=>
     refine .inr ?_;rw[kN] at QA
     exact BT j _ g' HC h1 (by simp) QA.symm
  ·have HC:j≠id:=by rintro rfl;rw[hb] at h;cases h
   exact⟨p,by rw[List.getElem?_set_ne (fun e=>HC e.symm)];exact h,hσ HC⟩
 refine⟨L,⟨fun j y hy=> ?_,fun i j x y g' hi hj hx hy Dd E6=> ?_,fun k gs hk=>At.mono L _ _ (H.Ep k gs hk),H.U,XI H CC hb (by simp) (by
  rcases Br with h|h
  ·exact .inl (h.1.trans Am)
  ·exact .inr fun g CR=>by rw[h.2.1] at CR;injection CR with CR;omega),?_,H.B0,hI _ _ H.I ?_⟩,rfl,?_,Nb hb (fun q hq hs=>hg.block q hq (fun e=>hs (by simp) (Am.symm.trans e.symm))) (Br.elim (fun h=>.inl ⟨h.1.trans Am,by simp⟩) (fun h=>.inr fun g CR=>by rw[h.2.1] at CR;injection CR with CR;omega)) (fun _ _ h=>by cases h)⟩
 ·rcases AH hy with ⟨rfl,rfl,_⟩|⟨HC,E8⟩
  ·intro g' CR
   exact wm g' (by simpa[Av] using CR)
  ·have h:=H.KO j y E8
   cases y with
   |mem t' es=>
    obtain⟨g',c',LV,h1,h2,h3,h4,h5,h6⟩:=h
    have Nk:=BT j _ g' HC E8 (by simp) h1
    have FP:w'.heap[g']?=E.w.heap[g']? :=hg.block g' (Array.getElem?_eq_some_iff.1 h3).1 Nk
    refine⟨g',c',LV,by show Ct E.σ id _ j=_;rw[hσ HC];exact h1,h2,FP.trans h3,h4,fun k hk=>(World.frozen?_of_block (a:=⟨g',k,none⟩) FP).trans (h5 k hk),fun k z hz=> ?_⟩
    obtain⟨u,k1,k2,k3⟩:=h6 k z hz;exact⟨u,k1,k2,Rel.mono L _ _ k3⟩
   |grow n1 Gw e1=>
    intro g' CR
    have dc:E.σ j=some g':=by
     have:Ct E.σ id v'.ownBlock j=some g':=CR
     rwa [hσ HC] at this
    exact⟨(h g' dc).1,Nat.lt_of_lt_of_le (h g' dc).2 CC⟩
   |dead=>trivial
   |iter s p=>
    obtain⟨g',h1,h2,h3⟩:=h
    exact⟨g',by show Ct E.σ id _ j=_;rw[hσ HC];exact h1,h2,(hg.block g' (Array.getElem?_eq_some_iff.1 h3).1 (BT j _ g' HC E8 (by simp) h1)).trans h3⟩
   |stk n1 t1 Gw kc ke ksz rows=>exact EA.stk L (hσ HC) rfl (fun k hk As=>hg.block k As (BT j _ k HC E8 (by simp) hk)) (fun _ _ _ h=>h.kept rfl rfl (fun q y hq As=>hg.block q As (BO q y hq))) h
 ·have hs:∀{k:Nat},k≠id->Ct E.σ id v'.ownBlock k=some g'->E.σ k=some g':=fun hk h=>by rwa [hσ hk] at h
  have DZ:∀{k:Nat} {z:Blk},k≠id->E.h[k]?=some z->z≠.dead->Ct E.σ id v'.ownBlock k=some g'->Ct E.σ id v'.ownBlock id=some g'->k=id:=by
   intro k z hk hz dC h1 h2;have LU:=hs hk h1;rw[Av] at h2
   rcases Qs _ h2 with h3|h3
   ·exact absurd h3.symm (BT k z g' hk hz dC LU)
   ·have:=(H.lt hz dC LU).2;omega
  rcases AH hi with ⟨rfl,rfl,_⟩|⟨MG,IP⟩<;>rcases AH hj with ⟨rfl,rfl,_⟩|⟨ZW,IE⟩
  ·rfl
  ·exact(DZ ZW IE hy E6 Dd).symm
  ·exact DZ MG IP hx Dd E6
  ·exact H.inj _ _ _ _ g' IP IE hx hy (hs MG Dd) (hs ZW E6)
 ·show E.B<=w'.heap.size;have:=H.size;omega
 ·exact⟨Sx,Qp,NP,CC,fun k hk=>hg.block k (by have:=H.size;have:=H.B0;omega) (fun he=>by have:=(vN k he.symm).1;have:=H.B0;omega)⟩
 ·exact⟨Sx,Qp,NP,CC,fun k hk=>hg.block k (by have:=H.size;show k<E.w.heap.size;omega) (fun he=>by have:=(vN k he.symm).1;omega)⟩
end
end Go.Ai
