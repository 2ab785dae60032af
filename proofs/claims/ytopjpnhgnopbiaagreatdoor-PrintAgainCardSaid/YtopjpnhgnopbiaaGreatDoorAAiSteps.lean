/-
  Stores into memory of the call's own, and appends.
-/
import Derived.Test.YtopjpnhgnopbiaaGreatDoorAAiApp
set_option linter.unusedVariables false
set_option linter.unusedSimpArgs false
set_option linter.unnecessarySimpa false
namespace Go.Ai
open Go.RowKit
section
variable {G:Nat->Option (List AV)}{I:World->Prop}{B0:Nat}{E:Env}
theorem AG {h:Hp}{b:Nat}{x y:Blk}{id:Nat}(hy:(h.set b x)[id]?=some y):(id=b/\y=x/\b<h.length)\/(id≠b/\h[id]?=some y):=by
 rw[List.getElem?_set] at hy
 by_cases hb:b=id
 ·subst hb;rw[if_pos rfl] at hy;split at hy
  ·injection hy with hy;exact .inl ⟨rfl,hy.symm,by assumption⟩
  ·cases hy
 ·rw[if_neg hb] at hy
  exact .inr ⟨fun e=>hb e.symm,hy⟩
theorem PZ {w':World}{b:Nat}{x y:Blk}{o:Option Nat}(hx:E.h[b]?=some x)(hb:∀g,g<E.w.heap.size->(x≠.dead->E.σ b≠some g)->w'.heap[g]?=E.w.heap[g]?)
  (ho:(o=E.σ b/\x≠.dead)\/∀g,o=some g->E.w.heap.size<=g) (hm:∀t cs,x=.mem t cs->∃Gh,y=.mem t Gh):jj E {E with w:=w',σ:=DA E.σ b o,h:=E.h.set b y}:=by
 intro g _ hg h
 refine⟨hb g hg fun hd hs=>h (.inl ⟨b,x,hx,hd,hs⟩),?_,rfl⟩
 rintro(⟨id,z,hz,hd,hs⟩|⟨id,i,m,hA,BM⟩)
 ·have hs:DA E.σ b o id=some g:=hs;have hz:(E.h.set b y)[id]?=some z:=hz
  by_cases hid:id=b
  ·rw[hid,Ay] at hs
   rcases ho with ⟨e,ry⟩|ho
   ·exact h (.inl ⟨b,x,hx,ry,e▸hs⟩)
   ·have:=ho g hs;omega
  ·rw[Af hid] at hs
   rw[List.getElem?_set_ne (fun e=>hid e.symm)] at hz
   exact h (.inl ⟨id,z,hz,hd,hs⟩)
 ·refine h (.inr ⟨id,i,m,hA,fun e t cs h0=> ?_⟩)
  by_cases k9:b=id
  ·subst k9;rw[hx] at h0
   injection h0 with h0
   obtain⟨Gh,hy⟩:=hm t cs h0;refine BM e t Gh ?_;show(E.h.set b y)[b]?=_;rw[List.getElem?_set_self (List.getElem?_eq_some_iff.1 hx).1,hy]
  ·refine BM e t cs ?_;show(E.h.set b y)[id]?=_;rw[List.getElem?_set_ne k9];exact h0
theorem Qc {w':World}{b:Nat}{x y:Blk}(hx:E.h[b]?=some x)(hd:x≠.dead)(hb:∀g,g<E.w.heap.size->E.σ b≠some g->w'.heap[g]?=E.w.heap[g]?)(hm:∀t cs,x=.mem t cs->∃Gh,y=.mem t Gh):jj E {E with w:=w',h:=E.h.set b y}:=by
 have:=PZ (y:=y) (w':=w') (o:=E.σ b) hx (fun g hg h=>hb g hg (h hd)) (.inl ⟨rfl,hd⟩) hm
 rwa [eJ] at this
theorem YG (hI:∀w w',I w->Below B0 w w'->I w')(H:Good G I B0 E){w':World}{b g:Nat}{cs ds:List AV}{c d:Array Value}{t:TypeId}{fr:Nat×Nat}
  (hb:E.h[b]?=some (.mem t cs)) (hg:E.σ b=some g) (hold:E.w.heap[g]?=some (.cells c t fr)) (hw:E.w.grownBy w' (some g)) (CD:w'.heap.size=E.w.heap.size)
  (D9:w'.heap[g]?=some (.cells d t fr)) (hcd:d.size=c.size) (hlen:ds.length=cs.length)
  (Hw:∀(j:Nat) x,ds[j]?=some x->∃v,d[j]?=some v/\v.oneCell'=true/\Rel E x v):
  Step G I B0 E {E with w:=w',h:=E.h.set b (.mem t ds)}:=by
 have hB:E.B<=g:=(H.lt hb (by simp) hg).1
 have HD:b<E.h.length:=(List.getElem?_eq_some_iff.1 hb).1
 have zE:∀j,w'.frozen? ⟨g,j,none⟩=E.w.frozen? ⟨g,j,none⟩:=fun j=>by simp[World.frozen?,D9,hold]
 have BM:∀(id:Nat) x g',id≠b->E.h[id]?=some x->x≠.dead->E.σ id=some g'->g'≠g:=by
  rintro id x g' hid hx hd hs rfl
  exact hid (H.inj id b x _ g' hx hb hd (by simp) hs hg)
 have Cc:∀(e:TypeId) (size n:Nat) v xs,v.ownBlock≠some g->E.w.ownsRow E.B e size v n xs->w'.ownsRow E.B e size v n xs:=fun e size n v xs hv h=>h.kept hw (.inr hv)
 have L:Le E {E with w:=w',h:=E.h.set b (.mem t ds)}:=by
  refine⟨rfl,fun a v h s=> ?_,by simp,fun id t' Gh h=> ?_,fun id n sz e hi h=> ?_,fun id s p h=> ?_,fun id n t1 H6 kc ke ksz rows hi h=> ?_,fun r es clock h=> ?_⟩
  rotate_left 4
  ·rcases AG h with ⟨rfl,h1,_⟩|⟨hid,h1⟩
   ·cases h1
   ·exact⟨n,rows,h1,Nat.le_refl _,fun _=>⟨rfl,rfl,fun k m hk hz=>Jf.of (fun BC=>hw.block k BC (fun e=>BM id _ k hid h1 (by simp) hk (by injection e))) hz,Cu fun _ _ _ h=>h.kept rfl rfl (fun q y hq BC=>hw.block q BC (fun e=>Hd H hb (by simp) hg q y hq (by injection e)))⟩⟩
  ·exact(hw.block r (Array.getElem?_eq_some_iff.1 h).1 (fun e=>by injection e with e;subst e;rw[hold] at h;cases h)).trans h
  ·have jq:a.block≠g:=by
    intro e
    rcases s.2 b _ hb (e▸hg) with h1|⟨_,_,_,h1,_⟩<;>cases h1
   refine⟨hw.cell h (fun e=>jq (by injection e)),s.1,fun id x hx hs=> ?_⟩
   rcases AG hx with ⟨rfl,rfl,_⟩|⟨_,KW⟩
   ·have Jh:E.σ id=some a.block:=hs;rw[hg] at Jh
    injection Jh with Jh
    exact absurd Jh.symm jq
   ·exact s.2 id x KW hs
  ·by_cases hid:id=b
   ·subst hid;rw[hb] at h
    injection h with h
    injection h with h0 h
    subst h;subst h0
    exact⟨ds,by simp[HD],hlen,rfl⟩
   ·exact⟨Gh,by rw[List.getElem?_set_ne (fun e=>hid e.symm)];exact h,rfl,rfl⟩
  ·rcases AG h with ⟨rfl,h1,_⟩|⟨hid,h1⟩
   ·cases h1
   ·refine⟨n,h1,Nat.le_refl _,fun _=>⟨rfl,fun v xs hv Ar=>Cc e sz n v xs (fun he=> ?_) hv⟩⟩
    rw[he] at Ar
    exact BM id _ g hid h1 (by simp) Ar.symm rfl
  ·have hid:id≠b:=by rintro rfl;rw[hb] at h;cases h
   exact⟨p,by rw[List.getElem?_set_ne (fun e=>hid e.symm)];exact h,rfl⟩
 refine⟨L,⟨fun id y hy=> ?_,fun i j x y g' hi hj hx hy D8 Fo=> ?_,fun k gs hk=>At.mono L _ _ (H.Fc k gs hk),H.U,VR H (Nat.le_of_eq CD.symm) hb (by simp),?_,H.B0,hI _ _ H.I ?_⟩,rfl,?_,Qc hb (by simp) (fun q hq hs=>hw.block q hq (fun e=>hs (hg.trans e.symm))) (fun t' Gh h=>⟨ds,by injection h with h1 _;rw[h1]⟩)⟩
 ·rcases AG hy with ⟨rfl,rfl,_⟩|⟨hid,Fq⟩
  ·have h:=H.Ld id _ hb;obtain⟨g',c',Mw,h1,h2,h3,h4,h5,h6⟩:=h;rw[hg] at h1
   injection h1 with h1
   subst h1;rw[hold] at h3
   injection h3 with h3
   injection h3 with h3 h3' xx
   subst h3;subst xx
   refine⟨g,d,fr,hg,h2,D9,by rw[hlen,hcd];exact h4,fun j hj=>(zE j).trans (h5 j (by rw[<-hlen];exact hj)),fun j z hz=> ?_⟩
   obtain⟨v,k1,k2,k3⟩:=Hw j z hz;exact⟨v,k1,k2,Rel.mono L _ _ k3⟩
  ·have h:=H.Ld id y Fq
   cases y with
   |mem t' es=>
    obtain⟨g',c',Mw,h1,h2,h3,h4,h5,h6⟩:=h
    have Ph:=BM id _ g' hid Fq (by simp) h1
    have GH:w'.heap[g']?=E.w.heap[g']? :=hw.block g' (Array.getElem?_eq_some_iff.1 h3).1 (fun e=>Ph (by injection e))
    refine⟨g',c',Mw,h1,h2,GH.trans h3,h4,fun j hj=>(World.frozen?_of_block (a:=⟨g',j,none⟩) GH).trans (h5 j hj),fun j z hz=> ?_⟩
    obtain⟨v,k1,k2,k3⟩:=h6 j z hz;exact⟨v,k1,k2,Rel.mono L _ _ k3⟩
   |grow n sz e=>
    intro g' CY;show E.B<=g'/\g'<w'.heap.size;rw[CD];exact h g' CY
   |dead=>trivial
   |iter s p=>
    obtain⟨g',h1,h2,h3⟩:=h
    have Ph:=BM id _ g' hid Fq (by simp) h1
    exact⟨g',h1,h2,(hw.block g' (Array.getElem?_eq_some_iff.1 h3).1 (fun e=>Ph (by injection e))).trans h3⟩
   |Bi n t1 H6 kc ke ksz rows=>exact Ea.Bi L rfl rfl (fun k hk BC=>hw.block k BC (fun e=>BM id _ k hid Fq (by simp) hk (by injection e))) (fun _ _ _ h=>h.kept rfl rfl (fun q y hq BC=>hw.block q BC (fun e=>Hd H hb (by simp) hg q y hq (by injection e)))) h
 ·rcases AG hi with ⟨rfl,rfl,_⟩|⟨Nk,Ja⟩<;>rcases AG hj with ⟨rfl,rfl,_⟩|⟨dJ,JO⟩
  ·rfl
  ·exact H.inj _ _ _ _ g' hb JO (by simp) hy D8 Fo
  ·exact H.inj _ _ _ _ g' Ja hb hx (by simp) D8 Fo
  ·exact H.inj _ _ _ _ g' Ja JO hx hy D8 Fo
 ·show E.B<=w'.heap.size;rw[CD];exact H.size
 ·exact⟨hw.os,hw.tape,hw.output,hw.size,fun k hk=>hw.block k (by have:=H.size;have:=H.B0;omega) (fun e=>by injection e with e;have:=H.B0;omega)⟩
 ·exact⟨hw.os,hw.tape,hw.output,hw.size,fun k hk=>hw.block k (by have:=H.size;show k<E.w.heap.size;omega) (fun e=>by injection e with e;omega)⟩
theorem cB (hI:∀w w',I w->Below B0 w w'->I w')(H:Good G I B0 E){w':World}{b g p p':Nat}{s:List UInt8}
  (hb:E.h[b]?=some (.iter s p)) (hg:E.σ b=some g) (hold:E.w.heap[g]?=some (.stringIter ⟨s.toArray⟩ p)) (hw:E.w.grownBy w' (some g)) (CD:w'.heap.size=E.w.heap.size)
  (D9:w'.heap[g]?=some (.stringIter ⟨s.toArray⟩ p')):
  Step G I B0 E {E with w:=w',h:=E.h.set b (.iter s p')}:=by
 have hB:E.B<=g:=(H.lt hb (by simp) hg).1
 have HD:b<E.h.length:=(List.getElem?_eq_some_iff.1 hb).1
 have BM:∀(id:Nat) x g',id≠b->E.h[id]?=some x->x≠.dead->E.σ id=some g'->g'≠g:=by
  rintro id x g' hid hx hd hs rfl
  exact hid (H.inj id b x _ g' hx hb hd (by simp) hs hg)
 have L:Le E {E with w:=w',h:=E.h.set b (.iter s p')}:=by
  refine⟨rfl,fun a v h st=> ?_,by simp,fun id t' Gh h=> ?_,fun id n sz e hi h=> ?_,fun id s1 p1 h=> ?_,fun id n t1 H6 kc ke ksz rows hi h=> ?_,fun r es clock h=> ?_⟩
  rotate_left 4
  ·rcases AG h with ⟨rfl,h1,_⟩|⟨hid,h1⟩
   ·cases h1
   ·exact⟨n,rows,h1,Nat.le_refl _,fun _=>⟨rfl,rfl,fun k m hk hz=>Jf.of (fun BC=>hw.block k BC (fun e=>BM id _ k hid h1 (by simp) hk (by injection e))) hz,Cu fun _ _ _ h=>h.kept rfl rfl (fun q y hq BC=>hw.block q BC (fun e=>Hd H hb (by simp) hg q y hq (by injection e)))⟩⟩
  ·exact(hw.block r (Array.getElem?_eq_some_iff.1 h).1 (fun e=>by injection e with e;subst e;rw[hold] at h;cases h)).trans h
  ·have jq:a.block≠g:=by
    intro e
    rcases st.2 b _ hb (e▸hg) with h1|⟨_,_,_,h1,_⟩<;>cases h1
   refine⟨hw.cell h (fun e=>jq (by injection e)),st.1,fun id x hx hs=> ?_⟩
   rcases AG hx with ⟨rfl,rfl,_⟩|⟨_,KW⟩
   ·have Jh:E.σ id=some a.block:=hs;rw[hg] at Jh
    injection Jh with Jh
    exact absurd Jh.symm jq
   ·exact st.2 id x KW hs
  ·have hid:id≠b:=by rintro rfl;rw[hb] at h;cases h
   exact⟨Gh,by rw[List.getElem?_set_ne (fun e=>hid e.symm)];exact h,rfl,rfl⟩
  ·rcases AG h with ⟨rfl,h1,_⟩|⟨hid,h1⟩
   ·cases h1
   ·refine⟨n,h1,Nat.le_refl _,fun _=>⟨rfl,fun v xs hv Ar=>hv.kept hw (.inr fun he=> ?_)⟩⟩
    rw[he] at Ar
    exact BM id _ g hid h1 (by simp) Ar.symm rfl
  ·by_cases hid:id=b
   ·subst hid;rw[hb] at h
    injection h with h
    injection h with h0 h1
    subst h0;subst h1
    exact⟨p',by simp[HD],rfl⟩
   ·exact⟨p1,by rw[List.getElem?_set_ne (fun e=>hid e.symm)];exact h,rfl⟩
 refine⟨L,⟨fun id y hy=> ?_,fun i j x y g' hi hj hx hy D8 Fo=> ?_,fun k gs hk=>At.mono L _ _ (H.Fc k gs hk),H.U,VR H (Nat.le_of_eq CD.symm) hb (by simp),?_,H.B0,hI _ _ H.I ?_⟩,rfl,?_,Qc hb (by simp) (fun q hq hs=>hw.block q hq (fun e=>hs (hg.trans e.symm))) (fun _ _ h=>by cases h)⟩
 ·rcases AG hy with ⟨rfl,rfl,_⟩|⟨hid,Fq⟩
  ·exact⟨g,hg,hB,D9⟩
  ·have h:=H.Ld id y Fq
   cases y with
   |mem t' es=>
    obtain⟨g',c',Mw,h1,h2,h3,h4,h5,h6⟩:=h
    have Ph:=BM id _ g' hid Fq (by simp) h1
    have GH:w'.heap[g']?=E.w.heap[g']? :=hw.block g' (Array.getElem?_eq_some_iff.1 h3).1 (fun e=>Ph (by injection e))
    refine⟨g',c',Mw,h1,h2,GH.trans h3,h4,fun j hj=>(World.frozen?_of_block (a:=⟨g',j,none⟩) GH).trans (h5 j hj),fun j z hz=> ?_⟩
    obtain⟨v,k1,k2,k3⟩:=h6 j z hz;exact⟨v,k1,k2,Rel.mono L _ _ k3⟩
   |grow n sz e=>
    intro g' CY;show E.B<=g'/\g'<w'.heap.size;rw[CD];exact h g' CY
   |dead=>trivial
   |iter s1 p1=>
    obtain⟨g',h1,h2,h3⟩:=h
    have Ph:=BM id _ g' hid Fq (by simp) h1
    exact⟨g',h1,h2,(hw.block g' (Array.getElem?_eq_some_iff.1 h3).1 (fun e=>Ph (by injection e))).trans h3⟩
   |Bi n t1 H6 kc ke ksz rows=>exact Ea.Bi L rfl rfl (fun k hk BC=>hw.block k BC (fun e=>BM id _ k hid Fq (by simp) hk (by injection e))) (fun _ _ _ h=>h.kept rfl rfl (fun q y hq BC=>hw.block q BC (fun e=>Hd H hb (by simp) hg q y hq (by injection e)))) h
 ·rcases AG hi with ⟨rfl,rfl,_⟩|⟨Nk,Ja⟩<;>rcases AG hj with ⟨rfl,rfl,_⟩|⟨dJ,JO⟩
  ·rfl
  ·exact H.inj _ _ _ _ g' hb JO (by simp) hy D8 Fo
  ·exact H.inj _ _ _ _ g' Ja hb hx (by simp) D8 Fo
  ·exact H.inj _ _ _ _ g' Ja JO hx hy D8 Fo
 ·show E.B<=w'.heap.size;rw[CD];exact H.size
 ·exact⟨hw.os,hw.tape,hw.output,hw.size,fun k hk=>hw.block k (by have:=H.size;have:=H.B0;omega) (fun e=>by injection e with e;have:=H.B0;omega)⟩
 ·exact⟨hw.os,hw.tape,hw.output,hw.size,fun k hk=>hw.block k (by have:=H.size;show k<E.w.heap.size;omega) (fun e=>by injection e with e;omega)⟩
theorem step_append (hI:∀w w',I w->Below B0 w w'->I w')(H:Good G I B0 E){w':World}{id n m sz:Nat}{e:TypeId}{v v':Value}{xs news:List Value}
  (hb:E.h[id]?=some (.grow n sz e)) (Cc:E.w.ownsRow E.B e sz v n xs) (Ar:v.ownBlock=E.σ id)
  (Gr:w'.ownsRow E.B e sz v' (n+m) (xs++news)) (VV:w'.os=E.w.os) (TC:w'.tape=E.w.tape) (PH:w'.output=E.w.output)
  (Bt:(v'.ownBlock=v.ownBlock/\E.w.grownBy w' v.ownBlock/\w'.heap.size=E.w.heap.size/\(m=0->v'=v/\w'.heap=E.w.heap))\/(0<m/\v'.ownBlock=some E.w.heap.size/\E.w.grownBy w' none)):
  Step G I B0 E {E with w:=w',σ:=DA E.σ id v'.ownBlock,h:=E.h.set id (.grow (n+m) sz e)}:=by
 have MO:id<E.h.length:=(List.getElem?_eq_some_iff.1 hb).1
 have hg:E.w.grownBy w' v.ownBlock:=by
  rcases Bt with h|h
  ·exact h.2.1
  ·exact⟨h.2.2.os,h.2.2.tape,h.2.2.output,h.2.2.size,fun k hk _=>h.2.2.block k hk (by simp)⟩
 have CD:E.w.heap.size<=w'.heap.size:=hg.size;have zN:∀k,v.ownBlock=some k->E.B<=k/\k<E.w.heap.size:=Cc.lt
 have BM:∀(j:Nat) x g',j≠id->E.h[j]?=some x->x≠.dead->E.σ j=some g'->some g'≠v.ownBlock:=by
  intro j x g' hj hx hd hs he;rw[Ar] at he
  exact hj (H.inj j id x _ g' hx hb hd (by simp) hs he.symm)
 have hσ:∀{j:Nat},j≠id->DA E.σ id v'.ownBlock j=E.σ j:=fun h=>Af h
 have hnb:∀g,v'.ownBlock=some g->E.B<=g/\g<w'.heap.size:=Gr.lt
 have TH:∀g,v'.ownBlock=some g->v.ownBlock=some g\/g=E.w.heap.size:=by
  intro g CY
  rcases Bt with h|h
  ·exact .inl (h.1▸CY)
  ·rw[h.2.1] at CY
   injection CY with CY
   exact .inr CY.symm
 have BZ:∀q y,E.A q=some y->some q≠v.ownBlock:=by
  intro q y hq he;rw[Ar] at he
  exact Hd H hb (by simp) he.symm q y hq rfl
 have L:Le E {E with w:=w',σ:=DA E.σ id v'.ownBlock,h:=E.h.set id (.grow (n+m) sz e)}:=by
  refine⟨rfl,fun a u h s=> ?_,by simp,fun j t' Gh h=> ?_,fun j n' EB e' hj h=> ?_,fun j s p h=> ?_,fun j n1 t1 H6 kc ke ksz rows hj h=> ?_,fun r es clock h=> ?_⟩
  rotate_left 4
  ·rcases AG h with ⟨rfl,h1,_⟩|⟨IE,h1⟩
   ·cases h1
   ·exact⟨n1,rows,h1,Nat.le_refl _,fun _=>⟨rfl,hσ IE,fun k m hk hz=>Jf.of (fun BC=>hg.block k BC (BM j _ k IE h1 (by simp) hk)) hz,Cu fun _ _ _ h=>h.kept rfl rfl (fun q y hq BC=>hg.block q BC (BZ q y hq))⟩⟩
  ·refine(hg.block r (Array.getElem?_eq_some_iff.1 h).1 (fun he=> ?_)).trans h
   rcases Cc.2 with ⟨hv,_⟩|⟨g,cap,cur,hv,_,Ph,_⟩
   ·rw[hv] at he;cases he
   ·rw[hv] at he
    have he:r=g:=by injection he
    rw[<-he,h] at Ph;cases Ph
  ·have BC:=World.block_lt_of_cell? E.w a h
   refine⟨?_,s.1,fun j x hx hs=> ?_⟩
   ·by_cases Xr:some a.block=v.ownBlock
    ·rcases Bt with hc|hc
     ·rcases s.2 id _ hb (Ar.symm.trans Xr.symm) with h1|⟨n1,H6,e1,h1,PJ⟩
      ·cases h1
      injection h1 with h1 h2 h3
      subst h1;subst h2;subst h3
      have HT:a.spot=none:=by
       unfold World.cell? at h;split at h
       ·cases HT:a.spot with
        |none=>rfl
        |some _=>simp[HT] at h
       ·cases h
      obtain⟨ab,ao,zj⟩:=a;simp only at HT Xr PJ h;subst HT
      have IC:xs[ao]?=some u:=by
       have sV:ao<xs.length:=by rw[Cc.1];exact PJ
       have:=Cc.cells Xr.symm ao _ (List.getElem?_eq_getElem sV);rw[Addr.add_lit,Nat.zero_add] at this;rw[h] at this
       injection this with this
       rw[List.getElem?_eq_getElem sV,this]
      have:=Gr.cells (hc.1.trans Xr.symm) ao u (by rw[List.getElem?_append_left (by rw[Cc.1];exact PJ)];exact IC)
      rwa [Addr.add_lit,Nat.zero_add] at this
     ·exact hc.2.2.cell h (by simp)
    ·exact hg.cell h Xr
   ·rcases AG hx with ⟨rfl,rfl,_⟩|⟨IE,KW⟩
    ·have Jh:v'.ownBlock=some a.block:=by simpa[Ay] using hs
     rcases TH _ Jh with h1|h1
     ·rcases s.2 j _ hb (Ar.symm.trans h1) with h2|⟨n1,H6,e1,h2,PJ⟩
      ·cases h2
      injection h2 with h2 h3 h4
      subst h2;subst h3;subst h4;exact .inr ⟨n+m,sz,e,rfl,Nat.lt_of_lt_of_le PJ (Nat.mul_le_mul_right _ (Nat.le_add_right _ _))⟩
     ·omega
    ·exact s.2 j x KW (by simpa[hσ IE] using hs)
  ·have IE:j≠id:=by rintro rfl;rw[hb] at h;cases h
   exact⟨Gh,by rw[List.getElem?_set_ne (fun e=>IE e.symm)];exact h,rfl,hσ IE⟩
  ·rcases AG h with ⟨rfl,h1,_⟩|⟨IE,h1⟩
   ·injection h1 with h1 h2 h3
    subst h1;subst h2;subst h3
    refine⟨n,hb,Nat.le_add_right _ _,fun TG=> ?_⟩
    have hm:m=0:=by omega
    rcases Bt with hc|hc
    ·obtain⟨hv,hh⟩:=hc.2.2.2 hm
     refine⟨by show DA E.σ j v'.ownBlock j=_;rw[Ay,hv,Ar],fun u ys hu _=> ?_⟩
     subst hm;refine⟨hu.1,?_⟩
     rcases hu.2 with h2|⟨g,cap,cur,h2,h3,h4,h5⟩
     ·exact .inl h2
     ·exact .inr ⟨g,cap,cur,h2,h3,by show w'.heap[g]?=_;rw[hh];exact h4,h5⟩
    ·omega
   ·refine⟨n',h1,Nat.le_refl _,fun _=>⟨hσ IE,fun u ys hu SE=> ?_⟩⟩
    refine hu.kept hg ?_
    cases oI:u.ownBlock with
    |none=>exact .inl rfl
    |some g'=>
     refine .inr ?_;rw[oI] at SE
     exact BM j _ g' IE h1 (by simp) SE.symm
  ·have IE:j≠id:=by rintro rfl;rw[hb] at h;cases h
   exact⟨p,by rw[List.getElem?_set_ne (fun e=>IE e.symm)];exact h,hσ IE⟩
 refine⟨L,⟨fun j y hy=> ?_,fun i j x y g' hi hj hx hy D8 Fo=> ?_,fun k gs hk=>At.mono L _ _ (H.Fc k gs hk),H.U,Zy H CD hb (by simp) (by
  rcases Bt with h|h
  ·exact .inl (h.1.trans Ar)
  ·exact .inr fun g CY=>by rw[h.2.1] at CY;injection CY with CY;omega),?_,H.B0,hI _ _ H.I ?_⟩,rfl,?_,PZ hb (fun q hq hs=>hg.block q hq (fun e=>hs (by simp) (Ar.symm.trans e.symm))) (Bt.elim (fun h=>.inl ⟨h.1.trans Ar,by simp⟩) (fun h=>.inr fun g CY=>by rw[h.2.1] at CY;injection CY with CY;omega)) (fun _ _ h=>by cases h)⟩
 ·rcases AG hy with ⟨rfl,rfl,_⟩|⟨IE,Fq⟩
  ·intro g' CY
   exact hnb g' (by simpa[Ay] using CY)
  ·have h:=H.Ld j y Fq
   cases y with
   |mem t' es=>
    obtain⟨g',c',Mw,h1,h2,h3,h4,h5,h6⟩:=h
    have Ph:=BM j _ g' IE Fq (by simp) h1
    have GH:w'.heap[g']?=E.w.heap[g']? :=hg.block g' (Array.getElem?_eq_some_iff.1 h3).1 Ph
    refine⟨g',c',Mw,by show DA E.σ id _ j=_;rw[hσ IE];exact h1,h2,GH.trans h3,h4,fun k hk=>(World.frozen?_of_block (a:=⟨g',k,none⟩) GH).trans (h5 k hk),fun k z hz=> ?_⟩
    obtain⟨u,k1,k2,k3⟩:=h6 k z hz;exact⟨u,k1,k2,Rel.mono L _ _ k3⟩
   |grow n1 H6 e1=>
    intro g' CY
    have iR:E.σ j=some g':=by
     have:DA E.σ id v'.ownBlock j=some g':=CY
     rwa [hσ IE] at this
    exact⟨(h g' iR).1,Nat.lt_of_lt_of_le (h g' iR).2 CD⟩
   |dead=>trivial
   |iter s p=>
    obtain⟨g',h1,h2,h3⟩:=h
    exact⟨g',by show DA E.σ id _ j=_;rw[hσ IE];exact h1,h2,(hg.block g' (Array.getElem?_eq_some_iff.1 h3).1 (BM j _ g' IE Fq (by simp) h1)).trans h3⟩
   |Bi n1 t1 H6 kc ke ksz rows=>exact Ea.Bi L (hσ IE) rfl (fun k hk BC=>hg.block k BC (BM j _ k IE Fq (by simp) hk)) (fun _ _ _ h=>h.kept rfl rfl (fun q y hq BC=>hg.block q BC (BZ q y hq))) h
 ·have hs:∀{k:Nat},k≠id->DA E.σ id v'.ownBlock k=some g'->E.σ k=some g':=fun hk h=>by rwa [hσ hk] at h
  have DS:∀{k:Nat} {z:Blk},k≠id->E.h[k]?=some z->z≠.dead->DA E.σ id v'.ownBlock k=some g'->DA E.σ id v'.ownBlock id=some g'->k=id:=by
   intro k z hk hz gz h1 h2;have Ll:=hs hk h1;rw[Ay] at h2
   rcases TH _ h2 with h3|h3
   ·exact absurd h3.symm (BM k z g' hk hz gz Ll)
   ·have:=(H.lt hz gz Ll).2;omega
  rcases AG hi with ⟨rfl,rfl,_⟩|⟨Nk,Ja⟩<;>rcases AG hj with ⟨rfl,rfl,_⟩|⟨dJ,JO⟩
  ·rfl
  ·exact(DS dJ JO hy Fo D8).symm
  ·exact DS Nk Ja hx D8 Fo
  ·exact H.inj _ _ _ _ g' Ja JO hx hy (hs Nk D8) (hs dJ Fo)
 ·show E.B<=w'.heap.size;have:=H.size;omega
 ·exact⟨VV,TC,PH,CD,fun k hk=>hg.block k (by have:=H.size;have:=H.B0;omega) (fun he=>by have:=(zN k he.symm).1;have:=H.B0;omega)⟩
 ·exact⟨VV,TC,PH,CD,fun k hk=>hg.block k (by have:=H.size;show k<E.w.heap.size;omega) (fun he=>by have:=(zN k he.symm).1;omega)⟩
end
end Go.Ai
