/-
  Stores into memory of the call's own, and appends.
-/
import Derived.Test.YtopjpnhgnopbiaaGreatDoorLAiApp
set_option linter.unusedVariables false
set_option linter.unusedSimpArgs false
set_option linter.unnecessarySimpa false
namespace Go.Ai
open Go.RowKit
section
variable {G:Nat->Option (List AV)}{I:World->Prop}{B0:Nat}{E:Env}
theorem AH {h:Hp}{b:Nat}{x y:Blk}{id:Nat}(hy:(h.set b x)[id]?=some y):(id=b/\y=x/\b<h.length)\/(id≠b/\h[id]?=some y):=by
 rw[List.getElem?_set] at hy
 by_cases hb:b=id
 ·subst hb;rw[if_pos rfl] at hy;split at hy
  ·injection hy with hy;exact .inl ⟨rfl,hy.symm,by assumption⟩
  ·cases hy
 ·rw[if_neg hb] at hy
  exact .inr ⟨fun e=>hb e.symm,hy⟩
theorem Nj {w':World}{b:Nat}{x y:Blk}{o:Option Nat}(hx:E.h[b]?=some x)(hb:∀g,g<E.w.heap.size->(x≠.dead->E.σ b≠some g)->w'.heap[g]?=E.w.heap[g]?)
  (ho:(o=E.σ b/\x≠.dead)\/∀g,o=some g->E.w.heap.size<=g) (hm:∀t cs,x=.mem t cs->∃Fw,y=.mem t Fw):fU E {E with w:=w',σ:=Ct E.σ b o,h:=E.h.set b y}:=by
 intro g _ hg h
 refine⟨hb g hg fun hd hs=>h (.inl ⟨b,x,hx,hd,hs⟩),?_,rfl⟩
 rintro(⟨id,z,hz,hd,hs⟩|⟨id,i,m,hA,BU⟩)
 ·have hs:Ct E.σ b o id=some g:=hs;have hz:(E.h.set b y)[id]?=some z:=hz
  by_cases hid:id=b
  ·rw[hid,Aw] at hs
   rcases ho with ⟨e,nw⟩|ho
   ·exact h (.inl ⟨b,x,hx,nw,e▸hs⟩)
   ·have:=ho g hs;omega
  ·rw[Ah hid] at hs
   rw[List.getElem?_set_ne (fun e=>hid e.symm)] at hz
   exact h (.inl ⟨id,z,hz,hd,hs⟩)
 ·refine h (.inr ⟨id,i,m,hA,fun e t cs h0=> ?_⟩)
  by_cases iA:b=id
  ·subst iA;rw[hx] at h0
   injection h0 with h0
   obtain⟨Fw,hy⟩:=hm t cs h0;refine BU e t Fw ?_;show(E.h.set b y)[b]?=_;rw[List.getElem?_set_self (List.getElem?_eq_some_iff.1 hx).1,hy]
  ·refine BU e t cs ?_;show(E.h.set b y)[id]?=_;rw[List.getElem?_set_ne iA];exact h0
theorem Oc {w':World}{b:Nat}{x y:Blk}(hx:E.h[b]?=some x)(hd:x≠.dead)(hb:∀g,g<E.w.heap.size->E.σ b≠some g->w'.heap[g]?=E.w.heap[g]?)(hm:∀t cs,x=.mem t cs->∃Fw,y=.mem t Fw):fU E {E with w:=w',h:=E.h.set b y}:=by
 have:=Nj (y:=y) (w':=w') (o:=E.σ b) hx (fun g hg h=>hb g hg (h hd)) (.inl ⟨rfl,hd⟩) hm
 rwa [aO] at this
theorem Vn (hI:∀w w',I w->Below B0 w w'->I w')(H:Good G I B0 E){w':World}{b g:Nat}{cs ds:List AV}{c d:Array Value}{t:TypeId}{fr:Nat×Nat}
  (hb:E.h[b]?=some (.mem t cs)) (hg:E.σ b=some g) (hold:E.w.heap[g]?=some (.cells c t fr)) (hw:E.w.grownBy w' (some g)) (CC:w'.heap.size=E.w.heap.size)
  (Df:w'.heap[g]?=some (.cells d t fr)) (xr:d.size=c.size) (hlen:ds.length=cs.length)
  (Gv:∀(j:Nat) x,ds[j]?=some x->∃v,d[j]?=some v/\v.oneCell'=true/\Rel E x v):
  Step G I B0 E {E with w:=w',h:=E.h.set b (.mem t ds)}:=by
 have hB:E.B<=g:=(H.lt hb (by simp) hg).1
 have HE:b<E.h.length:=(List.getElem?_eq_some_iff.1 hb).1
 have vU:∀j,w'.frozen? ⟨g,j,none⟩=E.w.frozen? ⟨g,j,none⟩:=fun j=>by simp[World.frozen?,Df,hold]
 have BU:∀(id:Nat) x g',id≠b->E.h[id]?=some x->x≠.dead->E.σ id=some g'->g'≠g:=by
  rintro id x g' hid hx hd hs rfl
  exact hid (H.inj id b x _ g' hx hb hd (by simp) hs hg)
 have Ck:∀(e:TypeId) (size n:Nat) v xs,v.ownBlock≠some g->E.w.ownsRow E.B e size v n xs->w'.ownsRow E.B e size v n xs:=fun e size n v xs hv h=>h.kept hw (.inr hv)
 have L:Le E {E with w:=w',h:=E.h.set b (.mem t ds)}:=by
  refine⟨rfl,fun a v h s=> ?_,by simp,fun id t' Fw h=> ?_,fun id n sz e hi h=> ?_,fun id s p h=> ?_,fun id n t1 Gz kc ke ksz rows hi h=> ?_,fun r es clock h=> ?_⟩
  rotate_left 4
  ·rcases AH h with ⟨rfl,h1,_⟩|⟨hid,h1⟩
   ·cases h1
   ·exact⟨n,rows,h1,Nat.le_refl _,fun _=>⟨rfl,rfl,fun k m hk hz=>IW.of (fun Au=>hw.block k Au (fun e=>BU id _ k hid h1 (by simp) hk (by injection e))) hz,Cl fun _ _ _ h=>h.kept rfl rfl (fun q y hq Au=>hw.block q Au (fun e=>Gq H hb (by simp) hg q y hq (by injection e)))⟩⟩
  ·exact(hw.block r (Array.getElem?_eq_some_iff.1 h).1 (fun e=>by injection e with e;subst e;rw[hold] at h;cases h)).trans h
  ·have fh:a.block≠g:=by
    intro e
    rcases s.2 b _ hb (e▸hg) with h1|⟨_,_,_,h1,_⟩<;>cases h1
   refine⟨hw.cell h (fun e=>fh (by injection e)),s.1,fun id x hx hs=> ?_⟩
   rcases AH hx with ⟨rfl,rfl,_⟩|⟨_,IS⟩
   ·have FE:E.σ id=some a.block:=hs;rw[hg] at FE
    injection FE with FE
    exact absurd FE.symm fh
   ·exact s.2 id x IS hs
  ·by_cases hid:id=b
   ·subst hid;rw[hb] at h
    injection h with h
    injection h with h0 h
    subst h;subst h0
    exact⟨ds,by simp[HE],hlen,rfl⟩
   ·exact⟨Fw,by rw[List.getElem?_set_ne (fun e=>hid e.symm)];exact h,rfl,rfl⟩
  ·rcases AH h with ⟨rfl,h1,_⟩|⟨hid,h1⟩
   ·cases h1
   ·refine⟨n,h1,Nat.le_refl _,fun _=>⟨rfl,fun v xs hv Am=>Ck e sz n v xs (fun he=> ?_) hv⟩⟩
    rw[he] at Am
    exact BU id _ g hid h1 (by simp) Am.symm rfl
  ·have hid:id≠b:=by rintro rfl;rw[hb] at h;cases h
   exact⟨p,by rw[List.getElem?_set_ne (fun e=>hid e.symm)];exact h,rfl⟩
 refine⟨L,⟨fun id y hy=> ?_,fun i j x y g' hi hj hx hy De E8=> ?_,fun k gs hk=>At.mono L _ _ (H.Es k gs hk),H.U,S7 H (Nat.le_of_eq CC.symm) hb (by simp),?_,H.B0,hI _ _ H.I ?_⟩,rfl,?_,Oc hb (by simp) (fun q hq hs=>hw.block q hq (fun e=>hs (hg.trans e.symm))) (fun t' Fw h=>⟨ds,by injection h with h1 _;rw[h1]⟩)⟩
 ·rcases AH hy with ⟨rfl,rfl,_⟩|⟨hid,FA⟩
  ·have h:=H.KS id _ hb;obtain⟨g',c',LZ,h1,h2,h3,h4,h5,h6⟩:=h;rw[hg] at h1
   injection h1 with h1
   subst h1;rw[hold] at h3
   injection h3 with h3
   injection h3 with h3 zQ uK
   subst h3;subst uK
   refine⟨g,d,fr,hg,h2,Df,by rw[hlen,xr];exact h4,fun j hj=>(vU j).trans (h5 j (by rw[<-hlen];exact hj)),fun j z hz=> ?_⟩
   obtain⟨v,k1,k2,k3⟩:=Gv j z hz;exact⟨v,k1,k2,Rel.mono L _ _ k3⟩
  ·have h:=H.KS id y FA
   cases y with
   |mem t' es=>
    obtain⟨g',c',LZ,h1,h2,h3,h4,h5,h6⟩:=h
    have Ns:=BU id _ g' hid FA (by simp) h1
    have FR:w'.heap[g']?=E.w.heap[g']? :=hw.block g' (Array.getElem?_eq_some_iff.1 h3).1 (fun e=>Ns (by injection e))
    refine⟨g',c',LZ,h1,h2,FR.trans h3,h4,fun j hj=>(World.frozen?_of_block (a:=⟨g',j,none⟩) FR).trans (h5 j hj),fun j z hz=> ?_⟩
    obtain⟨v,k1,k2,k3⟩:=h6 j z hz;exact⟨v,k1,k2,Rel.mono L _ _ k3⟩
   |grow n sz e=>
    intro g' CR;show E.B<=g'/\g'<w'.heap.size;rw[CC];exact h g' CR
   |dead=>trivial
   |iter s p=>
    obtain⟨g',h1,h2,h3⟩:=h
    have Ns:=BU id _ g' hid FA (by simp) h1
    exact⟨g',h1,h2,(hw.block g' (Array.getElem?_eq_some_iff.1 h3).1 (fun e=>Ns (by injection e))).trans h3⟩
   |stk n t1 Gz kc ke ksz rows=>exact EB.stk L rfl rfl (fun k hk Au=>hw.block k Au (fun e=>BU id _ k hid FA (by simp) hk (by injection e))) (fun _ _ _ h=>h.kept rfl rfl (fun q y hq Au=>hw.block q Au (fun e=>Gq H hb (by simp) hg q y hq (by injection e)))) h
 ·rcases AH hi with ⟨rfl,rfl,_⟩|⟨ML,IT⟩<;>rcases AH hj with ⟨rfl,rfl,_⟩|⟨ZZ,IH⟩
  ·rfl
  ·exact H.inj _ _ _ _ g' hb IH (by simp) hy De E8
  ·exact H.inj _ _ _ _ g' IT hb hx (by simp) De E8
  ·exact H.inj _ _ _ _ g' IT IH hx hy De E8
 ·show E.B<=w'.heap.size;rw[CC];exact H.size
 ·exact⟨hw.os,hw.tape,hw.output,hw.size,fun k hk=>hw.block k (by have:=H.size;have:=H.B0;omega) (fun e=>by injection e with e;have:=H.B0;omega)⟩
 ·exact⟨hw.os,hw.tape,hw.output,hw.size,fun k hk=>hw.block k (by have:=H.size;show k<E.w.heap.size;omega) (fun e=>by injection e with e;omega)⟩
theorem Yl (hI:∀w w',I w->Below B0 w w'->I w')(H:Good G I B0 E){w':World}{b g p p':Nat}{s:List UInt8}
  (hb:E.h[b]?=some (.iter s p)) (hg:E.σ b=some g) (hold:E.w.heap[g]?=some (.stringIter ⟨s.toArray⟩ p)) (hw:E.w.grownBy w' (some g)) (CC:w'.heap.size=E.w.heap.size)
  (Df:w'.heap[g]?=some (.stringIter ⟨s.toArray⟩ p')):
  Step G I B0 E {E with w:=w',h:=E.h.set b (.iter s p')}:=by
 have hB:E.B<=g:=(H.lt hb (by simp) hg).1
 have HE:b<E.h.length:=(List.getElem?_eq_some_iff.1 hb).1
 have BU:∀(id:Nat) x g',id≠b->E.h[id]?=some x->x≠.dead->E.σ id=some g'->g'≠g:=by
  rintro id x g' hid hx hd hs rfl
  exact hid (H.inj id b x _ g' hx hb hd (by simp) hs hg)
 have L:Le E {E with w:=w',h:=E.h.set b (.iter s p')}:=by
  refine⟨rfl,fun a v h st=> ?_,by simp,fun id t' Fw h=> ?_,fun id n sz e hi h=> ?_,fun id s1 p1 h=> ?_,fun id n t1 Gz kc ke ksz rows hi h=> ?_,fun r es clock h=> ?_⟩
  rotate_left 4
  ·rcases AH h with ⟨rfl,h1,_⟩|⟨hid,h1⟩
   ·cases h1
   ·exact⟨n,rows,h1,Nat.le_refl _,fun _=>⟨rfl,rfl,fun k m hk hz=>IW.of (fun Au=>hw.block k Au (fun e=>BU id _ k hid h1 (by simp) hk (by injection e))) hz,Cl fun _ _ _ h=>h.kept rfl rfl (fun q y hq Au=>hw.block q Au (fun e=>Gq H hb (by simp) hg q y hq (by injection e)))⟩⟩
  ·exact(hw.block r (Array.getElem?_eq_some_iff.1 h).1 (fun e=>by injection e with e;subst e;rw[hold] at h;cases h)).trans h
  ·have fh:a.block≠g:=by
    intro e
    rcases st.2 b _ hb (e▸hg) with h1|⟨_,_,_,h1,_⟩<;>cases h1
   refine⟨hw.cell h (fun e=>fh (by injection e)),st.1,fun id x hx hs=> ?_⟩
   rcases AH hx with ⟨rfl,rfl,_⟩|⟨_,IS⟩
   ·have FE:E.σ id=some a.block:=hs;rw[hg] at FE
    injection FE with FE
    exact absurd FE.symm fh
   ·exact st.2 id x IS hs
  ·have hid:id≠b:=by rintro rfl;rw[hb] at h;cases h
   exact⟨Fw,by rw[List.getElem?_set_ne (fun e=>hid e.symm)];exact h,rfl,rfl⟩
  ·rcases AH h with ⟨rfl,h1,_⟩|⟨hid,h1⟩
   ·cases h1
   ·refine⟨n,h1,Nat.le_refl _,fun _=>⟨rfl,fun v xs hv Am=>hv.kept hw (.inr fun he=> ?_)⟩⟩
    rw[he] at Am
    exact BU id _ g hid h1 (by simp) Am.symm rfl
  ·by_cases hid:id=b
   ·subst hid;rw[hb] at h
    injection h with h
    injection h with h0 h1
    subst h0;subst h1
    exact⟨p',by simp[HE],rfl⟩
   ·exact⟨p1,by rw[List.getElem?_set_ne (fun e=>hid e.symm)];exact h,rfl⟩
 refine⟨L,⟨fun id y hy=> ?_,fun i j x y g' hi hj hx hy De E8=> ?_,fun k gs hk=>At.mono L _ _ (H.Es k gs hk),H.U,S7 H (Nat.le_of_eq CC.symm) hb (by simp),?_,H.B0,hI _ _ H.I ?_⟩,rfl,?_,Oc hb (by simp) (fun q hq hs=>hw.block q hq (fun e=>hs (hg.trans e.symm))) (fun _ _ h=>by cases h)⟩
 ·rcases AH hy with ⟨rfl,rfl,_⟩|⟨hid,FA⟩
  ·exact⟨g,hg,hB,Df⟩
  ·have h:=H.KS id y FA
   cases y with
   |mem t' es=>
    obtain⟨g',c',LZ,h1,h2,h3,h4,h5,h6⟩:=h
    have Ns:=BU id _ g' hid FA (by simp) h1
    have FR:w'.heap[g']?=E.w.heap[g']? :=hw.block g' (Array.getElem?_eq_some_iff.1 h3).1 (fun e=>Ns (by injection e))
    refine⟨g',c',LZ,h1,h2,FR.trans h3,h4,fun j hj=>(World.frozen?_of_block (a:=⟨g',j,none⟩) FR).trans (h5 j hj),fun j z hz=> ?_⟩
    obtain⟨v,k1,k2,k3⟩:=h6 j z hz;exact⟨v,k1,k2,Rel.mono L _ _ k3⟩
   |grow n sz e=>
    intro g' CR;show E.B<=g'/\g'<w'.heap.size;rw[CC];exact h g' CR
   |dead=>trivial
   |iter s1 p1=>
    obtain⟨g',h1,h2,h3⟩:=h
    have Ns:=BU id _ g' hid FA (by simp) h1
    exact⟨g',h1,h2,(hw.block g' (Array.getElem?_eq_some_iff.1 h3).1 (fun e=>Ns (by injection e))).trans h3⟩
   |stk n t1 Gz kc ke ksz rows=>exact EB.stk L rfl rfl (fun k hk Au=>hw.block k Au (fun e=>BU id _ k hid FA (by simp) hk (by injection e))) (fun _ _ _ h=>h.kept rfl rfl (fun q y hq Au=>hw.block q Au (fun e=>Gq H hb (by simp) hg q y hq (by injection e)))) h
 ·rcases AH hi with ⟨rfl,rfl,_⟩|⟨ML,IT⟩<;>rcases AH hj with ⟨rfl,rfl,_⟩|⟨ZZ,IH⟩
  ·rfl
  ·exact H.inj _ _ _ _ g' hb IH (by simp) hy De E8
  ·exact H.inj _ _ _ _ g' IT hb hx (by simp) De E8
  ·exact H.inj _ _ _ _ g' IT IH hx hy De E8
 ·show E.B<=w'.heap.size;rw[CC];exact H.size
 ·exact⟨hw.os,hw.tape,hw.output,hw.size,fun k hk=>hw.block k (by have:=H.size;have:=H.B0;omega) (fun e=>by injection e with e;have:=H.B0;omega)⟩
 ·exact⟨hw.os,hw.tape,hw.output,hw.size,fun k hk=>hw.block k (by have:=H.size;show k<E.w.heap.size;omega) (fun e=>by injection e with e;omega)⟩
theorem step_append (hI:∀w w',I w->Below B0 w w'->I w')(H:Good G I B0 E){w':World}{id n m sz:Nat}{e:TypeId}{v v':Value}{xs news:List Value}
  (hb:E.h[id]?=some (.grow n sz e)) (Ck:E.w.ownsRow E.B e sz v n xs) (Am:v.ownBlock=E.σ id)
  (Fy:w'.ownsRow E.B e sz v' (n+m) (xs++news)) (TC:w'.os=E.w.os) (Qu:w'.tape=E.w.tape) (NV:w'.output=E.w.output)
  (Br:(v'.ownBlock=v.ownBlock/\E.w.grownBy w' v.ownBlock/\w'.heap.size=E.w.heap.size/\(m=0->v'=v/\w'.heap=E.w.heap))\/(0<m/\v'.ownBlock=some E.w.heap.size/\E.w.grownBy w' none)):
  Step G I B0 E {E with w:=w',σ:=Ct E.σ id v'.ownBlock,h:=E.h.set id (.grow (n+m) sz e)}:=by
 have K3:id<E.h.length:=(List.getElem?_eq_some_iff.1 hb).1
 have hg:E.w.grownBy w' v.ownBlock:=by
  rcases Br with h|h
  ·exact h.2.1
  ·exact⟨h.2.2.os,h.2.2.tape,h.2.2.output,h.2.2.size,fun k hk _=>h.2.2.block k hk (by simp)⟩
 have CC:E.w.heap.size<=w'.heap.size:=hg.size;have vb:∀k,v.ownBlock=some k->E.B<=k/\k<E.w.heap.size:=Ck.lt
 have BU:∀(j:Nat) x g',j≠id->E.h[j]?=some x->x≠.dead->E.σ j=some g'->some g'≠v.ownBlock:=by
  intro j x g' hj hx hd hs he;rw[Am] at he
  exact hj (H.inj j id x _ g' hx hb hd (by simp) hs he.symm)
 have hσ:∀{j:Nat},j≠id->Ct E.σ id v'.ownBlock j=E.σ j:=fun h=>Ah h
 have xI:∀g,v'.ownBlock=some g->E.B<=g/\g<w'.heap.size:=Fy.lt
 have Qx:∀g,v'.ownBlock=some g->v.ownBlock=some g\/g=E.w.heap.size:=by
  intro g CR
  rcases Br with h|h
  ·exact .inl (h.1▸CR)
  ·rw[h.2.1] at CR
   injection CR with CR
   exact .inr CR.symm
 have BP:∀q y,E.A q=some y->some q≠v.ownBlock:=by
  intro q y hq he;rw[Am] at he
  exact Gq H hb (by simp) he.symm q y hq rfl
 have L:Le E {E with w:=w',σ:=Ct E.σ id v'.ownBlock,h:=E.h.set id (.grow (n+m) sz e)}:=by
  refine⟨rfl,fun a u h s=> ?_,by simp,fun j t' Fw h=> ?_,fun j n' Dg e' hj h=> ?_,fun j s p h=> ?_,fun j n1 t1 Gz kc ke ksz rows hj h=> ?_,fun r es clock h=> ?_⟩
  rotate_left 4
  ·rcases AH h with ⟨rfl,h1,_⟩|⟨HD,h1⟩
   ·cases h1
   ·exact⟨n1,rows,h1,Nat.le_refl _,fun _=>⟨rfl,hσ HD,fun k m hk hz=>IW.of (fun Au=>hg.block k Au (BU j _ k HD h1 (by simp) hk)) hz,Cl fun _ _ _ h=>h.kept rfl rfl (fun q y hq Au=>hg.block q Au (BP q y hq))⟩⟩
  ·refine(hg.block r (Array.getElem?_eq_some_iff.1 h).1 (fun he=> ?_)).trans h
   rcases Ck.2 with ⟨hv,_⟩|⟨g,cap,cur,hv,_,Ns,_⟩
   ·rw[hv] at he;cases he
   ·rw[hv] at he
    have he:r=g:=by injection he
    rw[<-he,h] at Ns;cases Ns
  ·have Au:=World.block_lt_of_cell? E.w a h
   refine⟨?_,s.1,fun j x hx hs=> ?_⟩
   ·by_cases Q6:some a.block=v.ownBlock
    ·rcases Br with hc|hc
     ·rcases s.2 id _ hb (Am.symm.trans Q6.symm) with h1|⟨n1,Gz,e1,h1,NX⟩
      ·cases h1
      injection h1 with h1 h2 h3
      subst h1;subst h2;subst h3
      have D9:a.spot=none:=by
       unfold World.cell? at h;split at h
       ·cases D9:a.spot with
        |none=>rfl
        |some _=>simp[D9] at h
       ·cases h
      obtain⟨ab,ao,vv⟩:=a;simp only at D9 Q6 NX h;subst D9
      have HB:xs[ao]?=some u:=by
       have oK:ao<xs.length:=by rw[Ck.1];exact NX
       have:=Ck.cells Q6.symm ao _ (List.getElem?_eq_getElem oK);rw[Addr.add_lit,Nat.zero_add] at this;rw[h] at this
       injection this with this
       rw[List.getElem?_eq_getElem oK,this]
      have:=Fy.cells (hc.1.trans Q6.symm) ao u (by rw[List.getElem?_append_left (by rw[Ck.1];exact NX)];exact HB)
      rwa [Addr.add_lit,Nat.zero_add] at this
     ·exact hc.2.2.cell h (by simp)
    ·exact hg.cell h Q6
   ·rcases AH hx with ⟨rfl,rfl,_⟩|⟨HD,IS⟩
    ·have FE:v'.ownBlock=some a.block:=by simpa[Aw] using hs
     rcases Qx _ FE with h1|h1
     ·rcases s.2 j _ hb (Am.symm.trans h1) with h2|⟨n1,Gz,e1,h2,NX⟩
      ·cases h2
      injection h2 with h2 h3 h4
      subst h2;subst h3;subst h4;exact .inr ⟨n+m,sz,e,rfl,Nat.lt_of_lt_of_le NX (Nat.mul_le_mul_right _ (Nat.le_add_right _ _))⟩
     ·omega
    ·exact s.2 j x IS (by simpa[hσ HD] using hs)
  ·have HD:j≠id:=by rintro rfl;rw[hb] at h;cases h
   exact⟨Fw,by rw[List.getElem?_set_ne (fun e=>HD e.symm)];exact h,rfl,hσ HD⟩
  ·rcases AH h with ⟨rfl,h1,_⟩|⟨HD,h1⟩
   ·injection h1 with h1 h2 h3
    subst h1;subst h2;subst h3
    refine⟨n,hb,Nat.le_add_right _ _,fun VP=> ?_⟩
    have hm:m=0:=by omega
    rcases Br with hc|hc
    ·obtain⟨hv,hh⟩:=hc.2.2.2 hm
     refine⟨by show Ct E.σ j v'.ownBlock j=_;rw[Aw,hv,Am],fun u ys hu _=> ?_⟩
     subst hm;refine⟨hu.1,?_⟩
     rcases hu.2 with h2|⟨g,cap,cur,h2,h3,h4,h5⟩
     ·exact .inl h2
     ·exact .inr ⟨g,cap,cur,h2,h3,by show w'.heap[g]?=_;rw[hh];exact h4,h5⟩
    ·omega
   ·refine⟨n',h1,Nat.le_refl _,fun _=>⟨hσ HD,fun u ys hu QF=> ?_⟩⟩
    refine hu.kept hg ?_
    cases kY:u.ownBlock with
    |none=>exact .inl rfl
    |some g'=>
     refine .inr ?_;rw[kY] at QF
     exact BU j _ g' HD h1 (by simp) QF.symm
  ·have HD:j≠id:=by rintro rfl;rw[hb] at h;cases h
   exact⟨p,by rw[List.getElem?_set_ne (fun e=>HD e.symm)];exact h,hσ HD⟩
 refine⟨L,⟨fun j y hy=> ?_,fun i j x y g' hi hj hx hy De E8=> ?_,fun k gs hk=>At.mono L _ _ (H.Es k gs hk),H.U,XM H CC hb (by simp) (by
  rcases Br with h|h
  ·exact .inl (h.1.trans Am)
  ·exact .inr fun g CR=>by rw[h.2.1] at CR;injection CR with CR;omega),?_,H.B0,hI _ _ H.I ?_⟩,rfl,?_,Nj hb (fun q hq hs=>hg.block q hq (fun e=>hs (by simp) (Am.symm.trans e.symm))) (Br.elim (fun h=>.inl ⟨h.1.trans Am,by simp⟩) (fun h=>.inr fun g CR=>by rw[h.2.1] at CR;injection CR with CR;omega)) (fun _ _ h=>by cases h)⟩
 ·rcases AH hy with ⟨rfl,rfl,_⟩|⟨HD,FA⟩
  ·intro g' CR
   exact xI g' (by simpa[Aw] using CR)
  ·have h:=H.KS j y FA
   cases y with
   |mem t' es=>
    obtain⟨g',c',LZ,h1,h2,h3,h4,h5,h6⟩:=h
    have Ns:=BU j _ g' HD FA (by simp) h1
    have FR:w'.heap[g']?=E.w.heap[g']? :=hg.block g' (Array.getElem?_eq_some_iff.1 h3).1 Ns
    refine⟨g',c',LZ,by show Ct E.σ id _ j=_;rw[hσ HD];exact h1,h2,FR.trans h3,h4,fun k hk=>(World.frozen?_of_block (a:=⟨g',k,none⟩) FR).trans (h5 k hk),fun k z hz=> ?_⟩
    obtain⟨u,k1,k2,k3⟩:=h6 k z hz;exact⟨u,k1,k2,Rel.mono L _ _ k3⟩
   |grow n1 Gz e1=>
    intro g' CR
    have dk:E.σ j=some g':=by
     have:Ct E.σ id v'.ownBlock j=some g':=CR
     rwa [hσ HD] at this
    exact⟨(h g' dk).1,Nat.lt_of_lt_of_le (h g' dk).2 CC⟩
   |dead=>trivial
   |iter s p=>
    obtain⟨g',h1,h2,h3⟩:=h
    exact⟨g',by show Ct E.σ id _ j=_;rw[hσ HD];exact h1,h2,(hg.block g' (Array.getElem?_eq_some_iff.1 h3).1 (BU j _ g' HD FA (by simp) h1)).trans h3⟩
   |stk n1 t1 Gz kc ke ksz rows=>exact EB.stk L (hσ HD) rfl (fun k hk Au=>hg.block k Au (BU j _ k HD FA (by simp) hk)) (fun _ _ _ h=>h.kept rfl rfl (fun q y hq Au=>hg.block q Au (BP q y hq))) h
 ·have hs:∀{k:Nat},k≠id->Ct E.σ id v'.ownBlock k=some g'->E.σ k=some g':=fun hk h=>by rwa [hσ hk] at h
  have Da:∀{k:Nat} {z:Blk},k≠id->E.h[k]?=some z->z≠.dead->Ct E.σ id v'.ownBlock k=some g'->Ct E.σ id v'.ownBlock id=some g'->k=id:=by
   intro k z hk hz dI h1 h2;have LY:=hs hk h1;rw[Aw] at h2
   rcases Qx _ h2 with h3|h3
   ·exact absurd h3.symm (BU k z g' hk hz dI LY)
   ·have:=(H.lt hz dI LY).2;omega
  rcases AH hi with ⟨rfl,rfl,_⟩|⟨ML,IT⟩<;>rcases AH hj with ⟨rfl,rfl,_⟩|⟨ZZ,IH⟩
  ·rfl
  ·exact(Da ZZ IH hy E8 De).symm
  ·exact Da ML IT hx De E8
  ·exact H.inj _ _ _ _ g' IT IH hx hy (hs ML De) (hs ZZ E8)
 ·show E.B<=w'.heap.size;have:=H.size;omega
 ·exact⟨TC,Qu,NV,CC,fun k hk=>hg.block k (by have:=H.size;have:=H.B0;omega) (fun he=>by have:=(vb k he.symm).1;have:=H.B0;omega)⟩
 ·exact⟨TC,Qu,NV,CC,fun k hk=>hg.block k (by have:=H.size;show k<E.w.heap.size;omega) (fun he=>by have:=(vb k he.symm).1;omega)⟩
end
end Go.Ai
