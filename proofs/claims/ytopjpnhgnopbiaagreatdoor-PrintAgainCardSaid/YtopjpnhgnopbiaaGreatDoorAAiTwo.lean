/-
  Two blocks that are made in an order that is drawn: their places are kept for them.
-/
import Derived.Test.YtopjpnhgnopbiaaGreatDoorAAiOps4
import Derived.Test.YtopjpnhgnopbiaaGreatDoorAAiSteps
set_option linter.unusedVariables false
set_option linter.unusedSimpArgs false
set_option linter.unnecessarySimpa false
namespace Go.Ai
open Go.RowKit
section
variable {G:Nat->Option (List AV)}{I:World->Prop}{B0:Nat}{E:Env}{P:Program}
theorem cE (hI:∀w w',I w->Below B0 w w'->I w')(H:Good G I B0 E):Step G I B0 E {E with σ:=DA E.σ E.h.length none,h:=E.h++[.dead]}:=by
 have L:Le E {E with σ:=DA E.σ E.h.length none,h:=E.h++[.dead]}:=MK (w':=E.w) (x:=.dead) (o:=none) H (Below.refl _ _) (fun g hg=>by cases hg)
 have Bt:∀(id:Nat) y,(E.h++[Blk.dead])[id]?=some y->(id<E.h.length/\E.h[id]?=some y)\/(id=E.h.length/\y=.dead):=by
  intro id y hy
  by_cases hid:id<E.h.length
  ·exact .inl ⟨hid,by rwa [List.getElem?_append_left hid] at hy⟩
  ·have MO:id=E.h.length:=by
    have:=(List.getElem?_eq_some_iff.1 hy).1;simp at this;omega
   subst MO;simp at hy;exact .inr ⟨rfl,hy.symm⟩
 have hσ:∀{id:Nat} {g:Option Nat},id<E.h.length->DA E.σ E.h.length none id=g->E.σ id=g:=fun hi h=>by
  rwa [Af (by omega)] at h
 refine⟨L,⟨fun id y hy=> ?_,?_,fun g gs hg=>At.mono L _ _ (H.Fc g gs hg),H.U,Mr H (Nat.le_refl _) (fun g hg=>by cases hg),H.size,H.B0,H.I⟩,rfl,Below.refl _ _,Jm (w':=E.w) (fun _ _=>rfl) (fun g hg=>by cases hg)⟩
 ·rcases Bt id y hy with ⟨hid,Fq⟩|⟨rfl,rfl⟩
  ·have h:=H.Ld id y Fq
   cases y with
   |mem t' ds=>
    obtain⟨g,d,Mw,h1,h2,h3,h4,h5,h6⟩:=h
    refine⟨g,d,Mw,by show DA E.σ E.h.length _ id=_;rw[Af (by omega)];exact h1,h2,h3,h4,h5,fun j z hz=> ?_⟩
    obtain⟨v,k1,k2,k3⟩:=h6 j z hz;exact⟨v,k1,k2,Rel.mono L _ _ k3⟩
   |grow n sz e=>
    intro g hg;exact h g (hσ hid hg)
   |dead=>trivial
   |iter s p=>
    obtain⟨g,h1,h2,h3⟩:=h
    exact⟨g,by show DA E.σ E.h.length _ id=_;rw[Af (by omega)];exact h1,h2,h3⟩
   |Bi n1 t1 H6 kc ke ksz rows=>exact Ea.Bi L (Af (by omega)) rfl (fun _ _ _=>rfl) (fun _ _ _ h=>h.kept rfl rfl (fun _ _ _ _=>rfl)) h
  ·trivial
 ·intro i j x y g hi hj hx hy D8 Fo
  rcases Bt i x hi with ⟨ZB,Ja⟩|⟨rfl,rfl⟩<;>rcases Bt j y hj with ⟨KX,JO⟩|⟨rfl,rfl⟩
  ·exact H.inj i j x y g Ja JO hx hy (hσ ZB D8) (hσ KX Fo)
  ·exact absurd rfl hy
  ·exact absurd rfl hx
  ·rfl
theorem cD (hI:∀w w',I w->Below B0 w w'->I w')(H:Good G I B0 E){w':World}{b:Nat}{cs:List AV}{c:Array Value}{t:TypeId}{fr:Nat×Nat}(hb:E.h[b]?=some .dead)
  (hw:Below E.w.heap.size E.w w') (D9:w'.heap[E.w.heap.size]?=some (.cells c t fr)) (hlen:cs.length<=c.size)
  (Mu:∀j,j<cs.length->w'.frozen? ⟨E.w.heap.size,j,none⟩=false)
  (Fu:∀(j:Nat) x,cs[j]?=some x->∃v,c[j]?=some v/\v.oneCell'=true/\Rel E x v):
  Step G I B0 E {E with w:=w',σ:=DA E.σ b (some E.w.heap.size),h:=E.h.set b (.mem t cs)}:=by
 have CD:E.w.heap.size<w'.heap.size:=(Array.getElem?_eq_some_iff.1 D9).1;have HD:b<E.h.length:=(List.getElem?_eq_some_iff.1 hb).1
 have L:Le E {E with w:=w',σ:=DA E.σ b (some E.w.heap.size),h:=E.h.set b (.mem t cs)}:=by
  refine⟨rfl,fun a v h s=> ?_,by simp,fun id t' Gh h=> ?_,fun id n sz e hi h=> ?_,fun id s1 p1 h=> ?_,fun id n1 t1 H6 kc ke ksz rows hi h=> ?_,fun r es clock h=>(hw.block r (Array.getElem?_eq_some_iff.1 h).1).trans h⟩
  rotate_left 4
  ·rcases AG h with ⟨rfl,h1,_⟩|⟨hid,h1⟩
   ·cases h1
   ·exact⟨n1,rows,h1,Nat.le_refl _,fun _=>⟨rfl,Af hid,fun k m hk hz=>Jf.of (fun BC=>hw.block k BC) hz,Cu fun _ _ _ h=>h.kept rfl rfl (fun q _ _ hq=>hw.block q hq)⟩⟩
  ·have BC:=World.block_lt_of_cell? E.w a h
   refine⟨(hw.cell BC).trans h,s.1,fun id y hy hs=> ?_⟩
   rcases AG hy with ⟨rfl,rfl,_⟩|⟨hid,Fq⟩
   ·have Jh:some E.w.heap.size=some a.block:=by simpa[Ay] using hs
    injection Jh with Jh
    omega
   ·exact s.2 id y Fq (by simpa[Af hid] using hs)
  ·have hid:id≠b:=by rintro rfl;rw[hb] at h;cases h
   exact⟨Gh,by rw[List.getElem?_set_ne (fun e=>hid e.symm)];exact h,rfl,Af hid⟩
  ·rcases AG h with ⟨rfl,h1,_⟩|⟨hid,h1⟩
   ·cases h1
   ·refine⟨n,h1,Nat.le_refl _,fun _=>⟨Af hid,fun v xs hv _=> ?_⟩⟩
    refine⟨hv.1,?_⟩
    rcases hv.2 with h2|⟨g,cap,cur,h2,h3,h4,h5⟩
    ·exact .inl h2
    ·exact .inr ⟨g,cap,cur,h2,h3,(hw.block g (Array.getElem?_eq_some_iff.1 h4).1).trans h4,h5⟩
  ·have hid:id≠b:=by rintro rfl;rw[hb] at h;cases h
   exact⟨p1,by rw[List.getElem?_set_ne (fun e=>hid e.symm)];exact h,Af hid⟩
 have hσ:∀{id:Nat} {g:Nat},id≠b->DA E.σ b (some E.w.heap.size) id=some g->E.σ id=some g:=fun hi h=>by
  rwa [Af hi] at h
 have GG:∀{g:Nat},DA E.σ b (some E.w.heap.size) b=some g->E.w.heap.size=g:=fun h=>by
  rw[Ay] at h;injection h
 refine⟨L,⟨fun id y hy=> ?_,?_,fun g gs hg=>At.mono L _ _ (H.Fc g gs hg),H.U,fun g q i m hq=>by
   obtain⟨a1,a2,a3⟩:=H.ar g q i m hq
   refine⟨a1,Nat.lt_of_lt_of_le a2 hw.size,fun j z hz hd hs=> ?_⟩
   by_cases hj:j=b
   ·subst hj;have:=GG hs;omega
   ·have hz:(E.h.set b (Blk.mem t cs))[j]?=some z:=hz
    rw[List.getElem?_set_ne (fun e=>hj e.symm)] at hz
    exact a3 j z hz hd (hσ hj hs),?_,H.B0,hI _ _ H.I (hw.mono (Nat.le_trans H.B0 H.size))⟩,rfl,hw.mono H.size,PZ hb (fun g hg _=>hw.block g hg) (.inr fun g hg=>by injection hg with hg;omega) (fun _ _ h=>by cases h)⟩
 ·rcases AG hy with ⟨rfl,rfl,_⟩|⟨hid,Fq⟩
  ·refine⟨E.w.heap.size,c,fr,Ay _ _ _,H.size,D9,hlen,Mu,fun j z hz=> ?_⟩
   obtain⟨v,k1,k2,k3⟩:=Fu j z hz;exact⟨v,k1,k2,Rel.mono L _ _ k3⟩
  ·have h:=H.Ld id y Fq
   cases y with
   |mem t' ds=>
    obtain⟨g,d,Mw,h1,h2,h3,h4,h5,h6⟩:=h;have hg:=(Array.getElem?_eq_some_iff.1 h3).1
    refine⟨g,d,Mw,by show DA E.σ b _ id=_;rw[Af hid];exact h1,h2,(hw.block g hg).trans h3,h4,fun j hj=>(hw.frozen (p:=⟨g,j,none⟩) hg).trans (h5 j hj),fun j z hz=> ?_⟩
    obtain⟨v,k1,k2,k3⟩:=h6 j z hz;exact⟨v,k1,k2,Rel.mono L _ _ k3⟩
   |grow n sz e=>
    intro g hg;have CY:=hσ hid hg;exact⟨(h g CY).1,Nat.lt_of_lt_of_le (h g CY).2 hw.size⟩
   |dead=>trivial
   |iter s p=>
    obtain⟨g,h1,h2,h3⟩:=h
    exact⟨g,by show DA E.σ b _ id=_;rw[Af hid];exact h1,h2,(hw.block g (Array.getElem?_eq_some_iff.1 h3).1).trans h3⟩
   |Bi n1 t1 H6 kc ke ksz rows=>exact Ea.Bi L (Af hid) rfl (fun g _ hg=>hw.block g hg) (fun _ _ _ h=>h.kept rfl rfl (fun q _ _ hq=>hw.block q hq)) h
 ·intro i j x y g hi hj hx hy D8 Fo
  rcases AG hi with ⟨rfl,rfl,_⟩|⟨Nk,Ja⟩<;>rcases AG hj with ⟨rfl,rfl,_⟩|⟨dJ,JO⟩
  ·rfl
  ·have:=(H.lt JO hy (hσ dJ Fo)).2;have:=GG D8;omega
  ·have:=(H.lt Ja hx (hσ Nk D8)).2;have:=GG Fo;omega
  ·exact H.inj i j x y g Ja JO hx hy (hσ Nk D8) (hσ dJ Fo)
 ·show E.B<=w'.heap.size;have:=H.size;omega
variable {a:Act}{d:Option Nat}{ty:TypeId}{pos:String}{after:Array Edge}{gd:Option (Nat×Bool)}
theorem kP (hI:∀w w',I w->Below B0 w w'->I w')(H:Good G I B0 E)(t:TypeId){b n:Nat}{cs:List AV}{more:Hp}(hb:E.h[b]?=some .dead)(h:zeroOf P true t n=some (cs,more)):
  Au P G I B0 E a ⟨d,.alloc t,ty,pos,after,gd⟩ true (.ptr b 0) (E.h.set b (.mem t cs)):=by
 have h0:zeroOf P true t E.h.length=some (cs,[]):=by
  unfold zeroOf at h⊢
  cases hi:P.info? t with
  |none=>rw[hi] at h;cases h
  |some i=>
   rw[hi] at h;simp only at h⊢
   cases kg:i.zero with
   |none=>rw[kg] at h;cases h
   |some z=>
    rw[kg] at h;simp only at h⊢
    cases hb:(!(z.cells.toList.all (·.oneCell'))) with
    |true=>rw[hb] at h;cases h
    |false=>
     rw[hb] at h;simp only[cond_false,Option.some.injEq,Prod.mk.injEq] at h⊢;exact⟨h.1,trivial⟩
 obtain⟨i,z,E',hi,hz,S,k1,k2,k3⟩:=KJ hI H h0;rw[List.append_nil] at k2;have hB:Below E'.w.heap.size E'.w (E'.w.alloc (.cells z.cells t)):=(Below.refl _ _).alloc (Nat.le_refl _) _
 have T:=cD hI S.Co (w':=E'.w.alloc (.cells z.cells t)) (b:=b) (cs:=cs) (c:=z.cells) (t:=t) (fr:=(0,0)) (by rw[k2];exact hb) hB (heap_alloc_new _ _) (by simpa using Nat.le_of_eq k3.length.symm)
  (fun j _=>World.frozen?_alloc_new _ _ _ _) (fun j y hy=>by
   obtain⟨u,q1,q2,q3⟩:=CT k3 hy
   exact⟨u,by simpa using q1,q2,q3⟩)
 have HD:b<E.h.length:=(List.getElem?_eq_some_iff.1 hb).1
 refine⟨.pointer (some ⟨E.w.heap.size,0,none⟩),_,.inl ?_,S.trans T,by simp[k2],fun _=>⟨t,cs,E.w.heap.size,?_,?_,rfl⟩,fun h=>by cases h⟩
 ·simp[execOp,Instr.alloc,zeroValue,typeInfo,hi,hz,newVar,newRow,k1]
 ·show(E'.h.set b (Blk.mem t cs))[b]?=_;rw[k2];simp[HD]
 ·show DA E'.σ b (some E'.w.heap.size) b=_;rw[Ay,k1]
end
end Go.Ai
