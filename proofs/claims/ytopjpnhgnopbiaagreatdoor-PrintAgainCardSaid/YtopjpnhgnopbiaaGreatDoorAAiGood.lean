/-
  What a concrete world must be with respect to an abstract heap, and the steps that keep it.
-/
import Derived.Test.YtopjpnhgnopbiaaGreatDoorAAiRel
set_option linter.unusedVariables false
set_option linter.unusedSimpArgs false
set_option linter.unnecessarySimpa false
namespace Go.Ai
open Go.RowKit
def Ea (E:Env)(id:Nat):Blk->Prop
 |.mem t cs=>∃g c fr,E.σ id=some g/\E.B<=g/\E.w.heap[g]?=some (.cells c t fr)/\cs.length<=c.size/\
   (∀j,j<cs.length->E.w.frozen? ⟨g,j,none⟩=false)/\∀(j:Nat) x,cs[j]?=some x->∃v,c[j]?=some v/\v.oneCell'=true/\Rel E x v
 |.grow _ _ _=>∀g,E.σ id=some g->E.B<=g/\g<E.w.heap.size
 |.dead=>True
 |.iter s p=>∃g,E.σ id=some g/\E.B<=g/\E.w.heap[g]?=some (.stringIter ⟨s.toArray⟩ p)
 |.Bi _ t sz kc ke ksz rows=>∃g c,E.σ id=some g/\E.B<=g/\E.w.heap[g]?=some (.cells c t)/\0<sz/\(∀r∈rows,r.2.length=sz)/\rows.length*sz<=c.size/\
   (∀(j:Nat) x,(rows.map (·.2)).reverse.flatten[j]?=some x->∃v,c[j]?=some v/\v.oneCell'=true/\Rel E x v)/\
   ∀(d:Nat) r v s es own,rows[d]?=some r->r.2[kc]?=some (.sl s es own)->c[(rows.length-1-d)*sz+kc]?=some v->own=none/\es.length<=r.1/\(es.length=r.1->(0<es.length->ksz=s)/\Ch E id (rows.length-1-d) r.1 ke ksz v)
structure Good (G:Nat->Option (List AV)) (I:World->Prop) (B0:Nat) (E:Env):Prop where
 Ld:∀(id:Nat) x,E.h[id]?=some x->Ea E id x
 inj:∀(i j:Nat) x y g,E.h[i]?=some x->E.h[j]?=some y->x≠.dead->y≠.dead->E.σ i=some g->E.σ j=some g->i=j
 Fc:∀g cs,G g=some cs->At E cs ⟨g,0,none⟩
 U:∀b o,E.U b o->b<E.B
 ar:∀g o i m,E.A g=some (o,i,m)->E.B<=g/\g<E.w.heap.size/\∀(j:Nat) y,E.h[j]?=some y->y≠.dead->E.σ j≠some g
 size:E.B<=E.w.heap.size
 B0:B0<=E.B
 I:I E.w
section
variable {G:Nat->Option (List AV)}{I:World->Prop}{B0:Nat}{E:Env}
theorem Good.lt (H:Good G I B0 E){id:Nat}{x:Blk}(hx:E.h[id]?=some x)(hd:x≠.dead){g:Nat}(hs:E.σ id=some g):E.B<=g/\g<E.w.heap.size:=by
 have h:=H.Ld id x hx
 cases x with
 |mem t cs=>
  obtain⟨g',c,fr,h1,h2,h3,_⟩:=h;rw[hs] at h1
  injection h1 with h1
  subst h1;exact⟨h2,(Array.getElem?_eq_some_iff.1 h3).1⟩
 |grow n sz e=>exact h g hs
 |dead=>exact absurd rfl hd
 |iter s p=>
  obtain⟨g',h1,h2,h3⟩:=h;rw[hs] at h1
  injection h1 with h1
  subst h1;exact⟨h2,(Array.getElem?_eq_some_iff.1 h3).1⟩
 |Bi n t sz kc ke ksz rows=>
  obtain⟨g',c,h1,h2,h3,_⟩:=h;rw[hs] at h1
  injection h1 with h1
  subst h1;exact⟨h2,(Array.getElem?_eq_some_iff.1 h3).1⟩
theorem Ea.Bi {E E':Env}(L:Le E E'){id n t sz kc ke ksz:Nat}{rows:List (Nat×List AV)}(hs:E'.σ id=E.σ id)(hB:E'.B=E.B)(hb:∀g,E.σ id=some g->g<E.w.heap.size->E'.w.heap[g]?=E.w.heap[g]?)
  (hr:∀i n v,Ch E id i n ke ksz v->Ch E' id i n ke ksz v) (h:Ea E id (.Bi n t sz kc ke ksz rows)):Ea E' id (.Bi n t sz kc ke ksz rows):=by
 obtain⟨g,c,h1,h2,h3,h4,h5,h6,h7,h8⟩:=h
 refine⟨g,c,hs.trans h1,by rw[hB];exact h2,(hb g h1 (Array.getElem?_eq_some_iff.1 h3).1).trans h3,h4,h5,h6,fun j x hx=> ?_,fun d r v s es own k1 k2 k3=> ?_⟩
 ·obtain⟨v,k1,k2,k3⟩:=h7 j x hx;exact⟨v,k1,k2,Rel.mono L _ _ k3⟩
 ·obtain⟨q0,q1,q2⟩:=h8 d r v s es own k1 k2 k3
  refine⟨q0,q1,fun e=> ?_⟩
  obtain⟨q3,q4⟩:=q2 e;exact⟨q3,hr _ _ _ q4⟩
theorem Ch.kept {E:Env}{id i n ke ksz:Nat}{v:Value}(h:Ch E id i n ke ksz v){E':Env}(hB:E'.B=E.B)(hA:E'.A=E.A)(hb:∀g x,E.A g=some x->g<E.w.heap.size->E'.w.heap[g]?=E.w.heap[g]?):Ch E' id i n ke ksz v:=by
 obtain⟨⟨xs,h1,h2⟩,h3⟩:=h
 refine⟨⟨xs,h1,?_⟩,fun g hg=>by rw[hA];exact h3 g hg⟩
 rcases h2 with h2|⟨g,cap,cur,h4,h5,h6,h7⟩
 ·exact .inl h2
 ·exact .inr ⟨g,cap,cur,h4,by rw[hB];exact h5,(hb g _ (h3 g (by rw[h4];rfl)) (Array.getElem?_eq_some_iff.1 h6).1).trans h6,h7⟩
theorem Cu {E E':Env}{id ke ksz:Nat}{rows:List (Nat×List AV)}(hr:∀i n v,Ch E id i n ke ksz v->Ch E' id i n ke ksz v):∀(d:Nat) (r r0:Nat×List AV),rows[d]?=some r->rows[d]?=some r0->r0.1<=r.1/\(r0.1=r.1->∀v,Ch E id (rows.length-1-d) r.1 ke ksz v->Ch E' id (rows.length-1-d) r.1 ke ksz v):=by
 intro d r r0 h1 h2;rw[h1] at h2
 injection h2 with h2
 subst h2
 exact⟨Nat.le_refl _,fun _ v hv=>hr _ _ v hv⟩
theorem Jf.of {w w':World}{k n:Nat}(hb:k<w.heap.size->w'.heap[k]?=w.heap[k]?)(h:Jf w k n):Jf w' k n:=by
 obtain⟨c,ty,h1,h2⟩:=h;exact⟨c,ty,(hb (Array.getElem?_eq_some_iff.1 h1).1).trans h1,h2⟩
def Tr (E:Env)(g:Nat):Prop:=(∃id x,E.h[id]?=some x/\x≠.dead/\E.σ id=some g)\/∃id i m,E.A g=some (id,i,m)/\(id<4->∀t cs,E.h[id]?≠some (.mem t cs))
def jj (E E':Env):Prop:=∀g,E.B<=g->g<E.w.heap.size->¬Tr E g->E'.w.heap[g]?=E.w.heap[g]?/\¬Tr E' g/\E'.A g=E.A g
theorem Qd {E:Env}{w':World}(hb:∀g,g<E.w.heap.size->w'.heap[g]?=E.w.heap[g]?):jj E {E with w:=w'}:=fun g _ hg h=>⟨hb g hg,h,rfl⟩
structure Step (G:Nat->Option (List AV)) (I:World->Prop) (B0:Nat) (E E':Env):Prop where
 le:Le E E'
 Co:Good G I B0 E'
 U:E'.U=E.U
 below:Below E.B E.w E'.w
 own:jj E E'
theorem Step.refl (H:Good G I B0 E):Step G I B0 E E:=⟨Le.refl E,H,rfl,Below.refl _ _,fun _ _ _ h=>⟨rfl,h,rfl⟩⟩
theorem Step.trans {E1 E2 E3:Env}(S:Step G I B0 E1 E2)(T:Step G I B0 E2 E3):Step G I B0 E1 E3:=
 ⟨S.le.trans T.le,T.Co,T.U.trans S.U,S.below.trans (by have:=T.below;rw[S.le.B] at this;exact this),fun g h1 h2 h3=>by
  obtain⟨a1,a2,a3⟩:=S.own g h1 h2 h3
  obtain⟨b1,b2,b3⟩:=T.own g (by rw[S.le.B];exact h1) (Nat.lt_of_lt_of_le h2 S.below.size) a2
  exact⟨b1.trans a1,b2,b3.trans a3⟩⟩
theorem M9 (hI:∀w w',I w->Below B0 w w'->I w')(H:Good G I B0 E){w':World}(hw:Below E.B E.w w')(hh:w'.heap=E.w.heap):Step G I B0 E {E with w:=w'}:=by
 have hc:∀a,w'.cell? a=E.w.cell? a:=fun a=>by simp[World.cell?,hh]
 have hf:∀a,w'.frozen? a=E.w.frozen? a:=fun a=>by simp[World.frozen?,hh]
 have L:Le E {E with w:=w'}:=by
  refine⟨rfl,fun a v h s=>⟨(hc a).trans h,s⟩,Nat.le_refl _,fun _ _ cs h=>⟨cs,h,rfl,rfl⟩,fun _ n _ _ _ h=>⟨n,h,Nat.le_refl _,fun _=>⟨rfl,fun v xs h _=> ?_⟩⟩,fun _ _ p h=>⟨p,h,rfl⟩,
   fun _ g _ _ _ _ _ rows _ h=>⟨g,rows,h,Nat.le_refl _,fun _=>⟨rfl,rfl,fun _ _ _ h=>Jf.of (fun _=>by show w'.heap[_]?=_;rw[hh]) h,Cu fun _ _ _ h=>h.kept rfl rfl (fun _ _ _ _=>by show w'.heap[_]?=_;rw[hh])⟩⟩,fun _ _ _ h=>by show w'.heap[_]?=_;rw[hh];exact h⟩
  refine⟨h.1,?_⟩
  rcases h.2 with h2|⟨g,cap,cur,h2,h3,h4,h5⟩
  ·exact .inl h2
  ·exact .inr ⟨g,cap,cur,h2,h3,by rw[hh];exact h4,h5⟩
 refine⟨L,⟨fun id x hx=> ?_,H.inj,fun g cs hg=>At.mono L _ _ (H.Fc g cs hg),H.U,fun g o i m h=>by
  obtain⟨a1,a2,a3⟩:=H.ar g o i m h
  exact⟨a1,by show g<w'.heap.size;rw[hh];exact a2,a3⟩,by show E.B<=w'.heap.size;rw[hh];exact H.size,H.B0,hI _ _ H.I (hw.mono H.B0)⟩,rfl,hw,Qd fun g _=>by rw[hh]⟩
 have h:=H.Ld id x hx
 cases x with
 |mem t cs=>
  obtain⟨g,c,fr,h1,h2,h3,h4,h5,h6⟩:=h
  refine⟨g,c,fr,h1,h2,by rw[hh];exact h3,h4,fun j hj=>(hf _).trans (h5 j hj),fun j y hy=> ?_⟩
  obtain⟨v,k1,k2,k3⟩:=h6 j y hy;exact⟨v,k1,k2,Rel.mono L _ _ k3⟩
 |grow n sz e=>
  intro g hg;show E.B<=g/\g<w'.heap.size;rw[hh];exact h g hg
 |dead=>trivial
 |iter s p=>
  obtain⟨g,h1,h2,h3⟩:=h
  exact⟨g,h1,h2,by rw[hh];exact h3⟩
 |Bi n t sz kc ke ksz rows=>exact Ea.Bi L rfl rfl (fun g _ _=>by show w'.heap[_]?=_;rw[hh]) (fun _ _ _ h=>h.kept rfl rfl (fun _ _ _ _=>by show w'.heap[_]?=_;rw[hh])) h
def DA (σ:Nat->Option Nat)(i:Nat)(v:Option Nat):Nat->Option Nat:=fun j=>if j=i then v else σ j
theorem Ay (σ:Nat->Option Nat)(i:Nat)(v:Option Nat):DA σ i v i=v:=by simp[DA]
theorem Af {σ:Nat->Option Nat}{i j:Nat}{v:Option Nat}(h:j≠i):DA σ i v j=σ j:=by simp[DA,h]
theorem Jm {w':World}{x:Blk}{o:Option Nat}(hb:∀g,g<E.w.heap.size->w'.heap[g]?=E.w.heap[g]?)(ho:∀g,o=some g->E.w.heap.size<=g):jj E {E with w:=w',σ:=DA E.σ E.h.length o,h:=E.h++[x]}:=by
 intro g _ hg h;refine⟨hb g hg,?_,rfl⟩
 rintro(⟨id,y,hy,hd,hs⟩|⟨id,i,m,hA,BM⟩)
 ·have hy:(E.h++[x])[id]?=some y:=hy;have hs:DA E.σ E.h.length o id=some g:=hs
  by_cases hid:id<E.h.length
  ·rw[List.getElem?_append_left hid] at hy
   rw[Af (by omega)] at hs
   exact h (.inl ⟨id,y,hy,hd,hs⟩)
  ·have MO:id=E.h.length:=by
    have:=(List.getElem?_eq_some_iff.1 hy).1;simp at this;omega
   subst MO;rw[Ay] at hs;have:=ho g hs;omega
 ·refine h (.inr ⟨id,i,m,hA,fun e t cs h0=>BM e t cs ?_⟩)
  show(E.h++[x])[id]?=_;rw[List.getElem?_append_left (List.getElem?_eq_some_iff.1 h0).1];exact h0
theorem MK {w':World}{x:Blk}{o:Option Nat}(H:Good G I B0 E)(hw:Below E.w.heap.size E.w w')(ho:∀g,o=some g->E.w.heap.size<=g):
  Le E {E with w:=w',σ:=DA E.σ E.h.length o,h:=E.h++[x]}:=by
 have hold:∀(id:Nat) y,id<E.h.length->(E.h++[x])[id]?=some y->E.h[id]?=some y:=fun id y hi hy=>by
  rwa [List.getElem?_append_left hi] at hy
 refine⟨rfl,fun a v h s=> ?_,by simp,fun id _ cs h=>⟨cs,by rw[List.getElem?_append_left (List.getElem?_eq_some_iff.1 h).1];exact h,rfl,Af (by have:=(List.getElem?_eq_some_iff.1 h).1;omega)⟩,fun id n sz e hi h=>⟨n,hold id _ hi h,Nat.le_refl _,fun _=>⟨Af (by omega),fun v xs hv _=> ?_⟩⟩,
  fun id _ p h=>⟨p,by rw[List.getElem?_append_left (List.getElem?_eq_some_iff.1 h).1];exact h,Af (by have:=(List.getElem?_eq_some_iff.1 h).1;omega)⟩,
  fun id g _ _ _ _ _ rows hi h=>⟨g,rows,hold id _ hi h,Nat.le_refl _,fun _=>⟨rfl,Af (by omega),fun k n _ hz=>Jf.of (fun hk=>hw.block k hk) hz,Cu fun _ _ _ h=>h.kept rfl rfl (fun g _ _ hg=>hw.block g hg)⟩⟩,fun r es clock h=>(hw.block r (Array.getElem?_eq_some_iff.1 h).1).trans h⟩
 ·have BC:=World.block_lt_of_cell? E.w a h
  refine⟨(hw.cell BC).trans h,s.1,fun id y hy hs=> ?_⟩
  by_cases hid:id<E.h.length
  ·exact s.2 id y (hold id y hid hy) (by simpa[Af (show id≠E.h.length by omega)] using hs)
  ·have MO:id=E.h.length:=by
    have:=(List.getElem?_eq_some_iff.1 hy).1;simp at this;omega
   subst MO
   have Jh:o=some a.block:=by simpa[Ay] using hs
   have:=ho _ Jh;omega
 ·refine⟨hv.1,?_⟩
  rcases hv.2 with h2|⟨g,cap,cur,h2,h3,h4,h5⟩
  ·exact .inl h2
  ·exact .inr ⟨g,cap,cur,h2,h3,(hw.block g (Array.getElem?_eq_some_iff.1 h4).1).trans h4,h5⟩
theorem Mr {w':World}{x:Blk}{o:Option Nat}(H:Good G I B0 E)(hw:E.w.heap.size<=w'.heap.size)(ho:∀g,o=some g->E.w.heap.size<=g):∀g q i m,E.A g=some (q,i,m)->E.B<=g/\g<w'.heap.size/\∀(j:Nat) y,(E.h++[x])[j]?=some y->y≠.dead->DA E.σ E.h.length o j≠some g:=by
 intro g q i m h;obtain⟨a1,a2,a3⟩:=H.ar g q i m h
 refine⟨a1,by omega,fun j y hy hd hs=> ?_⟩
 by_cases hj:j<E.h.length
 ·rw[List.getElem?_append_left hj] at hy
  rw[Af (by omega)] at hs
  exact a3 j y hy hd hs
 ·have KX:j=E.h.length:=by
   have:=(List.getElem?_eq_some_iff.1 hy).1;simp at this;omega
  subst KX;rw[Ay] at hs;have:=ho g hs;omega
theorem Zy {w':World}{b:Nat}{x y:Blk}{o:Option Nat}(H:Good G I B0 E)(hw:E.w.heap.size<=w'.heap.size)(hb:E.h[b]?=some x)(hx:x≠.dead)(ho:o=E.σ b\/∀g,o=some g->E.w.heap.size<=g):∀g q i m,E.A g=some (q,i,m)->E.B<=g/\g<w'.heap.size/\∀(j:Nat) z,(E.h.set b y)[j]?=some z->z≠.dead->DA E.σ b o j≠some g:=by
 intro g q i m h;obtain⟨a1,a2,a3⟩:=H.ar g q i m h
 refine⟨a1,by omega,fun j z hz hd hs=> ?_⟩
 by_cases hj:j=b
 ·subst hj;rw[Ay] at hs
  rcases ho with ho|ho
  ·exact a3 j x hb hx (ho▸hs)
  ·have:=ho g hs;omega
 ·rw[List.getElem?_set_ne (fun e=>hj e.symm)] at hz
  rw[Af hj] at hs;exact a3 j z hz hd hs
theorem eJ (σ:Nat->Option Nat)(b:Nat):DA σ b (σ b)=σ:=by
 funext j
 unfold DA
 by_cases h:j=b
 ·rw[if_pos h,h]
 ·rw[if_neg h]
theorem VR {w':World}{b:Nat}{x y:Blk}(H:Good G I B0 E)(hw:E.w.heap.size<=w'.heap.size)(hb:E.h[b]?=some x)(hx:x≠.dead):∀g q i m,E.A g=some (q,i,m)->E.B<=g/\g<w'.heap.size/\∀(j:Nat) z,(E.h.set b y)[j]?=some z->z≠.dead->E.σ j≠some g:=by
 have:=Zy (y:=y) (o:=E.σ b) H hw hb hx (.inl rfl)
 rwa [eJ] at this
theorem Hd (H:Good G I B0 E){b k:Nat}{x:Blk}(hb:E.h[b]?=some x)(hx:x≠.dead)(hk:E.σ b=some k):∀g y,E.A g=some y->g≠k:=by
 rintro g ⟨o,i,m⟩ h rfl
 exact(H.ar _ o i m h).2.2 b x hb hx hk
theorem Lt (hI:∀w w',I w->Below B0 w w'->I w')(H:Good G I B0 E){w':World}{cs:List AV}{c:Array Value}{t:TypeId}{fr:Nat×Nat}
  (hw:Below E.w.heap.size E.w w') (D9:w'.heap[E.w.heap.size]?=some (.cells c t fr)) (hlen:cs.length<=c.size)
  (Mu:∀j,j<cs.length->w'.frozen? ⟨E.w.heap.size,j,none⟩=false)
  (Fu:∀(j:Nat) x,cs[j]?=some x->∃v,c[j]?=some v/\v.oneCell'=true/\Rel E x v):
  Step G I B0 E {E with w:=w',σ:=DA E.σ E.h.length (some E.w.heap.size),h:=E.h++[.mem t cs]}:=by
 have CD:E.w.heap.size<w'.heap.size:=(Array.getElem?_eq_some_iff.1 D9).1
 have L:=MK (x:=.mem t cs) (o:=some E.w.heap.size) H hw (fun g hg=>by injection hg with hg;omega)
 have hold:∀(id:Nat) y,id<E.h.length->(E.h++[Blk.mem t cs])[id]?=some y->E.h[id]?=some y:=fun id y hi hy=>by
  rwa [List.getElem?_append_left hi] at hy
 have Bt:∀(id:Nat) y,(E.h++[Blk.mem t cs])[id]?=some y->(id<E.h.length/\E.h[id]?=some y)\/(id=E.h.length/\y=.mem t cs):=by
  intro id y hy
  by_cases hid:id<E.h.length
  ·exact .inl ⟨hid,hold id y hid hy⟩
  ·have MO:id=E.h.length:=by
    have:=(List.getElem?_eq_some_iff.1 hy).1;simp at this;omega
   subst MO;simp at hy;exact .inr ⟨rfl,hy.symm⟩
 refine⟨L,⟨fun id y hy=> ?_,?_,fun g gs hg=>At.mono L _ _ (H.Fc g gs hg),H.U,Mr H hw.size (fun g hg=>by injection hg with hg;omega),?_,H.B0,hI _ _ H.I (hw.mono (Nat.le_trans H.B0 H.size))⟩,rfl,hw.mono H.size,Jm (fun g hg=>hw.block g hg) (fun g hg=>by injection hg with hg;omega)⟩
 ·rcases Bt id y hy with ⟨hid,Fq⟩|⟨rfl,rfl⟩
  ·have h:=H.Ld id y Fq
   cases y with
   |mem t' ds=>
    obtain⟨g,d,Mw,h1,h2,h3,h4,h5,h6⟩:=h;have hg:=(Array.getElem?_eq_some_iff.1 h3).1
    refine⟨g,d,Mw,by show DA E.σ E.h.length _ id=_;rw[Af (by omega)];exact h1,h2,(hw.block g hg).trans h3,h4,fun j hj=>(hw.frozen (p:=⟨g,j,none⟩) hg).trans (h5 j hj),fun j z hz=> ?_⟩
    obtain⟨v,k1,k2,k3⟩:=h6 j z hz;exact⟨v,k1,k2,Rel.mono L _ _ k3⟩
   |grow n sz e=>
    intro g hg
    have CY:E.σ id=some g:=by
     have:DA E.σ E.h.length (some E.w.heap.size) id=some g:=hg
     rwa [Af (by omega)] at this
    exact⟨(h g CY).1,Nat.lt_of_lt_of_le (h g CY).2 hw.size⟩
   |dead=>trivial
   |iter s p=>
    obtain⟨g,h1,h2,h3⟩:=h
    exact⟨g,by show DA E.σ E.h.length _ id=_;rw[Af (by omega)];exact h1,h2,(hw.block g (Array.getElem?_eq_some_iff.1 h3).1).trans h3⟩
   |Bi n t' EB eA dz PG rows=>exact Ea.Bi L (Af (by omega)) rfl (fun g _ hg=>hw.block g hg) (fun _ _ _ h=>h.kept rfl rfl (fun g _ _ hg=>hw.block g hg)) h
  ·refine⟨E.w.heap.size,c,fr,Ay _ _ _,H.size,D9,hlen,Mu,fun j z hz=> ?_⟩
   obtain⟨v,k1,k2,k3⟩:=Fu j z hz;exact⟨v,k1,k2,Rel.mono L _ _ k3⟩
 ·intro i j x y g hi hj hx hy D8 Fo
  rcases Bt i x hi with ⟨ZB,Ja⟩|⟨rfl,rfl⟩<;>rcases Bt j y hj with ⟨KX,JO⟩|⟨rfl,rfl⟩
  ·have oQ:E.σ i=some g:=by
    have:DA E.σ E.h.length (some E.w.heap.size) i=some g:=D8
    rwa [Af (by omega)] at this
   have oP:E.σ j=some g:=by
    have:DA E.σ E.h.length (some E.w.heap.size) j=some g:=Fo
    rwa [Af (by omega)] at this
   exact H.inj i j x y g Ja JO hx hy oQ oP
  ·have oQ:E.σ i=some g:=by
    have:DA E.σ E.h.length (some E.w.heap.size) i=some g:=D8
    rwa [Af (by omega)] at this
   have:=(H.lt Ja hx oQ).2
   have hg:E.w.heap.size=g:=by
    have:DA E.σ E.h.length (some E.w.heap.size) E.h.length=some g:=Fo;rw[Ay] at this;injection this
   omega
  ·have oP:E.σ j=some g:=by
    have:DA E.σ E.h.length (some E.w.heap.size) j=some g:=Fo
    rwa [Af (by omega)] at this
   have:=(H.lt JO hy oP).2
   have hg:E.w.heap.size=g:=by
    have:DA E.σ E.h.length (some E.w.heap.size) E.h.length=some g:=D8;rw[Ay] at this;injection this
   omega
  ·rfl
 ·show E.B<=w'.heap.size;have:=H.size;omega
theorem step_iter (hI:∀w w',I w->Below B0 w w'->I w')(H:Good G I B0 E){w':World}{s:List UInt8}{p:Nat}
  (hw:Below E.w.heap.size E.w w') (D9:w'.heap[E.w.heap.size]?=some (.stringIter ⟨s.toArray⟩ p)):
  Step G I B0 E {E with w:=w',σ:=DA E.σ E.h.length (some E.w.heap.size),h:=E.h++[.iter s p]}:=by
 have CD:E.w.heap.size<w'.heap.size:=(Array.getElem?_eq_some_iff.1 D9).1
 have L:=MK (x:=.iter s p) (o:=some E.w.heap.size) H hw (fun g hg=>by injection hg with hg;omega)
 have hold:∀(id:Nat) y,id<E.h.length->(E.h++[Blk.iter s p])[id]?=some y->E.h[id]?=some y:=fun id y hi hy=>by
  rwa [List.getElem?_append_left hi] at hy
 have Bt:∀(id:Nat) y,(E.h++[Blk.iter s p])[id]?=some y->(id<E.h.length/\E.h[id]?=some y)\/(id=E.h.length/\y=.iter s p):=by
  intro id y hy
  by_cases hid:id<E.h.length
  ·exact .inl ⟨hid,hold id y hid hy⟩
  ·have MO:id=E.h.length:=by
    have:=(List.getElem?_eq_some_iff.1 hy).1;simp at this;omega
   subst MO;simp at hy;exact .inr ⟨rfl,hy.symm⟩
 have hσ:∀{id:Nat} {g:Nat},id<E.h.length->DA E.σ E.h.length (some E.w.heap.size) id=some g->E.σ id=some g:=fun hi h=>by
  rwa [Af (by omega)] at h
 have GG:∀{g:Nat},DA E.σ E.h.length (some E.w.heap.size) E.h.length=some g->E.w.heap.size=g:=fun h=>by
  rw[Ay] at h;injection h
 refine⟨L,⟨fun id y hy=> ?_,?_,fun g gs hg=>At.mono L _ _ (H.Fc g gs hg),H.U,Mr H hw.size (fun g hg=>by injection hg with hg;omega),?_,H.B0,hI _ _ H.I (hw.mono (Nat.le_trans H.B0 H.size))⟩,rfl,hw.mono H.size,Jm (fun g hg=>hw.block g hg) (fun g hg=>by injection hg with hg;omega)⟩
 ·rcases Bt id y hy with ⟨hid,Fq⟩|⟨rfl,rfl⟩
  ·have h:=H.Ld id y Fq
   cases y with
   |mem t' ds=>
    obtain⟨g,d,Mw,h1,h2,h3,h4,h5,h6⟩:=h;have hg:=(Array.getElem?_eq_some_iff.1 h3).1
    refine⟨g,d,Mw,by show DA E.σ E.h.length _ id=_;rw[Af (by omega)];exact h1,h2,(hw.block g hg).trans h3,h4,fun j hj=>(hw.frozen (p:=⟨g,j,none⟩) hg).trans (h5 j hj),fun j z hz=> ?_⟩
    obtain⟨v,k1,k2,k3⟩:=h6 j z hz;exact⟨v,k1,k2,Rel.mono L _ _ k3⟩
   |grow n sz e=>
    intro g hg;have CY:=hσ hid hg;exact⟨(h g CY).1,Nat.lt_of_lt_of_le (h g CY).2 hw.size⟩
   |dead=>trivial
   |iter s p=>
    obtain⟨g,h1,h2,h3⟩:=h
    exact⟨g,by show DA E.σ E.h.length _ id=_;rw[Af (by omega)];exact h1,h2,(hw.block g (Array.getElem?_eq_some_iff.1 h3).1).trans h3⟩
   |Bi n t' EB eA dz PG rows=>exact Ea.Bi L (Af (by omega)) rfl (fun g _ hg=>hw.block g hg) (fun _ _ _ h=>h.kept rfl rfl (fun g _ _ hg=>hw.block g hg)) h
  ·exact⟨E.w.heap.size,Ay _ _ _,H.size,D9⟩
 ·intro i j x y g hi hj hx hy D8 Fo
  rcases Bt i x hi with ⟨ZB,Ja⟩|⟨rfl,rfl⟩<;>rcases Bt j y hj with ⟨KX,JO⟩|⟨rfl,rfl⟩
  ·exact H.inj i j x y g Ja JO hx hy (hσ ZB D8) (hσ KX Fo)
  ·have:=(H.lt Ja hx (hσ ZB D8)).2;have:=GG Fo;omega
  ·have:=(H.lt JO hy (hσ KX Fo)).2;have:=GG D8;omega
  ·rfl
 ·show E.B<=w'.heap.size;have:=H.size;omega
theorem KM (hI:∀w w',I w->Below B0 w w'->I w')(H:Good G I B0 E){w':World}{n sz:Nat}{e:TypeId}{o:Option Nat}
  (hw:Below E.w.heap.size E.w w') (ho:∀g,o=some g->E.w.heap.size<=g/\g<w'.heap.size):
  Step G I B0 E {E with w:=w',σ:=DA E.σ E.h.length o,h:=E.h++[.grow n sz e]}:=by
 have L:=MK (x:=.grow n sz e) (o:=o) H hw (fun g hg=>(ho g hg).1)
 have hold:∀(id:Nat) y,id<E.h.length->(E.h++[Blk.grow n sz e])[id]?=some y->E.h[id]?=some y:=fun id y hi hy=>by
  rwa [List.getElem?_append_left hi] at hy
 have Bt:∀(id:Nat) y,(E.h++[Blk.grow n sz e])[id]?=some y->(id<E.h.length/\E.h[id]?=some y)\/(id=E.h.length/\y=.grow n sz e):=by
  intro id y hy
  by_cases hid:id<E.h.length
  ·exact .inl ⟨hid,hold id y hid hy⟩
  ·have MO:id=E.h.length:=by
    have:=(List.getElem?_eq_some_iff.1 hy).1;simp at this;omega
   subst MO;simp at hy;exact .inr ⟨rfl,hy.symm⟩
 have hσ:∀{id:Nat} {g:Nat},id<E.h.length->DA E.σ E.h.length o id=some g->E.σ id=some g:=fun hi h=>by
  rwa [Af (by omega)] at h
 have GG:∀{g:Nat},DA E.σ E.h.length o E.h.length=some g->o=some g:=fun h=>by rwa [Ay] at h
 refine⟨L,⟨fun id y hy=> ?_,?_,fun g gs hg=>At.mono L _ _ (H.Fc g gs hg),H.U,Mr H hw.size (fun g hg=>by exact(ho g hg).1),?_,H.B0,hI _ _ H.I (hw.mono (Nat.le_trans H.B0 H.size))⟩,rfl,hw.mono H.size,Jm (fun g hg=>hw.block g hg) (fun g hg=>(ho g hg).1)⟩
 ·rcases Bt id y hy with ⟨hid,Fq⟩|⟨rfl,rfl⟩
  ·have h:=H.Ld id y Fq
   cases y with
   |mem t' ds=>
    obtain⟨g,d,Mw,h1,h2,h3,h4,h5,h6⟩:=h;have hg:=(Array.getElem?_eq_some_iff.1 h3).1
    refine⟨g,d,Mw,by show DA E.σ E.h.length _ id=_;rw[Af (by omega)];exact h1,h2,(hw.block g hg).trans h3,h4,fun j hj=>(hw.frozen (p:=⟨g,j,none⟩) hg).trans (h5 j hj),fun j z hz=> ?_⟩
    obtain⟨v,k1,k2,k3⟩:=h6 j z hz;exact⟨v,k1,k2,Rel.mono L _ _ k3⟩
   |grow n sz e=>
    intro g hg;have CY:=hσ hid hg;exact⟨(h g CY).1,Nat.lt_of_lt_of_le (h g CY).2 hw.size⟩
   |dead=>trivial
   |iter s p=>
    obtain⟨g,h1,h2,h3⟩:=h
    exact⟨g,by show DA E.σ E.h.length _ id=_;rw[Af (by omega)];exact h1,h2,(hw.block g (Array.getElem?_eq_some_iff.1 h3).1).trans h3⟩
   |Bi n t' EB eA dz PG rows=>exact Ea.Bi L (Af (by omega)) rfl (fun g _ hg=>hw.block g hg) (fun _ _ _ h=>h.kept rfl rfl (fun g _ _ hg=>hw.block g hg)) h
  ·intro g hg;have:=ho g (GG hg);have hs:=H.size
   exact⟨by show E.B<=g;omega,this.2⟩
 ·intro i j x y g hi hj hx hy D8 Fo
  rcases Bt i x hi with ⟨ZB,Ja⟩|⟨rfl,rfl⟩<;>rcases Bt j y hj with ⟨KX,JO⟩|⟨rfl,rfl⟩
  ·exact H.inj i j x y g Ja JO hx hy (hσ ZB D8) (hσ KX Fo)
  ·have:=(H.lt Ja hx (hσ ZB D8)).2;have:=(ho g (GG Fo)).1;omega
  ·have:=(H.lt JO hy (hσ KX Fo)).2;have:=(ho g (GG D8)).1;omega
  ·rfl
 ·show E.B<=w'.heap.size;have:=H.size;have:=hw.size;omega
theorem fC (hI:∀w w',I w->Below B0 w w'->I w')(H:Good G I B0 E){w':World}{rows:List (Nat×List AV)}{sz kc ke ksz:Nat}{c:Array Value}{t:TypeId}
  (hw:Below E.w.heap.size E.w w') (D9:w'.heap[E.w.heap.size]?=some (.cells c t)) (oL:0<sz) (OU:∀r∈rows,r.2.length=sz) (hlen:rows.length*sz<=c.size)
  (Fu:∀(j:Nat) x,(rows.map (·.2)).reverse.flatten[j]?=some x->∃v,c[j]?=some v/\v.oneCell'=true/\Rel E x v)
  (eD:∀(d:Nat) r v s es own,rows[d]?=some r->r.2[kc]?=some (.sl s es own)->c[(rows.length-1-d)*sz+kc]?=some v->own=none/\es.length<=r.1/\(es.length=r.1->(0<es.length->ksz=s)/\Ch E E.h.length (rows.length-1-d) r.1 ke ksz v)):
  Step G I B0 E {E with w:=w',σ:=DA E.σ E.h.length (some E.w.heap.size),h:=E.h++[.Bi 0 t sz kc ke ksz rows]}:=by
 have CD:E.w.heap.size<w'.heap.size:=(Array.getElem?_eq_some_iff.1 D9).1
 have L:=MK (x:=.Bi 0 t sz kc ke ksz rows) (o:=some E.w.heap.size) H hw (fun g hg=>by injection hg with hg;omega)
 have hold:∀(id:Nat) y,id<E.h.length->(E.h++[Blk.Bi 0 t sz kc ke ksz rows])[id]?=some y->E.h[id]?=some y:=fun id y hi hy=>by
  rwa [List.getElem?_append_left hi] at hy
 have Bt:∀(id:Nat) y,(E.h++[Blk.Bi 0 t sz kc ke ksz rows])[id]?=some y->(id<E.h.length/\E.h[id]?=some y)\/(id=E.h.length/\y=.Bi 0 t sz kc ke ksz rows):=by
  intro id y hy
  by_cases hid:id<E.h.length
  ·exact .inl ⟨hid,hold id y hid hy⟩
  ·have MO:id=E.h.length:=by
    have:=(List.getElem?_eq_some_iff.1 hy).1;simp at this;omega
   subst MO;simp at hy;exact .inr ⟨rfl,hy.symm⟩
 have hσ:∀{id:Nat} {g:Nat},id<E.h.length->DA E.σ E.h.length (some E.w.heap.size) id=some g->E.σ id=some g:=fun hi h=>by
  rwa [Af (by omega)] at h
 have GG:∀{g:Nat},DA E.σ E.h.length (some E.w.heap.size) E.h.length=some g->E.w.heap.size=g:=fun h=>by
  rw[Ay] at h;injection h
 refine⟨L,⟨fun id y hy=> ?_,?_,fun g gs hg=>At.mono L _ _ (H.Fc g gs hg),H.U,Mr H hw.size (fun g hg=>by injection hg with hg;omega),?_,H.B0,hI _ _ H.I (hw.mono (Nat.le_trans H.B0 H.size))⟩,rfl,hw.mono H.size,Jm (fun g hg=>hw.block g hg) (fun g hg=>by injection hg with hg;omega)⟩
 ·rcases Bt id y hy with ⟨hid,Fq⟩|⟨rfl,rfl⟩
  ·have h:=H.Ld id y Fq
   cases y with
   |mem t' ds=>
    obtain⟨g,d,Mw,h1,h2,h3,h4,h5,h6⟩:=h;have hg:=(Array.getElem?_eq_some_iff.1 h3).1
    refine⟨g,d,Mw,by show DA E.σ E.h.length _ id=_;rw[Af (by omega)];exact h1,h2,(hw.block g hg).trans h3,h4,fun j hj=>(hw.frozen (p:=⟨g,j,none⟩) hg).trans (h5 j hj),fun j z hz=> ?_⟩
    obtain⟨v,k1,k2,k3⟩:=h6 j z hz;exact⟨v,k1,k2,Rel.mono L _ _ k3⟩
   |grow n sz e=>
    intro g hg;have CY:=hσ hid hg;exact⟨(h g CY).1,Nat.lt_of_lt_of_le (h g CY).2 hw.size⟩
   |dead=>trivial
   |iter s p=>
    obtain⟨g,h1,h2,h3⟩:=h
    exact⟨g,by show DA E.σ E.h.length _ id=_;rw[Af (by omega)];exact h1,h2,(hw.block g (Array.getElem?_eq_some_iff.1 h3).1).trans h3⟩
   |Bi n t' EB eA dz PG rows=>exact Ea.Bi L (Af (by omega)) rfl (fun g _ hg=>hw.block g hg) (fun _ _ _ h=>h.kept rfl rfl (fun g _ _ hg=>hw.block g hg)) h
  ·refine⟨E.w.heap.size,c,Ay _ _ _,H.size,D9,oL,OU,hlen,fun j z hz=> ?_,fun d r v s es own k1 k2 k3=> ?_⟩
   ·obtain⟨v,k1,k2,k3⟩:=Fu j z hz;exact⟨v,k1,k2,Rel.mono L _ _ k3⟩
   ·obtain⟨q0,q1,q2⟩:=eD d r v s es own k1 k2 k3
    refine⟨q0,q1,fun e=> ?_⟩
    obtain⟨q3,q4⟩:=q2 e
    exact⟨q3,q4.kept rfl rfl (fun g _ _ hg=>hw.block g hg)⟩
 ·intro i j x y g hi hj hx hy D8 Fo
  rcases Bt i x hi with ⟨ZB,Ja⟩|⟨rfl,rfl⟩<;>rcases Bt j y hj with ⟨KX,JO⟩|⟨rfl,rfl⟩
  ·exact H.inj i j x y g Ja JO hx hy (hσ ZB D8) (hσ KX Fo)
  ·have:=(H.lt Ja hx (hσ ZB D8)).2;have:=GG Fo;omega
  ·have:=(H.lt JO hy (hσ KX Fo)).2;have:=GG D8;omega
  ·rfl
 ·show E.B<=w'.heap.size;have:=H.size;omega
end
end Go.Ai
