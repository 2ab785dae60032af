/-
  What the operations do: those that make no memory.
-/
import Derived.Test.YtopjpnhgnopbiaaGreatDoorAAiSteps
set_option linter.unusedVariables false
set_option linter.unusedSimpArgs false
set_option linter.unnecessarySimpa false
namespace Go.Ai
open Go.RowKit
def bt (E:Env):AV->Deferred->Prop
 |.fn f first cap,d=>∃b,d.target=.fn f b/\BT E first d.args.toList/\BT E cap b.toList
 |_,_=>False
def Fl (E:Env):List AV->List Deferred->Prop
 |[],ds=>ds=[]
 |v::l,ds=>∃d r,ds=d::r/\bt E v d/\Fl E l r
def br (E:Env):AV->List Deferred->Prop
 |.C9 l,ds=>Fl E l ds
 |_,_=>True
theorem bt.mono {E E':Env}(L:Le E E'):∀{v:AV} {d:Deferred},bt E v d->bt E' v d
 |.fn _ _ _,_,h=>by
  obtain⟨b,h1,h2,h3⟩:=h;exact⟨b,h1,BT.mono L _ _ h2,BT.mono L _ _ h3⟩
theorem Fl.mono {E E':Env}(L:Le E E'):∀{l:List AV} {ds:List Deferred},Fl E l ds->Fl E' l ds
 |[],_,h=>h
 |_::l,_,h=>by
  obtain⟨d,r,h1,h2,h3⟩:=h;exact⟨d,r,h1,h2.mono L,h3.mono L⟩
theorem br.mono {E E':Env}(L:Le E E'){v:AV}{ds:List Deferred}(h:br E v ds):br E' v ds:=by
 cases v with
 |C9 l=>exact Fl.mono L h
 |_=>trivial
def AR (E:Env)(F:Fr)(a:Act):Prop:=
 (∀s,((lk F s).1=true->Rel E (lk F s).2 (a.tmps.getD s undef))/\((lk F s).1=false->a.tmps.getD s undef=undef))/\br E (lk F dS).2 a.defers
theorem AR.mono {E E':Env}(L:Le E E'){F:Fr}{a:Act}(h:AR E F a):AR E' F a:=⟨fun s=>⟨fun hg=>Rel.mono L _ _ ((h.1 s).1 hg),(h.1 s).2⟩,h.2.mono L⟩
theorem AR.put {E:Env}{F:Fr}{a:Act}(h:AR E F a){d:Option Nat}{n:Nat}(hd:F6 n d=true)(hn:n<=a.tmps.size){g:Bool}{v:AV}{c:Value}
  (h1:g=true->Rel E v c) (h2:g=false->c=undef):AR E (Av F d (g,v)) (a.put d c):=by
 cases d with
 |none=>exact h
 |some d=>
  have oy:d+1<=n/\d≠dS:=by
   simp only[F6,Bool.and_eq_true,Bool.not_eq_true'] at hd
   exact⟨Nat.le_of_ble_eq_true hd.1,fun e=>by rw[e] at hd;simp[Nat.beq_refl] at hd⟩
  have BC:d<a.tmps.size:=by omega
  have hdb:Nat.beq d dS=false:=by
   cases hb:Nat.beq d dS with
   |false=>rfl
   |true=>exact absurd (Nat.eq_of_beq_eq_true hb) oy.2
  refine⟨?_,by simp only[Av,lk,hdb,cond_false,Act.put];exact h.2⟩
  intro s;simp only[Av,lk,Act.put]
  by_cases hs:d=s
  ·subst hs;simp only[Nat.beq_refl,cond_true]
   have FN:(a.tmps.setIfInBounds d c).getD d undef=c:=by simp[Array.getD,BC]
   rw[FN];exact⟨h1,h2⟩
  ·have hb:Nat.beq d s=false:=by
    cases hb:Nat.beq d s with
    |false=>rfl
    |true=>exact absurd (Nat.eq_of_beq_eq_true hb) hs
   have FN:(a.tmps.setIfInBounds d c).getD s undef=a.tmps.getD s undef:=by
    by_cases yl:s<a.tmps.size
    ·simp[Array.getD,yl,hs]
    ·simp[Array.getD,yl]
   simp only[hb,cond_false];rw[FN];exact h.1 s
theorem ED (E:Env):∀v:Value,Rel E (ofConst v) v
 |.bool _=>rfl
 |.int _ _=>rfl
 |.float _ _=>trivial
 |.complex _ _ _=>trivial
 |.string s=>by simp[ofConst,Rel]
 |.pointer none=>rfl
 |.pointer (some _)=>trivial
 |.slice none 0 0=>⟨⟨none,0,rfl,Nat.le_refl _,by simp[maxLen],by simp,fun h=>absurd rfl h⟩,trivial⟩
 |.slice none (_+1) _=>trivial
 |.slice none 0 (_+1)=>trivial
 |.slice (some _) _ _=>trivial
 |.map _=>trivial
 |.chan _=>trivial
 |.func _ _ _=>trivial
 |.nilFunc=>rfl
 |.iface _ _=>trivial
 |.nilIface=>rfl
 |.agg _=>trivial
 |.tuple _=>trivial
section
variable {G:Nat->Option (List AV)}{I:World->Prop}{B0:Nat}{E:Env}
theorem Kr (E:Env):∀{vs:List Value},(vs.all (·.oneCell'))=true->Ae E (vs.map ofConst) vs
 |[],_=>rfl
 |v::vs,h=>by
  simp only[List.all_cons,Bool.and_eq_true] at h;exact⟨v,vs,rfl,h.1,ED E v,Kr E h.2⟩
theorem UC (E:Env)(v:Value):Rel E (Ql v) v:=by
 unfold Ql;split
 ·rename_i a;split
  ·rename_i h;exact⟨a,rfl,Kr E h⟩
  ·trivial
 ·exact ED E v
theorem Gf (H:Good G I B0 E){F:Fr}{a:Act}(hf:AR E F a)(x:Operand):
  ((ev G F x).1=true->Rel E (ev G F x).2 (a.eval x))/\((ev G F x).1=false->a.eval x=undef):=by
 cases x with
 |tmp t=>exact hf.1 t
 |const v=>exact⟨fun _=>UC E v,fun h=>by cases h⟩
 |global g=>
  refine⟨fun _=> ?_,fun h=>by cases h⟩
  simp only[ev,Act.eval]
  cases hg:G g with
  |none=>trivial
  |some cs=>exact⟨_,rfl,H.Fc g cs hg⟩
 |func f=>exact⟨fun _=>⟨_,_,rfl,rfl,rfl⟩,fun h=>by cases h⟩
theorem Ah (H:Good G I B0 E){F:Fr}{a:Act}(hf:AR E F a){x:Operand}{g:Bool}{v:AV}(h:ev G F x=(g,v))(hg:g=true):Rel E v (a.eval x):=by
 have:=(Gf H hf x).1 (by rw[h];exact hg)
 rwa [h] at this
theorem U7 (H:Good G I B0 E){F:Fr}{a:Act}(hf:AR E F a)(xs:List Operand)(h:(Nw G F xs).1=true):BT E (Nw G F xs).2 (xs.map a.eval):=by
 induction xs with
 |nil=>simp[Nw,BT]
 |cons x xs ih=>
  simp only[Nw,List.all_cons,Bool.and_eq_true] at h;exact⟨_,_,rfl,(Gf H hf x).1 h.1,ih h.2⟩
def Au (P:Program)(G:Nat->Option (List AV))(I:World->Prop)(B0:Nat)(E:Env)(a:Act)(o:Oper)(g:Bool)(v:AV)(h':Hp):Prop:=
 ∃c E',((execOp a.eval o).run P E.w=.ok (.value c) E'.w\/((execOp a.eval o).run P E.w=.ok .skip E'.w/\c=undef))/\Step G I B0 E E'/\E'.h=h'/\(g=true->Rel E' v c)/\(g=false->c=undef)
theorem Au.same (H:Good G I B0 E){P:Program}{a:Act}{o:Oper}{v:AV}(c:Value)(hr:(execOp a.eval o).run P E.w=.ok (.value c) E.w)(hv:Rel E v c):Au P G I B0 E a o true v E.h:=
 ⟨c,E,.inl hr,Step.refl H,rfl,fun _=>hv,fun h=>by cases h⟩
variable {P:Program}{F:Fr}{a:Act}{d:Option Tmp}{ty:TypeId}{pos:String}{after:Array Edge}{gd:Option (Nat×Bool)}
theorem fX (c:Bool){x y:AV}{u v:Value}{gx gy:Bool}(hx:gx=true->Rel E x u)(hy:gy=true->Rel E y v):cond c gx gy=true->Rel E (UL c x y) (if c then u else v):=by
 intro hg
 have key:Rel E (cond c x y) (if c then u else v):=by
  cases c
  ·exact hy hg
  ·exact hx hg
 unfold UL;split
 ·cases c
  ·have:=hy hg;simpa[cond,Rel] using this
  ·have:=hx hg;simpa[cond,Rel] using this
 ·rename_i k p k' q
  by_cases hk:k=k'
  ·subst hk;simp only[decide_true,cond_true];cases c
   ·have:=hy hg;simpa[cond,Rel] using this
   ·have:=hx hg;simpa[cond,Rel] using this
  ·simp only[hk,decide_false,cond_false];exact key
 ·cases c
  ·have:=hy hg;simpa[cond,Rel] using this
  ·have:=hx hg;simpa[cond,Rel] using this
 ·exact key
theorem jK (c x y:Bool):(x&&y||cond c x y)=cond c x y:=by cases c<;>cases x<;>cases y<;>rfl
theorem kM (H:Good G I B0 E)(hf:AR E F a)(c x y:Operand){c':Bool}(hc:ev G F c=(true,.bool c')):
  Au P G I B0 E a ⟨d,.pick c x y,ty,pos,after,gd⟩ (cond c' (ev G F x).1 (ev G F y).1) (UL c' (ev G F x).2 (ev G F y).2) E.h:=by
 have h1:a.eval c=.bool c':=Ah H hf hc rfl
 refine⟨if c' then a.eval x else a.eval y,E,.inl ?_,Step.refl H,rfl,fX c' (Gf H hf x).1 (Gf H hf y).1,fun hg=> ?_⟩
 ·simp[execOp,h1,asBool]
 ·cases c'
  ·exact(Gf H hf y).2 hg
  ·exact(Gf H hf x).2 hg
theorem NG (P:Program)(t:TypeId){dd:TypeDesc}(h:P.underlying t=some dd)(w:World):(isAgg t).run P w=.ok (GF P t) w:=by
 unfold isAgg GF;rw[Sem.run_bind,run_underlying h,Result.andThen_ok,h]
 cases dd<;>rfl
def pd (E:Env)(cs:List AV)(a:Addr):Prop:=∀(j:Nat) x,cs[j]?=some x->∃v,E.w.cell? (a.add j)=some v/\v.oneCell'=true/\Rel E x v
theorem At.vH {cs:List AV}{a:Addr}(h:At E cs a):pd E cs a:=fun j x hj=>by
 obtain⟨v,h1,h2,_,h4⟩:=At.iff.1 h j x hj;exact⟨v,h1,h2,h4⟩
theorem pd.vals {cs:List AV}{a:Addr}(h:pd E cs a):∃vs:List Value,Ae E cs vs/\∀(j:Nat) v,vs[j]?=some v->E.w.cell? (a.add j)=some v:=by
 induction cs generalizing a with
 |nil=>exact⟨[],rfl,by simp⟩
 |cons c cs ih=>
  obtain⟨v,h1,h2,h3⟩:=h 0 c rfl
  obtain⟨vs,k1,k2⟩:=ih (a:=a.add 1) (fun j x hj=>by
   have:=h (j+1) x (by simpa using hj)
   rwa [Ep,Nat.add_comm 1 j])
  refine⟨v::vs,⟨v,vs,rfl,h2,h3,k1⟩,fun j u hu=> ?_⟩
  cases j with
  |zero=>
   simp only[List.getElem?_cons_zero,Option.some.injEq] at hu;subst hu;simpa[Addr.add] using h1
  |succ j=>
   have:=k2 j u (by simpa using hu)
   rwa [Ep,Nat.add_comm 1 j] at this
theorem Ae.length {E:Env}{xs:List AV}{vs:List Value}(h:Ae E xs vs):vs.length=xs.length:=(Ae.iff.1 h).1
theorem Ae.take {E:Env}{xs:List AV}{vs:List Value}(h:Ae E xs vs)(n:Nat):Ae E (xs.take n) (vs.take n):=by
 obtain⟨hl,h⟩:=Ae.iff.1 h
 refine Ae.iff.2 ⟨by simp[hl],fun j c v hc hv=> ?_⟩
 rw[List.getElem?_take] at hc hv;split at hc
 ·rename_i hj;rw[if_pos hj] at hv;exact h j c v hc hv
 ·cases hc
theorem Vw {E:Env}{t:TypeId}{cs:List AV}{v:AV}{ad:Addr}(h:rd P t cs=some v)(hr:pd E cs ad):
  ∃c,(loadVar t ad).run P E.w=.ok c E.w/\Rel E v c:=by
 unfold rd at h;split at h
 ·rename_i dd i hu hi;have pA:=NG P t hu E.w;unfold loadVar;rw[Sem.run_bind,pA,Result.andThen_ok]
  cases hb:GF P t with
  |true=>
   rw[hb] at h;simp only at h
   cases hl:Nat.ble i.size cs.length with
   |false=>simp[hl] at h
   |true=>
    rw[hl] at h;simp only[cond_true,Option.some.injEq] at h;subst h;have hle:i.size<=cs.length:=Nat.le_of_ble_eq_true hl
    obtain⟨vs,k1,k2⟩:=(show pd E (cs.take i.size) ad from fun j x hj=>by
     rw[List.getElem?_take] at hj;split at hj
     ·exact hr j x hj
     ·cases hj).vals
    have hlen:vs.length=i.size:=by rw[k1.length,List.length_take];omega
    refine⟨.agg vs.toArray,?_,⟨_,rfl,by simpa using k1⟩⟩
    have:=run_loadCells_list (P:=P) E.w ad vs k2;rw[hlen] at this;simp[sizeOf,typeInfo,hi,this]
  |false=>
   rw[hb] at h;simp only at h
   cases cs with
   |nil=>simp at h
   |cons c cs=>
    simp only[Option.some.injEq] at h;subst h;obtain⟨v,h1,_,h3⟩:=hr 0 c rfl;refine⟨v,?_,h3⟩
    have Ll:E.w.cell? ad=some v:=by simpa[Addr.add] using h1
    simp[Ll]
 ·cases h
end
end Go.Ai
