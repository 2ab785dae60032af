/-
  From a contract to a row: arguments as they are read, the call in a world, the arguments behind it. No statement about the program is made here.
-/
import Derived.Test.YtopjpnhgnopbiaaGreatDoorAAiOpen
import Derived.Test.YtopjpnhgnopbiaaGreatDoorAAiPrims
import Derived.Test.YtopjpnhgnopbiaaGreatDoorAAiMono
import Derived.WideKeyArgs
set_option linter.unusedVariables false
set_option linter.unusedSimpArgs false
set_option linter.unnecessarySimpa false
namespace Go.Ai
open Go.RowKit Go.ChangeShapes Go.WideShapes
theorem L9 :∀{a b:List AV},AO.Ad (a++b)=(AO.Ad a&&AO.Ad b)
 |[],b=>by simp[AO.Ad]
 |x::r,b=>by simp only[List.cons_append,AO.Ad,L9 (a:=r),Bool.and_assoc]
theorem IA :∀{l:List (List AV)},(∀x∈l,AO.Ad x=true)->AO.Ad l.flatten=true
 |[],_=>rfl
 |x::r,h=>by
  rw[List.flatten_cons,L9,h x (by simp),IA fun y hy=>h y (by simp[hy])]
  rfl
theorem QU :∀{l:List (List AV)},(∀x∈l,AO.Ad x=true)->AO.BJ l=true
 |[],_=>rfl
 |x::r,h=>by
  rw[AO.BJ,h x (by simp),QU fun y hy=>h y (by simp[hy])]
  rfl
theorem Xj {α β:Type}{q:α->β->Prop}:∀{l:List α} {m:List β},jf q l m->∀b∈m,∃a∈l,q a b
 |[],[],_,b,hb=>by cases hb
 |[],_::_,h,_,_=>h.elim
 |_::_,[],h,_,_=>h.elim
 |a::l,c::m,h,b,hb=>by
  rcases List.mem_cons.1 hb with rfl|hb
  ·exact⟨a,by simp,h.1⟩
  ·obtain⟨x,hx,hq⟩:=Xj h.2 b hb
   exact⟨x,by simp[hx],hq⟩
theorem Lm {P:Program}:∀{n:Nat} {t:TypeId} {xs:List AV},wt P n t xs->AO.Ad xs=true
 |0,_,_,h=>h.elim
 |n+1,t,xs,h=>by
  simp only[wt] at h;split at h
  ·obtain⟨b,rfl⟩:=h;rfl
  ·obtain⟨z,_,rfl⟩:=h;rfl
  ·obtain⟨s,_,rfl⟩:=h;rfl
  ·obtain⟨es,_,rfl,hm⟩:=h;simp only[AO.Ad,AO,Option.isNone_none,Bool.true_and,Bool.and_true]
   exact QU fun x hx=>Lm (hm x hx)
  ·obtain⟨eG,hm,rfl⟩:=h
   refine IA fun x hx=> ?_
   obtain⟨f,_,hf⟩:=Xj hm x hx;exact Lm hf
  ·obtain⟨eG,_,hm,rfl⟩:=h
   exact IA fun x hx=>Lm (hm x hx)
  ·exact h.elim
def Rr (P:Program)(n:Nat)(t:TypeId)(v:AV):Prop:=match GF P t with
 |true=>∃xs,v=.agg xs/\wt P n t xs
 |false=>wt P n t [v]
theorem Zx {P:Program}{n:Nat}{t:TypeId}{v:AV}(h:Rr P n t v):AO v=true:=by
 unfold Rr at h;split at h
 ·obtain⟨xs,rfl,h⟩:=h;rw[AO];exact Lm h
 ·have:=Lm h;simpa[AO.Ad] using this
section
variable {H:Type}{enc:TypeId×Value->H}{P:Program}{w:World}
theorem jd {S:List TypeId}(hS:Hz P S S=true){t:TypeId}(ht:a6 S t=true){r:Reach}{b0:Nat}{v:Value}{d:DataW H}{ps:List MemPlace}{sp:Nat->Bool}{held:Bool}(Ib:Value.okWide P w r b0 t v)(h:DataW.Trod enc P w 0 sp held t v d ps):
  ∃n x,Rr P n t x/\Rel (start w) x v:=by
 obtain⟨n,xs,hw,hr⟩:=lV hS ht h;have hc:=Lc hS ht
 cases ha:GF P t with
 |true=>
  refine⟨n,.agg xs,by unfold Rr;rw[ha];exact⟨xs,rfl,hw⟩,?_⟩
  have:∃cs,v=.agg cs:=by
   unfold GF at ha;unfold Value.okWide at Ib;split at ha
   ·rename_i fs hu;rw[hu] at Ib;obtain⟨cs,h,_⟩:=Ib;exact⟨cs,h⟩
   ·rename_i m e hu;rw[hu] at Ib;obtain⟨cs,h,_⟩:=Ib;exact⟨cs,h⟩
   ·cases ha
  obtain⟨cs,rfl⟩:=this;exact⟨cs,rfl,hr⟩
 |false=>
  have PI:∃x,xs=[x]:=by
   cases n with
   |zero=>exact hw.elim
   |succ n=>
    simp only[wt] at hw;unfold GF at ha;split at hw
    ·obtain⟨b,rfl⟩:=hw;exact⟨_,rfl⟩
    ·obtain⟨z,_,rfl⟩:=hw;exact⟨_,rfl⟩
    ·obtain⟨s,_,rfl⟩:=hw;exact⟨_,rfl⟩
    ·obtain⟨es,_,rfl,_⟩:=hw;exact⟨_,rfl⟩
    ·rename_i hu;rw[hu] at ha;cases ha
    ·rename_i hu;rw[hu] at ha;cases ha
    ·exact hw.elim
  obtain⟨x,rfl⟩:=PI
  refine⟨n,x,by unfold Rr;rw[ha];exact hw,?_⟩
  have DY:v.cells.toList=[v]:=by
   unfold GF at ha;unfold Value.okWide at Ib;split at hc
   ·rename_i hu;simp only[hu,Cell.okWide] at Ib
    cases v<;>simp_all[Cell.ok,Value.cells]
   ·rename_i hu;simp only[hu,Cell.okWide] at Ib
    cases v<;>simp_all[Cell.ok,Value.cells]
   ·rename_i hu;simp only[hu,Cell.okWide] at Ib
    cases v<;>simp_all[Cell.ok,Value.cells]
   ·rename_i hu;simp only[hu,Cell.okWide] at Ib
    cases v<;>simp_all[Cell.ok,Value.cells]
   ·rename_i hu;rw[hu] at ha;cases ha
   ·rename_i hu;rw[hu] at ha;cases ha
   ·cases hc
  rw[DY] at hr;obtain⟨u,r,he,_,h2,h3⟩:=hr
  injection he with he _
  subst he;exact h2
def bN (P:Program)(ts:List TypeId)(vs:List AV):Prop:=jf (fun t v=>∃n,Rr P n t v) ts vs
theorem Tp {S:List TypeId}(hS:Hz P S S=true){r:Reach}{b0:Nat}{sp:Nat->Bool}{held:Bool}:∀{ts:List TypeId} {args:List Value} {ds:List (DataW H)} {ps:List MemPlace},(∀t∈ts,a6 S t=true)->
  (∀(j:Nat) t v,ts[j]?=some t->args[j]?=some v->Value.okWide P w r b0 t v)->DataW.TrodAll enc P w 0 sp held ts args ds ps->∃vs,bN P ts vs/\BT (start w) vs args
 |[],args,ds,ps,_,_,h=>by
  obtain⟨rfl,_,_⟩:=trodAll_nil h;exact⟨[],trivial,rfl⟩
 |t::ts,args,ds,ps,Hv,Ib,h=>by
  obtain⟨v,uL,d,ds',p,q,rfl,rfl,rfl,h1,h2⟩:=trodAll_cons h
  obtain⟨n,x,k1,k2⟩:=jd hS (Hv t (by simp)) (Ib 0 t v rfl rfl) h1
  obtain⟨xs,k3,k4⟩:=Tp hS (fun u hu=>Hv u (by simp[hu])) (fun j u z hj hz=>Ib (j+1) u z (by simpa using hj) (by simpa using hz)) h2
  exact⟨x::xs,⟨⟨n,k1⟩,k3⟩,v,uL,rfl,k2,k4⟩
theorem To (hl:laidOutB P=true){W W':World}{sp:Nat->Bool}:∀{ts:List TypeId} {args:List Value} {ds:List (DataW H)} {ps:List MemPlace},(∀t∈ts,P.readableRec t=true/\t<P.types.size)->
  DataW.TrodAll enc P W 0 (fun _=>true) true ts args ds ps->(∀p∈ps,W.sameAt W' p)->(∀p∈ps,sp p.block=true)->DataW.TrodAll enc P W' 0 sp true ts args ds ps
 |[],args,ds,ps,_,h,_,_=>by
  obtain⟨rfl,rfl,rfl⟩:=trodAll_nil h;exact trodAll_mk0
 |t::ts,args,ds,ps,hr,h,hs,hp=>by
  obtain⟨v,uL,d,ds',p,q,rfl,rfl,rfl,h1,h2⟩:=trodAll_cons h
  obtain⟨r1,r2⟩:=hr t (by simp)
  exact⟨p,q,WideElems.Trod_stays hl r1 r2 h1 (fun x hx=>hs x (by simp[hx])) (fun x hx=>hp x (by simp[hx])),
   To hl (fun u hu=>hr u (by simp[hu])) h2 (fun x hx=>hs x (by simp[hx])) (fun x hx=>hp x (by simp[hx])),rfl⟩
end
section
variable {C:Bm}{I:World->Prop}{B0:Nat}
def rk (P:Program)(ts:List TypeId):Ce:=fun vs h K=>bN P ts vs/\K (.bool true) h
theorem RM {P:Program}:∀{ts:List TypeId} {vs:List AV},bN P ts vs->AO.Ad vs=true
 |[],[],_=>rfl
 |[],_::_,h=>h.elim
 |_::_,[],h=>h.elim
 |t::ts,v::vs,h=>by
  obtain⟨n,h1⟩:=h.1;rw[AO.Ad,Zx h1,RM h.2];rfl
theorem gX (S:Sound C I B0){k:Nat}{ts:List TypeId}(hc:CR C k (rk C.P ts))(hk:C.Cr k=none)(hh:C.heap k=false){W:World}{vs:List AV}{args:List Value}(hI:I W)(hB:B0<=W.heap.size)
  (Fc:∀g cs,C.G g=some cs->At (start W) cs ⟨g,0,none⟩) (hf:bN C.P ts vs) (Cd:BT (start W) vs args):
  Calls C.P k args.toArray W (fun e w'=>e=.returned (.bool true)/\Below W.heap.size W w'):=by
 have ha:B8 C k vs=vs:=by
  simp[B8,hk,hh,Aw 0 [] vs (RM hf)]
 obtain⟨v,h',⟨n0,hr⟩,hv⟩:=hc vs [] (fun v h'=>v=.bool true) (by rw[ha];exact⟨hf,rfl⟩)
 subst hv
 exact fN S (n:=n0) (by rw[hr n0 (Nat.le_refl _)];rfl) hI hB Fc Cd
end
end Go.Ai
