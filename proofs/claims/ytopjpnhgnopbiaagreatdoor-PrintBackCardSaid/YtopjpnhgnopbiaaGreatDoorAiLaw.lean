/-
  From a contract to a row: arguments as they are read, the call in a world, the arguments behind it. No statement about the program is made here.
-/
import Derived.Test.YtopjpnhgnopbiaaGreatDoorAiOpen
import Derived.Test.YtopjpnhgnopbiaaGreatDoorAiPrims
import Derived.Test.YtopjpnhgnopbiaaGreatDoorAiMono
import Derived.WideKeyArgs
set_option linter.unusedVariables false
set_option linter.unusedSimpArgs false
set_option linter.unnecessarySimpa false
namespace Go.Ai
open Go.RowKit Go.ChangeShapes Go.WideShapes
theorem ME :∀{a b:List AV},AP.Ad (a++b)=(AP.Ad a&&AP.Ad b)
 |[],b=>by simp[AP.Ad]
 |x::r,b=>by simp only[List.cons_append,AP.Ad,ME (a:=r),Bool.and_assoc]
theorem IC :∀{l:List (List AV)},(∀x∈l,AP.Ad x=true)->AP.Ad l.flatten=true
 |[],_=>rfl
 |x::r,h=>by
  rw[List.flatten_cons,ME,h x (by simp),IC fun y hy=>h y (by simp[hy])]
  rfl
theorem QX :∀{l:List (List AV)},(∀x∈l,AP.Ad x=true)->AP.BJ l=true
 |[],_=>rfl
 |x::r,h=>by
  rw[AP.BJ,h x (by simp),QX fun y hy=>h y (by simp[hy])]
  rfl
theorem Xl {α β:Type}{q:α->β->Prop}:∀{l:List α} {m:List β},jv q l m->∀b∈m,∃a∈l,q a b
 |[],[],_,b,hb=>by cases hb
 |[],_::_,h,_,_=>h.elim
 |_::_,[],h,_,_=>h.elim
 |a::l,c::m,h,b,hb=>by
  rcases List.mem_cons.1 hb with rfl|hb
  ·exact⟨a,by simp,h.1⟩
  ·obtain⟨x,hx,hq⟩:=Xl h.2 b hb
   exact⟨x,by simp[hx],hq⟩
theorem Lr {P:Program}:∀{n:Nat} {t:TypeId} {xs:List AV},wt P n t xs->AP.Ad xs=true
 |0,_,_,h=>h.elim
 |n+1,t,xs,h=>by
  simp only[wt] at h;split at h
  ·obtain⟨b,rfl⟩:=h;rfl
  ·obtain⟨z,_,rfl⟩:=h;rfl
  ·obtain⟨s,_,rfl⟩:=h;rfl
  ·obtain⟨es,_,rfl,hm⟩:=h;simp only[AP.Ad,AP,Option.isNone_none,Bool.true_and,Bool.and_true]
   exact QX fun x hx=>Lr (hm x hx)
  ·obtain⟨Xx,hm,rfl⟩:=h
   refine IC fun x hx=> ?_
   obtain⟨f,_,hf⟩:=Xl hm x hx;exact Lr hf
  ·obtain⟨Xx,_,hm,rfl⟩:=h
   exact IC fun x hx=>Lr (hm x hx)
  ·exact h.elim
def Rt (P:Program)(n:Nat)(t:TypeId)(v:AV):Prop:=match GJ P t with
 |true=>∃xs,v=.agg xs/\wt P n t xs
 |false=>wt P n t [v]
theorem Z6 {P:Program}{n:Nat}{t:TypeId}{v:AV}(h:Rt P n t v):AP v=true:=by
 unfold Rt at h;split at h
 ·obtain⟨xs,rfl,h⟩:=h;rw[AP];exact Lr h
 ·have:=Lr h;simpa[AP.Ad] using this
section
variable {H:Type}{enc:TypeId×Value->H}{P:Program}{w:World}
theorem js {S:List TypeId}(hS:H7 P S S=true){t:TypeId}(ht:bE S t=true){r:Reach}{b0:Nat}{v:Value}{d:DataW H}{ps:List MemPlace}{sp:Nat->Bool}{held:Bool}(Ie:Value.okWide P w r b0 t v)(h:DataW.Trod enc P w 0 sp held t v d ps):
  ∃n x,Rt P n t x/\Rel (start w) x v:=by
 obtain⟨n,xs,hw,hr⟩:=lr hS ht h;have hc:=Lh hS ht
 cases ha:GJ P t with
 |true=>
  refine⟨n,.agg xs,by unfold Rt;rw[ha];exact⟨xs,rfl,hw⟩,?_⟩
  have:∃cs,v=.agg cs:=by
   unfold GJ at ha;unfold Value.okWide at Ie;split at ha
   ·rename_i fs hu;rw[hu] at Ie;obtain⟨cs,h,_⟩:=Ie;exact⟨cs,h⟩
   ·rename_i m e hu;rw[hu] at Ie;obtain⟨cs,h,_⟩:=Ie;exact⟨cs,h⟩
   ·cases ha
  obtain⟨cs,rfl⟩:=this;exact⟨cs,rfl,hr⟩
 |false=>
  have PN:∃x,xs=[x]:=by
   cases n with
   |zero=>exact hw.elim
   |succ n=>
    simp only[wt] at hw;unfold GJ at ha;split at hw
    ·obtain⟨b,rfl⟩:=hw;exact⟨_,rfl⟩
    ·obtain⟨z,_,rfl⟩:=hw;exact⟨_,rfl⟩
    ·obtain⟨s,_,rfl⟩:=hw;exact⟨_,rfl⟩
    ·obtain⟨es,_,rfl,_⟩:=hw;exact⟨_,rfl⟩
    ·rename_i hu;rw[hu] at ha;cases ha
    ·rename_i hu;rw[hu] at ha;cases ha
    ·exact hw.elim
  obtain⟨x,rfl⟩:=PN
  refine⟨n,x,by unfold Rt;rw[ha];exact hw,?_⟩
  have Da:v.cells.toList=[v]:=by
   unfold GJ at ha;unfold Value.okWide at Ie;split at hc
   ·rename_i hu;simp only[hu,Cell.okWide] at Ie
    cases v<;>simp_all[Cell.ok,Value.cells]
   ·rename_i hu;simp only[hu,Cell.okWide] at Ie
    cases v<;>simp_all[Cell.ok,Value.cells]
   ·rename_i hu;simp only[hu,Cell.okWide] at Ie
    cases v<;>simp_all[Cell.ok,Value.cells]
   ·rename_i hu;simp only[hu,Cell.okWide] at Ie
    cases v<;>simp_all[Cell.ok,Value.cells]
   ·rename_i hu;rw[hu] at ha;cases ha
   ·rename_i hu;rw[hu] at ha;cases ha
   ·cases hc
  rw[Da] at hr;obtain⟨u,r,he,_,h2,h3⟩:=hr
  injection he with he _
  subst he;exact h2
def bT (P:Program)(ts:List TypeId)(vs:List AV):Prop:=jv (fun t v=>∃n,Rt P n t v) ts vs
theorem Ts {S:List TypeId}(hS:H7 P S S=true){r:Reach}{b0:Nat}{sp:Nat->Bool}{held:Bool}:∀{ts:List TypeId} {args:List Value} {ds:List (DataW H)} {ps:List MemPlace},(∀t∈ts,bE S t=true)->
  (∀(j:Nat) t v,ts[j]?=some t->args[j]?=some v->Value.okWide P w r b0 t v)->DataW.TrodAll enc P w 0 sp held ts args ds ps->∃vs,bT P ts vs/\BU (start w) vs args
 |[],args,ds,ps,_,_,h=>by
  obtain⟨rfl,_,_⟩:=trodAll_nil h;exact⟨[],trivial,rfl⟩
 |t::ts,args,ds,ps,Hx,Ie,h=>by
  obtain⟨v,ua,d,ds',p,q,rfl,rfl,rfl,h1,h2⟩:=trodAll_cons h
  obtain⟨n,x,k1,k2⟩:=js hS (Hx t (by simp)) (Ie 0 t v rfl rfl) h1
  obtain⟨xs,k3,k4⟩:=Ts hS (fun u hu=>Hx u (by simp[hu])) (fun j u z hj hz=>Ie (j+1) u z (by simpa using hj) (by simpa using hz)) h2
  exact⟨x::xs,⟨⟨n,k1⟩,k3⟩,v,ua,rfl,k2,k4⟩
theorem Tq (hl:laidOutB P=true){W W':World}{sp:Nat->Bool}:∀{ts:List TypeId} {args:List Value} {ds:List (DataW H)} {ps:List MemPlace},(∀t∈ts,P.readableRec t=true/\t<P.types.size)->
  DataW.TrodAll enc P W 0 (fun _=>true) true ts args ds ps->(∀p∈ps,W.sameAt W' p)->(∀p∈ps,sp p.block=true)->DataW.TrodAll enc P W' 0 sp true ts args ds ps
 |[],args,ds,ps,_,h,_,_=>by
  obtain⟨rfl,rfl,rfl⟩:=trodAll_nil h;exact trodAll_mk0
 |t::ts,args,ds,ps,hr,h,hs,hp=>by
  obtain⟨v,ua,d,ds',p,q,rfl,rfl,rfl,h1,h2⟩:=trodAll_cons h
  obtain⟨r1,r2⟩:=hr t (by simp)
  exact⟨p,q,WideElems.Trod_stays hl r1 r2 h1 (fun x hx=>hs x (by simp[hx])) (fun x hx=>hp x (by simp[hx])),
   Tq hl (fun u hu=>hr u (by simp[hu])) h2 (fun x hx=>hs x (by simp[hx])) (fun x hx=>hp x (by simp[hx])),rfl⟩
end
section
variable {C:Bm}{I:World->Prop}{B0:Nat}
def sB (P:Program)(ts:List TypeId):Ce:=fun vs h K=>bT P ts vs/\K (.bool true) h
theorem RO {P:Program}:∀{ts:List TypeId} {vs:List AV},bT P ts vs->AP.Ad vs=true
 |[],[],_=>rfl
 |[],_::_,h=>h.elim
 |_::_,[],h=>h.elim
 |t::ts,v::vs,h=>by
  obtain⟨n,h1⟩:=h.1;rw[AP.Ad,Z6 h1,RO h.2];rfl
theorem gp (S:Sound C I B0){k:Nat}{ts:List TypeId}(hc:CQ C k (sB C.P ts))(hk:C.Cq k=none)(hh:C.heap k=false){W:World}{vs:List AV}{args:List Value}(hI:I W)(hB:B0<=W.heap.size)
  (Fh:∀g cs,C.G g=some cs->At (start W) cs ⟨g,0,none⟩) (hf:bT C.P ts vs) (Cd:BU (start W) vs args):
  Calls C.P k args.toArray W (fun e w'=>e=.returned (.bool true)/\Below W.heap.size W w'):=by
 have ha:B8 C k vs=vs:=by
  simp[B8,hk,hh,Aw 0 [] vs (RO hf)]
 obtain⟨v,h',⟨n0,hr⟩,hv⟩:=hc vs [] (fun v h'=>v=.bool true) (by rw[ha];exact⟨hf,rfl⟩)
 subst hv
 exact fW S (n:=n0) (by rw[hr n0 (Nat.le_refl _)];rfl) hI hB Fh Cd
end
end Go.Ai
