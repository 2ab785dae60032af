/-
  From a contract to a row: arguments as they are read, the call in a world, the arguments behind it. No statement about the program is made here.
-/
import Derived.Test.YtopjpnhgnopbiaaGreatDoorLAiOpen
import Derived.Test.YtopjpnhgnopbiaaGreatDoorLAiPrims
import Derived.Test.YtopjpnhgnopbiaaGreatDoorLAiMono
import Derived.WideKeyArgs
set_option linter.unusedVariables false
set_option linter.unusedSimpArgs false
set_option linter.unnecessarySimpa false
namespace Go.Ai
open Go.RowKit Go.ChangeShapes Go.WideShapes
theorem Kn :∀{a b:List AV},Aa.Ax (a++b)=(Aa.Ax a&&Aa.Ax b)
 |[],b=>by simp[Aa.Ax]
 |x::r,b=>by simp only[List.cons_append,Aa.Ax,Kn (a:=r),Bool.and_assoc]
theorem G9 :∀{l:List (List AV)},(∀x∈l,Aa.Ax x=true)->Aa.Ax l.flatten=true
 |[],_=>rfl
 |x::r,h=>by
  rw[List.flatten_cons,Kn,h x (by simp),G9 fun y hy=>h y (by simp[hy])]
  rfl
theorem OT :∀{l:List (List AV)},(∀x∈l,Aa.Ax x=true)->Aa.BZ l=true
 |[],_=>rfl
 |x::r,h=>by
  rw[Aa.BZ,h x (by simp),OT fun y hy=>h y (by simp[hy])]
  rfl
theorem VK {α β:Type}{q:α->β->Prop}:∀{l:List α} {m:List β},fQ q l m->∀b∈m,∃a∈l,q a b
 |[],[],_,b,hb=>by cases hb
 |[],_::_,h,_,_=>h.elim
 |_::_,[],h,_,_=>h.elim
 |a::l,c::m,h,b,hb=>by
  rcases List.mem_cons.1 hb with rfl|hb
  ·exact⟨a,by simp,h.1⟩
  ·obtain⟨x,hx,hq⟩:=VK h.2 b hb
   exact⟨x,by simp[hx],hq⟩
theorem KZ {P:Program}:∀{n:Nat} {t:TypeId} {xs:List AV},wt P n t xs->Aa.Ax xs=true
 |0,_,_,h=>h.elim
 |n+1,t,xs,h=>by
  simp only[wt] at h;split at h
  ·obtain⟨b,rfl⟩:=h;rfl
  ·obtain⟨z,_,rfl⟩:=h;rfl
  ·obtain⟨s,_,rfl⟩:=h;rfl
  ·obtain⟨es,_,rfl,hm⟩:=h;simp only[Aa.Ax,Aa,Option.isNone_none,Bool.true_and,Bool.and_true]
   exact OT fun x hx=>KZ (hm x hx)
  ·obtain⟨aK,hm,rfl⟩:=h
   refine G9 fun x hx=> ?_
   obtain⟨f,_,hf⟩:=VK hm x hx;exact KZ hf
  ·obtain⟨aK,_,hm,rfl⟩:=h
   exact G9 fun x hx=>KZ (hm x hx)
  ·exact h.elim
def Pt (P:Program)(n:Nat)(t:TypeId)(v:AV):Prop:=match FO P t with
 |true=>∃xs,v=.agg xs/\wt P n t xs
 |false=>wt P n t [v]
theorem XL {P:Program}{n:Nat}{t:TypeId}{v:AV}(h:Pt P n t v):Aa v=true:=by
 unfold Pt at h;split at h
 ·obtain⟨xs,rfl,h⟩:=h;rw[Aa];exact KZ h
 ·have:=KZ h;simpa[Aa.Ax] using this
section
variable {H:Type}{enc:TypeId×Value->H}{P:Program}{w:World}
theorem fO {S:List TypeId}(hS:Gx P S S=true){t:TypeId}(ht:X5 S t=true){r:Reach}{b0:Nat}{v:Value}{d:DataW H}{ps:List MemPlace}{sp:Nat->Bool}{held:Bool}(HU:Value.okWide P w r b0 t v)(h:DataW.Trod enc P w 0 sp held t v d ps):
  ∃n x,Pt P n t x/\Rel (start w) x v:=by
 obtain⟨n,xs,hw,hr⟩:=iU hS ht h;have hc:=KR hS ht
 cases ha:FO P t with
 |true=>
  refine⟨n,.agg xs,by unfold Pt;rw[ha];exact⟨xs,rfl,hw⟩,?_⟩
  have:∃cs,v=.agg cs:=by
   unfold FO at ha;unfold Value.okWide at HU;split at ha
   ·rename_i fs hu;rw[hu] at HU;obtain⟨cs,h,_⟩:=HU;exact⟨cs,h⟩
   ·rename_i m e hu;rw[hu] at HU;obtain⟨cs,h,_⟩:=HU;exact⟨cs,h⟩
   ·cases ha
  obtain⟨cs,rfl⟩:=this;exact⟨cs,rfl,hr⟩
 |false=>
  have NW:∃x,xs=[x]:=by
   cases n with
   |zero=>exact hw.elim
   |succ n=>
    simp only[wt] at hw;unfold FO at ha;split at hw
    ·obtain⟨b,rfl⟩:=hw;exact⟨_,rfl⟩
    ·obtain⟨z,_,rfl⟩:=hw;exact⟨_,rfl⟩
    ·obtain⟨s,_,rfl⟩:=hw;exact⟨_,rfl⟩
    ·obtain⟨es,_,rfl,_⟩:=hw;exact⟨_,rfl⟩
    ·rename_i hu;rw[hu] at ha;cases ha
    ·rename_i hu;rw[hu] at ha;cases ha
    ·exact hw.elim
  obtain⟨x,rfl⟩:=NW
  refine⟨n,x,by unfold Pt;rw[ha];exact hw,?_⟩
  have DK:v.cells.toList=[v]:=by
   unfold FO at ha;unfold Value.okWide at HU;split at hc
   ·rename_i hu;simp only[hu,Cell.okWide] at HU
    cases v<;>simp_all[Cell.ok,Value.cells]
   ·rename_i hu;simp only[hu,Cell.okWide] at HU
    cases v<;>simp_all[Cell.ok,Value.cells]
   ·rename_i hu;simp only[hu,Cell.okWide] at HU
    cases v<;>simp_all[Cell.ok,Value.cells]
   ·rename_i hu;simp only[hu,Cell.okWide] at HU
    cases v<;>simp_all[Cell.ok,Value.cells]
   ·rename_i hu;rw[hu] at ha;cases ha
   ·rename_i hu;rw[hu] at ha;cases ha
   ·cases hc
  rw[DK] at hr;obtain⟨u,r,he,_,h2,h3⟩:=hr
  injection he with he _
  subst he;exact h2
def YI (P:Program)(ts:List TypeId)(vs:List AV):Prop:=fQ (fun t v=>∃n,Pt P n t v) ts vs
theorem RX {S:List TypeId}(hS:Gx P S S=true){r:Reach}{b0:Nat}{sp:Nat->Bool}{held:Bool}:∀{ts:List TypeId} {args:List Value} {ds:List (DataW H)} {ps:List MemPlace},(∀t∈ts,X5 S t=true)->
  (∀(j:Nat) t v,ts[j]?=some t->args[j]?=some v->Value.okWide P w r b0 t v)->DataW.TrodAll enc P w 0 sp held ts args ds ps->∃vs,YI P ts vs/\BK (start w) vs args
 |[],args,ds,ps,_,_,h=>by
  obtain⟨rfl,_,_⟩:=trodAll_nil h;exact⟨[],trivial,rfl⟩
 |t::ts,args,ds,ps,Ud,HU,h=>by
  obtain⟨v,qP,d,yZ,p,q,rfl,rfl,rfl,h1,h2⟩:=trodAll_cons h
  obtain⟨n,x,k1,k2⟩:=fO hS (Ud t (by simp)) (HU 0 t v rfl rfl) h1
  obtain⟨xs,k3,k4⟩:=RX hS (fun u hu=>Ud u (by simp[hu])) (fun j u z hj hz=>HU (j+1) u z (by simpa using hj) (by simpa using hz)) h2
  exact⟨x::xs,⟨⟨n,k1⟩,k3⟩,v,qP,rfl,k2,k4⟩
theorem RW (hl:laidOutB P=true){W W':World}{sp:Nat->Bool}:∀{ts:List TypeId} {args:List Value} {ds:List (DataW H)} {ps:List MemPlace},(∀t∈ts,P.readableRec t=true/\t<P.types.size)->
  DataW.TrodAll enc P W 0 (fun _=>true) true ts args ds ps->(∀p∈ps,W.sameAt W' p)->(∀p∈ps,sp p.block=true)->DataW.TrodAll enc P W' 0 sp true ts args ds ps
 |[],args,ds,ps,_,h,_,_=>by
  obtain⟨rfl,rfl,rfl⟩:=trodAll_nil h;exact trodAll_mk0
 |t::ts,args,ds,ps,hr,h,hs,hp=>by
  obtain⟨v,qP,d,yZ,p,q,rfl,rfl,rfl,h1,h2⟩:=trodAll_cons h
  obtain⟨r1,r2⟩:=hr t (by simp)
  exact⟨p,q,WideElems.Trod_stays hl r1 r2 h1 (fun x hx=>hs x (by simp[hx])) (fun x hx=>hp x (by simp[hx])),
   RW hl (fun u hu=>hr u (by simp[hu])) h2 (fun x hx=>hs x (by simp[hx])) (fun x hx=>hp x (by simp[hx])),rfl⟩
end
section
variable {C:Bh}{I:World->Prop}{B0:Nat}
def ni (P:Program)(ts:List TypeId):Ci:=fun vs h K=>YI P ts vs/\K (.bool true) h
theorem PN {P:Program}:∀{ts:List TypeId} {vs:List AV},YI P ts vs->Aa.Ax vs=true
 |[],[],_=>rfl
 |[],_::_,h=>h.elim
 |_::_,[],h=>h.elim
 |t::ts,v::vs,h=>by
  obtain⟨n,h1⟩:=h.1;rw[Aa.Ax,XL h1,PN h.2];rfl
theorem cm (S:Sound C I B0){k:Nat}{ts:List TypeId}(hc:CO C k (ni C.P ts))(hk:C.Cz k=none)(hh:C.heap k=false){W:World}{vs:List AV}{args:List Value}(hI:I W)(hB:B0<=W.heap.size)
  (Es:∀g cs,C.G g=some cs->At (start W) cs ⟨g,0,none⟩) (hf:YI C.P ts vs) (CV:BK (start W) vs args):
  Calls C.P k args.toArray W (fun e w'=>e=.returned (.bool true)/\Below W.heap.size W w'):=by
 have ha:B7 C k vs=vs:=by
  simp[B7,hk,hh,BL 0 [] vs (PN hf)]
 obtain⟨v,h',⟨n0,hr⟩,hv⟩:=hc vs [] (fun v h'=>v=.bool true) (by rw[ha];exact⟨hf,rfl⟩)
 subst hv
 exact bS S (n:=n0) (by rw[hr n0 (Nat.le_refl _)];rfl) hI hB Es CV
end
end Go.Ai
