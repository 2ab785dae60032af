/-
  From a contract to a row: arguments as they are read, the call in a world, the arguments behind it. No statement about the program is made here.
-/
import Derived.Test.YtopjpnhgnopbiaaGreatDoorTAiOpen
import Derived.Test.YtopjpnhgnopbiaaGreatDoorTAiPrims
import Derived.Test.YtopjpnhgnopbiaaGreatDoorTAiMono
import Derived.WideKeyArgs
set_option linter.unusedVariables false
set_option linter.unusedSimpArgs false
set_option linter.unnecessarySimpa false
namespace Go.Ai
open Go.RowKit Go.ChangeShapes Go.WideShapes
theorem Kk :∀{a b:List AV},AZ.Aw (a++b)=(AZ.Aw a&&AZ.Aw b)
 |[],b=>by simp[AZ.Aw]
 |x::r,b=>by simp only[List.cons_append,AZ.Aw,Kk (a:=r),Bool.and_assoc]
theorem G6 :∀{l:List (List AV)},(∀x∈l,AZ.Aw x=true)->AZ.Aw l.flatten=true
 |[],_=>rfl
 |x::r,h=>by
  rw[List.flatten_cons,Kk,h x (by simp),G6 fun y hy=>h y (by simp[hy])]
  rfl
theorem ON :∀{l:List (List AV)},(∀x∈l,AZ.Aw x=true)->AZ.BX l=true
 |[],_=>rfl
 |x::r,h=>by
  rw[AZ.BX,h x (by simp),ON fun y hy=>h y (by simp[hy])]
  rfl
theorem VD {α β:Type}{q:α->β->Prop}:∀{l:List α} {m:List β},fH q l m->∀b∈m,∃a∈l,q a b
 |[],[],_,b,hb=>by cases hb
 |[],_::_,h,_,_=>h.elim
 |_::_,[],h,_,_=>h.elim
 |a::l,c::m,h,b,hb=>by
  rcases List.mem_cons.1 hb with rfl|hb
  ·exact⟨a,by simp,h.1⟩
  ·obtain⟨x,hx,hq⟩:=VD h.2 b hb
   exact⟨x,by simp[hx],hq⟩
theorem KW {P:Program}:∀{n:Nat} {t:TypeId} {xs:List AV},wt P n t xs->AZ.Aw xs=true
 |0,_,_,h=>h.elim
 |n+1,t,xs,h=>by
  simp only[wt] at h;split at h
  ·obtain⟨b,rfl⟩:=h;rfl
  ·obtain⟨z,_,rfl⟩:=h;rfl
  ·obtain⟨s,_,rfl⟩:=h;rfl
  ·obtain⟨es,_,rfl,hm⟩:=h;simp only[AZ.Aw,AZ,Option.isNone_none,Bool.true_and,Bool.and_true]
   exact ON fun x hx=>KW (hm x hx)
  ·obtain⟨aD,hm,rfl⟩:=h
   refine G6 fun x hx=> ?_
   obtain⟨f,_,hf⟩:=VD hm x hx;exact KW hf
  ·obtain⟨aD,_,hm,rfl⟩:=h
   exact G6 fun x hx=>KW (hm x hx)
  ·exact h.elim
def Pn (P:Program)(n:Nat)(t:TypeId)(v:AV):Prop:=match FM P t with
 |true=>∃xs,v=.agg xs/\wt P n t xs
 |false=>wt P n t [v]
theorem XH {P:Program}{n:Nat}{t:TypeId}{v:AV}(h:Pn P n t v):AZ v=true:=by
 unfold Pn at h;split at h
 ·obtain⟨xs,rfl,h⟩:=h;rw[AZ];exact KW h
 ·have:=KW h;simpa[AZ.Aw] using this
section
variable {H:Type}{enc:TypeId×Value->H}{P:Program}{w:World}
theorem fF {S:List TypeId}(hS:Gu P S S=true){t:TypeId}(ht:Xw S t=true){r:Reach}{b0:Nat}{v:Value}{d:DataW H}{ps:List MemPlace}{sp:Nat->Bool}{held:Bool}(HT:Value.okWide P w r b0 t v)(h:DataW.Trod enc P w 0 sp held t v d ps):
  ∃n x,Pn P n t x/\Rel (start w) x v:=by
 obtain⟨n,xs,hw,hr⟩:=iJ hS ht h;have hc:=KN hS ht
 cases ha:FM P t with
 |true=>
  refine⟨n,.agg xs,by unfold Pn;rw[ha];exact⟨xs,rfl,hw⟩,?_⟩
  have:∃cs,v=.agg cs:=by
   unfold FM at ha;unfold Value.okWide at HT;split at ha
   ·rename_i fs hu;rw[hu] at HT;obtain⟨cs,h,_⟩:=HT;exact⟨cs,h⟩
   ·rename_i m e hu;rw[hu] at HT;obtain⟨cs,h,_⟩:=HT;exact⟨cs,h⟩
   ·cases ha
  obtain⟨cs,rfl⟩:=this;exact⟨cs,rfl,hr⟩
 |false=>
  have NQ:∃x,xs=[x]:=by
   cases n with
   |zero=>exact hw.elim
   |succ n=>
    simp only[wt] at hw;unfold FM at ha;split at hw
    ·obtain⟨b,rfl⟩:=hw;exact⟨_,rfl⟩
    ·obtain⟨z,_,rfl⟩:=hw;exact⟨_,rfl⟩
    ·obtain⟨s,_,rfl⟩:=hw;exact⟨_,rfl⟩
    ·obtain⟨es,_,rfl,_⟩:=hw;exact⟨_,rfl⟩
    ·rename_i hu;rw[hu] at ha;cases ha
    ·rename_i hu;rw[hu] at ha;cases ha
    ·exact hw.elim
  obtain⟨x,rfl⟩:=NQ
  refine⟨n,x,by unfold Pn;rw[ha];exact hw,?_⟩
  have DJ:v.cells.toList=[v]:=by
   unfold FM at ha;unfold Value.okWide at HT;split at hc
   ·rename_i hu;simp only[hu,Cell.okWide] at HT
    cases v<;>simp_all[Cell.ok,Value.cells]
   ·rename_i hu;simp only[hu,Cell.okWide] at HT
    cases v<;>simp_all[Cell.ok,Value.cells]
   ·rename_i hu;simp only[hu,Cell.okWide] at HT
    cases v<;>simp_all[Cell.ok,Value.cells]
   ·rename_i hu;simp only[hu,Cell.okWide] at HT
    cases v<;>simp_all[Cell.ok,Value.cells]
   ·rename_i hu;rw[hu] at ha;cases ha
   ·rename_i hu;rw[hu] at ha;cases ha
   ·cases hc
  rw[DJ] at hr;obtain⟨u,r,he,_,h2,h3⟩:=hr
  injection he with he _
  subst he;exact h2
def YE (P:Program)(ts:List TypeId)(vs:List AV):Prop:=fH (fun t v=>∃n,Pn P n t v) ts vs
theorem RS {S:List TypeId}(hS:Gu P S S=true){r:Reach}{b0:Nat}{sp:Nat->Bool}{held:Bool}:∀{ts:List TypeId} {args:List Value} {ds:List (DataW H)} {ps:List MemPlace},(∀t∈ts,Xw S t=true)->
  (∀(j:Nat) t v,ts[j]?=some t->args[j]?=some v->Value.okWide P w r b0 t v)->DataW.TrodAll enc P w 0 sp held ts args ds ps->∃vs,YE P ts vs/\BJ (start w) vs args
 |[],args,ds,ps,_,_,h=>by
  obtain⟨rfl,_,_⟩:=trodAll_nil h;exact⟨[],trivial,rfl⟩
 |t::ts,args,ds,ps,UY,HT,h=>by
  obtain⟨v,qC,d,yH,p,q,rfl,rfl,rfl,h1,h2⟩:=trodAll_cons h
  obtain⟨n,x,k1,k2⟩:=fF hS (UY t (by simp)) (HT 0 t v rfl rfl) h1
  obtain⟨xs,k3,k4⟩:=RS hS (fun u hu=>UY u (by simp[hu])) (fun j u z hj hz=>HT (j+1) u z (by simpa using hj) (by simpa using hz)) h2
  exact⟨x::xs,⟨⟨n,k1⟩,k3⟩,v,qC,rfl,k2,k4⟩
theorem RR (hl:laidOutB P=true){W W':World}{sp:Nat->Bool}:∀{ts:List TypeId} {args:List Value} {ds:List (DataW H)} {ps:List MemPlace},(∀t∈ts,P.readableRec t=true/\t<P.types.size)->
  DataW.TrodAll enc P W 0 (fun _=>true) true ts args ds ps->(∀p∈ps,W.sameAt W' p)->(∀p∈ps,sp p.block=true)->DataW.TrodAll enc P W' 0 sp true ts args ds ps
 |[],args,ds,ps,_,h,_,_=>by
  obtain⟨rfl,rfl,rfl⟩:=trodAll_nil h;exact trodAll_mk0
 |t::ts,args,ds,ps,hr,h,hs,hp=>by
  obtain⟨v,qC,d,yH,p,q,rfl,rfl,rfl,h1,h2⟩:=trodAll_cons h
  obtain⟨r1,r2⟩:=hr t (by simp)
  exact⟨p,q,WideElems.Trod_stays hl r1 r2 h1 (fun x hx=>hs x (by simp[hx])) (fun x hx=>hp x (by simp[hx])),
   RR hl (fun u hu=>hr u (by simp[hu])) h2 (fun x hx=>hs x (by simp[hx])) (fun x hx=>hp x (by simp[hx])),rfl⟩
end
section
variable {C:Bh}{I:World->Prop}{B0:Nat}
def nS (P:Program)(ts:List TypeId):Ci:=fun vs h K=>YE P ts vs/\K (.bool true) h
theorem PH {P:Program}:∀{ts:List TypeId} {vs:List AV},YE P ts vs->AZ.Aw vs=true
 |[],[],_=>rfl
 |[],_::_,h=>h.elim
 |_::_,[],h=>h.elim
 |t::ts,v::vs,h=>by
  obtain⟨n,h1⟩:=h.1;rw[AZ.Aw,XH h1,PH h.2];rfl
theorem cb (S:Sound C I B0){k:Nat}{ts:List TypeId}(hc:CP C k (nS C.P ts))(hk:C.Cy k=none)(hh:C.heap k=false){W:World}{vs:List AV}{args:List Value}(hI:I W)(hB:B0<=W.heap.size)
  (Ep:∀g cs,C.G g=some cs->At (start W) cs ⟨g,0,none⟩) (hf:YE C.P ts vs) (CV:BJ (start W) vs args):
  Calls C.P k args.toArray W (fun e w'=>e=.returned (.bool true)/\Below W.heap.size W w'):=by
 have ha:B7 C k vs=vs:=by
  simp[B7,hk,hh,BK 0 [] vs (PH hf)]
 obtain⟨v,h',⟨n0,hr⟩,hv⟩:=hc vs [] (fun v h'=>v=.bool true) (by rw[ha];exact⟨hf,rfl⟩)
 subst hv
 exact bL S (n:=n0) (by rw[hr n0 (Nat.le_refl _)];rfl) hI hB Ep CV
end
end Go.Ai
