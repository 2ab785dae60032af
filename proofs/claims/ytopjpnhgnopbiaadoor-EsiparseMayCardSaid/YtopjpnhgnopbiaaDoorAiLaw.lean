/-
  From a contract to a row: arguments as they are read, the call in a world, the arguments behind it. No statement about the program is made here.
-/
import Derived.Test.YtopjpnhgnopbiaaDoorAiOpen
import Derived.Test.YtopjpnhgnopbiaaDoorAiPrims
import Derived.Test.YtopjpnhgnopbiaaDoorAiMono
import Derived.WideKeyArgs
set_option linter.unusedVariables false
set_option linter.unusedSimpArgs false
set_option linter.unnecessarySimpa false
namespace Go.Ai
open Go.RowKit Go.ChangeShapes Go.WideShapes
def argOf (P:Program)(n:Nat)(t:TypeId)(v:AV):Prop:=match isAggT P t with
 |true=>∃xs,v=.agg xs∧wt P n t xs
 |false=>wt P n t [v]
section
variable {H:Type}{enc:TypeId×Value→H}{P:Program}{w:World}
theorem arg_open {S:List TypeId}(hS:closedT P S S=true){t:TypeId}(ht:inS S t=true){r:Reach}{b0:Nat}{v:Value}{d:DataW H}{ps:List MemPlace}{sp:Nat→Bool}{held:Bool}(hval:Value.okWide P w r b0 t v)(h:DataW.Trod enc P w 0 sp held t v d ps):
  ∃n x,argOf P n t x∧Rel (start w) x v:=by
 obtain⟨n,xs,hw,hr⟩:=Trod_wt hS ht h;have hc:=closedT_at hS ht
 cases ha:isAggT P t with
 |true=>
  refine⟨n,.agg xs,by unfold argOf;rw[ha];exact⟨xs,rfl,hw⟩,?_⟩
  have:∃cs,v=.agg cs:=by
   unfold isAggT at ha;unfold Value.okWide at hval;split at ha
   ·rename_i fs hu;rw[hu] at hval;obtain⟨cs,h,_⟩:=hval;exact⟨cs,h⟩
   ·rename_i m e hu;rw[hu] at hval;obtain⟨cs,h,_⟩:=hval;exact⟨cs,h⟩
   ·cases ha
  obtain⟨cs,rfl⟩:=this;exact⟨cs,rfl,hr⟩
 |false=>
  have hone:∃x,xs=[x]:=by
   cases n with
   |zero=>exact hw.elim
   |succ n=>
    simp only[wt] at hw;unfold isAggT at ha;split at hw
    ·obtain⟨b,rfl⟩:=hw;exact⟨_,rfl⟩
    ·obtain⟨z,_,rfl⟩:=hw;exact⟨_,rfl⟩
    ·obtain⟨s,_,rfl⟩:=hw;exact⟨_,rfl⟩
    ·obtain⟨es,_,rfl,_⟩:=hw;exact⟨_,rfl⟩
    ·rename_i hu;rw[hu] at ha;cases ha
    ·rename_i hu;rw[hu] at ha;cases ha
    ·exact hw.elim
  obtain⟨x,rfl⟩:=hone
  refine⟨n,x,by unfold argOf;rw[ha];exact hw,?_⟩
  have hcell:v.cells.toList=[v]:=by
   unfold isAggT at ha;unfold Value.okWide at hval;split at hc
   ·rename_i hu;simp only[hu,Cell.okWide] at hval
    cases v<;>simp_all[Cell.ok,Value.cells]
   ·rename_i hu;simp only[hu,Cell.okWide] at hval
    cases v<;>simp_all[Cell.ok,Value.cells]
   ·rename_i hu;simp only[hu,Cell.okWide] at hval
    cases v<;>simp_all[Cell.ok,Value.cells]
   ·rename_i hu;simp only[hu,Cell.okWide] at hval
    cases v<;>simp_all[Cell.ok,Value.cells]
   ·rename_i hu;rw[hu] at ha;cases ha
   ·rename_i hu;rw[hu] at ha;cases ha
   ·cases hc
  rw[hcell] at hr;obtain⟨u,r,he,_,h2,h3⟩:=hr
  injection he with he _
  subst he;exact h2
def forms (P:Program)(ts:List TypeId)(vs:List AV):Prop:=all2 (fun t v=>∃n,argOf P n t v) ts vs
theorem args_open {S:List TypeId}(hS:closedT P S S=true){r:Reach}{b0:Nat}{sp:Nat→Bool}{held:Bool}:∀{ts:List TypeId} {args:List Value} {ds:List (DataW H)} {ps:List MemPlace},(∀t∈ts,inS S t=true)→
  (∀(j:Nat) t v,ts[j]?=some t→args[j]?=some v→Value.okWide P w r b0 t v)→DataW.TrodAll enc P w 0 sp held ts args ds ps→∃vs,forms P ts vs∧Rels (start w) vs args
 |[],args,ds,ps,_,_,h=>by
  obtain⟨rfl,_,_⟩:=trodAll_nil h;exact⟨[],trivial,rfl⟩
 |t::ts,args,ds,ps,hin,hval,h=>by
  obtain⟨v,vs',d,ds',p,q,rfl,rfl,rfl,h1,h2⟩:=trodAll_cons h
  obtain⟨n,x,k1,k2⟩:=arg_open hS (hin t (by simp)) (hval 0 t v rfl rfl) h1
  obtain⟨xs,k3,k4⟩:=args_open hS (fun u hu=>hin u (by simp[hu])) (fun j u z hj hz=>hval (j+1) u z (by simpa using hj) (by simpa using hz)) h2
  exact⟨x::xs,⟨⟨n,k1⟩,k3⟩,v,vs',rfl,k2,k4⟩
theorem args_stay (hl:laidOutB P=true){W W':World}{sp:Nat→Bool}:∀{ts:List TypeId} {args:List Value} {ds:List (DataW H)} {ps:List MemPlace},(∀t∈ts,P.readableRec t=true∧t<P.types.size)→
  DataW.TrodAll enc P W 0 (fun _=>true) true ts args ds ps→(∀p∈ps,W.sameAt W' p)→(∀p∈ps,sp p.block=true)→DataW.TrodAll enc P W' 0 sp true ts args ds ps
 |[],args,ds,ps,_,h,_,_=>by
  obtain⟨rfl,rfl,rfl⟩:=trodAll_nil h;exact trodAll_mk0
 |t::ts,args,ds,ps,hr,h,hs,hp=>by
  obtain⟨v,vs',d,ds',p,q,rfl,rfl,rfl,h1,h2⟩:=trodAll_cons h
  obtain⟨r1,r2⟩:=hr t (by simp)
  exact⟨p,q,WideElems.Trod_stays hl r1 r2 h1 (fun x hx=>hs x (by simp[hx])) (fun x hx=>hp x (by simp[hx])),
   args_stay hl (fun u hu=>hr u (by simp[hu])) h2 (fun x hx=>hs x (by simp[hx])) (fun x hx=>hp x (by simp[hx])),rfl⟩
end
section
variable {C:Cfg}{I:World→Prop}{B0:Nat}
end
end Go.Ai
