/-
  What a row reads at plain types, as abstract values of a known form. No statement about the program is made here.
-/
import Derived.Test.YtopjpnhgnopbiaaGreatDoorAAiData
set_option linter.unusedVariables false
set_option linter.unusedSimpArgs false
set_option linter.unnecessarySimpa false
namespace Go.Ai
open Go.RowKit
def jf {α β:Type}(q:α->β->Prop):List α->List β->Prop
 |[],[]=>True
 |a::l,b::m=>q a b/\jf q l m
 |_,_=>False
def wt (P:Program):Nat->TypeId->List AV->Prop
 |0,_,_=>False
 |n+1,t,xs=>
  match P.underlying t with
  |some .bool=>∃b,xs=[.bool b]
  |some (.int k)=>∃z,(Lit.int k z).wf=true/\xs=[.int k z]
  |some .string=>∃s:List UInt8,s.length<=maxLen/\xs=[.str s]
  |some (.slice e)=>∃es,es.length<=maxLen/\xs=[.sl (P.cellsOf e) es none]/\∀x∈es,wt P n e x
  |some (.struct fs)=>∃eG:List (List AV),jf (fun f ys=>wt P n f.type ys) fs.toList eG/\xs=eG.flatten
  |some (.array m e)=>∃eG:List (List AV),eG.length=m/\(∀ys∈eG,wt P n e ys)/\xs=eG.flatten
  |_=>False
def a6 :List Nat->Nat->Bool
 |[],_=>false
 |s::r,t=>Nat.beq s t||a6 r t
def Hz (P:Program)(S:List TypeId):List TypeId->Bool
 |[]=>true
 |t::r=>(match P.underlying t with
  |some .bool|some (.int _)|some .string=>true
  |some (.slice e)=>a6 S e
  |some (.struct fs)=>chain P fs.toList 0 (P.cellsOf t)&&fs.toList.all fun f=>a6 S f.type
  |some (.array m e)=>Nat.beq (m*P.cellsOf e) (P.cellsOf t)&&a6 S e
  |_=>false)&&Hz P S r
theorem Lc {P:Program}{S:List TypeId}:∀{l:List TypeId} {t:TypeId},Hz P S l=true->a6 l t=true->
  (match P.underlying t with
  |some .bool|some (.int _)|some .string=>true
  |some (.slice e)=>a6 S e
  |some (.struct fs)=>chain P fs.toList 0 (P.cellsOf t)&&fs.toList.all fun f=>a6 S f.type
  |some (.array m e)=>Nat.beq (m*P.cellsOf e) (P.cellsOf t)&&a6 S e
  |_=>false)=true
 |[],t,_,h=>by cases h
 |s::r,t,hc,h=>by
  simp only[Hz,Bool.and_eq_true] at hc;simp only[a6,Bool.or_eq_true] at h
  rcases h with h|h
  ·have:=Nat.eq_of_beq_eq_true h;subst this;exact hc.1
  ·exact Lc hc.2 h
theorem Qq {α β:Type}{f:α->Option β}{p:β->Prop}:∀{l:List α},(∀x∈l,∃y,f x=some y/\p y)->∃ys,l.mapM f=some ys/\ys.length=l.length/\∀y∈ys,p y
 |[],_=>⟨[],rfl,rfl,fun y hy=>by cases hy⟩
 |x::l,h=>by
  obtain⟨y,h1,h2⟩:=h x (by simp)
  obtain⟨ys,h3,h4,h5⟩:=Qq (l:=l) fun z hz=>h z (by simp[hz])
  refine⟨y::ys,by simp[h1,h3],by simp[h4],fun z hz=> ?_⟩
  rcases List.mem_cons.1 hz with rfl|hz
  ·exact h2
  ·exact h5 z hz
theorem WZ {α β γ:Type}{f:α×β->Option γ}{q:α->γ->Prop}:∀{l:List α} {m:List β},l.length=m.length->(∀(i:Nat) a b,l[i]?=some a->m[i]?=some b->∃y,f (a,b)=some y/\q a y)->∃ys,(l.zip m).mapM f=some ys/\jf q l ys
 |[],[],_,_=>⟨[],rfl,trivial⟩
 |[],_::_,h,_=>by simp at h
 |_::_,[],h,_=>by simp at h
 |a::l,b::m,h,hf=>by
  obtain⟨y,h1,h2⟩:=hf 0 a b rfl rfl
  obtain⟨ys,h3,h4⟩:=WZ (f:=f) (q:=q) (l:=l) (m:=m) (by simpa using h) fun i a' b' ha hb=>hf (i+1) a' b' (by simpa using ha) (by simpa using hb)
  exact⟨y::ys,by simp[h1,h3],h2,h4⟩
section
variable {H:Type}{enc:TypeId×Value->H}{P:Program}{w:World}
theorem jv {S:List TypeId}(hS:Hz P S S=true):∀(fuel:Nat) (t:TypeId) (cs:List Value) (d:DataW H) (ps:List MemPlace) {base:Nat} {sp:Nat->Bool} {held:Bool},
  a6 S t=true->DataW.trod enc P w base sp held fuel t cs=some (d,ps)->∃xs,IJ P fuel t d=some xs/\wt P fuel t xs:=by
 intro fuel
 induction fuel with
 |zero=>intro t cs d ps base sp held _ h;simp[DataW.trod] at h
 |succ fuel ih=>
  intro t cs d ps base sp held ht h;have hc:=Lc hS ht;split at hc
  ·rename_i hu;obtain⟨b,rfl,h2⟩:=DataW.trod_bool hu h;simp only[Prod.mk.injEq] at h2;obtain⟨rfl,-⟩:=h2
   exact⟨[.bool b],by simp[IJ,hu],by simp only[wt,hu];exact⟨b,rfl⟩⟩
  ·rename_i k hu;obtain⟨z,rfl,h2,h3⟩:=DataW.trod_int hu h;simp only[Prod.mk.injEq] at h2;obtain⟨rfl,-⟩:=h2
   exact⟨[.int k z],by simp[IJ,hu],by simp only[wt,hu];exact⟨z,h3,rfl⟩⟩
  ·rename_i hu;obtain⟨s,rfl,h2,h3⟩:=DataW.trod_string hu h;simp only[Prod.mk.injEq] at h2;obtain⟨rfl,-⟩:=h2
   exact⟨[.str s.data.toList],by simp[IJ,hu],by simp only[wt,hu];exact⟨_,by simpa using h3,rfl⟩⟩
  ·rename_i e hu
   rcases DataW.trod_slice hu h with ⟨rfl,h2⟩|⟨a,len,cap,elems,yZ,m,hm,rfl,h2,hba,yz,PL,xY,Gc⟩
   ·simp only[Prod.mk.injEq] at h2;obtain⟨rfl,-⟩:=h2
    exact⟨[.sl (P.cellsOf e) [] none],by simp[IJ,hu],by simp only[wt,hu];exact⟨[],by simp,rfl,fun x hx=>by cases hx⟩⟩
   ·simp only[Prod.mk.injEq] at h2;obtain⟨rfl,-⟩:=h2;cases hm
    obtain⟨es,k1,k2,k3⟩:=Qq (f:=IJ P fuel e) (p:=wt P fuel e) (l:=elems.map (·.1)) fun x hx=>by
     obtain⟨y,hy,rfl⟩:=List.mem_map.1 hx;obtain⟨i,hi⟩:=List.getElem?_of_mem hy;have ZB:i<elems.length:=(List.getElem?_eq_some_iff.1 hi).1
     have JN:=Gc.1 i (by omega)
     rw[hi] at JN
     cases Fu:w.cells? base (a.add (i*P.cellsOf e)) (P.cellsOf e) with
     |none=>rw[Fu] at JN;cases JN
     |some Gh=>
      rw[Fu] at JN;simp only[Option.bind_some] at JN;exact ih e Gh _ _ hc JN
    refine⟨[.sl (P.cellsOf e) es none],by simp only[IJ,hu];rw[k1];rfl,?_⟩
    simp only[wt,hu]
    exact⟨es,by rw[k2];simp;omega,rfl,k3⟩
  ·rename_i fs hu;rw[Bool.and_eq_true] at hc;obtain⟨ys,m,hm,h2,DS,eC,Gc⟩:=DataW.trod_struct hu h;cases hm;simp only[Prod.mk.injEq] at h2;obtain⟨rfl,-⟩:=h2
   obtain⟨eG,k1,k2⟩:=WZ (f:=fun x:Field×DataW H=>IJ P fuel x.1.type x.2) (q:=fun f ys=>wt P fuel f.type ys) (l:=fs.toList) (m:=ys.map (·.1)) (by simp[eC]) fun i f b hf hb=>by
    simp only[List.getElem?_map,Option.map_eq_some_iff] at hb;obtain⟨y,ru,rfl⟩:=hb
    have hr:=Gc i f (by simpa using hf)
    rw[ru] at hr;have Hv:a6 S f.type=true:=List.all_eq_true.1 hc.2 f (List.mem_of_getElem? hf);exact ih _ _ _ _ Hv hr
   refine⟨eG.flatten,?_,?_⟩
   ·have hb:(chain P fs.toList 0 (P.cellsOf t)&&Nat.beq (ys.map (·.1)).length fs.size)=true:=by
     rw[hc.1,Bool.true_and];simp[eC]
    simp only[IJ,hu];rw[hb];simp only[cond_true];rw[k1];rfl
   ·simp only[wt,hu];exact⟨eG,k2,rfl⟩
  ·rename_i m e hu;rw[Bool.and_eq_true] at hc;simp only[DataW.trod,hu] at h;split at h
   case isFalse=>cases h
   rename_i DS
   cases Ur:(List.range m).mapM (fun i=>DataW.trod enc P w base sp held fuel e ((cs.drop (i*P.cellsOf e)).take (P.cellsOf e))) with
   |none=>rw[Ur] at h;cases h
   |some ys=>
    rw[Ur] at h;simp only[Option.map_some,Option.some.injEq,Prod.mk.injEq] at h;obtain⟨rfl,-⟩:=h
    have eC:ys.length=m:=by simpa using Lib.mapM_length Ur
    obtain⟨es,k1,k2,k3⟩:=Qq (f:=IJ P fuel e) (p:=wt P fuel e) (l:=ys.map (·.1)) fun x hx=>by
     obtain⟨y,hy,rfl⟩:=List.mem_map.1 hx;obtain⟨i,hi⟩:=List.getElem?_of_mem hy;obtain⟨j,h1,h2⟩:=Na Ur i y hi;exact ih e _ _ _ hc.2 h2
    refine⟨es.flatten,?_,?_⟩
    ·have hb:(Nat.beq (m*P.cellsOf e) (P.cellsOf t)&&Nat.beq (ys.map (·.1)).length m)=true:=by
      rw[hc.1,Bool.true_and];simp[eC]
     simp only[IJ,hu];rw[hb];simp only[cond_true];rw[k1];rfl
    ·simp only[wt,hu]
     exact⟨es,by rw[k2];simp[eC],k3,rfl⟩
  ·cases hc
theorem lV {S:List TypeId}(hS:Hz P S S=true){t:TypeId}(ht:a6 S t=true){v:Value}{d:DataW H}{ps:List MemPlace}{sp:Nat->Bool}{held:Bool}(h:DataW.Trod enc P w 0 sp held t v d ps):
  ∃n xs,wt P n t xs/\Ae (start w) xs v.cells.toList:=by
 obtain⟨fuel,h⟩:=h;obtain⟨xs,h1,h2⟩:=jv hS fuel t _ d ps ht h;exact⟨fuel,xs,h2,Va fuel fuel t _ d ps xs h h1⟩
end
end Go.Ai
