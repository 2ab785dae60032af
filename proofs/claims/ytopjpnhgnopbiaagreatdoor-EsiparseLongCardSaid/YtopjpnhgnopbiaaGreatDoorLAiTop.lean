/-
  From the evaluator to a call in a world; the shutting of a row.
-/
import Derived.Test.YtopjpnhgnopbiaaGreatDoorLAiExec
import Derived.Below
import Derived.ChangeSame
set_option linter.unusedVariables false
set_option linter.unusedSimpArgs false
set_option linter.unnecessarySimpa false
namespace Go.Ai
open Go.RowKit
def gT (C:Bh)(k:Nat):Bool:=
 match C.P.funcs[k]? with
 |some fn=>!(fn.name== "runtime.NumGoroutine")&&(match fn.body with
  |some c=>(C.Cz k).isSome||(C.E9 k).isSome||Bj C.P fn.ntmps (C.Gt k) c
  |none=>false)
 |none=>false
def Xm (C:Bh)(n:Nat):Bool:=(List.range n).all fun k=>!C.ok k||gT C k
section
variable {C:Bh}{I:World->Prop}{B0:Nat}
theorem Tx {n:Nat}(h:Xm C n=true)(hn:∀k,C.ok k=true->k<n){k:Nat}(hk:C.ok k=true):gT C k=true:=by
 have:=List.all_eq_true.1 h k (by simpa using hn k hk)
 simpa[hk] using this
theorem Sound.mk' (hI:∀w w',I w->Below B0 w w'->I w')(mixed:C.P.follows .mixedOrders=true)(ident:N7 C)(IE:∀g cs,C.G g=some cs->Aa.Ax cs=true){n:Nat}(h:Xm C n=true)(hn:∀k,C.ok k=true->k<n)
  (Wa:∀k g vs h v h',C.ok k=true->C.Cz k=some g->g vs h=some (v,h')->∀(E:Env) (args:List Value),E.h=h->Good C.G I B0 E->BK E vs args->Calls C.P k args.toArray E.w (Ft C.G I B0 E v h'))
  (bp:∀k g vs v,C.ok k=true->C.E9 k=some g->g vs=some (true,v)->∀(E:Env) (args:List Value),E.h=[]->E.B=E.w.heap.size->Good C.G I B0 E->BK E vs args->
   Calls C.P k args.toArray E.w (fun e w'=>∃c,e=.returned c/\Below E.w.heap.size E.w w'/\Rel {E with w:=w'} v c)):Sound C I B0:=by
 refine⟨hI,mixed,IE,ident,fun k hk=> ?_,Wa,fun k fn c hk TE hp hf hb=> ?_,bp⟩
 ·have:=Tx h hn hk;unfold gT at this
  cases hf:C.P.funcs[k]? with
  |none=>rw[hf] at this;cases this
  |some fn=>
   rw[hf] at this;simp only[Bool.and_eq_true,Bool.not_eq_true'] at this;refine⟨fn,hf,?_,this.1⟩
   cases hb:fn.body with
   |none=>rw[hb] at this;cases this.2
   |some c=>rfl
 ·have:=Tx h hn hk;unfold gT at this;rw[hf] at this;simp only[Bool.and_eq_true,hb,hp,TE,Option.isSome_none,Bool.false_or] at this;exact this.2
def start (W:World):Env:={B:=W.heap.size,U:=fun _ _=>False,w:=W,σ:=fun _=>none,h:=[]}
theorem Vp {W:World}(hI:I W)(hB:B0<=W.heap.size)(Es:∀g cs,C.G g=some cs->At (start W) cs ⟨g,0,none⟩):Good C.G I B0 (start W):=
 ⟨fun id x hx=>by simp[start] at hx,fun i j x y g hi=>by simp[start] at hi,Es,fun _ _ h=>h.elim,fun _ _ _ _ h=>(by cases h),Nat.le_refl _,hB,hI⟩
theorem fz (S:Sound C I B0){n k:Nat}{vs:List AV}{v:AV}{h':Hp}(hx:call C false n k vs []=.ok (v,h')){W:World}{args:List Value}(hI:I W)(hB:B0<=W.heap.size)
  (Es:∀g cs,C.G g=some cs->At (start W) cs ⟨g,0,none⟩) (CV:BK (start W) vs args):
  Calls C.P k args.toArray W (fun e w'=>∃c E',e=.returned c/\Below W.heap.size W w'/\E'.w=w'/\Rel E' v c):=by
 obtain⟨_,h⟩:=(LO S false n).2 k vs [] v h' hx
 refine(h (start W) args rfl (Vp hI hB Es) CV).mono fun e w' hp=> ?_
 obtain⟨c,E',rfl,rfl,St,_,hr⟩:=hp;exact⟨c,E',rfl,St.below,rfl,hr⟩
def isTrue :Except (List Nat) (AV×Hp)->Bool
 |.ok (.bool true,_)=>true
 |_=>false
theorem bS (S:Sound C I B0){n k:Nat}{vs:List AV}(hx:isTrue (call C false n k vs [])=true){W:World}{args:List Value}(hI:I W)(hB:B0<=W.heap.size)
  (Es:∀g cs,C.G g=some cs->At (start W) cs ⟨g,0,none⟩) (CV:BK (start W) vs args):
  Calls C.P k args.toArray W (fun e w'=>e=.returned (.bool true)/\Below W.heap.size W w'):=by
 unfold isTrue at hx;split at hx
 ·rename_i h' hc
  refine(fz S hc hI hB Es CV).mono fun e w' hp=> ?_
  obtain⟨c,E',rfl,hb,_,hr⟩:=hp;simp only[Rel] at hr;subst hr;exact⟨rfl,hb⟩
 ·cases hx
end
def Iz :List UInt8->List UInt8->Bool
 |[],x=>x.isEmpty
 |c::r,x=>x.isPrefixOf (c::r)||Iz r x
section
open Go.WideShapes Go.ChangeShapes
variable {H:Type}{enc:TypeId×Value->H}{P:Program}
theorem QA {f:Func}{s:ChangeSpec}{apart fresh handsOn again:Bool}{W W':World}{args:Array Value}{v:Value}{ds gs:List (DataW H)}{before pa pv:List MemPlace}
  (hW:DataW.Whole enc P f.params.toList s.vars apart W args.toList ds gs before)
  (Im:∀(b:Nat) (sp:Nat->Bool) (hd:Bool),DataW.TrodAll enc P W' b sp hd f.resultTypes.toList (v.resultList f.resultTypes.size) (s.fn H (ds++gs)).results [])
  (CV:∀sp:Nat->Bool,(∀p∈before,sp p.block=true)->DataW.TrodAll enc P W' 0 sp true f.params.toList args.toList (s.fn H (ds++gs)).args pa)
  (jG:∀sp:Nat->Bool,(∀p∈before,sp p.block=true)->DataW.TrodVars enc P W' sp s.vars (s.fn H (ds++gs)).vars pv)
  (po:before=pa++pv) (hb:Below W.heap.size W W')
  (BF:∀(j:Nat) (t:TypeId) (r:Value),f.resultTypes[j]?=some t->(v.resultList f.resultTypes.size)[j]?=some r->Value.okWide P W' .any 0 t r):
  s.post enc P f apart fresh handsOn again W args v W':=by
 have Au:∀p∈before,p.block<W.heap.size:=fun p hp=>hW.lt p hp
 have hold:∀p∈before,(fun b=>decide (b<W.heap.size)) p.block=true:=fun p hp=>by simpa using Au p hp
 refine⟨ds,gs,before,[],pa,pv,hW,Im _ _ _,CV _ hold,jG _ hold,World.keptBut_mono (fun p hp=>⟨hp,?_⟩) (hb.frame (·∈before)),fun _=> ?_⟩
 ·rw[po,List.mem_append] at hp;exact Or.inr hp
 ·obtain⟨_,_,_,_,_,hz,hn⟩:=hW
  refine⟨BF,_,_,([]++pa)++pv,⟨[]++pa,pv,trodAll_append (CV _ (fun _ _=>rfl)) (Im _ _ _),jG _ (fun _ _=>rfl),rfl,?_,?_⟩,?_⟩
  ·intro b off hp
   have Ud:MemPlace.cell b off∈before:=by rw[po];simpa using hp
   rw[hb.frozen (Au _ Ud)];exact hz b off Ud
  ·intro ha;have:=hn ha;rw[po] at this;simpa using this
  ·intro p hp _;rw[po];simpa using hp
end
end Go.Ai
