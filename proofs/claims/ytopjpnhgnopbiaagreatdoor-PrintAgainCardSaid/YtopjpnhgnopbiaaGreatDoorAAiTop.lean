/-
  From the evaluator to a call in a world; the shutting of a row.
-/
import Derived.Test.YtopjpnhgnopbiaaGreatDoorAAiExec
import Derived.Below
import Derived.ChangeSame
set_option linter.unusedVariables false
set_option linter.unusedSimpArgs false
set_option linter.unnecessarySimpa false
namespace Go.Ai
open Go.RowKit
def kR (C:Bm)(k:Nat):Bool:=
 match C.P.funcs[k]? with
 |some fn=>!(fn.name== "runtime.NumGoroutine")&&(match fn.body with
  |some c=>(C.Cr k).isSome||(C.FM k).isSome||Bn C.P fn.ntmps (C.Hk k) c
  |none=>false)
 |none=>false
def aW (C:Bm)(n:Nat):Bool:=(List.range n).all fun k=>!C.ok k||kR C k
section
variable {C:Bm}{I:World->Prop}{B0:Nat}
theorem WM {n:Nat}(h:aW C n=true)(hn:∀k,C.ok k=true->k<n){k:Nat}(hk:C.ok k=true):kR C k=true:=by
 have:=List.all_eq_true.1 h k (by simpa using hn k hk)
 simpa[hk] using this
theorem Sound.mk' (hI:∀w w',I w->Below B0 w w'->I w')(mixed:C.P.follows .mixedOrders=true)(ident:Pp C)(JL:∀g cs,C.G g=some cs->AO.Ad cs=true){n:Nat}(h:aW C n=true)(hn:∀k,C.ok k=true->k<n)
  (Y7:∀k g vs h v h',C.ok k=true->C.Cr k=some g->g vs h=some (v,h')->∀(E:Env) (args:List Value),E.h=h->Good C.G I B0 E->BT E vs args->Calls C.P k args.toArray E.w (Gj C.G I B0 E v h'))
  (ff:∀k g vs v,C.ok k=true->C.FM k=some g->g vs=some (true,v)->∀(E:Env) (args:List Value),E.h=[]->E.B=E.w.heap.size->Good C.G I B0 E->BT E vs args->
   Calls C.P k args.toArray E.w (fun e w'=>∃c,e=.returned c/\Below E.w.heap.size E.w w'/\Rel {E with w:=w'} v c)):Sound C I B0:=by
 refine⟨hI,mixed,JL,ident,fun k hk=> ?_,Y7,fun k fn c hk VX hp hf hb=> ?_,ff⟩
 ·have:=WM h hn hk;unfold kR at this
  cases hf:C.P.funcs[k]? with
  |none=>rw[hf] at this;cases this
  |some fn=>
   rw[hf] at this;simp only[Bool.and_eq_true,Bool.not_eq_true'] at this;refine⟨fn,hf,?_,this.1⟩
   cases hb:fn.body with
   |none=>rw[hb] at this;cases this.2
   |some c=>rfl
 ·have:=WM h hn hk;unfold kR at this;rw[hf] at this;simp only[Bool.and_eq_true,hb,hp,VX,Option.isSome_none,Bool.false_or] at this;exact this.2
def start (W:World):Env:={B:=W.heap.size,U:=fun _ _=>False,w:=W,σ:=fun _=>none,h:=[]}
theorem YI {W:World}(hI:I W)(hB:B0<=W.heap.size)(Fc:∀g cs,C.G g=some cs->At (start W) cs ⟨g,0,none⟩):Good C.G I B0 (start W):=
 ⟨fun id x hx=>by simp[start] at hx,fun i j x y g hi=>by simp[start] at hi,Fc,fun _ _ h=>h.elim,fun _ _ _ _ h=>(by cases h),Nat.le_refl _,hB,hI⟩
theorem j7 (S:Sound C I B0){n k:Nat}{vs:List AV}{v:AV}{h':Hp}(hx:call C false n k vs []=.ok (v,h')){W:World}{args:List Value}(hI:I W)(hB:B0<=W.heap.size)
  (Fc:∀g cs,C.G g=some cs->At (start W) cs ⟨g,0,none⟩) (Cd:BT (start W) vs args):
  Calls C.P k args.toArray W (fun e w'=>∃c E',e=.returned c/\Below W.heap.size W w'/\E'.w=w'/\Rel E' v c):=by
 obtain⟨_,h⟩:=(Mk S false n).2 k vs [] v h' hx
 refine(h (start W) args rfl (YI hI hB Fc) Cd).mono fun e w' hp=> ?_
 obtain⟨c,E',rfl,rfl,St,_,hr⟩:=hp;exact⟨c,E',rfl,St.below,rfl,hr⟩
def isTrue :Except (List Nat) (AV×Hp)->Bool
 |.ok (.bool true,_)=>true
 |_=>false
theorem fN (S:Sound C I B0){n k:Nat}{vs:List AV}(hx:isTrue (call C false n k vs [])=true){W:World}{args:List Value}(hI:I W)(hB:B0<=W.heap.size)
  (Fc:∀g cs,C.G g=some cs->At (start W) cs ⟨g,0,none⟩) (Cd:BT (start W) vs args):
  Calls C.P k args.toArray W (fun e w'=>e=.returned (.bool true)/\Below W.heap.size W w'):=by
 unfold isTrue at hx;split at hx
 ·rename_i h' hc
  refine(j7 S hc hI hB Fc Cd).mono fun e w' hp=> ?_
  obtain⟨c,E',rfl,hb,_,hr⟩:=hp;simp only[Rel] at hr;subst hr;exact⟨rfl,hb⟩
 ·cases hx
end
def An :List UInt8->List UInt8->Bool
 |[],x=>x.isEmpty
 |c::r,x=>x.isPrefixOf (c::r)||An r x
section
open Go.WideShapes Go.ChangeShapes
variable {H:Type}{enc:TypeId×Value->H}{P:Program}
theorem R9 {f:Func}{s:ChangeSpec}{apart fresh handsOn again:Bool}{W W':World}{args:Array Value}{v:Value}{ds gs:List (DataW H)}{before pa pv:List MemPlace}
  (hW:DataW.Whole enc P f.params.toList s.vars apart W args.toList ds gs before)
  (Jt:∀(b:Nat) (sp:Nat->Bool) (hd:Bool),DataW.TrodAll enc P W' b sp hd f.resultTypes.toList (v.resultList f.resultTypes.size) (s.fn H (ds++gs)).results [])
  (Cd:∀sp:Nat->Bool,(∀p∈before,sp p.block=true)->DataW.TrodAll enc P W' 0 sp true f.params.toList args.toList (s.fn H (ds++gs)).args pa)
  (l9:∀sp:Nat->Bool,(∀p∈before,sp p.block=true)->DataW.TrodVars enc P W' sp s.vars (s.fn H (ds++gs)).vars pv)
  (tn:before=pa++pv) (hb:Below W.heap.size W W')
  (Bk:∀(j:Nat) (t:TypeId) (r:Value),f.resultTypes[j]?=some t->(v.resultList f.resultTypes.size)[j]?=some r->Value.okWide P W' .any 0 t r):
  s.post enc P f apart fresh handsOn again W args v W':=by
 have BC:∀p∈before,p.block<W.heap.size:=fun p hp=>hW.lt p hp
 have hold:∀p∈before,(fun b=>decide (b<W.heap.size)) p.block=true:=fun p hp=>by simpa using BC p hp
 refine⟨ds,gs,before,[],pa,pv,hW,Jt _ _ _,Cd _ hold,l9 _ hold,World.keptBut_mono (fun p hp=>⟨hp,?_⟩) (hb.frame (·∈before)),fun _=> ?_⟩
 ·rw[tn,List.mem_append] at hp;exact Or.inr hp
 ·obtain⟨_,_,_,_,_,hz,hn⟩:=hW
  refine⟨Bk,_,_,([]++pa)++pv,⟨[]++pa,pv,trodAll_append (Cd _ (fun _ _=>rfl)) (Jt _ _ _),l9 _ (fun _ _=>rfl),rfl,?_,?_⟩,?_⟩
  ·intro b off hp
   have Hv:MemPlace.cell b off∈before:=by rw[tn];simpa using hp
   rw[hb.frozen (BC _ Hv)];exact hz b off Hv
  ·intro ha;have:=hn ha;rw[tn] at this;simpa using this
  ·intro p hp _;rw[tn];simpa using hp
end
end Go.Ai
