/-
  Library functions as primitives: tables, and what each owes.
  More library functions as primitives: strings.Index, strings.Fields.
  More library functions as primitives: strings.Cut, strings.IndexByte, strconv.Itoa, strconv.Atoi.
  More library functions as primitives: strings.Trim, strings.Repeat, strings.TrimLeft.
  strings.ReplaceAll as a primitive.
-/
import Derived.Test.YtopjpnhgnopbiaaGreatDoorAAiData
import Derived.Lib.IndexMore
import Derived.Laws.Externs
import Derived.Lib.Fields
import Derived.Lib.ItoaNum
import Derived.Lib.AtoiAll
import Derived.Lib.AppendIntMem
import Derived.WalkSmall
import Derived.Lib.Bytealg
import Derived.Lib.SlTrimSet
import Derived.Lib.Repeat
import Derived.Lib.Replace
import Derived.Lib.CountLaws
set_option linter.unusedVariables false
set_option linter.unusedSimpArgs false
set_option linter.unnecessarySimpa false
section
namespace Go.Ai
open Go.RowKit
def HR {α:Type}(f:Nat):List (Nat×α)->Option α
 |[]=>none
 |(k,g)::r=>bif Nat.beq f k then some g else HR f r
theorem EP {α:Type}{f:Nat}{g:α}:∀{l:List (Nat×α)},HR f l=some g->(f,g)∈l
 |[],h=>by simp[HR] at h
 |(k,g')::r,h=>by
  simp only[HR] at h
  cases hb:Nat.beq f k with
  |true=>
   rw[hb] at h;simp only[cond_true,Option.some.injEq] at h;have:=Nat.eq_of_beq_eq_true hb;subst this;subst h;simp
  |false=>
   rw[hb] at h;exact List.mem_cons_of_mem _ (EP h)
def Er (P:Program)(G:Nat->Option (List AV))(I:World->Prop)(B0:Nat)(k:Nat)(g:List AV->Option (Bool×AV)):Prop:=
 ∀vs v,g vs=some (true,v)->∀(E:Env) (args:List Value),E.h=[]->E.B=E.w.heap.size->Good G I B0 E->BT E vs args->
  Calls P k args.toArray E.w (fun e w'=>∃c,e=.returned c/\Below E.w.heap.size E.w w'/\Rel {E with w:=w'} v c)
def dx (P:Program)(G:Nat->Option (List AV))(I:World->Prop)(B0:Nat)(k:Nat)(g:List AV->Hp->Option (AV×Hp)):Prop:=
 ∀vs h v h',g vs h=some (v,h')->∀(E:Env) (args:List Value),E.h=h->Good G I B0 E->BT E vs args->Calls P k args.toArray E.w (Gj G I B0 E v h')
theorem Q7 {P:Program}{f:FuncId}{fn:Func}(hf:P.funcs[f]?=some fn)(MN:(fn.name== "runtime.NumGoroutine")=false)(hb:fn.body.isNone=true)(hn:Extern.findNext fn=none)(he:Extern.find fn=some Extern.AbiNoEscape.same)(x:Value)(w:World):
  (callFunc f #[x]).run P w=.ok (.value x) w:=by
 rw[run_callFunc_extern hf MN hb hn (e:=Extern.AbiNoEscape.same) he];rfl
def GC :List AV->Option (Bool×AV)
 |[.str s,.str x]=>some (Nat.blt s.length 4294967281,.bool (An s x))
 |_=>none
theorem XS :∀s x:List UInt8,An s x=Lib.contains s x
 |[],x=>by cases x<;>rfl
 |c::r,x=>by
  rw[An,XS r x,Lib.contains,Lib.contains,Lib.index]
  cases h:x.isPrefixOf (c::r) with
  |true=>simp
  |false=>
   have:=Lib.index_spec r x;simp only[Bool.false_or,Bool.false_eq_true,if_false]
   by_cases h1:Lib.index r x= -1
   ·simp[h1]
   ·have h2:(Lib.index r x== -1)=false:=by simpa using h1
    simp only[h2,Bool.false_eq_true,if_false]
    rcases this with ⟨h3,_⟩|⟨i,h3,_⟩
    ·exact absurd h3 h1
    ·rw[h3];apply Bool.eq_iff_iff.2;simp only[decide_eq_true_eq];omega
section
variable {P:Program}{G:Nat->Option (List AV)}{I:World->Prop}{B0:Nat}
theorem UP {k:Nat}(hc:∀(s sub:ByteArray) (w:World),I w->s.size<4294967281->Calls P k #[.string s,.string sub] w (fun e w'=>e=.returned (.bool (Lib.contains s.data.toList sub.data.toList))/\w'=w)):Er P G I B0 k GC:=by
 intro vs v hg E args hE hEB H hr;unfold GC at hg;split at hg
 ·rename_i s x;simp only[Option.some.injEq,Prod.mk.injEq] at hg;obtain⟨h1,rfl⟩:=hg;obtain⟨a,r,rfl,rfl,b,r2,rfl,rfl,rfl⟩:=hr
  refine(hc ⟨s.toArray⟩ ⟨x.toArray⟩ E.w H.I (Nat.le_of_ble_eq_true h1)).mono fun e w' hp=> ?_
  obtain⟨rfl,rfl⟩:=hp
  exact⟨_,rfl,Below.refl _ _,by simp[Rel,XS]⟩
 ·cases hg
end
end Go.Ai
end
section
namespace Go.Ai
open Go.RowKit
def JY :List UInt8->List UInt8->Nat->Int
 |[],x,i=>match x.isEmpty with|true=>i|false=> -1
 |c::r,x,i=>match x.isPrefixOf (c::r) with|true=>i|false=>JY r x (i+1)
theorem bA :∀(s x:List UInt8) (i:Nat),JY s x i=if Lib.index s x= -1 then -1 else Lib.index s x+i
 |[],x,i=>by cases x<;>simp[JY,Lib.index]
 |c::r,x,i=>by
  rw[JY,Lib.index]
  cases h:x.isPrefixOf (c::r) with
  |true=>simp
  |false=>
   rw[bA r x (i+1)];have:=Lib.index_ge r x
   by_cases h1:Lib.index r x= -1
   ·simp[h1]
   ·have h2:(Lib.index r x== -1)=false:=by simpa using h1
    have h3:¬(Lib.index r x+1= -1):=by omega
    simp only[h1,h2,h3,if_false,Bool.false_eq_true];omega
theorem dE (s x:List UInt8):JY s x 0=Lib.index s x:=by
 rw[bA];split
 ·rename_i h;exact h.symm
 ·simp
def Qb :List AV->Option (Bool×AV)
 |[.str s,.str x]=>some (Nat.blt s.length 4294967281,.int .i64 (JY s x 0))
 |_=>none
def PY :List AV->Option (Bool×AV)
 |[.str s]=>some (Nat.blt s.length 4294967281&&s.all (fun b=>Nat.blt b.toNat 128),.sl 1 ((Lib.fields s).map fun l=>[.str l]) none)
 |_=>none
section
variable {P:Program}{G:Nat->Option (List AV)}{I:World->Prop}{B0:Nat}{k:Nat}
theorem cX (h:∀(s sub:ByteArray) (w:World),I w->s.size<4294967281->Calls P k #[.string s,.string sub] w fun e w'=>e=.returned (.int .i64 (Lib.index s.data.toList sub.data.toList))/\w'=w):Er P G I B0 k Qb:=by
 intro vs v hv E args hE hB H hr;unfold Qb at hv;split at hv
 ·rename_i s x;simp only[Option.some.injEq,Prod.mk.injEq] at hv;obtain⟨h1,rfl⟩:=hv;obtain⟨a,r,rfl,rfl,b,r2,rfl,rfl,rfl⟩:=hr
  refine(h ⟨s.toArray⟩ ⟨x.toArray⟩ E.w H.I (Nat.le_of_ble_eq_true h1)).mono fun e w' hp=> ?_
  obtain⟨rfl,rfl⟩:=hp
  exact⟨_,rfl,Below.refl _ _,by simp[Rel,dE]⟩
 ·cases hv
theorem YZ {t:TypeId}(h:∀(s:ByteArray) (w:World),I w->s.size<4294967281->(∀(j:Nat) b,s.data.toList[j]?=some b->b.toNat<128)->Calls P k #[.string s] w fun e w'=>
   e=.returned (.slice (some ⟨w.heap.size,0,none⟩) (Lib.fields s.data.toList).length (Lib.fields s.data.toList).length)/\w'=w.alloc (.cells ((Lib.fields s.data.toList).map fun l=>Value.string ⟨l.toArray⟩).toArray t)) (hlen:∀s:List UInt8,(Lib.fields s).length<=s.length+1):Er P G I B0 k PY:=by
 intro vs v hv E args hE hB H hr;unfold PY at hv;split at hv
 ·rename_i s;simp only[Option.some.injEq,Prod.mk.injEq,Bool.and_eq_true,List.all_eq_true] at hv;obtain⟨⟨h1,h2⟩,rfl⟩:=hv;obtain⟨a,r,rfl,rfl,rfl⟩:=hr;have hs:s.length<4294967281:=Nat.le_of_ble_eq_true h1
  refine(h ⟨s.toArray⟩ E.w H.I (by simpa[ByteArray.size] using hs) fun j b hj=>Nat.le_of_ble_eq_true (h2 b (List.mem_of_getElem? (by simpa using hj)))).mono fun e w' hp=> ?_
  obtain⟨rfl,rfl⟩:=hp;have hl:=hlen s
  refine⟨_,rfl,(Below.refl _ _).alloc (Nat.le_refl _) _,⟨⟨some ⟨E.w.heap.size,0,none⟩,(Lib.fields s).length,by simp,by simp,by unfold maxLen;omega,?_,fun _=>⟨_,rfl,?_⟩⟩,trivial⟩⟩
  ·intro e he;obtain⟨l,_,rfl⟩:=List.mem_map.1 he;rfl
  ·rw[Rows.iff,At.iff];intro j c hj
   have HU:∀l:List (List UInt8),(l.map fun x=>[AV.str x]).flatten=l.map AV.str:=by
    intro l
    induction l with
    |nil=>rfl
    |cons x r ih=>simp[ih]
   rw[HU,List.getElem?_map,Option.map_eq_some_iff] at hj;obtain⟨l,Xo,rfl⟩:=hj
   refine⟨.string ⟨l.toArray⟩,?_,rfl,⟨⟨fun hU=> ?_,fun q i m hq=> ?_⟩,fun id x hx=> ?_⟩,rfl⟩
   ·rw[Addr.add_lit,Nat.zero_add];show(E.w.alloc _).cell? ⟨E.w.heap.size,j,none⟩=_;rw[World.cell?_alloc_new];simp[Xo]
   ·have:=H.U _ _ hU;simp only at this;omega
   ·have:=(H.ar _ q i m hq).2.1;simp only at this;omega
   ·simp[hE] at hx
 ·cases hv
end
theorem JB :∀(s cur:List UInt8),(Lib.fieldsGo cur s).length<=s.length+1
 |[],cur=>by unfold Lib.fieldsGo;split<;>simp
 |b::l,cur=>by
  have h1:=JB l (cur++[b]);have h2:=JB l [];unfold Lib.fieldsGo;simp only[List.length_cons]
  repeat' split
  all_goals first|omega|(simp;omega)
theorem ZU (s:List UInt8):(Lib.fields s).length<=s.length+1:=JB s []
end Go.Ai
end
section
namespace Go.Ai
open Go.RowKit Go.Sort
def ME :List AV->Option (Bool×AV)
 |[.str s,.int .u8 c]=>some (decide (0<=c)&&decide (c<256),.int .i64 (Lib.indexByte s c.toNat.toUInt8))
 |_=>none
section
variable {P:Program}{G:Nat->Option (List AV)}{I:World->Prop}{B0:Nat}{k:Nat}
theorem Ya (h:∀(s:ByteArray) (c:Int) (w:World),I w->Calls P k #[.string s,.int .u8 c] w fun e w'=>e=.returned (.int .i64 (Lib.indexByte s.data.toList c.toNat.toUInt8))/\w'=w):Er P G I B0 k ME:=by
 intro vs v hv E args hE hB H hr;unfold ME at hv;split at hv
 ·rename_i s c;simp only[Option.some.injEq,Prod.mk.injEq] at hv;obtain⟨h1,rfl⟩:=hv;obtain⟨a,r,rfl,rfl,b,r2,rfl,rfl,rfl⟩:=hr
  refine(h ⟨s.toArray⟩ c E.w H.I).mono fun e w' hp=> ?_
  obtain⟨rfl,rfl⟩:=hp;exact⟨_,rfl,Below.refl _ _,rfl⟩
 ·cases hv
end
end Go.Ai
end
section
namespace Go.Ai
open Go.RowKit Go.Sort
def jc (l:List UInt8):Bool:=l.all fun b=>Nat.blt b.toNat 128
def KQ :List AV->Option (Bool×AV)
 |[.str s,.str cs]=>some (Nat.blt cs.length 4294967281&&jc cs,.str (Lib.trimLeftS s cs))
 |_=>none
section
variable {P:Program}{G:Nat->Option (List AV)}{I:World->Prop}{B0:Nat}{k:Nat}
theorem dm {l:List UInt8}(h:jc l=true):∀(j:Nat) b,l[j]?=some b->b.toNat<128:=fun j b hj=>Nat.le_of_ble_eq_true (List.all_eq_true.1 h b (List.mem_of_getElem? hj))
theorem UO (h:∀(s cs:ByteArray) (w:World),I w->cs.size<4294967281->(∀(j:Nat) b,cs.data.toList[j]?=some b->b.toNat<128)->Calls P k #[.string s,.string cs] w fun e w'=>
   e=.returned (.string ⟨(Lib.trimLeftS s.data.toList cs.data.toList).toArray⟩)/\Below w.heap.size w w'):Er P G I B0 k KQ:=by
 intro vs v hv E args hE hB H hr;unfold KQ at hv;split at hv
 ·rename_i s x;simp only[Option.some.injEq,Prod.mk.injEq,Bool.and_eq_true] at hv;obtain⟨⟨h2,h3⟩,rfl⟩:=hv;obtain⟨a,r,rfl,rfl,b,r2,rfl,rfl,rfl⟩:=hr
  refine(h ⟨s.toArray⟩ ⟨x.toArray⟩ E.w H.I (Nat.le_of_ble_eq_true h2) (dm h3)).mono fun e w' hp=> ?_
  obtain⟨rfl,hb⟩:=hp;exact⟨_,rfl,hb,rfl⟩
 ·cases hv
end
end Go.Ai
end
section
namespace Go.Ai
open Go.RowKit Go.Sort
section
variable {P:Program}{G:Nat->Option (List AV)}{I:World->Prop}{B0:Nat}{k:Nat}
end
end Go.Ai
end
