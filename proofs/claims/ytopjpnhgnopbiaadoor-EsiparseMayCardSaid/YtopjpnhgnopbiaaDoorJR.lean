/-
  A range over a function that hands on the nodes of a tree: what a round keeps, what an iterator answers for, and the statement's law.
  A function that keeps to its contract may be taken as a primitive, in another configuration. No statement about the program is made here.
  A function under contract, called in whatever world; values carried from world to world.
  Trees of nodes as they lie in memory: their nodes' values, in order.
-/
import Derived.CallsIn
import Derived.RangeFuncIn
import Derived.RangeFuncRecord
import Derived.RangeFuncSeq
import Derived.RangeFuncLeaves
import Derived.Below
import Derived.Test.YtopjpnhgnopbiaaDoorAiLaw
import Derived.Test.YtopjpnhgnopbiaaDoorJT
set_option linter.unusedVariables false
set_option linter.unusedSimpArgs false
set_option linter.unnecessarySimpa false
section
namespace Go.Ai
open Go.RowKit
structure Kept (S:Nat→Prop) (W W':World):Prop where
 os:W'.os=W.os
 tape:W'.tape=W.tape
 output:W'.output=W.output
 size:W.heap.size≤W'.heap.size
 block:∀k,k<W.heap.size→S k→W'.heap[k]?=W.heap[k]?
theorem Kept.refl (S:Nat→Prop)(W:World):Kept S W W:=⟨rfl,rfl,rfl,Nat.le_refl _,fun _ _ _=>rfl⟩
theorem Kept.trans {S:Nat→Prop}{A B C:World}(h:Kept S A B)(k:Kept S B C):Kept S A C:=
 ⟨k.os.trans h.os,k.tape.trans h.tape,k.output.trans h.output,Nat.le_trans h.size k.size,fun i hi hs=>(k.block i (Nat.lt_of_lt_of_le hi h.size) hs).trans (h.block i hi hs)⟩
theorem Kept.mono {S S':Nat→Prop}{A B:World}(h:Kept S A B)(hs:∀k,k<A.heap.size→S' k→S k):Kept S' A B:=
 ⟨h.os,h.tape,h.output,h.size,fun k hk h'=>h.block k hk (hs k hk h')⟩
theorem Kept.alloc {S:Nat→Prop}{A B:World}(h:Kept S A B)(o:Obj):Kept S A (B.alloc o):=
 h.trans ⟨rfl,rfl,rfl,by simp,fun k hk _=>Below.heap_alloc _ _ _ hk⟩
theorem Kept.putObj {S:Nat→Prop}{A B:World}(h:Kept S A B)(l:Nat)(o:Obj)(hl:¬S l∨A.heap.size≤l):Kept S A (B.putObj l o):=
 ⟨h.os,h.tape,h.output,by simpa using h.size,fun k hk hs=>by
  rw[World.putObj_heap_other (by rintro rfl;rcases hl with h1|h1<;>first|exact h1 hs|omega)]
  exact h.block k hk hs⟩
theorem Kept.setCell {S:Nat→Prop}{A B:World}(h:Kept S A B)(a:Addr)(v:Value)(hl:¬S a.block∨A.heap.size≤a.block):Kept S A (B.setCell a v):=
 ⟨h.os,h.tape,h.output,by have:=h.size;simpa[World.setCell] using this,fun k hk hs=>by
  rw[Below.heap_setCell _ _ _ _ (by rintro rfl;rcases hl with h1|h1<;>first|exact h1 hs|omega)]
  exact h.block k hk hs⟩
theorem Kept.below {S:Nat→Prop}{b:Nat}{A B:World}(h:Kept S A B)(hb:b≤A.heap.size)(hs:∀k,k<b→S k):Below b A B:=
 ⟨h.os,h.tape,h.output,h.size,fun k hk=>h.block k (by omega) (hs k hk)⟩
theorem Kept.cell {S:Nat→Prop}{A B:World}(h:Kept S A B){a:Addr}(ha:a.block<A.heap.size)(hs:S a.block):B.cell? a=A.cell? a:=by
 simp only[World.cell?,h.block _ ha hs]
theorem Kept.frozen {S:Nat→Prop}{A B:World}(h:Kept S A B){a:Addr}(ha:a.block<A.heap.size)(hs:S a.block):B.frozen? a=A.frozen? a:=by
 simp only[World.frozen?,h.block _ ha hs]
def Abide (b:Nat)(J:World→Prop):Prop:=∀W W',J W→b≤W.heap.size→Kept (·<b) W W'→J W'
theorem Abide.le {b b':Nat}{J:World→Prop}(h:Abide b J)(hb:b≤b'):Abide b' J:=
 fun W W' hj hs hk=>h W W' hj (by omega) (hk.mono fun k _ h1=>by omega)
theorem Abide.and {b:Nat}{J K:World→Prop}(h:Abide b J)(k:Abide b K):Abide b (fun W=>J W∧K W):=
 fun W W' hj hs hk=>⟨h W W' hj.1 hs hk,k W W' hj.2 hs hk⟩
theorem Abide.kept {b:Nat}{S:Nat→Prop}{w:World}(hb:w.heap.size≤b):Abide b (Kept S w):=fun W W' h hs hk=>
 ⟨hk.os.trans h.os,hk.tape.trans h.tape,hk.output.trans h.output,Nat.le_trans h.size hk.size,fun k hk' h1=>(hk.block k (by omega) (by show k<b;omega)).trans (h.block k hk' h1)⟩
theorem Abide.obj {b k:Nat}{o:Obj}(hk:k<b):Abide b (fun W=>W.heap[k]?=some o):=fun W W' h hs hK=>(hK.block k (by omega) hk).trans h
theorem Abide.ex {α:Type}{b:Nat}{J:α→World→Prop}(h:∀x,Abide b (J x)):Abide b (fun W=>∃x,J x W):=fun W W' ⟨x,hx⟩ hs hk=>⟨x,h x W W' hx hs hk⟩
def SeqX (P:Program)(g:Nat)(lb:Array Value)(S:Nat→Prop)(T:List Value)(W:World):Prop:=
 ∀(l:Nat) (J Jx:List Value→World→Prop),(∀s,Abide W.heap.size (J s))→(∀s,Abide W.heap.size (Jx s))→(∀k,W.heap.size≤k→S k)→
  (∀pre x W1,J pre W1→W.heap.size≤W1.heap.size→(pre++[x])<+:T→YieldAt Fence.wide 0 P l #[x] W1 fun e W'=>
   Kept S W1 W'∧((e=.returned (.bool true)∧J (pre++[x]) W')∨(e=.returned (.bool false)∧Jx (pre++[x]) W')))→
  J [] W→
  CallsIn Fence.wide 0 P g (#[.func (.yield l) #[] #[]]++lb) W fun e W'=>(∃v,e=.returned v)∧(J T W'∨∃pre,pre<+:T∧Jx pre W')
def postX (S:Nat→Prop)(I:List Value→World→Prop)(Ix:Code→List Value→World→Prop)(xs:List Value)(W:World):Exit→Act→World→Prop
 |.normal,_,W'=>Kept S W W'∧I xs W'
 |.ret,_,W'=>Kept S W W'∧Ix .ret xs W'
 |.exit id,_,W'=>Kept S W W'∧Ix (.exit id) xs W'
 |.goto t,_,W'=>Kept S W W'∧Ix (.goto t) xs W'
 |.panic _,_,_=>False
 |.outgrown,_,_=>False
theorem wp_rangeSeq {P:Program}{g:Operand}{p:Tmp}{assign body:Code}{Q:Exit→Act→World→Prop}{a:Act}{w:World}{gf:Nat}{lb:Array Value}{S:Nat→Prop}{T:List Value}
  (hg:a.eval g=.func (.func gf) #[] lb) (eg:∀args w,(callFunc gf args).run P w=.ok (.enter gf args) w)
  (hS:∀k,w.heap.size≤k→S k)
  (hseq:∀W1,Kept (fun _=>True) w W1→W1.heap.size=w.heap.size+2→SeqX P gf lb (fun k=>S k∧k≠w.heap.size+1) T W1)
  (I:List Value→World→Prop) (Ix:Code→List Value→World→Prop) (hI:∀s,Abide w.heap.size (I s)) (hIx:∀c s,Abide w.heap.size (Ix c s)) (h0:I [] w)
  (hround:∀(l:Nat) (pre:List Value) (x:Value) (W:World),I pre W→Kept S w W→w.heap.size+2≤W.heap.size→(pre++[x])<+:T→
   assign.wpIn (Fence.wide.inRound l) 0 P (Exit.then (fun a₁ W₁=>Kept S W W₁∧∀W₂,Kept (fun k=>k≠w.heap.size+1) W₁ W₂→body.wpIn (Fence.wide.inRound l) 0 P (postX S I Ix (pre++[x]) W₂) a₁ W₂) (fun _ _ _=>False))
    {tmps:=(#[p].zip #[x]).foldl (fun t (p,v)=>t.setIfInBounds p v) a.tmps,defers:=[]} W)
  (hdone:∀(D:Nat) (W:World),w.heap.size≤D→I T W→Kept S w W→W.heap[D]?=some (.deferred (some []))→Q .normal {a with defers:={target:=.collected D,args:= #[]}::a.defers} W)
  (hstop:∀(D:Nat) (c:Code) (pre:List Value) (W:World),w.heap.size≤D→pre<+:T→Ix c pre W→Kept S w W→W.heap[D]?=some (.deferred (some []))→c.wpIn Fence.wide 0 P Q {a with defers:={target:=.collected D,args:= #[]}::a.defers} W):
  (Code.rangeFunc g #[p] assign body).wpIn Fence.wide 0 P Q a w:=by
 refine wpIn_rangeFunc ?_;intro fn hfn
 obtain⟨rec,hrec⟩:∃rec:LoopState→Option Code→Loop,rec=fun st pe=>{state:=st,pending:=pe,fn,tmps:=a.tmps,params:= #[p],assign,body,defers:=w.heap.size}:=⟨_,rfl⟩
 obtain⟨W1,hW1⟩:∃W1,(w.alloc (.deferred (some []))).alloc (.loop (rec .ready none))=W1:=⟨_,rfl⟩
 have hL1:W1.heap[w.heap.size+1]?=some (.loop (rec .ready none)):=by
  rw[←hW1];have:=World.alloc_heap_new (w.alloc (.deferred (some []))) (.loop (rec .ready none));rwa [World.size_alloc] at this
 have hK1:W1.heap[w.heap.size]?=some (.deferred (some [])):=by
  rw[←hW1];exact(Below.heap_alloc _ _ _ (by simp)).trans (World.alloc_heap_new w _)
 have hk1:Kept (fun _=>True) w W1:=by rw[←hW1];exact((Kept.refl _ w).alloc _).alloc _
 have hz1:W1.heap.size=w.heap.size+2:=by rw[←hW1];simp
 have hall:∀k,k<w.heap.size→(fun k=>k<w.heap.size) k→(fun _:Nat=>True) k:=fun _ _ _=>trivial
 have hI1:I [] W1:=hI [] w W1 h0 (Nat.le_refl _) (hk1.mono hall)
 refine⟨w.heap.size+1,[{target:=.collected w.heap.size,args:= #[]}],W1,{target:=.fn (.func gf) lb,args:= #[.func (.yield (w.heap.size+1)) #[] #[]]},W1,gf,
  #[.func (.yield (w.heap.size+1)) #[] #[]]++lb,W1,?_,?_,?_,?_,fun h=>by simp[Fence.wide] at h,?_⟩
 ·rw[←hW1,hrec];exact run_enterLoop_outer _ _ _ _ _
 ·simp only[resolve,hg];simp[go_sem]
 ·intro f' _;trivial
 ·simp[invoke,go_sem,eg]
 ·have hput:∀(W:World) (o:Obj),Kept (fun k=>k≠w.heap.size+1) W (W.putObj (w.heap.size+1) o):=fun W o=>(Kept.refl _ W).putObj _ o (.inl fun h=>h rfl)
  have hputw:∀(W:World) (o:Obj),Kept S w W→Kept S w (W.putObj (w.heap.size+1) o):=fun W o h=>h.putObj _ o (.inr (by omega))
  have hputI:∀(W:World) (o:Obj),w.heap.size≤W.heap.size→Kept (·<w.heap.size) W (W.putObj (w.heap.size+1) o):=fun W o _=>(Kept.refl _ W).putObj _ o (.inl (by omega))
  refine(hseq W1 hk1 hz1 (w.heap.size+1)
   (fun pre W=>I pre W∧Kept S w W∧W.heap[w.heap.size+1]?=some (.loop (rec .ready none))∧W.heap[w.heap.size]?=some (.deferred (some [])))
   (fun pre W=>(∃c,Ix c pre W∧W.heap[w.heap.size+1]?=some (.loop (rec .done (some c))))∧Kept S w W∧W.heap[w.heap.size]?=some (.deferred (some [])))
   (fun s=>Abide.and ((hI s).le (by omega)) (Abide.and (Abide.kept (by omega)) (Abide.and (Abide.obj (by omega)) (Abide.obj (by omega)))))
   (fun s=>Abide.and (Abide.ex fun c=>Abide.and ((hIx c s).le (by omega)) (Abide.obj (by omega))) (Abide.and (Abide.kept (by omega)) (Abide.obj (by omega))))
   (fun k hk=>⟨hS k (by omega),by omega⟩)
   ?_ ⟨hI1,hk1.mono (fun _ _ _=>trivial),hL1,hK1⟩).mono ?_
  ·
   rintro pre x W ⟨hi,hkw,hl,hk⟩ hsz hpre
   have hlt:w.heap.size+1<W.heap.size:=(Array.getElem?_eq_some_iff.1 hl).1
   have hy:=run_yield (P:=P) (args:= #[x]) hl (by rw[hrec];rfl)
   rw[hrec] at hy;refine⟨fn,_,assign,body,hy,roundIn_of_wpIn hfn ?_⟩
   refine wpIn_mono (hround _ pre x W hi hkw (by omega) hpre) ?_
   rintro e a₁ W₁ hp
   cases e with
   |exit id=>exact hp.elim
   |goto t=>exact hp.elim
   |ret=>exact hp.elim
   |panic chain=>exact hp.elim
   |outgrown=>exact hp.elim
   |normal=>
   obtain⟨hka,hbody⟩:=hp
   have hlA:=(hka.block _ hlt (hS _ (by omega))).trans hl
   have hkA:=(hka.block w.heap.size (by omega) (hS _ (by omega))).trans hk
   have hltA:w.heap.size+1<W₁.heap.size:=(Array.getElem?_eq_some_iff.1 hlA).1;have hkwA:=hkw.trans hka
   refine⟨_,run_beginRound hlA (by rw[hrec]),?_⟩
   have hl2:(W₁.putObj (w.heap.size+1) (.loop {rec .ready none with state:=.busy})).heap[w.heap.size+1]?=some (.loop {rec .ready none with state:=.busy}):=World.putObj_heap_same hltA
   have hk2:(W₁.putObj (w.heap.size+1) (.loop {rec .ready none with state:=.busy})).heap[w.heap.size]?=some (.deferred (some [])):=(World.putObj_heap_other (by omega)).trans hkA
   have hw2:=hput W₁ (.loop {rec .ready none with state:=.busy})
   refine wpIn_mono (hbody _ hw2) ?_
   have fin:∀(jump:Option Code) (W3:World),Kept S (W₁.putObj (w.heap.size+1) (.loop {rec .ready none with state:=.busy})) W3→
     (Instr.endRound (w.heap.size+1) jump).run P W3=.ok (.bool jump.isNone) (W3.putObj (w.heap.size+1) (.loop (rec (if jump.isNone then .ready else .done) jump)))∧
     w.heap.size≤W3.heap.size∧Kept S w (W3.putObj (w.heap.size+1) (.loop (rec (if jump.isNone then .ready else .done) jump)))∧
     Kept (fun k=>S k∧k≠w.heap.size+1) W (W3.putObj (w.heap.size+1) (.loop (rec (if jump.isNone then .ready else .done) jump)))∧
     (W3.putObj (w.heap.size+1) (.loop (rec (if jump.isNone then .ready else .done) jump))).heap[w.heap.size+1]?=some (.loop (rec (if jump.isNone then .ready else .done) jump))∧
     (W3.putObj (w.heap.size+1) (.loop (rec (if jump.isNone then .ready else .done) jump))).heap[w.heap.size]?=some (.deferred (some [])):=fun jump W3 hk3=>by
    have hl3:=(hk3.block _ (by simpa using hltA) (hS _ (by omega))).trans hl2
    have hd3:=(hk3.block w.heap.size (by rw[World.putObj_size];omega) (hS _ (by omega))).trans hk2
    have hs3:w.heap.size≤W3.heap.size:=by have:=hk3.size;rw[World.putObj_size] at this;omega
    have hr:=run_endRound (P:=P) jump hl3;rw[hrec] at hr
    have hkA:Kept S w (W3.putObj (w.heap.size+1) (.loop (rec (if jump.isNone then .ready else .done) jump))):=hputw _ _ ((hputw _ _ hkwA).trans hk3)
    have hkB:Kept (fun k=>S k∧k≠w.heap.size+1) W (W3.putObj (w.heap.size+1) (.loop (rec (if jump.isNone then .ready else .done) jump))):=
     (((hka.mono fun _ _ h=>h.1).trans (hw2.mono fun _ _ h=>h.2)).trans (hk3.mono fun _ _ h=>h.1)).trans ((hput W3 _).mono fun _ _ h=>h.2)
    refine⟨by rw[hrec];exact hr,hs3,hkA,hkB,World.putObj_heap_same (Array.getElem?_eq_some_iff.1 hl3).1,(World.putObj_heap_other (by omega)).trans hd3⟩
   rintro e a3 W3 hp
   cases e with
   |normal=>
    obtain⟨hk3,hi3⟩:=hp;obtain⟨hr,hs3,hkA,hkB,hl4,hk4⟩:=fin none W3 hk3;exact⟨_,_,hr,hkB,.inl ⟨rfl,hI _ W3 _ hi3 hs3 (hputI _ _ hs3),hkA,hl4,hk4⟩⟩
   |ret=>
    obtain⟨hk3,hi3⟩:=hp;obtain⟨hr,hs3,hkA,hkB,hl4,hk4⟩:=fin (some .ret) W3 hk3;exact⟨_,_,hr,hkB,.inr ⟨rfl,⟨.ret,hIx _ _ W3 _ hi3 hs3 (hputI _ _ hs3),hl4⟩,hkA,hk4⟩⟩
   |exit id=>
    obtain⟨hk3,hi3⟩:=hp;obtain⟨hr,hs3,hkA,hkB,hl4,hk4⟩:=fin (some (.exit id)) W3 hk3;exact⟨_,_,hr,hkB,.inr ⟨rfl,⟨.exit id,hIx _ _ W3 _ hi3 hs3 (hputI _ _ hs3),hl4⟩,hkA,hk4⟩⟩
   |goto t=>
    obtain⟨hk3,hi3⟩:=hp;obtain⟨hr,hs3,hkA,hkB,hl4,hk4⟩:=fin (some (.goto t)) W3 hk3;exact⟨_,_,hr,hkB,.inr ⟨rfl,⟨.goto t,hIx _ _ W3 _ hi3 hs3 (hputI _ _ hs3),hl4⟩,hkA,hk4⟩⟩
   |panic ch=>exact hp.elim
   |outgrown=>exact hp.elim
  ·
   rintro e W2 ⟨⟨v,rfl⟩,(⟨hi,hkw,hl,hk⟩|⟨pre,hpre,⟨c,hi,hl⟩,hkw,hk⟩)⟩
   ·have hs2:w.heap.size≤W2.heap.size:=hkw.size
    exact⟨none,_,by have:=run_endLoop (P:=P) hl (by rw[hrec];simp);rw[hrec] at this;exact this,hdone _ _ (Nat.le_refl _) (hI _ W2 _ hi hs2 (hputI _ _ hs2)) (hputw _ _ hkw) ((World.putObj_heap_other (by omega)).trans hk)⟩
   ·have hs2:w.heap.size≤W2.heap.size:=hkw.size
    exact⟨some c,_,by have:=run_endLoop (P:=P) hl (by rw[hrec];simp);rw[hrec] at this;exact this,hstop _ c pre _ (Nat.le_refl _) hpre (hIx _ _ W2 _ hi hs2 (hputI _ _ hs2)) (hputw _ _ hkw) ((World.putObj_heap_other (by omega)).trans hk)⟩
def Marks (b:Nat)(w:World):List Deferred→Prop
 |[]=>True
 |d::ds=>(∃D,d.target=.collected D∧b≤D∧w.heap[D]?=some (.deferred (some []))∧∀d'∈ds,d'.target≠.collected D)∧Marks b w ds
theorem Marks.kept {b b0:Nat}{S:Nat→Prop}{w w':World}(hk:Kept S w w')(hS:∀k,b≤k→S k):∀{ds:List Deferred},Marks b w ds→Marks b w' ds
 |[],_=>trivial
 |_::_,⟨⟨D,h1,h2,h3,h4⟩,h5⟩=>⟨⟨D,h1,h2,(hk.block D (Array.getElem?_eq_some_iff.1 h3).1 (hS D h2)).trans h3,h4⟩,h5.kept (b0:=b0) hk hS⟩
theorem Marks.lt {b:Nat}{w:World}:∀{ds:List Deferred},Marks b w ds→∀d∈ds,∃D,d.target=.collected D∧D<w.heap.size
 |[],_,d,hd=>by cases hd
 |e::ds,⟨⟨D,h1,h2,h3,h4⟩,h5⟩,d,hd=>by
  rcases List.mem_cons.1 hd with rfl|hd
  ·exact⟨D,h1,(Array.getElem?_eq_some_iff.1 h3).1⟩
  ·exact h5.lt d hd
theorem Marks.put {b:Nat}{w:World}{D:Nat}{o:Obj}:∀{ds:List Deferred},(∀d'∈ds,d'.target≠.collected D)→Marks b w ds→Marks b (w.putObj D o) ds
 |[],_,_=>trivial
 |d::ds,hn,⟨⟨D',h1,h2,h3,h4⟩,h5⟩=>⟨⟨D',h1,h2,by
   rw[World.putObj_heap_other (by rintro rfl;exact hn d (by simp) h1)]
   exact h3,h4⟩,h5.put fun d' hd=>hn d' (by simp[hd])⟩
theorem leaves_marks {P:Program}{fn:Func}{tmps:Array Value}{R:Ending→World→Prop}{b:Nat}:∀(ds:List Deferred) (w:World),b≤w.heap.size→Marks b w ds→
  (∀w',Kept (·<b) w w'→∃v,(results fn tmps).run P w'=.ok v w'∧R (.returned v) w')→LeavesInM Fence.wide 0 P fn tmps R ds .returning w
 |[],w,_,_,h=>by
  obtain⟨v,h1,h2⟩:=h w (Kept.refl _ _);exact⟨v,h1,h2⟩
 |d::ds,w,hb,⟨⟨D,h1,h2,h3,h4⟩,h5⟩,h=>by
  have hk:Kept (·<b) w (w.putObj D (.deferred none)):=(Kept.refl _ _).putObj _ _ (.inl (by omega))
  exact⟨by simp,.inl ⟨D,_,h1,run_takeDeferred h3,leaves_marks ds _ (by simpa using hb) (h5.put h4) fun w' hw=>h w' (hk.trans hw)⟩⟩
theorem res_cell {P:Program}{fn:Func}{p:Tmp}{ty:TypeId}(h:fn.results= #[.cell p ty])(tmps:Array Value)(w:World)(a:Addr)(v:Value)(d:TypeDesc)
  (hp:tmps.getD p undef=.pointer (some a)) (hu:P.underlying ty=some d) (hd:(match d with|.struct _|.array _ _=>true|_=>false)=false) (hc:w.cell? a=some v):
  (results fn tmps).run P w=.ok v w:=by
 have hp':tmps[p]?.getD undef=.pointer (some a):=by simpa using hp
 have hagg:(isAgg ty).run P w=.ok false w:=by
  unfold isAgg;simp only[Sem.run_bind,run_underlying hu,Result.andThen]
  cases d<;>simp_all
 have hl:(loadVar ty a).run P w=.ok v w:=by
  unfold loadVar;simp[Sem.run_bind,hagg,Result.andThen,run_load,hc]
 simp[results,h,hp',asAddr,hl]
end Go.Ai
end
section
namespace Go.Ai
open Go.RowKit
end Go.Ai
end
section
namespace Go.Ai
open Go.RowKit
theorem cut_start {E:Env}{W':World}(hw:E.w=W'):Cut 0 [] E (start W'):=
 ⟨hw.symm,fun _ h=>absurd h (Nat.not_lt_zero _),fun b o w _ hs=>stable_start W' b o,
  fun _ _ _ h=>absurd h (Nat.not_lt_zero _),fun _ h=>absurd h (Nat.not_lt_zero _),Nat.zero_le _,fun _ _ _ _ h=>absurd h (Nat.not_lt_zero _),fun _ _ _ h=>absurd h (Nat.not_lt_zero _),fun _ _ _ _ _ _ _ _ h=>absurd h (Nat.not_lt_zero _),fun _ h=>absurd h (Nat.not_lt_zero _),fun b t cs _ h=>by simp at h⟩
theorem rel_at {W W':World}{v:AV}{c:Value}(hp:pureV v=true)(h:Rel {start W with w:=W'} v c):Rel (start W') v c:=by
 have:=Rel.cut (cut_start (E:={start W with w:=W'}) rfl) v c h
 rwa [strip_pure 0 [] v hp] at this
theorem le_later {W W':World}(hk:Below W.heap.size W W'):Le (start W) {start W with w:=W'}:=
 ⟨rfl,fun a v h s=>⟨by
   have hb:a.block<W.heap.size:=by
    have:W.cell? a=some v:=h;unfold World.cell? at this;split at this
    ·rename_i o ho;exact(Array.getElem?_eq_some_iff.1 ho).1
    ·cases this
   show W'.cell? a=some v;simp only[World.cell?,hk.block _ hb]
   exact h,s⟩,Nat.le_refl _,fun _ _ cs h=>⟨cs,h,rfl,rfl⟩,fun _ n _ _ _ h=>by simp[start] at h,fun _ _ p h=>⟨p,h,rfl⟩,fun _ _ _ _ _ _ _ _ _ h=>by simp[start] at h,fun r es clock h=>by
   have hb:r<W.heap.size:=(Array.getElem?_eq_some_iff.1 (show W.heap[r]?=_ from h)).1
   exact(hk.block r hb).trans h⟩
theorem rel_later {W W':World}{v:AV}{c:Value}(hp:pureV v=true)(hk:Below W.heap.size W W')(h:Rel (start W) v c):Rel (start W') v c:=
 rel_at hp (Rel.mono (le_later hk) v c h)
section
variable {C:Cfg}{I:World→Prop}{B0:Nat}
theorem call_at (S:Sound C I B0){k:Nat}{t:Con}(hc:COk C k t)(hh:C.hprim k=none)(hp:C.heap k=false){vs:List AV}{v:AV}(hpu:pureV.pureVs vs=true)(hpv:pureV v=true)(ht:t vs [] (fun v' h'=>v'=v∧h'=[]))
  {W:World} {args:List Value} (hI:I W) (hB:B0≤W.heap.size) (glob:∀g cs,C.G g=some cs→At (start W) cs ⟨g,0,none⟩) (hargs:Rels (start W) vs args):
  Calls C.P k args.toArray W (fun e w'=>∃c,e=.returned c∧Below W.heap.size W w'∧Rel (start w') v c):=by
 have ha:argsOf C k vs=vs:=by
  simp only[argsOf,hh,hp,Option.isSome_none,Bool.or_self,strips_pure 0 [] vs hpu]
 obtain⟨v',h',⟨n,hcall⟩,hv',hh'⟩:=hc vs [] _ (by rw[ha];exact ht)
 subst hv';subst hh';obtain⟨_,hx⟩:=(calls_ok S false n).2 k vs [] v' [] (hcall n (Nat.le_refl _))
 refine(hx (start W) args rfl (start_good hI hB glob) hargs).mono fun e w' hq=> ?_
 obtain⟨c,E',rfl,rfl,St,hE',hrel⟩:=hq;refine⟨c,rfl,St.below,?_⟩;have:=Rel.cut (cut_start (E:=E') rfl) v' c hrel
 rwa [strip_pure 0 [] v' hpv] at this
end
end Go.Ai
end
section
namespace Go.Ai
open Go.RowKit
inductive VT where
 |mk (v:Value) (kids:List VT)
def VT.val :VT→Value|.mk v _=>v
def VT.kids :VT→List VT|.mk _ k=>k
mutual
def VT.flat :VT→List Value
 |.mk v ks=>v::VT.flats ks
def VT.flats :List VT→List Value
 |[]=>[]
 |t::r=>t.flat++VT.flats r
end
mutual
def Nd.flat :Nd→List Nd
 |.mk k p t al ks=>.mk k p t al ks::Nd.flats ks
def Nd.flats :List Nd→List Nd
 |[]=>[]
 |n::r=>n.flat++Nd.flats r
end
def fives (v:Value):List Value:=match v with
 |.agg a=>a.toList
 |_=>[]
def Five (W:World)(a:Addr)(v:Value):Prop:=∀i,i<5→W.cell? (a.add i)=(fives v)[i]?
mutual
def VT.In (S:Nat→Prop)(W:World):VT→Prop
 |.mk v ks=>∃k p t al A cap,v=.agg #[k,p,t,al,.slice A ks.length cap]∧k.oneCell'=true∧p.oneCell'=true∧t.oneCell'=true∧al.oneCell'=true∧ks.length≤cap∧cap≤maxLen∧(ks≠[]→∃a,A=some a∧VT.Ins S W a ks)
def VT.Ins (S:Nat→Prop)(W:World):Addr→List VT→Prop
 |_,[]=>True
 |a,t::r=>Five W a t.val∧S a.block∧a.block<W.heap.size∧t.In S W∧VT.Ins S W (a.add 5) r
end
mutual
def Mt (W:World):Nd→VT→Prop
 |.mk k p t al ks,.mk v us=>Rel (start W) (.agg (encN (.mk k p t al ks))) v∧Mts W ks us
def Mts (W:World):List Nd→List VT→Prop
 |[],us=>us=[]
 |n::r,us=>∃t q,us=t::q∧Mt W n t∧Mts W r q
end
theorem lt_of_cell {W:World}{a:Addr}{v:Value}(h:W.cell? a=some v):a.block<W.heap.size:=by
 unfold World.cell? at h;split at h
 ·rename_i o ho;exact(Array.getElem?_eq_some_iff.1 ho).1
 ·cases h
theorem mts_len {W:World}:∀{ks:List Nd} {us:List VT},Mts W ks us→us.length=ks.length
 |[],us,h=>by cases h;rfl
 |n::r,us,h=>by obtain⟨t,q,rfl,_,h2⟩:=h;simp[mts_len h2]
mutual
theorem vt_of {W:World}{S:Nat→Prop}(hS:∀k,k<W.heap.size→S k):∀(n:Nd) (v:Value),Rel (start W) (.agg (encN n)) v→∃T:VT,T.val=v∧T.In S W∧Mt W n T
 |.mk k p t al ks,v,h=>by
  have h':=h;obtain⟨a,rfl,v0,r0,e0,o0,q0,v1,r1,e1,o1,q1,v2,r2,e2,o2,q2,v3,r3,e3,o3,q3,v4,r4,e4,o4,q4,e5⟩:=h'
  obtain rfl:a= #[v0,v1,v2,v3,v4]:=by
   apply Array.toList_inj.1;rw[e0,e1,e2,e3,e4,e5]
  obtain⟨⟨A,cap,rfl,hl,hc,_,hr⟩,_⟩:=q4
  have hlen:(encNs ks).length=ks.length:=by rw[encNs_map];simp
  cases ks with
  |nil=>exact⟨.mk _ [],rfl,⟨v0,v1,v2,v3,A,cap,by simp[encNs],o0,o1,o2,o3,Nat.zero_le _,hc,fun h=>absurd rfl h⟩,h,rfl⟩
  |cons n r=>
   obtain⟨a,rfl,hrows⟩:=hr (by simp[encNs])
   obtain⟨us,hi,hm⟩:=vts_of hS (n::r) a hrows;have hul:=mts_len hm
   refine⟨.mk _ us,rfl,⟨v0,v1,v2,v3,some a,cap,by rw[hul,hlen],o0,o1,o2,o3,by rw[hul,←hlen];exact hl,hc,fun _=>⟨a,rfl,hi⟩⟩,h,hm⟩
theorem vts_of {W:World}{S:Nat→Prop}(hS:∀k,k<W.heap.size→S k):∀(ks:List Nd) (a:Addr),Rows (start W) (encNs ks) a→∃us:List VT,VT.Ins S W a us∧Mts W ks us
 |[],a,h=>⟨[],trivial,rfl⟩
 |n::r,a,h=>by
  obtain⟨h1,h2⟩:=h
  have hl5:(encN n).length=5:=by cases n;rfl
  rw[hl5] at h2;obtain⟨us,hi,hm⟩:=vts_of hS r _ h2
  obtain⟨v,hv,hf⟩:∃v,Rel (start W) (.agg (encN n)) v∧Five W a v:=by
   cases n with
   |mk k p t al ks=>
    obtain⟨⟨v0,c0,o0,_,q0⟩,⟨v1,c1,o1,_,q1⟩,⟨v2,c2,o2,_,q2⟩,⟨v3,c3,o3,_,q3⟩,⟨v4,c4,o4,_,q4⟩,_⟩:=h1
    refine⟨.agg #[v0,v1,v2,v3,v4],⟨_,rfl,v0,_,rfl,o0,q0,v1,_,rfl,o1,q1,v2,_,rfl,o2,q2,v3,_,rfl,o3,q3,v4,_,rfl,o4,q4,rfl⟩,fun i hi=> ?_⟩
    have c0:W.cell? a=some v0:=c0;have c1:W.cell? (a.add 1)=some v1:=c1;have c2:W.cell? ((a.add 1).add 1)=some v2:=c2;have c3:W.cell? (((a.add 1).add 1).add 1)=some v3:=c3;have c4:W.cell? ((((a.add 1).add 1).add 1).add 1)=some v4:=c4;simp only[add_add'] at c2 c3 c4
    match i,hi with
    |0,_=>simpa[fives,Addr.add] using c0
    |1,_=>simpa[fives] using c1
    |2,_=>simpa[fives] using c2
    |3,_=>simpa[fives] using c3
    |4,_=>simpa[fives] using c4
  obtain⟨T,hT,hin,hmt⟩:=vt_of hS n v hv
  have hb:a.block<W.heap.size:=by
   cases n with
   |mk k p t al ks=>
    obtain⟨⟨v0,c0,_⟩,_⟩:=h1;exact lt_of_cell c0
  exact⟨T::us,⟨by rw[hT];exact hf,hS _ hb,hb,hin,hi⟩,T,us,rfl,hmt,hm⟩
end
mutual
theorem mt_flat {W:World}:∀{n:Nd} {T:VT},Mt W n T→all2 (fun m x=>Rel (start W) (.agg (encN m)) x) n.flat T.flat
 |.mk k p t al ks,.mk v us,h=>by
  obtain⟨h1,h2⟩:=h;exact⟨h1,mts_flat h2⟩
theorem mts_flat {W:World}:∀{ks:List Nd} {us:List VT},Mts W ks us→all2 (fun m x=>Rel (start W) (.agg (encN m)) x) (Nd.flats ks) (VT.flats us)
 |[],us,h=>by cases h;exact trivial
 |n::r,us,h=>by
  obtain⟨t,q,rfl,h1,h2⟩:=h;simp only[Nd.flats,VT.flats]
  have key:∀(a:List Nd) (b:List Value) (c:List Nd) (d:List Value),all2 (fun m x=>Rel (start W) (.agg (encN m)) x) a b→all2 (fun m x=>Rel (start W) (.agg (encN m)) x) c d→all2 (fun m x=>Rel (start W) (.agg (encN m)) x) (a++c) (b++d):=by
   intro a
   induction a with
   |nil=>intro b c d h k;cases b with
    |nil=>exact k
    |cons _ _=>exact h.elim
   |cons x a ih=>intro b c d h k;cases b with
    |nil=>exact h.elim
    |cons y b=>exact⟨h.1,ih b c d h.2 k⟩
  exact key _ _ _ _ (mt_flat h1) (mts_flat h2)
end
mutual
theorem VT.In.keep {S:Nat→Prop}{W W':World}(h:Kept S W W'):∀{T:VT},T.In S W→T.In S W'
 |.mk v ks,⟨k,p,t,al,A,cap,e,o0,o1,o2,o3,h1,h2,h3⟩=>⟨k,p,t,al,A,cap,e,o0,o1,o2,o3,h1,h2,fun hn=>let⟨a,ha,hi⟩:=h3 hn;⟨a,ha,VT.Ins.keep h hi⟩⟩
theorem VT.Ins.keep {S:Nat→Prop}{W W':World}(h:Kept S W W'):∀{ks:List VT} {a:Addr},VT.Ins S W a ks→VT.Ins S W' a ks
 |[],_,_=>trivial
 |t::r,a,⟨h1,h2,h3,h4,h5⟩=>⟨fun i hi=>by rw[h.cell (by rw[add_block];exact h3) (by rw[add_block];exact h2)];exact h1 i hi,h2,Nat.lt_of_lt_of_le h3 h.size,h4.keep h,VT.Ins.keep h h5⟩
end
mutual
theorem VT.In.sub {S S':Nat→Prop}{W:World}(hs:∀k,k<W.heap.size→S k→S' k):∀{T:VT},T.In S W→T.In S' W
 |.mk v ks,⟨k,p,t,al,A,cap,e,o0,o1,o2,o3,h1,h2,h3⟩=>⟨k,p,t,al,A,cap,e,o0,o1,o2,o3,h1,h2,fun hn=>let⟨a,ha,hi⟩:=h3 hn;⟨a,ha,VT.Ins.sub hs hi⟩⟩
theorem VT.Ins.sub {S S':Nat→Prop}{W:World}(hs:∀k,k<W.heap.size→S k→S' k):∀{ks:List VT} {a:Addr},VT.Ins S W a ks→VT.Ins S' W a ks
 |[],_,_=>trivial
 |t::r,a,⟨h1,h2,h3,h4,h5⟩=>⟨h1,hs _ h3 h2,h3,h4.sub hs,VT.Ins.sub hs h5⟩
end
theorem ins_get {S:Nat→Prop}{W:World}:∀{us:List VT} {a:Addr} {i:Nat} {t:VT},VT.Ins S W a us→us[i]?=some t→Five W (a.add (i*5)) t.val∧S a.block∧a.block<W.heap.size∧t.In S W
 |[],_,i,t,_,h=>by simp at h
 |u::r,a,0,t,⟨h1,h2,h3,h4,h5⟩,h=>by
  simp at h;subst h
  exact⟨by simpa[Addr.add] using h1,h2,h3,h4⟩
 |u::r,a,i+1,t,⟨h1,h2,h3,h4,h5⟩,h=>by
  simp at h;obtain⟨k1,k2,k3,k4⟩:=ins_get h5 h
  rw[add_add',show 5+i*5=(i+1)*5 by omega] at k1
  exact⟨k1,h2,h3,k4⟩
theorem five_agg {W:World}{b:Addr}{x0 x1 x2 x3 x4:Value}(h:Five W b (.agg #[x0,x1,x2,x3,x4])):∃bb oo,b=⟨bb,oo,none⟩∧W.cell? ⟨bb,oo,none⟩=some x0∧W.cell? ⟨bb,oo+1,none⟩=some x1∧W.cell? ⟨bb,oo+2,none⟩=some x2∧W.cell? ⟨bb,oo+3,none⟩=some x3∧W.cell? ⟨bb,oo+4,none⟩=some x4:=by
 have h0:=h 0 (by omega)
 have e0:b.add 0=b:=by simp[Addr.add]
 rw[e0] at h0;have hs:=spot_of_cell h0;obtain⟨bb,oo,sp⟩:=b;simp only at hs;subst hs
 have g:=fun i hi=>h i hi
 simp only[Addr.add_lit] at g
 exact⟨bb,oo,rfl,by simpa[fives] using g 0 (by omega),by simpa[fives] using g 1 (by omega),by simpa[fives] using g 2 (by omega),by simpa[fives] using g 3 (by omega),by simpa[fives] using g 4 (by omega)⟩
def isNodeV (x:Value):Prop:=∃x0 x1 x2 x3 B n c,x=.agg #[x0,x1,x2,x3,.slice B n c]∧x0.oneCell'=true∧x1.oneCell'=true∧x2.oneCell'=true∧x3.oneCell'=true
mutual
theorem flat_agg {S:Nat→Prop}{W:World}:∀{T:VT},T.In S W→∀x∈T.flat,isNodeV x
 |.mk v ks,⟨k,p,t,al,A,cap,e,o0,o1,o2,o3,h1,h2,h3⟩,x,hx=>by
  rcases List.mem_cons.1 hx with rfl|hx
  ·exact⟨k,p,t,al,A,ks.length,cap,e,o0,o1,o2,o3⟩
  ·cases ks with
   |nil=>cases hx
   |cons q r=>
    obtain⟨a,_,hi⟩:=h3 (by simp)
    exact flats_agg hi x hx
theorem flats_agg {S:Nat→Prop}{W:World}:∀{us:List VT} {a:Addr},VT.Ins S W a us→∀x∈VT.flats us,isNodeV x
 |[],_,_,x,hx=>by cases hx
 |t::r,a,⟨_,_,_,h4,h5⟩,x,hx=>by
  rcases List.mem_append.1 hx with hx|hx
  ·exact flat_agg h4 x hx
  ·exact flats_agg h5 x hx
end
theorem pre_mem {x:Value}{pre T:List Value}(h:(pre++[x])<+:T):x∈T:=h.subset (by simp)
theorem flats_take :∀{us:List VT} {i:Nat} {t:VT},us[i]?=some t→VT.flats (us.take i)++t.flat=VT.flats (us.take (i+1))∧∃r,VT.flats us=VT.flats (us.take i)++t.flat++r
 |[],i,t,h=>by simp at h
 |u::us,0,t,h=>by
  simp at h;subst h;simp[VT.flats]
 |u::us,i+1,t,h=>by
  simp at h;obtain⟨h1,r,h2⟩:=flats_take h
  refine⟨by simp only[List.take_succ_cons,VT.flats,List.append_assoc,h1],r,by simp only[List.take_succ_cons,VT.flats,h2,List.append_assoc]⟩
theorem all2_get {α β:Type}{R:α→β→Prop}:∀{xs:List α} {ys:List β},all2 R xs ys→xs.length=ys.length∧∀(i:Nat) x y,xs[i]?=some x→ys[i]?=some y→R x y
 |[],[],_=>⟨rfl,fun i x y h=>by simp at h⟩
 |[],_::_,h=>h.elim
 |_::_,[],h=>h.elim
 |a::xs,b::ys,h=>by
  obtain⟨h1,h2⟩:=all2_get h.2
  refine⟨by simp[h1],fun i x y hx hy=> ?_⟩
  cases i with
  |zero=>simp at hx hy;subst hx;subst hy;exact h.1
  |succ i=>exact h2 i x y (by simpa using hx) (by simpa using hy)
theorem in_node {S:Nat→Prop}{W:World}{T:VT}(h:T.In S W):isNodeV T.val:=by
 obtain⟨v,ks⟩:=T;obtain⟨k,p,t,al,A,cap,e,o0,o1,o2,o3,_⟩:=h;exact⟨k,p,t,al,A,_,cap,e,o0,o1,o2,o3⟩
theorem prefix_get {α:Type}{pre T:List α}{x:α}(h:(pre++[x])<+:T):T[pre.length]?=some x:=by
 obtain⟨r,rfl⟩:=h;simp
theorem ne_one {W:World}{b:Nat}{x v:Value}{t:TypeId}{a:Addr}(h1:W.heap[b]?=some (.cells #[x] t))(hv:isNodeV v)(h:Five W a v):a.block≠b:=by
 obtain⟨x0,x1,x2,x3,B,n,c,rfl,_⟩:=hv;obtain⟨bb,oo,rfl,_,d1,_⟩:=five_agg h
 rintro rfl
 simp only[World.cell?,h1] at d1;simp at d1
mutual
theorem VT.In.ne {S:Nat→Prop}{W:World}{b:Nat}{x:Value}{t:TypeId}(h1:W.heap[b]?=some (.cells #[x] t)):∀{T:VT},T.In S W→T.In (fun k=>S k∧k≠b) W
 |.mk v ks,⟨k,p,t,al,A,cap,e,o0,o1,o2,o3,h2,h3,h4⟩=>⟨k,p,t,al,A,cap,e,o0,o1,o2,o3,h2,h3,fun hn=>let⟨a,ha,hi⟩:=h4 hn;⟨a,ha,VT.Ins.ne h1 hi⟩⟩
theorem VT.Ins.ne {S:Nat→Prop}{W:World}{b:Nat}{x:Value}{t:TypeId}(h1:W.heap[b]?=some (.cells #[x] t)):∀{ks:List VT} {a:Addr},VT.Ins S W a ks→VT.Ins (fun k=>S k∧k≠b) W a ks
 |[],_,_=>trivial
 |u::r,a,⟨q1,q2,q3,q4,q5⟩=>⟨q1,⟨q2,ne_one h1 (in_node q4) q1⟩,q3,VT.In.ne h1 q4,VT.Ins.ne h1 q5⟩
end
end Go.Ai
end
