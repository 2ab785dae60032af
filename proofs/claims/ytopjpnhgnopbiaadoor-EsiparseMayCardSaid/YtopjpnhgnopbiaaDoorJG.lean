/-
  The parser's small functions: contracts.
  A child more: contracts.
  A tag's attributes: contracts.
  A tag's attributes as a whole: its contract.
  What is done with a text, with a raw text: contracts.
  What is done with what closes: its contract.
  What is done with what opens a hidden part, with a tag: contracts.
  What is done with a tag that opens, or is empty: its contract.
  What is done with the kinds of tokens, a map that stands: as a primitive.
  The parser as a whole: its contract.
  The parser as a primitive: out of its contract.
-/
import Derived.Test.YtopjpnhgnopbiaaDoorJE
import Derived.Test.YtopjpnhgnopbiaaDoorJA
import Derived.Test.YtopjpnhgnopbiaaDoorJT
import Derived.Test.YtopjpnhgnopbiaaDoorAiPrims
import Derived.Test.YtopjpnhgnopbiaaDoorJF
import Derived.WalkKit
import Derived.ProofKit
import Derived.MapKept
import Derived.WideMake
set_option linter.unusedVariables false
set_option linter.unusedSimpArgs false
set_option linter.unnecessarySimpa false
section
namespace Go.Proofs.YtopjpnhgnopbiaaDoor
open Go.Ai Go Go.Ai.Sp
open Go.Ai.Ex (encAs encT blB limE)
set_option maxRecDepth 100000
theorem noT :TabOk cfg2 (ctab []):=ctab_ok ctab_nil
theorem pf47 :pureFn cfg2 47 Tryd.f47:=(by refine⟨?_,?_,?_,?_,?_,?_⟩<;>kernel_rfl)
theorem pf73 :pureFn cfg2 73 Tryd.f73:=(by refine⟨?_,?_,?_,?_,?_,?_⟩<;>kernel_rfl)
theorem pf69 :pureFn cfg2 69 Tryd.f69:=(by refine⟨?_,?_,?_,?_,?_,?_⟩<;>kernel_rfl)
theorem pf86 :pureFn cfg2 86 Tryd.f86:=(by refine⟨?_,?_,?_,?_,?_,?_⟩<;>kernel_rfl)
theorem pf72 :pureFn cfg2 72 Tryd.f72:=(by refine⟨?_,?_,?_,?_,?_,?_⟩<;>kernel_rfl)
theorem pf88 :pureFn cfg2 88 Tryd.f88:=(by refine⟨?_,?_,?_,?_,?_,?_⟩<;>kernel_rfl)
theorem hf43 :heapFn cfg2 43 Tryd.f43:=(by refine⟨?_,?_,?_,?_,?_,?_⟩<;>kernel_rfl)
theorem hf46 :heapFn cfg2 46 Tryd.f46:=(by refine⟨?_,?_,?_,?_,?_,?_⟩<;>kernel_rfl)
theorem hf48 :heapFn cfg2 48 Tryd.f48:=(by refine⟨?_,?_,?_,?_,?_,?_⟩<;>kernel_rfl)
theorem hf50 :heapFn cfg2 50 Tryd.f50:=(by refine⟨?_,?_,?_,?_,?_,?_⟩<;>kernel_rfl)
theorem c47 :COk cfg2 47 ofC:=by
 refine cok_pure pf47 fun vs h K ht=> ?_
 obtain⟨s,rfl,hk⟩:=ht;refine⟨_,hk,t47 noT ?_⟩;unfold elM
 repeat' (refine ifP_intro (fun a=> ?_) fun a=> ?_)
 all_goals simp only[*,cond_true,cond_false]
 all_goals rfl
theorem c73 :COk cfg2 73 valC:=by
 refine cok_pure pf73 fun vs h K ht=> ?_
 obtain⟨x,y,rfl,hk⟩:=ht;refine⟨_,hk,t73 noT ?_⟩;unfold valM
 repeat' (refine ifP_intro (fun a=> ?_) fun a=> ?_)
 all_goals simp[*]
theorem wrapS {n:Nat}(h:n≤2*limS):IntKind.wrap .i64 ((n:Int)+1)=((n+1:Nat):Int):=by
 unfold limS at h;rw[wrap_in]<;>omega
theorem wrapD {n:Nat}(h:n+1≤2*limS):IntKind.wrap .i64 (((n+1:Nat):Int)-1)=(n:Int):=by
 unfold limS at h;rw[wrap_in]<;>omega
theorem getE_map {α:Type}(f:α→List AV)(l:List α){i:Nat}(h:i<l.length):getE (l.map f) (i:Int)=f l[i]:=by
 unfold getE;simp[h]
theorem inR_nat {i n:Nat}(h:i<n):inR (i:Int) n=true:=by
 unfold inR
 rw[decide_eq_true (by omega),decide_eq_true (by omega)];rfl
theorem any_drop {α:Type}(p:α→Bool)(l:List α){i:Nat}(h:i<l.length):(l.drop i).any p=(p l[i]||(l.drop (i+1)).any p):=by
 rw[List.drop_eq_getElem_cons h,List.any_cons]
theorem loop88 (l:List (List UInt8))(x:List UInt8)(hl:l.length≤limS):∀(n i:Nat),l.length-i=n→i≤l.length→∃z:Int,decide (z≥0)=(l.drop i).any (·==x)∧
  ToEnd cfg2 88 (bodyOf Tryd.f88) (RetIs Tryd.prog Tryd.f88 (.int .i64 z)) [.code [0,1,0,1],.block 0,.code [1,1]] .normal [(0,true,.sl 1 (l.map fun n=>[.str n]) none),(1,true,.str x),(7,true,.int .i64 l.length),(8,true,.int .i64 i)] []
 |0,i,hn,hi=>by
  refine⟨-1,?_,t88a noT (ifP_intro (fun a=> ?_) fun _=>rfl)⟩
  ·rw[List.drop_of_length_le (by omega)];rfl
  ·simp at a;omega
 |n+1,i,hn,hi=>by
  have hlt:i<l.length:=by omega
  by_cases hx:l[i]=x
  ·refine⟨i,?_,t88a noT (ifP_intro (fun a=>gAnd_intro ?_ ⟨l[i],getE_map _ l hlt,ifP_intro (fun _=>rfl) fun b=> ?_⟩) fun a=> ?_)⟩
   ·rw[any_drop _ _ hlt,decide_eq_true (by omega)];simp[hx]
   ·rw[List.length_map,inR_nat hlt];rfl
   ·simp[hx] at b
   ·simp at a;omega
  ·obtain⟨z,hz,hr⟩:=loop88 l x hl n (i+1) (by omega) (by omega)
   refine⟨z,?_,t88a noT (ifP_intro (fun a=>gAnd_intro ?_ ⟨l[i],getE_map _ l hlt,ifP_intro (fun b=> ?_) fun b=> ?_⟩) fun a=> ?_)⟩
   ·rw[hz,any_drop _ _ hlt];simp[hx]
   ·rw[List.length_map,inR_nat hlt];rfl
   ·simp at b;exact absurd b.symm hx
   ·rw[wrapS (by omega)];exact hr
   ·simp at a;omega
theorem loop86 (l:List Int)(x:Int)(hl:l.length≤limS):∀(n i:Nat),l.length-i=n→i≤l.length→∃z:Int,decide (z≥0)=(l.drop i).any (·==x)∧
  ToEnd cfg2 86 (bodyOf Tryd.f86) (RetIs Tryd.prog Tryd.f86 (.int .i64 z)) [.code [0,1,0,1],.block 0,.code [1,1]] .normal [(0,true,.sl 1 (l.map fun n=>[.int .i64 n]) none),(1,true,.int .i64 x),(7,true,.int .i64 l.length),(8,true,.int .i64 i)] []
 |0,i,hn,hi=>by
  refine⟨-1,?_,t86a noT (ifP_intro (fun a=> ?_) fun _=>rfl)⟩
  ·rw[List.drop_of_length_le (by omega)];rfl
  ·simp at a;omega
 |n+1,i,hn,hi=>by
  have hlt:i<l.length:=by omega
  by_cases hx:l[i]=x
  ·refine⟨i,?_,t86a noT (ifP_intro (fun a=>gAnd_intro ?_ ⟨l[i],getE_map _ l hlt,ifP_intro (fun _=>rfl) fun b=> ?_⟩) fun a=> ?_)⟩
   ·rw[any_drop _ _ hlt,decide_eq_true (by omega)];simp[hx]
   ·rw[List.length_map,inR_nat hlt];rfl
   ·simp[hx] at b
   ·simp at a;omega
  ·obtain⟨z,hz,hr⟩:=loop86 l x hl n (i+1) (by omega) (by omega)
   refine⟨z,?_,t86a noT (ifP_intro (fun a=>gAnd_intro ?_ ⟨l[i],getE_map _ l hlt,ifP_intro (fun b=> ?_) fun b=> ?_⟩) fun a=> ?_)⟩
   ·rw[hz,any_drop _ _ hlt];simp[hx]
   ·rw[List.length_map,inR_nat hlt];rfl
   ·simp at b;exact absurd b.symm hx
   ·rw[wrapS (by omega)];exact hr
   ·simp at a;omega
theorem c88 :COk cfg2 88 Sp.inIC:=by
 refine cok_pure pf88 fun vs h K ht=> ?_
 obtain⟨l,x,rfl,hl,hk⟩:=ht
 obtain⟨z,hz,hr⟩:=loop88 l x hl l.length 0 (by omega) (by omega)
 refine⟨_,hk z hz,t88 noT ?_⟩;rw[List.length_map];exact hr
theorem c86 :COk cfg2 86 inNIC:=by
 refine cok_pure pf86 fun vs h K ht=> ?_
 obtain⟨l,x,rfl,hl,hk⟩:=ht
 obtain⟨z,hz,hr⟩:=loop86 l x hl l.length 0 (by omega) (by omega)
 refine⟨_,hk z hz,t86 noT ?_⟩;rw[List.length_map];exact hr
theorem purS (l:List (List UInt8)):pureV.pureVss (l.map fun n=>[AV.str n])=true:=by
 induction l with
 |nil=>rfl
 |cons a r ih=>simp only[List.map_cons,pureV.pureVss,pureV.pureVs,pureV,ih,Bool.true_and]
theorem purN (l:List Int):pureV.pureVss (l.map fun n=>[AV.int .i64 n])=true:=by
 induction l with
 |nil=>rfl
 |cons a r ih=>simp only[List.map_cons,pureV.pureVss,pureV.pureVs,pureV,ih,Bool.true_and]
theorem c72 :COk cfg2 72 Sp.inC:=by
 refine cok_pure pf72 fun vs h K ht=> ?_
 obtain⟨l,x,rfl,hl,hk⟩:=ht
 exact⟨_,hk,t72 (ctab_ok (ctab_cons c88 ctab_nil)) ⟨l,x,by rw[stripss_pure 0 [] _ (purS l)],hl,fun z hz=>by rw[hz]⟩⟩
theorem c69 :COk cfg2 69 inNC:=by
 refine cok_pure pf69 fun vs h K ht=> ?_
 obtain⟨l,x,rfl,hl,hk⟩:=ht
 exact⟨_,hk,t69 (ctab_ok (ctab_cons c86 ctab_nil)) ⟨l,x,by rw[stripss_pure 0 [] _ (purN l)],hl,fun z hz=>by rw[hz]⟩⟩
theorem strip_hP {rows:List Row}{r:Hp}(hw:Keep.okW rows r){g:Nat}{pl e:Int}{n:Nat}(G:Hp)(hn:n=8+r.length):
  List.map (stripB n G) (List.take n (hP g rows pl e++r))=hP g rows pl e++r:=by
 have hl:(hP g rows pl e++r).length=n:=by rw[hn];simp[hP];omega
 obtain⟨h1,h2⟩:=hw n G (by omega)
 rw[←hl,List.take_length,hl,List.map_append,h2]
 congr 1
 obtain⟨m,rfl⟩:∃m,n=m+8:=⟨r.length,by omega⟩
 have b:∀i,i<8→Nat.blt i (m+8)=true:=fun i h=>Nat.ble_eq_true_of_le (by omega)
 simp only[hP,List.map_cons,List.map_nil,stripB,strips,strip,stripss,keepId,h1,b 0 (by omega),b 1 (by omega),b 5 (by omega),cond_true]
theorem hP_len {g:Nat}{rows:List Row}{pl e:Int}{r:Hp}:(hP g rows pl e++r).length=8+r.length:=by simp[hP];omega
theorem keepK {K:AV→Hp→Prop}{v:AV}{h h':Hp}(e:h'=h)(hk:K v h):K v h':=e▸hk
theorem strip_own {rows:List Row}{r own:Hp}(hw:Keep.okW rows r){g:Nat}{pl e:Int}{n:Nat}{G:Hp}(hn:n=8+r.length):
  List.map (stripB n G) (List.take n ((hP g rows pl e++r)++own))=hP g rows pl e++r:=by
 rw[List.take_append_of_le_length (by rw[hn,hP_len];exact Nat.le_refl _)]
 exact strip_hP hw G hn
theorem c43 :COk cfg2 43 topC:=by
 refine cok_heap hf43 fun vs h K ht=> ?_
 obtain⟨g,row,rows,pl,e,r,hw,hl,rfl,rfl,hk⟩:=ht
 have hwr:IntKind.wrap IntKind.i64 (((row::rows).length:Int)-1)=((row::rows).length:Int)-1:=by
  unfold limS at hl
  rw[wrap_in]<;>simp at hl⊢<;>omega
 refine t43 noT (gAnd_intro ?_ ⟨gAnd_intro ?_ ⟨?_,rfl⟩,?_⟩)
 ·rw[decide_eq_true hwr];rfl
 ·rw[decide_eq_true hwr];rfl
 ·repeat' (first|exact rfl|exact trivial|constructor)
 ·exact keepK (strip_hP hw _ hP_len) hk
theorem c46 :COk cfg2 46 failC:=by
 refine cok_heap hf46 fun vs h K ht=> ?_
 obtain⟨p,x,g,rows,pl,e,r,hw,rfl,rfl,hk⟩:=ht
 refine t46 noT (ifP_intro (fun a=> ?_) fun a=> ?_)
 ·simp only[fE,a,cond_true] at hk;exact keepK (strip_hP hw _ hP_len) hk
 ·simp only[fE,a,cond_false] at hk;exact keepK (strip_hP hw _ hP_len) hk
theorem tab43 :TabOk cfg2 (ctab [(43,topC)]):=ctab_ok (ctab_cons c43 ctab_nil)
theorem last_get {es:List (List AV)}{x:List AV}{n:Nat}(hn:es.length=n+1)(hx:getE es (n:Int)=x):es.getLast? =some x:=by
 have h:n<es.length:=by omega
 have:getE es (n:Int)=es[n]:=by unfold getE;simp[h]
 rw[this] at hx;rw[List.getLast?_eq_getElem?,hn,Nat.add_sub_cancel,List.getElem?_eq_getElem h,hx]
theorem c50 :COk cfg2 50 lastC:=by
 refine cok_heap hf50 fun vs h K ht=> ?_
 obtain⟨g,v0,v1,v2,v3,es,rows,pl,e,r,hw,hl,⟨hk1,hk2⟩,rfl,rfl,hk⟩:=ht
 refine t50 tab43 ⟨g,_,_,pl,e,r,hw,hl,rfl,rfl,gAnd_intro (by simp) (ifP_intro (fun a=> ?_) fun a=> ?_)⟩
 ·have:es=[]:=by cases es with
   |nil=>rfl
   |cons=>simp at a;omega
  subst this;exact keepK (strip_hP hw _ hP_len) hk
 ·obtain⟨n,hn⟩:∃n,es.length=n+1:=⟨es.length-1,by cases es with
   |nil=>simp at a
   |cons x l=>simp⟩
  have hwr:IntKind.wrap .i64 ((es.length:Int)-1)=(n:Int):=by rw[hn];exact wrapD (by omega)
  rw[hwr]
  have hmem:getE es (n:Int)∈es:=by
   have h:n<es.length:=by omega
   have:getE es (n:Int)=es[n]:=by unfold getE;simp[h]
   rw[this];exact List.getElem_mem h
  obtain⟨k,w1,w2,w3,w4,hx⟩:=hk2 _ hmem
  refine gAnd_intro (by rw[inR_nat (by omega)];rfl) ⟨k,w1,w2,w3,w4,hx,?_⟩
  have hlast:lastK es=k:=by unfold lastK;rw[last_get hn hx]
  rw[hlast] at hk;exact keepK (strip_hP hw _ hP_len) hk
theorem tab48 :TabOk cfg2 (ctab [(43,topC),(50,lastC),(69,inNC)]):=ctab_ok (ctab_cons c43 (ctab_cons c50 (ctab_cons c69 ctab_nil)))
theorem c48 :COk cfg2 48 mayC:=by
 refine cok_heap hf48 fun vs h K ht=> ?_
 obtain⟨g,k,x,v1,v2,v3,es,rows,pl,e,r,hw,hl,hks,rfl,rfl,hk⟩:=ht
 have fin:∀{b:Bool} {G:Hp},b=mayB k (lastK es) x→K (.bool b) (List.map (stripB (hP g (rw' (.int .i64 k) v1 v2 v3 es::rows) pl e++r).length G) (List.take (hP g (rw' (.int .i64 k) v1 v2 v3 es::rows) pl e++r).length (hP g (rw' (.int .i64 k) v1 v2 v3 es::rows) pl e++r))):=fun e1=>e1▸keepK (strip_hP hw _ hP_len) hk
 refine t48 tab48 ⟨g,_,_,pl,e,r,hw,hl,rfl,rfl,gAnd_intro (by simp) (ifP_intro (fun a=>ifP_intro (fun b=> ?_) fun b=> ?_) fun a=>ifP_intro (fun a2=>ifP_intro (fun b=> ?_) fun b=> ?_) fun a2=> ?_)⟩
 ·refine⟨g,_,_,_,_,es,rows,pl,e,r,hw,hl,hks,rfl,rfl,ifP_intro (fun c=>fin ?_) fun c=>ifP_intro (fun d=> ?_) fun d=>fin ?_⟩
  ·simp[mayB,a,b,c]
  ·refine⟨g,_,_,_,_,es,rows,pl,e,r,hw,hl,hks,rfl,rfl,fin ?_⟩;simp[mayB,a,b,c,d]
  ·simp[mayB,a,b,c,d]
 ·refine ifP_intro (fun d=> ?_) fun d=>fin ?_
  ·refine⟨g,_,_,_,_,es,rows,pl,e,r,hw,hl,hks,rfl,rfl,fin ?_⟩;simp[mayB,a,b,d]
  ·simp[mayB,a,b,d]
 ·refine⟨g,_,_,_,_,es,rows,pl,e,r,hw,hl,hks,rfl,rfl,ifP_intro (fun c=>fin ?_) fun c=>ifP_intro (fun d=> ?_) fun d=>fin ?_⟩
  ·simp[mayB,a,a2,b,c]
  ·refine⟨g,_,_,_,_,es,rows,pl,e,r,hw,hl,hks,rfl,rfl,fin ?_⟩;simp[mayB,a,a2,b,c,d]
  ·simp[mayB,a,a2,b,c,d]
 ·refine ifP_intro (fun d=> ?_) fun d=>fin ?_
  ·refine⟨g,_,_,_,_,es,rows,pl,e,r,hw,hl,hks,rfl,rfl,fin ?_⟩;simp[mayB,a,a2,b,d]
  ·simp[mayB,a,a2,b,d]
 ·refine⟨[8,9,11,12],x,rfl,by simp,?_⟩
  refine keepK ?_ ((show(!([8,9,11,12]:List Int).any (·==x))=mayB k (lastK es) x from ?_)▸hk)
  ·exact strip_own hw hP_len
  ·have h (z:Int):(z==x)=(x==z):=BEq.comm;simp[mayB,a,a2,h,Bool.and_assoc]
end Go.Proofs.YtopjpnhgnopbiaaDoor
end
section
namespace Go.Proofs.YtopjpnhgnopbiaaDoor
open Go.Ai Go Go.Ai.Sp
open Go.Ai.Ex (encAs encT blB limE)
set_option maxRecDepth 100000
theorem hf44 :heapFn cfg2 44 Tryd.f44:=(by refine⟨?_,?_,?_,?_,?_,?_⟩<;>kernel_rfl)
theorem okW_more {rows:List Row}{r:Hp}{x:List AV}(ty:TypeId)(h:Keep.okW rows r)(hs:∀n g,8+r.length≤n→strips n g x=x):Keep.okW rows (r++[.mem ty x]):=by
 intro n g hn;rw[List.length_append] at hn
 obtain⟨h1,h2⟩:=h n g (by omega)
 exact⟨h1,by rw[List.map_append,h2,List.map_cons,List.map_nil,stripB,hs n g (by omega)]⟩
theorem okW_row {v0 v1 v2 v3:AV}{es:List (List AV)}{x:List AV}{rows:List Row}{r:Hp}(h:Keep.okW (rw' v0 v1 v2 v3 es::rows) r)(he:∀n g,8+r.length≤n→strips n g x=x):Keep.okW (rw' v0 v1 v2 v3 (es++[x])::rows) r:=by
 intro n g hn;obtain⟨h1,h2⟩:=h n g hn;refine⟨?_,h2⟩;simp only[rw',List.map_cons,List.cons.injEq,Prod.mk.injEq,strips,strip,true_and,AV.sl.injEq,and_true] at h1⊢;obtain⟨⟨e0,e1,e2,e3,e4⟩,e5⟩:=h1;refine⟨⟨e0,e1,e2,e3,?_⟩,e5⟩;rw[stripss_eq,List.map_append,←stripss_eq,e4,List.map_cons,List.map_nil,he n g hn]
theorem fin44 {K:AV→Hp→Prop}{g:Nat}{v0 v1 v2 v3:AV}{es:List (List AV)}{rows:List Row}{pl e:Int}{r:Hp}{x:List AV}(hw:Keep.okW (rw' v0 v1 v2 v3 (es++[x])::rows) r)
  (hk:K (.tup []) (hP g (rw' v0 v1 v2 v3 (es++[x])::rows) pl e++r)) {n:Nat} {G own:Hp} (hn:n=8+r.length):
  K (.tup []) (List.map (stripB n G) (List.take n ((hP g ((es.length+1,[v0,v1,v2,v3,.sl 5 (es++[x]) none])::rows) pl e++r)++own))):=by
 rw[show es.length+1=(es++[x]).length by simp]
 exact keepK (strip_own hw hn) hk
theorem c44_5 :COk cfg2 44 (addC 5):=by
 refine cok_heap hf44 fun vs h K ht=> ?_
 obtain⟨g,v0,v1,v2,v3,es,rows,pl,e,r,nk,na,nt,aa,oa,ks,ow,hw,hl,he,ha,hr,rfl,rfl,hk⟩:=ht
 obtain⟨b0,b1,b2,b3,b4,rfl⟩:∃b0 b1 b2 b3 b4,r=[b0,b1,b2,b3,b4]:=by
  match r,hr with
  |[b0,b1,b2,b3,b4],_=>exact⟨b0,b1,b2,b3,b4,rfl⟩
 have hw':=okW_more 28 hw ha;have hw2:=okW_row hw ha
 have g1:Nat.beq g g=true:=by simp
 have g2:(Nat.beq g g&&true&&true&&true&&Nat.beq es.length es.length&&true&&true&&decide ((es.length+1)*80≤140737488355328)&&true&&true)=true:=by
  unfold limS at he;simp;omega
 have g3:(Nat.beq g g&&true&&Nat.beq g g&&true&&Nat.beq (es++[nodeV nk na nt aa oa ks ow]).length (es.length+1)&&true&&true)=true:=by simp
 refine t44_5 tab43 ?_
 repeat' (first
  |exact rfl
  |exact trivial
  |exact g1
  |exact g2
  |exact g3
  |refine⟨g,_,_,pl,e,_,hw',hl,rfl,rfl,?_⟩
  |refine gAnd_intro ?_ ?_
  |exact fin44 hw2 hk (own:=[_]) hP_len
  |refine⟨?_,?_⟩)
theorem c44_6 :COk cfg2 44 (addC 6):=by
 refine cok_heap hf44 fun vs h K ht=> ?_
 obtain⟨g,v0,v1,v2,v3,es,rows,pl,e,r,nk,na,nt,aa,oa,ks,ow,hw,hl,he,ha,hr,rfl,rfl,hk⟩:=ht
 obtain⟨b0,b1,b2,b3,b4,b5,rfl⟩:∃b0 b1 b2 b3 b4 b5,r=[b0,b1,b2,b3,b4,b5]:=by
  match r,hr with
  |[b0,b1,b2,b3,b4,b5],_=>exact⟨b0,b1,b2,b3,b4,b5,rfl⟩
 have hw':=okW_more 28 hw ha;have hw2:=okW_row hw ha
 have g1:Nat.beq g g=true:=by simp
 have g2:(Nat.beq g g&&true&&true&&true&&Nat.beq es.length es.length&&true&&true&&decide ((es.length+1)*80≤140737488355328)&&true&&true)=true:=by
  unfold limS at he;simp;omega
 have g3:(Nat.beq g g&&true&&Nat.beq g g&&true&&Nat.beq (es++[nodeV nk na nt aa oa ks ow]).length (es.length+1)&&true&&true)=true:=by simp
 refine t44_6 tab43 ?_
 repeat' (first
  |exact rfl
  |exact trivial
  |exact g1
  |exact g2
  |exact g3
  |refine⟨g,_,_,pl,e,_,hw',hl,rfl,rfl,?_⟩
  |refine gAnd_intro ?_ ?_
  |exact fin44 hw2 hk (own:=[_]) hP_len
  |refine⟨?_,?_⟩)
theorem c44_10 :COk cfg2 44 (addC 10):=by
 refine cok_heap hf44 fun vs h K ht=> ?_
 obtain⟨g,v0,v1,v2,v3,es,rows,pl,e,r,nk,na,nt,aa,oa,ks,ow,hw,hl,he,ha,hr,rfl,rfl,hk⟩:=ht
 obtain⟨b0,b1,b2,b3,b4,b5,b6,b7,b8,b9,rfl⟩:∃b0 b1 b2 b3 b4 b5 b6 b7 b8 b9,r=[b0,b1,b2,b3,b4,b5,b6,b7,b8,b9]:=by
  match r,hr with
  |[b0,b1,b2,b3,b4,b5,b6,b7,b8,b9],_=>exact⟨b0,b1,b2,b3,b4,b5,b6,b7,b8,b9,rfl⟩
 have hw':=okW_more 28 hw ha;have hw2:=okW_row hw ha
 have g1:Nat.beq g g=true:=by simp
 have g2:(Nat.beq g g&&true&&true&&true&&Nat.beq es.length es.length&&true&&true&&decide ((es.length+1)*80≤140737488355328)&&true&&true)=true:=by
  unfold limS at he;simp;omega
 have g3:(Nat.beq g g&&true&&Nat.beq g g&&true&&Nat.beq (es++[nodeV nk na nt aa oa ks ow]).length (es.length+1)&&true&&true)=true:=by simp
 refine t44_10 tab43 ?_
 repeat' (first
  |exact rfl
  |exact trivial
  |exact g1
  |exact g2
  |exact g3
  |refine⟨g,_,_,pl,e,_,hw',hl,rfl,rfl,?_⟩
  |refine gAnd_intro ?_ ?_
  |exact fin44 hw2 hk (own:=[_]) hP_len
  |refine⟨?_,?_⟩)
end Go.Proofs.YtopjpnhgnopbiaaDoor
end
section
namespace Go.Proofs.YtopjpnhgnopbiaaDoor
open Go.Ai Go Go.Ai.Sp
open Go.Ai.Ex (encAs encT blB limE)
set_option maxRecDepth 100000
theorem hf71 :heapFn cfg2 71 Tryd.f71:=(by refine⟨?_,?_,?_,?_,?_,?_⟩<;>kernel_rfl)
theorem hf87 :heapFn cfg2 87 Tryd.f87:=(by refine⟨?_,?_,?_,?_,?_,?_⟩<;>kernel_rfl)
theorem hf70 :heapFn cfg2 70 Tryd.f70:=(by refine⟨?_,?_,?_,?_,?_,?_⟩<;>kernel_rfl)
theorem hf49 :heapFn cfg2 49 Tryd.f49:=(by refine⟨?_,?_,?_,?_,?_,?_⟩<;>kernel_rfl)
theorem c71 :COk cfg2 71 hasNC:=by
 refine cok_heap hf71 fun vs h K ht=> ?_
 obtain⟨g,rows,pl,e,b0,b1,b2,b3,b4,b5,b6,wd,an,av,ap,hw,rfl,rfl,hk⟩:=ht;refine t71 noT ?_;exact keepK (strip_own hw (own:=[_]) hP_len) hk
theorem tab71 :TabOk cfg2 (ctab [(71,hasNC)]):=ctab_ok (ctab_cons c71 ctab_nil)
section
variable {g:Nat}{rows:List Row}{pl e:Int}{b0 b1 b2 b3 b4 b5 b6:Blk}{wd:List UInt8}{l:List Ex.Att}
theorem loop87 {K:AV→Hp→Prop}(hw:Keep.okW rows [b0,b1,b2,b3,b4,b5,b6,.mem 9 [.str wd]])(hl:l.length≤limS)(hk:∀z:Int,decide (z≥0)=(l.any fun a=>a.name==wd)→K (.int .i64 z) (hP g rows pl e++[b0,b1,b2,b3,b4,b5,b6,.mem 9 [.str wd]])):
  ∀(n i:Nat),l.length-i=n→i≤l.length→(l.take i).any (fun a=>a.name==wd)=false→
  ToEnd cfg2 87 (bodyOf Tryd.f87) (RetIn Tryd.prog Tryd.f87 ((hP g rows pl e++[b0,b1,b2,b3,b4,b5,b6,.mem 9 [.str wd]]).length) K) [.code [0,1,0,1],.block 0,.code [1,1]] .normal [(0,true,.sl 3 (encAs l) none),(1,true,.fn (.func 71) [] [.ptr 15 0]),(7,true,.int .i64 l.length),(8,true,.int .i64 i)] (hP g rows pl e++[b0,b1,b2,b3,b4,b5,b6,.mem 9 [.str wd]])
 |0,i,hn,hi,hp=>by
  refine t87a tab71 (ifP_intro (fun a=> ?_) fun _=> ?_)
  ·simp at a;omega
  ·refine keepK (strip_hP hw _ hP_len) (hk _ ?_)
   rw[List.take_of_length_le (by omega)] at hp
   rw[hp];rfl
 |n+1,i,hn,hi,hp=>by
  have hlt:i<l.length:=by omega
  have hlen:(encAs l).length=l.length:=by simp[encAs]
  refine t87a tab71 (ifP_intro (fun a=>gAnd_intro ?_ ⟨_,_,_,getE_map _ l hlt,g,rows,pl,e,b0,b1,b2,b3,b4,b5,b6,wd,_,_,_,hw,rfl,rfl,ifP_intro (fun b=> ?_) fun b=> ?_⟩) fun a=> ?_)
  ·rw[hlen,inR_nat hlt];rfl
  ·refine keepK (strip_hP hw _ hP_len) (hk _ ?_)
   rw[decide_eq_true (by omega)]
   symm;rw[List.any_eq_true];exact⟨_,List.getElem_mem hlt,b⟩
  ·rw[wrapS (by omega)]
   refine loop87 hw hl hk n (i+1) (by omega) (by omega) ?_
   rw[List.take_succ_eq_append_getElem hlt,List.any_append,hp];simpa using b
  ·simp at a;omega
end
theorem c87 :COk cfg2 87 hasIC:=by
 refine cok_heap hf87 fun vs h K ht=> ?_
 obtain⟨g,rows,pl,e,b0,b1,b2,b3,b4,b5,b6,wd,l,hw,hl,rfl,rfl,hk⟩:=ht;refine t87 tab71 ?_
 have hlen:(encAs l).length=l.length:=by simp[encAs]
 rw[hlen]
 exact loop87 hw hl hk l.length 0 (by omega) (by omega) rfl
theorem c70 :COk cfg2 70 hasAC:=by
 refine cok_heap hf70 fun vs h K ht=> ?_
 obtain⟨g,rows,pl,e,b0,b1,b2,b3,b4,b5,b6,wd,l,hw,hl,rfl,rfl,hk⟩:=ht
 refine t70 (ctab_ok (ctab_cons c87 ctab_nil)) ⟨g,rows,pl,e,b0,b1,b2,b3,b4,b5,b6,wd,l,hw,hl,rfl,rfl,fun z hz=> ?_⟩
 rw[hz];exact keepK (strip_hP hw _ hP_len) hk
end Go.Proofs.YtopjpnhgnopbiaaDoor
end
section
namespace Go.Proofs.YtopjpnhgnopbiaaDoor
open Go.Ai Go Go.Ai.Sp
open Go.Ai.Ex (encAs encT blB limE)
set_option maxRecDepth 100000
theorem cok_weak {C:Cfg}{k:Nat}{t t':Con}(h:COk C k t)(w:∀vs h K,t' vs h K→t vs h K):COk C k t':=fun l g K ht=>h l g K (w _ _ _ ht)
theorem okR_rows {rows:List Row}(h:Keep.okR rows)(n:Nat)(g:Hp)(hn:4≤n):rows.map (fun x=>(x.1,strips n g x.2))=rows:=by
 conv=>rhs;rw[←List.map_id rows]
 exact List.map_congr_left fun r hr=>by rw[strips_low n g _ (h r hr n hn)];rfl
theorem okR_low {rows:List Row}(h:Keep.okR rows)(n:Nat)(hn:4≤n):(rows.all fun r=>lowVs n r.2)=true:=List.all_eq_true.2 fun r hr=>h r hr n hn
def pureB :Blk→Bool
 |.mem _ cs=>pureV.pureVs cs
 |.stk .. =>false
 |_=>true
theorem pureB_strip {b:Blk}(h:pureB b=true)(n:Nat)(g:Hp):stripB n g b=b:=by
 cases b with
 |mem t cs=>rw[stripB,strips_pure n g cs h]
 |stk=>cases h
 |_=>rfl
theorem okW_of {rows:List Row}{r:Hp}(h:Keep.okR rows)(hr:r.all pureB=true):Keep.okW rows r:=fun n g hn=>⟨okR_rows h n g (by omega),by
 conv=>rhs;rw[←List.map_id r]
 exact List.map_congr_left fun b hb=>pureB_strip (List.all_eq_true.1 hr b hb) n g⟩
theorem pureNames (l:List (List UInt8)):pureV.pureVss (l.map fun n=>[AV.str n])=true:=purS l
theorem pureAs (l:List Ex.Att):pureV.pureVss (encAs l)=true:=by
 unfold encAs
 induction l with
 |nil=>rfl
 |cons a r ih=>simp only[List.map_cons,Ex.encA,pureV.pureVss,pureV.pureVs,pureV,ih,Bool.true_and]
theorem pureTok {tk fr to:Int}{nm tx:List UInt8}(l:List Ex.Att):pureV.pureVs (tkB tk fr to nm tx (encAs l))=true:=by
 have:=pureAs l;simp[tkB,pureV.pureVs,pureV,this]
theorem pureEl (x:El):pureV.pureVs (encE x)=true:=by
 have:=pureNames x.names;simp[encE,pureV.pureVs,pureV,this]
theorem pure_begH {tk fr to:Int}{nm tx:List UInt8}(l:List Ex.Att)(x:El):(begH (tkB tk fr to nm tx (encAs l)) x).all pureB=true:=by
 simp[begH,pureB,pureTok,pureEl]
def att2 (x:El)(l:List Ex.Att)(s:Int×Int):Int×Int:=l.foldl (fun s a=>bif !(x.names.any (·==a.name))|| !valM a.name a.value then fE a.at' 12 s.1 s.2 else s) s
def att1 (fr:Int)(l:List Ex.Att)(ns:List (List UInt8))(s:Int×Int):Int×Int:=ns.foldl (fun s nm=>bif !(l.any fun a=>a.name==nm) then fE fr 12 s.1 s.2 else s) s
section
variable {g:Nat}{rows:List Row}{x:El}{tk fr to:Int}{nm tx:List UInt8}{l:List Ex.Att}{K:AV→Hp→Prop}
theorem tab49b (hr:Keep.okR rows):TabOk cfg2 (ctab [(72,Sp.inC),(73,valC),(46,failA g rows (Blk.grow 0 3 32) (Blk.mem 53 (tkB tk fr to nm tx (encAs l))) (Blk.mem 53 (tkB tk fr to nm tx (encAs l))) (Blk.grow 0 1 9) (Blk.mem 89 (encE x)) (Blk.mem 89 (encE x)) (Blk.mem 53 (tkB tk fr to nm tx (encAs l))))]):=
 ctab_ok (ctab_cons c72 (ctab_cons c73 (ctab_cons (cok_weak c46 fun vs h K ht=>by
  obtain⟨p,y,pl,e,w,v,q,rfl,rfl,hk⟩:=ht
  exact⟨p,y,g,rows,pl,e,_,okW_of hr (by simp[pureB,pureTok,pureEl,pureV.pureVs,pureV]),rfl,rfl,hk⟩) ctab_nil)))
theorem low49 :lowVss 15 (encAs l)=true:=lowss_pure 15 _ (pureAs l)
theorem lowN49 :lowVss 15 (x.names.map fun n=>[AV.str n])=true:=lowss_pure 15 _ (pureNames _)
theorem loop49b (hr:Keep.okR rows)(hx:x.names.length≤limS)(hl:l.length≤limS):∀(n i:Nat) (pl e:Int),l.length-i=n→i≤l.length→K (.tup []) (hP g rows (att2 x (l.drop i) (pl,e)).1 (att2 x (l.drop i) (pl,e)).2++begH (tkB tk fr to nm tx (encAs l)) x)→
  ToEnd cfg2 49 (bodyOf Tryd.f49) (RetIn Tryd.prog Tryd.f49 ((hP g rows pl e++begH (tkB tk fr to nm tx (encAs l)) x).length) K) ([.code [0,1,1,1],.block 2]) .normal [(0,true,.ptr 7 0),(4,true,.ptr 13 0),(31,true,.sl 3 (encAs l) none),(32,true,.int .i64 l.length),(33,true,.int .i64 i)]
   (hP g rows pl e++begH (tkB tk fr to nm tx (encAs l)) x++[.mem 89 (encE x),.mem 53 (tkB tk fr to nm tx (encAs l))])
 |0,i,pl,e,hn,hi,hk=>by
  refine t49b (tab49b hr) (ifP_intro (fun a=> ?_) fun _=> ?_)
  ·simp at a;omega
  ·rw[List.drop_of_length_le (by omega)] at hk
   exact keepK (strip_own (okW_of hr (pure_begH l x)) (own:=[_,_]) hP_len) hk
 |n+1,i,pl,e,hn,hi,hk=>by
  have hlt:i<l.length:=by omega
  have hlen:(encAs l).length=l.length:=by simp[encAs]
  rw[List.drop_eq_getElem_cons hlt] at hk
  have hlow:(lowVss 15 (encAs l)&&true&&true&&((List.all rows fun(r:Nat×List AV)↦lowVs 15 (Prod.snd r))&&(lowVss 15 (encAs l)&&true&&true&&(lowVss 15 (encAs l)&&true&&true&&(lowVss 15 (x.names.map fun n=>[AV.str n])&&true&&true&&(lowVss 15 (x.names.map fun n=>[AV.str n])&&true&&true&&(lowVss 15 (encAs l)&&true&&true&&true)))))))=true:=by
   rw[low49,lowN49,okR_low hr 15 (by decide)];rfl
  have go:∀pl' e',(pl',e')=(bif !(x.names.any (·==l[i].name))|| !valM l[i].name l[i].value then fE l[i].at' 12 pl e else(pl,e))→K (.tup []) (hP g rows (att2 x (l.drop (i+1)) (pl',e')).1 (att2 x (l.drop (i+1)) (pl',e')).2++begH (tkB tk fr to nm tx (encAs l)) x):=fun pl' e' he=>by
   rw[he];exact hk
  have wr:IntKind.wrap .i64 ((i:Int)+1)=((i+1:Nat):Int):=wrapS (by omega)
  refine t49b (tab49b hr) (ifP_intro (fun a=>gAnd_intro ?_ ⟨_,_,_,getE_map _ l hlt,x.names,_,by rw[stripss_pure 0 [] _ (pureNames _)],hx,ifP_intro (fun b=> ?_) fun b=>⟨_,_,rfl,ifP_intro (fun c=> ?_) fun c=> ?_⟩⟩) fun a=> ?_)
  ·rw[hlen,inR_nat hlt];rfl
  ·refine⟨_,_,pl,e,_,_,_,rfl,rfl,gAnd_intro hlow ?_⟩;rw[wr]
   exact loop49b hr hx hl n (i+1) _ _ (by omega) (by omega) (go _ _ (by rw[b];rfl))
  ·refine⟨_,_,pl,e,_,_,_,rfl,rfl,gAnd_intro hlow ?_⟩;rw[wr]
   exact loop49b hr hx hl n (i+1) _ _ (by omega) (by omega) (go _ _ (by rw[b,c];rfl))
  ·refine gAnd_intro hlow ?_;rw[wr]
   exact loop49b hr hx hl n (i+1) _ _ (by omega) (by omega) (go _ _ (by rw[b,c];rfl))
  ·simp at a;omega
theorem tab49a (hr:Keep.okR rows):TabOk cfg2 (ctab [(70,hasAC),(46,failN g rows (Blk.grow 0 3 32) (Blk.mem 53 (tkB tk fr to nm tx (encAs l))) (Blk.mem 53 (tkB tk fr to nm tx (encAs l))) (Blk.grow 0 1 9) (Blk.mem 89 (encE x)) (Blk.mem 89 (encE x)) (Blk.mem 53 (tkB tk fr to nm tx (encAs l))))]):=
 ctab_ok (ctab_cons c70 (ctab_cons (cok_weak c46 fun vs h K ht=>by
  obtain⟨p,y,pl,e,w,rfl,rfl,hk⟩:=ht
  exact⟨p,y,g,rows,pl,e,_,okW_of hr (by simp[pureB,pureTok,pureEl,pureV.pureVs,pureV]),rfl,rfl,hk⟩) ctab_nil))
theorem loop49a (hr:Keep.okR rows)(hx:x.names.length≤limS)(hl:l.length≤limS)(ns:List (List UInt8))(hns:ns.length≤limS):∀(n i:Nat) (pl e:Int),ns.length-i=n→i≤ns.length→K (.tup []) (hP g rows (att2 x l (att1 fr l (ns.drop i) (pl,e))).1 (att2 x l (att1 fr l (ns.drop i) (pl,e))).2++begH (tkB tk fr to nm tx (encAs l)) x)→
  ToEnd cfg2 49 (bodyOf Tryd.f49) (RetIn Tryd.prog Tryd.f49 ((hP g rows pl e++begH (tkB tk fr to nm tx (encAs l)) x).length) K) ([.code [0,1,0,1],.block 0,.code [1,1]]) .normal [(0,true,.ptr 7 0),(4,true,.ptr 13 0),(5,true,.ptr 14 0),(14,true,.sl 1 (ns.map fun n=>[.str n]) none),(15,true,.int .i64 ns.length),(16,true,.int .i64 i)]
   (hP g rows pl e++begH (tkB tk fr to nm tx (encAs l)) x++[.mem 89 (encE x),.mem 53 (tkB tk fr to nm tx (encAs l))])
 |0,i,pl,e,hn,hi,hk=>by
  refine t49a (tab49a hr) (ifP_intro (fun a=> ?_) fun _=> ?_)
  ·simp at a;omega
  ·rw[List.drop_of_length_le (by omega)] at hk
   have hlen:(encAs l).length=l.length:=by simp[encAs]
   have:=loop49b (g:=g) (K:=K) (x:=x) (tk:=tk) (fr:=fr) (to:=to) (nm:=nm) (tx:=tx) hr hx hl l.length 0 pl e (by omega) (by omega) hk
   rw[←hlen] at this;exact this
 |n+1,i,pl,e,hn,hi,hk=>by
  have hlt:i<ns.length:=by omega
  have hlen:(ns.map fun n=>[AV.str n]).length=ns.length:=by simp
  rw[List.drop_eq_getElem_cons hlt] at hk
  have hlow:(lowVss 15 (ns.map fun n=>[AV.str n])&&true&&true&&((List.all rows fun(r:Nat×List AV)↦lowVs 15 (Prod.snd r))&&(lowVss 15 (encAs l)&&true&&true&&(lowVss 15 (encAs l)&&true&&true&&(lowVss 15 (x.names.map fun n=>[AV.str n])&&true&&true&&(lowVss 15 (x.names.map fun n=>[AV.str n])&&true&&true&&(lowVss 15 (encAs l)&&true&&true&&true)))))))=true:=by
   rw[low49,lowN49,okR_low hr 15 (by decide),lowss_pure 15 _ (pureNames ns)];rfl
  have go:∀pl' e',(pl',e')=(bif !(l.any fun a=>a.name==ns[i]) then fE fr 12 pl e else(pl,e))→K (.tup []) (hP g rows (att2 x l (att1 fr l (ns.drop (i+1)) (pl',e'))).1 (att2 x l (att1 fr l (ns.drop (i+1)) (pl',e'))).2++begH (tkB tk fr to nm tx (encAs l)) x):=fun pl' e' he=>by
   rw[he];exact hk
  have wr:IntKind.wrap .i64 ((i:Int)+1)=((i+1:Nat):Int):=wrapS (by omega)
  refine t49a (tab49a hr) (ifP_intro (fun a=>gAnd_intro ?_ ⟨_,getE_map _ ns hlt,g,rows,pl,e,_,_,_,_,_,_,_,_,l,okW_of hr ?_,hl,rfl,rfl,ifP_intro (fun b=> ?_) fun b=> ?_⟩) fun a=> ?_)
  ·rw[hlen,inR_nat hlt];rfl
  ·have h1:=pureAs l;have h2:=pureNames x.names;simp[pureB,pureV.pureVs,pureV,h1,h2]
  ·refine⟨_,_,pl,e,_,rfl,rfl,gAnd_intro hlow ?_⟩;rw[wr]
   exact loop49a hr hx hl ns hns n (i+1) _ _ (by omega) (by omega) (go _ _ (by rw[b];rfl))
  ·refine gAnd_intro hlow ?_;rw[wr]
   exact loop49a hr hx hl ns hns n (i+1) _ _ (by omega) (by omega) (go _ _ (by rw[b];rfl))
  ·simp at a;omega
end
theorem c49 :COk cfg2 49 attrsC:=by
 refine cok_heap hf49 fun vs h K ht=> ?_
 obtain⟨g,rows,pl,e,x,tk,fr,to,nm,tx,l,hr,hm,hx,hl,rfl,rfl,hk⟩:=ht
 have hc:cutL (x.names.map fun n=>[AV.str n]) none (some ((x.must:Nat):Int))=(x.names.take x.must).map fun n=>[AV.str n]:=by
  simp[cutL]
 refine t49 noT (gAnd_intro ?_ ?_)
 ·simp only[cutOb,List.length_map]
  rw[decide_eq_true (by omega),decide_eq_true (by omega)];rfl
 ·rw[hc,List.length_map]
  exact loop49a hr hx hl (x.names.take x.must) (by rw[List.length_take];omega) _ 0 pl e rfl (by omega) hk
end Go.Proofs.YtopjpnhgnopbiaaDoor
end
section
namespace Go.Proofs.YtopjpnhgnopbiaaDoor
open Go.Ai Go Go.Ai.Sp
open Go.Ai.Ex (encAs encT)
set_option maxRecDepth 100000
theorem hf26 :heapFn cfg2 26 Tryd.f26:=(by refine⟨?_,?_,?_,?_,?_,?_⟩<;>kernel_rfl)
theorem hf27 :heapFn cfg2 27 Tryd.f27:=(by refine⟨?_,?_,?_,?_,?_,?_⟩<;>kernel_rfl)
theorem bl_eq (c:UInt8):Ex.blB c=([32,9,10,13]:List UInt8).contains c:=by
 simp only[Ex.blB,List.contains_cons,List.contains_nil,Bool.or_false,Bool.or_assoc]
theorem c45 :COk cfg2 45 trimC:=by
 refine cok_prim (g:=pTrimLeft) (by kernel_rfl) (by kernel_rfl) (by kernel_rfl) (by kernel_rfl) fun vs h K ht=> ?_
 obtain⟨s,hs,rfl,hk⟩:=ht;refine⟨.str (trimM s),hk,?_⟩
 have e:trimM s=Lib.trimLeftS s [32,9,10,13]:=by
  unfold trimM Lib.trimLeftS
  congr 1
  funext c
  exact bl_eq c
 rw[e];rfl
theorem ownP_low (r:List Nd){n:Nat}(h:4≤n):keepId n (ownP r)=ownP r∧(match ownP r with|some id=>Nat.blt id n|none=>true)=true:=by
 cases r with
 |nil=>
  have:Nat.blt 3 n=true:=Nat.ble_eq_true_of_le h
  exact⟨by simp only[ownP,keepId,this,cond_true],this⟩
 |cons a l=>exact⟨rfl,rfl⟩
theorem low_rowO {o:Option Nat}{n:Nat}(ho:(match o with|some id=>Nat.blt id n|none=>true)=true)(m:Nd):lowVs n (rowO o m).2=true:=by
 have h1:=low_encAs n m.attrs;have h2:=low_encNs n m.kids;unfold rowO rw';simp only[lowVs,lowV,h1,h2,Bool.true_and,Bool.and_true];exact ho
theorem okR_rowsP :∀l:List Nd,Keep.okR (rowsP l)
 |[],r,hr=>by cases hr
 |n::l,r,hr=>by
  rcases List.mem_cons.1 hr with rfl|hr
  ·exact fun m hm=>low_rowO (ownP_low l hm).2 n
  ·exact okR_rowsP l r hr
theorem rowsP_len :∀l:List Nd,(rowsP l).length=l.length
 |[]=>rfl
 |n::l=>by simp[rowsP,rowsP_len l]
theorem pure_encT (t:Ex.Tok):pureV.pureVs (encT t)=true:=by
 have:=pureAs t.attrs;simp[Ex.encT,pureV.pureVs,pureV,this]
theorem pure_tokH (t:Ex.Tok):(tokH t).all pureB=true:=by simp[tokH,pureB,pure_encT]
theorem okW_tok (l:List Nd)(t:Ex.Tok):Keep.okW (rowsP l) (tokH t):=okW_of (okR_rowsP l) (pure_tokH t)
theorem kidsOk_ns {l:List Nd}(h:l.length≤limS):kidsOk (encNs l):=by
 refine⟨by rw[encNs_length];exact h,fun x hx=> ?_⟩
 rw[encNs_map] at hx;obtain⟨n,_,rfl⟩:=List.mem_map.1 hx;exact⟨_,_,_,_,_,encN_eq n⟩
theorem lastK_ns (l:List Nd):lastK (encNs l)=lastN l:=by
 unfold lastK lastN;rw[encNs_map,List.getLast?_map]
 cases l.getLast? with
 |none=>rfl
 |some n=>simp only[Option.map_some,encN_eq]
theorem strip_cut {rows:List Row}{r own:Hp}{g:Nat}{pl e:Int}{n:Nat}{G:Hp}(hn:n=8+r.length):
  List.map (stripB n G) (List.take n (hP g rows pl e++(r++own)))=hP g (rows.map fun x=>(x.1,strips n G x.2)) pl e++r.map (stripB n G):=by
 have hl:(hP g rows pl e++r).length=n:=by rw[hn];simp[hP];omega
 rw[←List.append_assoc,←hl,List.take_left' rfl,hl,List.map_append]
 congr 1
 obtain⟨m,rfl⟩:∃m,n=m+8:=⟨r.length,by omega⟩
 have b:∀i,i<8→Nat.blt i (m+8)=true:=fun i h=>Nat.ble_eq_true_of_le (by omega)
 simp only[hP,List.map_cons,List.map_nil,stripB,strips,strip,stripss,keepId,b 0 (by omega),b 1 (by omega),b 5 (by omega),cond_true,List.length_map]
theorem strip_addRow {o:Option Nat}{nk np:Int}{nt:List UInt8}{na:List Go.Ai.Att}{nks:List Nd}{k p:Int}{t:List UInt8}{al:List Go.Ai.Att}{ks:List Nd}{G:Hp}{oa ow:Option Nat}{m:Nat}(ho:keepId m o=o)(ha:keepId m oa=none)(hw:keepId m ow=none):
  ((rw' (.int .i64 nk) (.int .i64 np) (.str nt) (.sl 3 (na.map Go.Ai.encA) o) (encNs nks++[nodeV k p t (al.map Go.Ai.encA) oa (encNs ks) ow])).1,
   strips m G (rw' (.int .i64 nk) (.int .i64 np) (.str nt) (.sl 3 (na.map Go.Ai.encA) o) (encNs nks++[nodeV k p t (al.map Go.Ai.encA) oa (encNs ks) ow])).2)=rowO o (addK (.mk nk np nt na nks) (.mk k p t al ks)):=by
 have h1:∀l:List Nd,stripss m G (encNs l)=encNs l:=fun l=>stripss_pure _ _ _ (pure_encNs l)
 have h2:∀l:List Go.Ai.Att,stripss m G (l.map Go.Ai.encA)=l.map Go.Ai.encA:=fun l=>stripss_pure _ _ _ (pure_encAs l)
 have h3:strips m G (nodeV k p t (al.map Go.Ai.encA) oa (encNs ks) ow)=encN (.mk k p t al ks):=by
  unfold nodeV;rw[strips,strips,strips,strips,strips,strips,strip_sl,strip_sl,h1,h2,ha,hw];rfl
 have h4:stripss m G (encNs nks++[nodeV k p t (al.map Go.Ai.encA) oa (encNs ks) ow])=encNs (nks++[.mk k p t al ks]):=by
  rw[stripss_eq,List.map_append,←stripss_eq,h1,List.map_cons,List.map_nil,h3,encNs_map,encNs_map,List.map_append];rfl
 unfold rw';simp only;rw[strips,strips,strips,strips,strips,strips,strip_sl,strip_sl,h4,h2,ho];show(_,[AV.int .i64 nk,AV.int .i64 np,AV.str nt,AV.sl 3 (na.map Go.Ai.encA) o,AV.sl 5 (encNs (nks++[.mk k p t al ks])) none])=((encNs (nks++[.mk k p t al ks])).length,_);rw[encNs_length,List.length_append,List.length_append,encNs_length];rfl
theorem rows_strip (l:List Nd)(m:Nat)(G:Hp)(hm:4≤m):(rowsP l).map (fun x=>(x.1,strips m G x.2))=rowsP l:=okR_rows (okR_rowsP l) m G hm
theorem tok_strip (t:Ex.Tok)(m:Nat)(G:Hp):(tokH t).map (stripB m G)=tokH t:=by
 conv=>rhs;rw[←List.map_id (tokH t)]
 exact List.map_congr_left fun b hb=>pureB_strip (List.all_eq_true.1 (pure_tokH t) b hb) m G
theorem c27 :COk cfg2 27 (stepC rawP noPre):=by
 refine cok_heap hf27 fun vs h K ht=> ?_
 obtain⟨g,s,t,hne,⟨hs1,hs2⟩,htb,-,rfl,rfl,hk⟩:=ht;obtain⟨rows,pl,e⟩:=s
 cases rows with
 |nil=>exact absurd rfl hne
 |cons n r=>
  obtain⟨nk,np,nt,na,nks⟩:=n
  have hw:=okW_more 53 (okW_tok (.mk nk np nt na nks::r) t) (x:=encT t) fun m G _=>strips_pure m G _ (pure_encT t)
  have hl:(rowsP (Nd.mk nk np nt na nks::r)).length≤limS:=by rw[rowsP_len];exact Nat.le_of_lt hs1
  have g1:(Nat.beq g g&&true&&true&&true)=true:=by simp
  refine t27 tab43 ?_
  repeat' (first
   |exact rfl
   |exact trivial
   |exact g1
   |refine⟨g,_,_,pl,e,_,hw,hl,rfl,rfl,?_⟩
   |refine gAnd_intro ?_ ?_
   |exact keepK ((strip_cut (own:=[_]) (r:=tokH t) (rows:=rowsP (Nd.mk nk np t.text na nks::r)) hP_len).trans (by rw[rows_strip,tok_strip]<;>first|rfl|(rw[hP_len];omega))) (hk g)
   |refine⟨?_,?_⟩)
theorem tab26 :TabOk cfg2 (ctab [(43,topC),(44,addC 5),(45,trimC),(46,failC)]):=ctab_ok (ctab_cons c43 (ctab_cons c44_5 (ctab_cons c45 (ctab_cons c46 ctab_nil))))
theorem beq_refl' (g:Nat):Nat.beq g g=true:=by simp
theorem nodeV_strip {k p:Int}{t:List UInt8}{al:List Go.Ai.Att}{oa ow:Option Nat}{n:Nat}{G:Hp}(h1:keepId n oa=oa)(h2:keepId n ow=ow):strips n G (nodeV k p t (al.map Go.Ai.encA) oa [] ow)=nodeV k p t (al.map Go.Ai.encA) oa [] ow:=by
 have h:stripss n G (al.map Go.Ai.encA)=al.map Go.Ai.encA:=stripss_pure _ _ _ (pure_encAs al);unfold nodeV;rw[strips,strips,strips,strips,strips,strips,strip_sl,strip_sl,h,h1,h2];rfl
theorem keep_lt {n id:Nat}(h:id<n):keepId n (some id)=some id:=by
 simp only[keepId,Nat.blt,Nat.ble_eq_true_of_le (show id+1≤n from h),cond_true]
theorem keep_ge {n id:Nat}(h:n≤id):keepId n (some id)=none:=by
 have:Nat.blt id n=false:=by
  rw[Bool.eq_false_iff];intro e;have:=Nat.le_of_ble_eq_true e;omega
 simp only[keepId,this,cond_false]
theorem trim_len (s:List UInt8):(trimM s).length≤s.length:=(List.dropWhile_suffix _).length_le
theorem c26 :COk cfg2 26 (stepC textP noPre):=by
 refine cok_heap hf26 fun vs h K ht=> ?_
 obtain⟨g,s,t,hne,⟨hs1,hs2⟩,⟨htb1,htb2,htb3,htb4,htb5⟩,-,rfl,rfl,hk⟩:=ht;obtain⟨rows,pl,e⟩:=s
 cases rows with
 |nil=>exact absurd rfl hne
 |cons n r=>
  obtain⟨nk,np,nt,na,nks⟩:=n;have hw0:=okW_tok (.mk nk np nt na nks::r) t
  have hw:=okW_more 53 hw0 (x:=encT t) fun m G _=>strips_pure m G _ (pure_encT t)
  have hw5:Keep.okW (rw' (.int .i64 nk) (.int .i64 np) (.str nt) (.sl 3 (na.map Go.Ai.encA) (ownP r)) (encNs nks)::rowsP r) (tokH t++[.mem 53 (encT t)]++[.grow 0 3 32,.grow 0 5 28]):=okW_of (okR_rowsP (.mk nk np nt na nks::r)) (by simp[tokH,pureB,pure_encT])
  have hl:(rowsP (Nd.mk nk np nt na nks::r)).length≤limS:=by rw[rowsP_len];exact Nat.le_of_lt hs1
  have hkl:(encNs nks).length<limS:=by rw[encNs_length];exact hs2 _ List.mem_cons_self
  have wr:IntKind.wrap .i64 ((t.to:Int)-((trimM t.text).length:Nat))=(t.to:Int)-((trimM t.text).length:Nat):=by
   have:=trim_len t.text;unfold limS at htb2
   rw[wrap_in]<;>omega
  have trimmed:(nk==7||nk==10)=true→∃(s27:List UInt8),List.length s27≤1000000000000∧[AV.str t.text,AV.str [32,9,10,13]]=[AV.str s27,AV.str [32,9,10,13]]∧ifP (!trimM s27==[]) (∃(p28:Int),∃(x29:Int),∃(g30:Nat),∃(rows31:List Row),∃(pl32:Int),∃(e33:Int),∃(r34:Hp),Keep.okW rows31 r34∧[AV.ptr 7 0,AV.int IntKind.i64 (IntKind.wrap IntKind.i64 ((t.to:Int)-(↑(List.length (trimM s27)):Int))),AV.int IntKind.i64 13]=[AV.ptr 7 0,AV.int IntKind.i64 p28,AV.int IntKind.i64 x29]∧
    hP g (rowsP (Nd.mk nk np nt na nks::r)) pl e++(tokH t++[.mem 53 (encT t)])=hP g30 rows31 pl32 e33++r34∧
    K (.tup []) (List.map (stripB (hP g (rowsP (Nd.mk nk np nt na nks::r)) pl e++tokH t).length (hP g30 rows31 (fE p28 x29 pl32 e33).1 (fE p28 x29 pl32 e33).2++r34)) (List.take (hP g (rowsP (Nd.mk nk np nt na nks::r)) pl e++tokH t).length (hP g30 rows31 (fE p28 x29 pl32 e33).1 (fE p28 x29 pl32 e33).2++r34))))
    (K (.tup []) (List.map (stripB (hP g (rowsP (Nd.mk nk np nt na nks::r)) pl e++tokH t).length (hP g (rowsP (Nd.mk nk np nt na nks::r)) pl e++(tokH t++[.mem 53 (encT t)]))) (List.take (hP g (rowsP (Nd.mk nk np nt na nks::r)) pl e++tokH t).length (hP g (rowsP (Nd.mk nk np nt na nks::r)) pl e++(tokH t++[.mem 53 (encT t)]))))):=fun hkk=>by
   have hp:textP t ⟨.mk nk np nt na nks::r,pl,e⟩=bif (trimM t.text).isEmpty then⟨.mk nk np nt na nks::r,pl,e⟩ else failP ((t.to:Int)-(trimM t.text).length) 13 ⟨.mk nk np nt na nks::r,pl,e⟩:=by
    show(bif nk==7||nk==10 then _ else _)=_;rw[hkk];rfl
   refine⟨t.text,htb1,rfl,ifP_intro (fun a=> ?_) fun a=> ?_⟩
   ·have he:(trimM t.text).isEmpty=false:=by
     cases h:trimM t.text with
     |nil=>rw[h] at a;cases a
     |cons=>rfl
    rw[hp,he] at hk;refine⟨_,_,g,_,pl,e,_,hw,rfl,rfl,?_⟩;rw[wr]
    exact keepK ((strip_cut (own:=[_]) hP_len).trans (by rw[rows_strip,tok_strip]<;>first|rfl|(rw[hP_len];omega))) (hk g)
   ·have he:(trimM t.text).isEmpty=true:=by
     cases h:trimM t.text with
     |nil=>rfl
     |cons=>rw[h] at a;cases a
    rw[hp,he] at hk
    exact keepK ((strip_cut (own:=[_]) hP_len).trans (by rw[rows_strip,tok_strip]<;>first|rfl|(rw[hP_len];omega))) (hk g)
  refine t26 tab26 ⟨g,_,_,pl,e,_,hw,hl,rfl,rfl,gAnd_intro (beq_refl' g) (ifP_intro (fun a=>ifP_intro (fun b=> ?_) fun b=> ?_) fun a=> ?_)⟩
  ·have hkk:(nk==7||nk==10)=false:=by
    simp only[bne_iff_ne,ne_eq] at a b;have a1:¬nk=7:=a;have b1:¬nk=10:=b;simp[a1,b1]
   have hp:textP t ⟨.mk nk np nt na nks::r,pl,e⟩=⟨addK (.mk nk np nt na nks) (.mk 2 t.fr t.text [] [])::r,pl,e⟩:=by
    show(bif nk==7||nk==10 then _ else _)=_;rw[hkk];rfl
   rw[hp] at hk
   refine⟨g,_,_,_,_,encNs nks,rowsP r,pl,e,tokH t++[.mem 53 (encT t)]++[.grow 0 3 32,.grow 0 5 28],2,t.fr,t.text,[],some 11,[],some 12,hw5,hl,hkl,fun n G hn=> ?_,rfl,rfl,rfl,?_⟩
   ·exact nodeV_strip (al:=[]) (keep_lt (by omega)) (keep_lt (by omega))
   ·refine keepK ((strip_cut (n:=10) (r:=tokH t) (own:=[_,_,_]) (rows:=rw' (.int .i64 nk) (.int .i64 np) (.str nt) (.sl 3 (na.map Go.Ai.encA) (ownP r)) (encNs nks++[nodeV 2 t.fr t.text (([]:List Go.Ai.Att).map Go.Ai.encA) (some 11) (encNs []) (some 12)])::rowsP r) rfl).trans ?_) (hk g)
    rw[List.map_cons,strip_addRow (ownP_low r (by decide)).1 (keep_ge (show 10≤11 by decide)) (keep_ge (show 10≤12 by decide)),rows_strip _ _ _ (by decide),tok_strip]
    rfl
  ·refine trimmed ?_;simp only[bne_eq_false_iff_eq] at b;have b1:nk=10:=b;simp[b1]
  ·refine trimmed ?_;simp only[bne_eq_false_iff_eq] at a;have a1:nk=7:=a;simp[a1]
end Go.Proofs.YtopjpnhgnopbiaaDoor
end
section
namespace Go.Proofs.YtopjpnhgnopbiaaDoor
open Go.Ai Go Go.Ai.Sp
open Go.Ai.Ex (encAs encT)
set_option maxRecDepth 100000
theorem hf30 :heapFn cfg2 30 Tryd.f30:=(by refine⟨?_,?_,?_,?_,?_,?_⟩<;>kernel_rfl)
theorem tab30b :TabOk cfg2 (ctab [(43,topC),(46,failC),(50,lastC)]):=ctab_ok (ctab_cons c43 (ctab_cons c46 (ctab_cons c50 ctab_nil)))
theorem tab30c :TabOk cfg2 (ctab [(43,topC),(44,addC 6)]):=ctab_ok (ctab_cons c43 (ctab_cons c44_6 ctab_nil))
abbrev hT (g:Nat)(l:List Nd)(pl e:Int)(t:Ex.Tok):Hp:=hP g (rowsP l) pl e++(tokH t++[.mem 53 (encT t)])
theorem okW_t (l:List Nd)(t:Ex.Tok):Keep.okW (rowsP l) (tokH t++[.mem 53 (encT t)]):=okW_more 53 (okW_tok l t) (x:=encT t) fun m G _=>strips_pure m G _ (pure_encT t)
theorem fin_t {K:AV→Hp→Prop}{g:Nat}{l:List Nd}{pl e:Int}{t:Ex.Tok}{G:Hp}{n:Nat}(hn:n=8+(tokH t).length)(hk:K (.tup []) (hP g (rowsP l) pl e++tokH t)):
  K (.tup []) (List.map (stripB n G) (List.take n (hT g l pl e t))):=
 keepK ((strip_cut (own:=[_]) hn).trans (by rw[rows_strip _ _ _ (by omega),tok_strip])) hk
theorem bne_t {a b:Int}(h:(a !=b)=true):(a==b)=false:=by simpa[bne] using h
theorem bne_f {a b:Int}(h:(a !=b)=false):(a==b)=true:=by simpa[bne] using h
theorem run30b {K:AV→Hp→Prop}{g:Nat}{nk np:Int}{nt:List UInt8}{na:List Go.Ai.Att}{nks:List Nd}{r:List Nd}{pl e:Int}{t:Ex.Tok}{kk:Int}(hs:smallR (.mk nk np nt na nks::r)){bad:Bool}(hb:bad=(!(nk==kk)||((kk==7&& !(lastN nks==9))||(kk==10&&lastN nks==0))))
  (hf:bad=true→K (.tup []) (hP g (rowsP (Nd.mk nk np nt na nks::r)) (fE t.fr 13 pl e).1 (fE t.fr 13 pl e).2++tokH t))
  (hg:bad=false→ToEnd cfg2 30 (bodyOf Tryd.f30) (RetIn Tryd.prog Tryd.f30 (hP g (rowsP (Nd.mk nk np nt na nks::r)) pl e++tokH t).length K) [.code [1,1,1,1]] .normal [(0,true,.ptr 7 0)] (hT g (.mk nk np nt na nks::r) pl e t)):
  ToEnd cfg2 30 (bodyOf Tryd.f30) (RetIn Tryd.prog Tryd.f30 (hP g (rowsP (Nd.mk nk np nt na nks::r)) pl e++tokH t).length K) [.code [1,1,1]] .normal [(0,true,.ptr 7 0),(3,true,.ptr 10 0),(4,true,.int .i64 kk)] (hT g (.mk nk np nt na nks::r) pl e t):=by
 obtain⟨hs1,hs2⟩:=hs;have hw:=okW_t (.mk nk np nt na nks::r) t
 have hl:(rowsP (Nd.mk nk np nt na nks::r)).length≤limS:=by rw[rowsP_len];exact Nat.le_of_lt hs1
 have hkl:kidsOk (encNs nks):=kidsOk_ns (Nat.le_of_lt (hs2 _ List.mem_cons_self));have hlk:=lastK_ns nks
 have fail:bad=true→∃(p7:Int),∃(x8:Int),∃(g9:Nat),∃(rows10:List Row),∃(pl11:Int),∃(e12:Int),∃(r13:Hp),Keep.okW rows10 r13∧[AV.ptr 7 0,.int .i64 t.fr,.int .i64 13]=[.ptr 7 0,.int .i64 p7,.int .i64 x8]∧hT g (.mk nk np nt na nks::r) pl e t=hP g9 rows10 pl11 e12++r13∧
   K (.tup []) (List.map (stripB (hP g (rowsP (Nd.mk nk np nt na nks::r)) pl e++tokH t).length (hP g9 rows10 (fE p7 x8 pl11 e12).1 (fE p7 x8 pl11 e12).2++r13)) (List.take (hP g (rowsP (Nd.mk nk np nt na nks::r)) pl e++tokH t).length (hP g9 rows10 (fE p7 x8 pl11 e12).1 (fE p7 x8 pl11 e12).2++r13))):=fun hbad=>
  ⟨_,_,g,_,pl,e,_,hw,rfl,rfl,fin_t hP_len (hf hbad)⟩
 refine t30b tab30b ⟨g,_,_,pl,e,_,hw,hl,rfl,rfl,gAnd_intro (beq_refl' g) (ifP_intro (fun a=> ?_) fun a=> ?_)⟩
 ·have a':(nk==kk)=false:=bne_t a
  exact fail (by rw[hb,a'];rfl)
 ·have a':(nk==kk)=true:=bne_f a
  refine ifP_intro (fun b=> ?_) fun b=> ?_
  ·refine⟨g,_,_,_,_,encNs nks,_,pl,e,_,hw,hl,hkl,rfl,rfl,ifP_intro (fun c=> ?_) fun c=> ?_⟩
   ·rw[hlk] at c
    exact fail (by rw[hb,a',b,bne_t c];rfl)
   ·rw[hlk] at c
    refine ifP_intro (fun d=> ?_) fun d=> ?_
    ·refine⟨g,_,_,_,_,encNs nks,_,pl,e,_,hw,hl,hkl,rfl,rfl,ifP_intro (fun f=> ?_) fun f=> ?_⟩
     ·rw[hlk] at f
      exact fail (by rw[hb,a',b,d,f,bne_f c];rfl)
     ·rw[hlk] at f
      exact hg (by rw[hb,a',b,d,f,bne_f c];rfl)
    ·exact hg (by rw[hb,a',b,d,bne_f c];rfl)
  ·refine ifP_intro (fun d=> ?_) fun d=> ?_
   ·refine⟨g,_,_,_,_,encNs nks,_,pl,e,_,hw,hl,hkl,rfl,rfl,ifP_intro (fun f=> ?_) fun f=> ?_⟩
    ·rw[hlk] at f
     exact fail (by rw[hb,a',b,d,f];rfl)
    ·rw[hlk] at f
     exact hg (by rw[hb,a',b,d,f];rfl)
   ·exact hg (by rw[hb,a',b,d];rfl)
theorem wr_len {α:Type}{a b:α}{l:List α}(h:l.length+2≤limS)(g:Nat):(decide (IntKind.wrap .i64 ((((a::b::l).length:Nat):Int)-1)=(((a::b::l).length:Nat):Int)-1)&&true&&true&&true&&Nat.beq g g)=true:=by
 have e:IntKind.wrap .i64 ((((a::b::l).length:Nat):Int)-1)=(((a::b::l).length:Nat):Int)-1:=by
  have:(a::b::l).length=l.length+2:=rfl;unfold limS at h
  rw[wrap_in]<;>omega
 rw[decide_eq_true e,beq_refl' g];rfl
theorem run30c {K:AV→Hp→Prop}{g:Nat}{nk np:Int}{nt:List UInt8}{na:List Go.Ai.Att}{nks:List Nd}{mk mp:Int}{mt:List UInt8}{ma:List Go.Ai.Att}{mks:List Nd}{r:List Nd}{pl e:Int}{t:Ex.Tok}(hs:smallR (.mk nk np nt na nks:: .mk mk mp mt ma mks::r))
  (hk:K (.tup []) (hP (g+1) (rowsP (addK (.mk mk mp mt ma mks) (.mk nk np nt na nks)::r)) pl e++tokH t)):
  ToEnd cfg2 30 (bodyOf Tryd.f30) (RetIn Tryd.prog Tryd.f30 (hP g (rowsP (Nd.mk nk np nt na nks:: .mk mk mp mt ma mks::r)) pl e++tokH t).length K) [.code [1,1,1,1]] .normal [(0,true,.ptr 7 0)] (hT g (.mk nk np nt na nks:: .mk mk mp mt ma mks::r) pl e t):=by
 obtain⟨hs1,hs2⟩:=hs;have hw:=okW_t (.mk nk np nt na nks:: .mk mk mp mt ma mks::r) t
 have hl:(rowsP (Nd.mk nk np nt na nks:: .mk mk mp mt ma mks::r)).length≤limS:=by rw[rowsP_len];exact Nat.le_of_lt hs1
 have hl2:(rowsP (Nd.mk mk mp mt ma mks::r)).length≤limS:=by
  rw[rowsP_len];have:(Nd.mk nk np nt na nks:: .mk mk mp mt ma mks::r).length=(Nd.mk mk mp mt ma mks::r).length+1:=rfl;have hs1:=hs1;omega
 have hm:(encNs mks).length<limS:=by rw[encNs_length];exact hs2 (.mk mk mp mt ma mks) (List.mem_cons_of_mem _ List.mem_cons_self)
 have hl3:(rowsP r).length+2≤limS:=hl;have hp:pureV.pureVs [AV.int .i64 nk,.int .i64 np,.str nt,.sl 3 (na.map Go.Ai.encA) none,.sl 5 (encNs nks) none]=true:=pure_encN (.mk nk np nt na nks)
 have hw6:Keep.okW (rw' (.int .i64 mk) (.int .i64 mp) (.str mt) (.sl 3 (ma.map Go.Ai.encA) (ownP r)) (encNs mks)::rowsP r) (tokH t++[.mem 53 (encT t)]++[.grow 0 3 32,.grow 0 5 28,.mem 28 [.int .i64 nk,.int .i64 np,.str nt,.sl 3 (na.map Go.Ai.encA) none,.sl 5 (encNs nks) none]]):=
  okW_of (okR_rowsP (.mk mk mp mt ma mks::r)) (by simp[tokH,pureB,pure_encT];exact hp)
 have hn:∀(n:Nat) (G:Hp),14≤n→strips n G (nodeV nk np nt (na.map Go.Ai.encA) none (encNs nks) none)=nodeV nk np nt (na.map Go.Ai.encA) none (encNs nks) none:=fun n G _=>strips_pure n G _ hp
 refine t30c tab30c ⟨g,_,_,pl,e,_,hw,hl,rfl,rfl,gAnd_intro (beq_refl' g) ?_⟩
 repeat' (first
  |exact rfl
  |exact trivial
  |exact wr_len hl3 g
  |refine gAnd_intro ?_ ?_
  |refine And.intro ?_ ?_)
 refine⟨g+1,_,_,_,_,encNs mks,rowsP r,pl,e,tokH t++[.mem 53 (encT t)]++[.grow 0 3 32,.grow 0 5 28,.mem 28 [.int .i64 nk,.int .i64 np,.str nt,.sl 3 (na.map Go.Ai.encA) none,.sl 5 (encNs nks) none]],nk,np,nt,na.map Go.Ai.encA,none,encNs nks,none,hw6,hl2,hm,hn,rfl,rfl,rfl,?_⟩;refine keepK ?_ hk;show List.map (stripB 10 (hP (g+1) (rw' (.int .i64 mk) (.int .i64 mp) (.str mt) (.sl 3 (ma.map Go.Ai.encA) (ownP r)) (encNs mks++[nodeV nk np nt (na.map Go.Ai.encA) none (encNs nks) none])::rowsP r) pl e++(tokH t++[.mem 53 (encT t),.grow 0 3 32,.grow 0 5 28,.mem 28 [.int .i64 nk,.int .i64 np,.str nt,.sl 3 (na.map Go.Ai.encA) none,.sl 5 (encNs nks) none]]))) (List.take 10 (hP (g+1) (rw' (.int .i64 mk) (.int .i64 mp) (.str mt) (.sl 3 (ma.map Go.Ai.encA) (ownP r)) (encNs mks++[nodeV nk np nt (na.map Go.Ai.encA) none (encNs nks) none])::rowsP r) pl e++(tokH t++[.mem 53 (encT t),.grow 0 3 32,.grow 0 5 28,.mem 28 [.int .i64 nk,.int .i64 np,.str nt,.sl 3 (na.map Go.Ai.encA) none,.sl 5 (encNs nks) none]])))=_;rw[strip_cut (n:=10) rfl]
 rw[List.map_cons,strip_addRow (ownP_low r (by decide)).1 rfl rfl,rows_strip _ _ _ (by decide),tok_strip]
 rfl
theorem elM_kind (s:List UInt8):3≤(elM s).kind∧(elM s).kind≤13:=by
 unfold elM
 repeat' (first|(constructor<;>simp only[]<;>decide)|(rw[Bool.cond_eq_ite];split))
theorem c30 :COk cfg2 30 (stepC endP onePre):=by
 refine cok_heap hf30 fun vs h K ht=> ?_
 obtain⟨g,s,t,hne,hs,htb,hone,rfl,rfl,hk⟩:=ht;obtain⟨rows,pl,e⟩:=s
 cases rows with
 |nil=>exact absurd rfl hne
 |cons n r=>
  obtain⟨nk,np,nt,na,nks⟩:=n;have tab:TabOk cfg2 (ctab [(47,ofC)]):=ctab_ok (ctab_cons c47 ctab_nil);have hbad:endBad t (.mk nk np nt na nks)=(!(nk==endK t)||((endK t==7&& !(lastN nks==9))||(endK t==10&&lastN nks==0))):=rfl
  have key:=run30b (K:=K) (g:=g) (np:=np) (nt:=nt) (na:=na) (r:=r) (pl:=pl) (e:=e) (t:=t) (kk:=endK t) (bad:=endBad t (.mk nk np nt na nks)) hs hbad
   (fun hb=>by
    have hp:endP t ⟨.mk nk np nt na nks::r,pl,e⟩=failP t.fr 13 ⟨.mk nk np nt na nks::r,pl,e⟩:=by
     show(bif endBad t _ then _ else _)=_;rw[hb];rfl
    rw[hp] at hk
    exact hk g)
   (fun hb=>by
    cases r with
    |nil=>
     have h1:nk=1:=hone _ rfl;exfalso;rw[hbad,h1] at hb
     have:((1:Int)==endK t)=false:=by
      rw[beq_eq_false_iff_ne];unfold endK;have:=elM_kind t.name
      cases t.kind==4<;>simp only[cond_true,cond_false]<;>omega
     rw[this] at hb;cases hb
    |cons m q=>
     obtain⟨mk,mp,mt,ma,mks⟩:=m
     have hp:endP t ⟨.mk nk np nt na nks:: .mk mk mp mt ma mks::q,pl,e⟩=⟨addK (.mk mk mp mt ma mks) (.mk nk np nt na nks)::q,pl,e⟩:=by
      show(bif endBad t _ then _ else _)=_;rw[hb];rfl
     rw[hp] at hk
     exact run30c hs (hk (g+1)))
  refine t30 tab (ifP_intro (fun a=>⟨_,rfl,?_⟩) fun a=> ?_)
  ·have:endK t=(elM t.name).kind:=by unfold endK;rw[a];rfl
   rw[this] at key;exact key
  ·have:endK t=14:=by unfold endK;rw[a];rfl
   rw[this] at key;exact key
end Go.Proofs.YtopjpnhgnopbiaaDoor
end
section
namespace Go.Proofs.YtopjpnhgnopbiaaDoor
open Go.Ai Go Go.Ai.Sp
open Go.Ai.Ex (encAs encT)
set_option maxRecDepth 100000
theorem tab_mem {C:Cfg}{k:Nat}{t:Con}(h:TabOk C (ctab [(k,t)])):∀p∈[(k,t)],COk C p.1 p.2:=fun p hp=>by
 rw[List.mem_singleton] at hp;subst hp
 exact fun l g K ht=>h k t (by simp[ctab,lookN]) l g K ht
theorem hf29 :heapFn cfg2 29 Tryd.f29:=(by refine⟨?_,?_,?_,?_,?_,?_⟩<;>kernel_rfl)
theorem hf28 :heapFn cfg2 28 Tryd.f28:=(by refine⟨?_,?_,?_,?_,?_,?_⟩<;>kernel_rfl)
theorem push_g {α:Type}{a:α}{l:List α}(h:l.length+1≤limS)(g:Nat):(Nat.beq g g&&true&&true&&true&&true&&true&&decide (((a::l).length+1)*80≤140737488355328)&&true&&true)=true:=by
 have:(a::l).length=l.length+1:=rfl;unfold limS at h
 rw[beq_refl' g,decide_eq_true (by omega)];rfl
theorem push_i {α:Type}{l:List α}:(decide (((l.length:Nat):Int)=((l.length+1:Nat):Int)-1)&&true&&true&&true)=true:=by
 rw[decide_eq_true (by omega)];rfl
theorem push_n (g:Nat):(Nat.beq g g&&true&&true&&true)=true:=by rw[beq_refl' g];rfl
theorem strip_push {k p:Int}{t:List UInt8}{al:List Go.Ai.Att}{oa:Option Nat}{m:Nat}{G:Hp}(h:keepId m oa=none):(0,strips m G [AV.int .i64 k,.int .i64 p,.str t,.sl 3 (al.map Go.Ai.encA) oa,.sl 5 [] none])=rowO none (.mk k p t al []):=by
 have h2:stripss m G (al.map Go.Ai.encA)=al.map Go.Ai.encA:=stripss_pure _ _ _ (pure_encAs al);rw[strips,strips,strips,strips,strips,strips,strip_sl,strip_sl,h2,h];rfl
section
variable {K:AV→Hp→Prop}{g:Nat}{nk np:Int}{nt:List UInt8}{na:List Go.Ai.Att}{nks:List Nd}{r:List Nd}{pl e:Int}{t:Ex.Tok}
theorem run29r (hs:smallR (.mk nk np nt na nks::r))(hk:K (.tup []) (hP (g+1) (rowsP (.mk 14 t.fr [] [] []:: .mk nk np nt na nks::r)) pl e++tokH t)):
  ToEnd cfg2 29 (bodyOf Tryd.f29) (RetIn Tryd.prog Tryd.f29 10 K) [.code [1,1,1]] .normal [(0,true,.ptr 7 0),(3,true,.ptr 10 0)] (hT g (.mk nk np nt na nks::r) pl e t):=by
 obtain⟨hs1,hs2⟩:=hs
 have hl3:(rowsP r).length+1≤limS:=by rw[rowsP_len];exact Nat.le_of_lt hs1
 refine t29r (k:=nk) (b0:=.grow 0 3 32) (b1:=.mem 53 (encT t)) noT ?_;refine gAnd_intro (push_g hl3 g) (gAnd_intro push_i (gAnd_intro (push_n _) ⟨?_,?_⟩))
 ·repeat' (first
   |exact rfl
   |exact trivial
   |exact push_g hl3 g
   |exact push_i
   |exact push_n _
   |refine gAnd_intro ?_ ?_
   |refine And.intro ?_ ?_)
 ·refine keepK ?_ hk;show List.map (stripB 10 (hP (g+1) ((0,[.int .i64 14,.int .i64 t.fr,.str [],.sl 3 (([]:List Go.Ai.Att).map Go.Ai.encA) (some 11),.sl 5 [] none])::rowsP (Nd.mk nk np nt na nks::r)) pl e++(tokH t++[.mem 53 (encT t),.grow 0 3 32,.dead]))) (List.take 10 (hP (g+1) ((0,[.int .i64 14,.int .i64 t.fr,.str [],.sl 3 (([]:List Go.Ai.Att).map Go.Ai.encA) (some 11),.sl 5 [] none])::rowsP (Nd.mk nk np nt na nks::r)) pl e++(tokH t++[.mem 53 (encT t),.grow 0 3 32,.dead])))=_;rw[strip_cut (n:=10) rfl]
  rw[List.map_cons,strip_push (keep_ge (show 10≤11 by decide)),rows_strip _ _ _ (by decide),tok_strip]
  rfl
theorem deep_t {α:Type}{a:α}{l:List Nd}{m:List α}(hm:m.length=l.length):decide ((((a::m).length:Nat):Int)>16)=decide (16<l.length+1):=by
 have:(a::m).length=l.length+1:=by rw[List.length_cons,hm]
 rw[this]
 by_cases h:16<l.length+1
 ·rw[decide_eq_true h,decide_eq_true (by omega)]
 ·rw[decide_eq_false h,decide_eq_false (by omega)]
def deepE (fr:Int)(n:Nat)(s:Int×Int):Int×Int:=bif decide (16<n+1) then fE fr 3 s.1 s.2 else s
theorem tab29b :TabOk cfg2 (ctab [(46,failW g (rowsP (Nd.mk nk np nt na nks::r)) (tokH t++[.mem 53 (encT t)]))]):=ctab_ok (ctab_cons (cok_weak c46 fun vs h K ht=>by
  obtain⟨p,y,pl,e,rfl,rfl,hk⟩:=ht
  exact⟨p,y,g,_,pl,e,_,okW_t _ t,rfl,rfl,hk⟩) ctab_nil)
theorem run29b (hs:smallR (.mk nk np nt na nks::r))(hk:K (.tup []) (hP (g+1) (rowsP (.mk 14 t.fr [] [] []:: .mk nk np nt na nks::r)) (deepE t.fr r.length (pl,e)).1 (deepE t.fr r.length (pl,e)).2++tokH t)):
  ToEnd cfg2 29 (bodyOf Tryd.f29) (RetIn Tryd.prog Tryd.f29 10 K) [.code [1,1]] .normal [(0,true,.ptr 7 0),(3,true,.ptr 10 0)] (hT g (.mk nk np nt na nks::r) pl e t):=by
 refine t29b (k:=nk) (b0:=.grow 0 3 32) (b1:=.mem 53 (encT t)) tab29b (ifP_intro (fun a=> ?_) fun a=> ?_)
 ·rw[deep_t (rowsP_len _)] at a;unfold deepE at hk;rw[a] at hk;exact⟨_,_,pl,e,rfl,rfl,run29r hs hk⟩
 ·rw[deep_t (rowsP_len _)] at a;unfold deepE at hk;rw[a] at hk;exact run29r hs hk
end
theorem c29 :COk cfg2 29 (stepC hideP noPre):=by
 refine cok_heap hf29 fun vs h K ht=> ?_
 obtain⟨g,s,t,hne,hs,htb,-,rfl,rfl,hk⟩:=ht;obtain⟨rows,pl,e⟩:=s
 cases rows with
 |nil=>exact absurd rfl hne
 |cons n r=>
  obtain⟨nk,np,nt,na,nks⟩:=n;have tab:TabOk cfg2 (ctab [(48,mayC),(46,failW g (rowsP (Nd.mk nk np nt na nks::r)) (tokH t++[.mem 53 (encT t)]))]):=ctab_ok (ctab_cons c48 (tab_mem tab29b))
  have hl:(rowsP (Nd.mk nk np nt na nks::r)).length≤limS:=by rw[rowsP_len];exact Nat.le_of_lt hs.1
  have hkl:kidsOk (encNs nks):=kidsOk_ns (Nat.le_of_lt (hs.2 _ List.mem_cons_self))
  have hp:∀b,mayB nk (lastN nks) 14=b→(hideP t ⟨.mk nk np nt na nks::r,pl,e⟩)=⟨.mk 14 t.fr [] [] []:: .mk nk np nt na nks::r,(deepE t.fr r.length (bif !b then fE t.fr 13 pl e else(pl,e))).1,(deepE t.fr r.length (bif !b then fE t.fr 13 pl e else(pl,e))).2⟩:=fun b hb=>by
   show(⟨_,(bif decide (16<r.length+1) then failP t.fr 3 (bif !mayB nk (lastN nks) 14 then _ else _) else(bif !mayB nk (lastN nks) 14 then _ else _):Ps).pl,(bif decide (16<r.length+1) then failP t.fr 3 (bif !mayB nk (lastN nks) 14 then _ else _) else(bif !mayB nk (lastN nks) 14 then _ else _):Ps).e⟩:Ps)=_;rw[hb];unfold deepE
   cases b<;>cases decide (16<r.length+1)<;>rfl
  refine t29 (k:=nk) (b0:=.grow 0 3 32) (b1:=.mem 53 (encT t)) tab ⟨g,_,_,_,_,_,encNs nks,_,pl,e,_,okW_t (.mk nk np nt na nks::r) t,hl,hkl,rfl,rfl,ifP_intro (fun a=> ?_) fun a=> ?_⟩
  ·rw[lastK_ns] at a;have a1:(!mayB nk (lastN nks) 14)=true:=a
   rw[hp false (by simpa using a1)] at hk
   exact⟨_,_,pl,e,rfl,rfl,run29b hs (hk (g+1))⟩
  ·rw[lastK_ns] at a;have a1:(!mayB nk (lastN nks) 14)=false:=a
   rw[hp true (by simpa using a1)] at hk
   exact run29b hs (hk (g+1))
end Go.Proofs.YtopjpnhgnopbiaaDoor
end
section
namespace Go.Proofs.YtopjpnhgnopbiaaDoor
open Go.Ai Go Go.Ai.Sp
open Go.Ai.Ex (encAs encT)
set_option maxRecDepth 100000
theorem encAs_toA (l:List Ex.Att):encAs l=(l.map toA).map Go.Ai.encA:=by
 unfold encAs;rw[List.map_map];rfl
theorem elM_names (s:List UInt8):(elM s).must≤(elM s).names.length∧(elM s).names.length≤3:=by
 unfold elM
 repeat' (first|(constructor<;>simp only[]<;>decide)|(rw[Bool.cond_eq_ite];split))
theorem strip_pushT {k p:Int}{l:List Ex.Att}{m:Nat}{G:Hp}:(0,strips m G [AV.int .i64 k,.int .i64 p,.str [],.sl 3 (encAs l) none,.sl 5 [] none])=rowO none (.mk k p [] (l.map toA) []):=by
 rw[encAs_toA];exact strip_push rfl
theorem strip_addT {o:Option Nat}{nk np:Int}{nt:List UInt8}{na:List Go.Ai.Att}{nks:List Nd}{k p:Int}{l:List Ex.Att}{G:Hp}{ow:Option Nat}{m:Nat}(ho:keepId m o=o)(hw:keepId m ow=none):
  ((rw' (.int .i64 nk) (.int .i64 np) (.str nt) (.sl 3 (na.map Go.Ai.encA) o) (encNs nks++[nodeV k p [] (encAs l) none [] ow])).1,
   strips m G (rw' (.int .i64 nk) (.int .i64 np) (.str nt) (.sl 3 (na.map Go.Ai.encA) o) (encNs nks++[nodeV k p [] (encAs l) none [] ow])).2)=rowO o (addK (.mk nk np nt na nks) (.mk k p [] (l.map toA) [])):=by
 rw[encAs_toA];exact strip_addRow (oa:=none) (ks:=[]) ho rfl hw
def begOwn (k f:Int)(al:List (List AV)):Hp:=[.grow 0 3 32,.grow 0 5 28,.grow 0 3 32,.grow 0 5 28,.mem 28 [.int .i64 k,.int .i64 f,.str [],.sl 3 al none,.sl 5 [] (some 14)]]
section
variable {K:AV→Hp→Prop}{g:Nat}{nk np:Int}{nt:List UInt8}{na:List Go.Ai.Att}{nks:List Nd}{r:List Nd}{pl e:Int}{t:Ex.Tok}{x:El}
theorem run28r (hs:smallR (.mk nk np nt na nks::r))(hk:K (.tup []) (hP (g+1) (rowsP (.mk x.kind t.fr [] (t.attrs.map toA) []:: .mk nk np nt na nks::r)) pl e++tokH t)):
  ToEnd cfg2 28 (bodyOf Tryd.f28) (RetIn Tryd.prog Tryd.f28 10 K) [.code [1,1,1,1,1,1,1,1,1]] .normal [(0,true,.ptr 7 0),(6,true,.ptr 17 0)] (hP g (rowsP (Nd.mk nk np nt na nks::r)) pl e++(begH (encT t) x++begOwn x.kind t.fr (encAs t.attrs))):=by
 obtain⟨hs1,hs2⟩:=hs
 have hl3:(rowsP r).length+1≤limS:=by rw[rowsP_len];exact Nat.le_of_lt hs1
 refine t28r (k:=nk) (tk:=t.kind) (fr:=t.fr) (to:=t.to) (nm:=t.name) (tx:=t.text) (l:=t.attrs) noT ?_;refine gAnd_intro (push_g hl3 g) (gAnd_intro push_i (gAnd_intro (push_n _) ⟨?_,?_⟩))
 ·repeat' (first
   |exact rfl
   |exact trivial
   |exact push_g hl3 g
   |exact push_i
   |exact push_n _
   |refine gAnd_intro ?_ ?_
   |refine And.intro ?_ ?_)
 ·refine keepK ?_ hk
  show List.map (stripB 10 (hP (g+1) ((0,[.int .i64 x.kind,.int .i64 t.fr,.str [],.sl 3 (encAs t.attrs) none,.sl 5 [] none])::rowsP (Nd.mk nk np nt na nks::r)) pl e++(tokH t++[.mem 53 (encT t),.grow 0 1 9,.mem 89 (encE x),.grow 0 3 32,.dead,.grow 0 3 32,.grow 0 5 28,.mem 28 [.int .i64 x.kind,.int .i64 t.fr,.str [],.sl 3 (encAs t.attrs) none,.sl 5 [] (some 14)]])))
   (List.take 10 (hP (g+1) ((0,[.int .i64 x.kind,.int .i64 t.fr,.str [],.sl 3 (encAs t.attrs) none,.sl 5 [] none])::rowsP (Nd.mk nk np nt na nks::r)) pl e++(tokH t++[.mem 53 (encT t),.grow 0 1 9,.mem 89 (encE x),.grow 0 3 32,.dead,.grow 0 3 32,.grow 0 5 28,.mem 28 [.int .i64 x.kind,.int .i64 t.fr,.str [],.sl 3 (encAs t.attrs) none,.sl 5 [] (some 14)]])))=_
  rw[strip_cut (n:=10) rfl]
  rw[List.map_cons,strip_pushT,rows_strip _ _ _ (by decide),tok_strip]
  rfl
theorem run28c (hs:smallR (.mk nk np nt na nks::r))(ha:t.attrs.length≤limS)(hx:x.must≤x.names.length∧x.names.length≤limS){b:Bool}
  (hk1:b=true→K (.tup []) (hP g (rowsP (addK (.mk nk np nt na nks) (.mk x.kind t.fr [] (t.attrs.map toA) [])::r)) (Sp.attrsM x t.fr t.attrs (pl,e)).1 (Sp.attrsM x t.fr t.attrs (pl,e)).2++tokH t))
  (hk2:b=false→K (.tup []) (hP (g+1) (rowsP (.mk x.kind t.fr [] (t.attrs.map toA) []:: .mk nk np nt na nks::r)) (Sp.attrsM x t.fr t.attrs (pl,e)).1 (Sp.attrsM x t.fr t.attrs (pl,e)).2++tokH t)):
  ToEnd cfg2 28 (bodyOf Tryd.f28) (RetIn Tryd.prog Tryd.f28 10 K) [.code [1,1,1,1,1]] .normal [(0,true,.ptr 7 0),(3,true,.ptr 10 0),(4,true,.ptr 12 0),(5,true,.bool b)] (hP g (rowsP (Nd.mk nk np nt na nks::r)) pl e++begH (encT t) x):=by
 have tab:TabOk cfg2 (ctab [(49,attrsV g (rowsP (Nd.mk nk np nt na nks::r)) x t.kind t.fr t.to t.name t.text t.attrs),(44,addC 10)]):=
  ctab_ok (ctab_cons (cok_weak c49 fun vs h K ht=>by
   obtain⟨pl,e,rfl,rfl,hk⟩:=ht
   exact⟨g,_,pl,e,x,_,_,_,_,_,_,okR_rowsP _,hx.1,hx.2,ha,rfl,rfl,hk⟩) (ctab_cons c44_10 ctab_nil))
 have hl:(rowsP (Nd.mk nk np nt na nks::r)).length≤limS:=by rw[rowsP_len];exact Nat.le_of_lt hs.1
 have hkl:(encNs nks).length<limS:=by rw[encNs_length];exact hs.2 _ List.mem_cons_self
 refine t28c (k:=nk) (tk:=t.kind) (fr:=t.fr) (to:=t.to) (nm:=t.name) (tx:=t.text) (l:=t.attrs) (x:=x) tab ⟨pl,e,rfl,rfl,ifP_intro (fun a=> ?_) fun a=> ?_⟩
 ·have hw:Keep.okW (rw' (.int .i64 nk) (.int .i64 np) (.str nt) (.sl 3 (na.map Go.Ai.encA) (ownP r)) (encNs nks)::rowsP r) (begH (encT t) x++begOwn x.kind t.fr (encAs t.attrs)):=by
   intro n G hn
   refine⟨okR_rows (okR_rowsP (.mk nk np nt na nks::r)) n G (by omega),?_⟩
   rw[List.map_append]
   congr 1
   ·exact((okW_of (okR_rowsP []) (pure_begH t.attrs x):Keep.okW _ (begH (encT t) x)) n G (by
     rw[List.length_append] at hn
     omega)).2
   ·have h1:stripss n G (encAs t.attrs)=encAs t.attrs:=stripss_pure _ _ _ (pureAs _)
    have h2:keepId n (some 14)=some 14:=keep_lt (by
     have:(begH (encT t) x++begOwn x.kind t.fr (encAs t.attrs)).length=10:=rfl
     omega)
    unfold begOwn;simp only[List.map_cons,List.map_nil,stripB];rw[strips,strips,strips,strips,strips,strips,strip_sl,strip_sl,h1,h2];rfl
  refine⟨g,_,_,_,_,encNs nks,rowsP r,_,_,begH (encT t) x++begOwn x.kind t.fr (encAs t.attrs),x.kind,t.fr,[],encAs t.attrs,none,[],some 14,hw,hl,hkl,fun n G hn=> ?_,rfl,rfl,rfl,?_⟩
  ·rw[encAs_toA]
   exact nodeV_strip (n:=n) (G:=G) (oa:=none) (ow:=some 14) rfl (keep_lt (by omega))
  ·refine keepK ?_ (hk1 a)
   show List.map (stripB 10 (hP g (rw' (.int .i64 nk) (.int .i64 np) (.str nt) (.sl 3 (na.map Go.Ai.encA) (ownP r)) (encNs nks++[nodeV x.kind t.fr [] (encAs t.attrs) none [] (some 14)])::rowsP r) (Sp.attrsM x t.fr t.attrs (pl,e)).1 (Sp.attrsM x t.fr t.attrs (pl,e)).2++(tokH t++(.mem 53 (encT t):: .grow 0 1 9:: .mem 89 (encE x)::begOwn x.kind t.fr (encAs t.attrs)))))
    (List.take 10 (hP g (rw' (.int .i64 nk) (.int .i64 np) (.str nt) (.sl 3 (na.map Go.Ai.encA) (ownP r)) (encNs nks++[nodeV x.kind t.fr [] (encAs t.attrs) none [] (some 14)])::rowsP r) (Sp.attrsM x t.fr t.attrs (pl,e)).1 (Sp.attrsM x t.fr t.attrs (pl,e)).2++(tokH t++(.mem 53 (encT t):: .grow 0 1 9:: .mem 89 (encE x)::begOwn x.kind t.fr (encAs t.attrs)))))=_
   rw[strip_cut (n:=10) rfl]
   rw[List.map_cons,strip_addT (ownP_low r (by decide)).1 (keep_ge (show 10≤14 by decide)),rows_strip _ _ _ (by decide),tok_strip]
   rfl
 ·exact run28r hs (hk2 a)
theorem run28b (hs:smallR (.mk nk np nt na nks::r))(ha:t.attrs.length≤limS)(hx:x.must≤x.names.length∧x.names.length≤limS){b:Bool}
  (hk1:b=true→K (.tup []) (hP g (rowsP (addK (.mk nk np nt na nks) (.mk x.kind t.fr [] (t.attrs.map toA) [])::r)) (Sp.attrsM x t.fr t.attrs (deepE t.fr r.length (pl,e))).1 (Sp.attrsM x t.fr t.attrs (deepE t.fr r.length (pl,e))).2++tokH t))
  (hk2:b=false→K (.tup []) (hP (g+1) (rowsP (.mk x.kind t.fr [] (t.attrs.map toA) []:: .mk nk np nt na nks::r)) (Sp.attrsM x t.fr t.attrs (deepE t.fr r.length (pl,e))).1 (Sp.attrsM x t.fr t.attrs (deepE t.fr r.length (pl,e))).2++tokH t)):
  ToEnd cfg2 28 (bodyOf Tryd.f28) (RetIn Tryd.prog Tryd.f28 10 K) [.code [1,1,1,1]] .normal [(0,true,.ptr 7 0),(3,true,.ptr 10 0),(4,true,.ptr 12 0),(5,true,.bool b)] (hP g (rowsP (Nd.mk nk np nt na nks::r)) pl e++begH (encT t) x):=by
 have tab:TabOk cfg2 (ctab [(46,failW g (rowsP (Nd.mk nk np nt na nks::r)) (begH (encT t) x))]):=ctab_ok (ctab_cons (cok_weak c46 fun vs h K ht=>by
  obtain⟨p,y,pl,e,rfl,rfl,hk⟩:=ht
  exact⟨p,y,g,_,pl,e,_,okW_of (okR_rowsP _) (pure_begH t.attrs x),rfl,rfl,hk⟩) ctab_nil)
 refine t28b (k:=nk) (b0:=.grow 0 3 32) (b1:=.mem 53 (encT t)) (ek:=x.kind) (em:=(x.must:Nat)) (en:=x.names.map fun n=>[.str n]) tab (ifP_intro (fun a=> ?_) fun a=> ?_)
 ·rw[deep_t (rowsP_len _)] at a;unfold deepE at hk1 hk2;rw[a] at hk1 hk2;exact⟨_,_,pl,e,rfl,rfl,run28c hs ha hx hk1 hk2⟩
 ·rw[deep_t (rowsP_len _)] at a;unfold deepE at hk1 hk2;rw[a] at hk1 hk2;exact run28c hs ha hx hk1 hk2
end
theorem c28 :COk cfg2 28 (stepC begP noPre):=by
 refine cok_heap hf28 fun vs h K ht=> ?_
 obtain⟨g,s,t,hne,hs,⟨htb1,htb2,htb3,htb4,htb5⟩,-,rfl,rfl,hk⟩:=ht;obtain⟨rows,pl,e⟩:=s
 cases rows with
 |nil=>exact absurd rfl hne
 |cons n r=>
  obtain⟨nk,np,nt,na,nks⟩:=n
  have tab:TabOk cfg2 (ctab [(46,failW g (rowsP (Nd.mk nk np nt na nks::r)) (begX (.grow 0 3 32) (.mem 53 (encT t)) (encT t) (elM t.name))),(47,ofW t.name),(48,mayC)]):=
   ctab_ok (ctab_cons (cok_weak c46 fun vs h K ht=>by
    obtain⟨p,y,pl,e,rfl,rfl,hk⟩:=ht
    exact⟨p,y,g,_,pl,e,_,okW_of (okR_rowsP _) (pure_begH t.attrs (elM t.name)),rfl,rfl,hk⟩)
   (ctab_cons (cok_weak c47 fun vs h K ht=>by
    obtain⟨rfl,hk⟩:=ht
    exact⟨_,rfl,hk⟩) (ctab_cons c48 ctab_nil)))
  have hl:(rowsP (Nd.mk nk np nt na nks::r)).length≤limS:=by rw[rowsP_len];exact Nat.le_of_lt hs.1
  have hkl:kidsOk (encNs nks):=kidsOk_ns (Nat.le_of_lt (hs.2 _ List.mem_cons_self));have hlk:=lastK_ns nks;have hw:Keep.okW (rowsP (Nd.mk nk np nt na nks::r)) (begH (encT t) (elM t.name)):=okW_of (okR_rowsP _) (pure_begH t.attrs (elM t.name))
  have hx:(elM t.name).must≤(elM t.name).names.length∧(elM t.name).names.length≤limS:=⟨(elM_names _).1,Nat.le_trans (elM_names _).2 (by decide)⟩
  have go:∀(b:Bool) (s1:Int×Int),emptyB (elM t.name)=b→s1=(bif (b !=(t.kind==3))|| !mayB nk (lastN nks) (elM t.name).kind then fE t.fr 13 pl e else(pl,e))→
    ToEnd cfg2 28 (bodyOf Tryd.f28) (RetIn Tryd.prog Tryd.f28 10 K) [.code [1,1,1,1]] .normal [(0,true,.ptr 7 0),(3,true,.ptr 10 0),(4,true,.ptr 12 0),(5,true,.bool b)] (hP g (rowsP (Nd.mk nk np nt na nks::r)) s1.1 s1.2++begH (encT t) (elM t.name)):=by
   intro b s1 hb hs1
   have hp:begP t ⟨.mk nk np nt na nks::r,pl,e⟩=bif b then⟨addK (.mk nk np nt na nks) (.mk (elM t.name).kind t.fr [] (t.attrs.map toA) [])::r,(Sp.attrsM (elM t.name) t.fr t.attrs (deepE t.fr r.length s1)).1,(Sp.attrsM (elM t.name) t.fr t.attrs (deepE t.fr r.length s1)).2⟩
     else⟨.mk (elM t.name).kind t.fr [] (t.attrs.map toA) []:: .mk nk np nt na nks::r,(Sp.attrsM (elM t.name) t.fr t.attrs (deepE t.fr r.length s1)).1,(Sp.attrsM (elM t.name) t.fr t.attrs (deepE t.fr r.length s1)).2⟩:=by
    have h2:begFail (elM t.name) t (.mk nk np nt na nks) r ⟨.mk nk np nt na nks::r,pl,e⟩=⟨.mk nk np nt na nks::r,(Sp.attrsM (elM t.name) t.fr t.attrs (deepE t.fr r.length s1)).1,(Sp.attrsM (elM t.name) t.fr t.attrs (deepE t.fr r.length s1)).2⟩:=by
     unfold begFail deepE;rw[hb,hs1];show(⟨_,_,_⟩:Ps)=_;have e1:(Nd.mk nk np nt na nks).kind=nk:=rfl;have e2:(Nd.mk nk np nt na nks).kids=nks:=rfl;rw[e1,e2]
     cases (b !=(t.kind==3))|| !mayB nk (lastN nks) (elM t.name).kind<;>cases decide (16<r.length+1)<;>rfl
    show(bif emptyB (elM t.name) then _ else _)=_;rw[hb];simp only[h2]
   rw[hp] at hk
   exact run28b hs htb4 hx (fun h=>by rw[h] at hk;exact hk g) fun h=>by rw[h] at hk;exact hk (g+1)
  refine t28 (k:=nk) (b0:=.grow 0 3 32) (b1:=.mem 53 (encT t)) tab ⟨rfl,ifP_intro (fun a=>ifP_intro (fun b=> ?_) fun b=> ?_) fun a=>ifP_intro (fun b=> ?_) fun b=> ?_⟩
  ·exact⟨_,_,pl,e,rfl,rfl,go true _ (by unfold emptyB;rw[a];rfl) (by rw[show(true !=(t.kind==3))=true from b];rfl)⟩
  ·refine⟨g,_,_,_,_,_,encNs nks,_,pl,e,_,hw,hl,hkl,rfl,rfl,ifP_intro (fun c=> ?_) fun c=> ?_⟩
   ·rw[hlk] at c
    exact⟨_,_,pl,e,rfl,rfl,go true _ (by unfold emptyB;rw[a];rfl) (by rw[show(true !=(t.kind==3))=false from b,show(!mayB nk (lastN nks) (elM t.name).kind)=true from c];rfl)⟩
   ·rw[hlk] at c
    exact go true (pl,e) (by unfold emptyB;rw[a];rfl) (by rw[show(true !=(t.kind==3))=false from b,show(!mayB nk (lastN nks) (elM t.name).kind)=false from c];rfl)
  ·exact⟨_,_,pl,e,rfl,rfl,go ((elM t.name).kind==6) _ (by unfold emptyB;rw[a];rfl) (by rw[show(((elM t.name).kind==6) !=(t.kind==3))=true from b];rfl)⟩
  ·refine⟨g,_,_,_,_,_,encNs nks,_,pl,e,_,hw,hl,hkl,rfl,rfl,ifP_intro (fun c=> ?_) fun c=> ?_⟩
   ·rw[hlk] at c
    exact⟨_,_,pl,e,rfl,rfl,go ((elM t.name).kind==6) _ (by unfold emptyB;rw[a];rfl) (by rw[show(((elM t.name).kind==6) !=(t.kind==3))=false from b,show(!mayB nk (lastN nks) (elM t.name).kind)=true from c];rfl)⟩
   ·rw[hlk] at c
    exact go ((elM t.name).kind==6) (pl,e) (by unfold emptyB;rw[a];rfl) (by rw[show(((elM t.name).kind==6) !=(t.kind==3))=false from b,show(!mayB nk (lastN nks) (elM t.name).kind)=false from c];rfl)
end Go.Proofs.YtopjpnhgnopbiaaDoor
end
section
namespace Go.Proofs.YtopjpnhgnopbiaaDoor
open Go.Ai Go Go.RowKit Go.Ai.Sp
set_option maxRecDepth 100000
def ent (k:Int)(f:Nat)(c:Nat):MapEntry:={key:=.int .i64 k,val:=.agg #[.func (.func f) #[] #[]],born:=c}
def entL (ks:List (Int×Nat)):List MapEntry:=ks.zipIdx.map fun x=>ent x.1.1 x.1.2 x.2
theorem ent_key {ks:List (Int×Nat)}{x:MapEntry}(h:x∈entL ks):∃p∈ks,x.key=.int .i64 p.1:=by
 obtain⟨y,hy,rfl⟩:=List.mem_map.1 h;refine⟨y.1,?_,rfl⟩;obtain⟨a,b⟩:=y;exact List.mem_of_getElem? (List.mem_zipIdx_iff_getElem?.1 hy)
theorem upd {w0 w:World}{r:Nat}{ks:List (Int×Nat)}(hr:w0.heap.size≤r)(hw:Below w0.heap.size w0 w)(hb:w.heap[r]?=some (.map (entL ks).toArray ks.length)){k:Int}{f:Nat}(hn:(ks.all fun p=>!(p.1==k))=true):
  ∃w',(Instr.mapUpdate 50 (.map (some r)) (.int .i64 k) (.agg #[.func (.func f) #[] #[]])).run Tryd.prog w=.ok () w'∧w'.heap[r]?=some (.map (entL (ks++[(k,f)])).toArray (ks++[(k,f)]).length)∧Below w0.heap.size w0 w':=by
 have hm:Tryd.prog.underlying 50=some (.map 3 56):=by kernel_rfl
 have hd:Tryd.prog.underlying 3=some (.int .i64):=by kernel_rfl
 have hk:MapKept.IsKey (.int .i64) (.int .i64 k):=rfl
 have hks:∀x∈(entL ks).toArray.toList,MapKept.IsKey (.int .i64) x.key:=fun x hx=>by
  obtain⟨p,_,e⟩:=ent_key hx;rw[e];rfl
 rcases MapKept.findNow_spec hk (entL ks).toArray.toList 0 hks with ⟨h1,h2⟩|⟨j,e,h1,h2,h3⟩
 ·refine⟨_,by simp only[Instr.mapUpdate,run_underlying hm,MapKept.run_getObj_map hb,MapKept.run_checkKey hd hk,MapKept.run_findKey hd h1,MapKept.run_setObj_map _ hb,Result.andThen,Sem.run_bind];rfl,?_,?_⟩
  ·have h:=(MapKept.heap_set (o':=.map ((entL ks).toArray.push {key:=.int .i64 k,val:=.agg #[.func (.func f) #[] #[]],born:=ks.length}) (ks.length+1)) hb).1;rw[h]
   congr 1
   have e1:(entL (ks++[(k,f)])).toArray=(entL ks).toArray.push {key:=.int .i64 k,val:=.agg #[.func (.func f) #[] #[]],born:=ks.length}:=by
    unfold entL;rw[List.zipIdx_append];simp[ent]
   rw[e1];simp
  ·exact⟨hw.os,hw.tape,hw.output,by simpa using hw.size,fun i hi=>((MapKept.heap_set hb).2 i (by omega)).trans (hw.block i hi)⟩
 ·obtain⟨p,hp,e2⟩:=ent_key (List.mem_of_getElem? h2);rw[e2] at h3
  injection h3 with _ h3
  have:=List.all_eq_true.1 hn p hp;rw[h3] at this;simp at this
def stepsL :List (Int×Nat):=[(1,26),(7,27),(2,28),(3,28),(5,29),(4,30),(6,30)]
theorem steps_run (w:World):Calls Tryd.prog 16 #[] w fun e w'=>e=.returned (.map (some w.heap.size))∧Below w.heap.size w w'∧w'.heap[w.heap.size]?=some (.map (entL stepsL).toArray stepsL.length):=by
 go_enter Tryd.func16,Tryd.f16
 go_wp
 rw[Go.run_makeMap_plain];simp only[Result.andThen];have hb0:Below w.heap.size w (w.alloc (.map #[] 0)):=(Below.refl _ w).alloc (Nat.le_refl _) _;have hm0:(w.alloc (.map #[] 0)).heap[w.heap.size]?=some (.map (entL []).toArray ([]:List (Int×Nat)).length):=(MapKept.heap_alloc w _).1;generalize w.alloc (.map #[] 0)=w0 at hb0 hm0⊢
 go_wp
 obtain⟨w1,hr1,hm1,hb1⟩:=upd (Nat.le_refl _) hb0 hm0 (k:=1) (f:=26) rfl;rw[hr1];simp only[Result.andThen]
 go_wp
 obtain⟨w2,hr2,hm2,hb2⟩:=upd (Nat.le_refl _) hb1 hm1 (k:=7) (f:=27) rfl;rw[hr2];simp only[Result.andThen]
 go_wp
 obtain⟨w3,hr3,hm3,hb3⟩:=upd (Nat.le_refl _) hb2 hm2 (k:=2) (f:=28) rfl;rw[hr3];simp only[Result.andThen]
 go_wp
 obtain⟨w4,hr4,hm4,hb4⟩:=upd (Nat.le_refl _) hb3 hm3 (k:=3) (f:=28) rfl;rw[hr4];simp only[Result.andThen]
 go_wp
 obtain⟨w5,hr5,hm5,hb5⟩:=upd (Nat.le_refl _) hb4 hm4 (k:=5) (f:=29) rfl;rw[hr5];simp only[Result.andThen]
 go_wp
 obtain⟨w6,hr6,hm6,hb6⟩:=upd (Nat.le_refl _) hb5 hm5 (k:=4) (f:=30) rfl;rw[hr6];simp only[Result.andThen]
 go_wp
 obtain⟨w7,hr7,hm7,hb7⟩:=upd (Nat.le_refl _) hb6 hm6 (k:=6) (f:=30) rfl;rw[hr7];simp only[Result.andThen]
 go_wp
 refine⟨rfl,.map (some w.heap.size),?_,rfl,hb7,hm7⟩;simp[go_sem,results]
def stepsP :List AV→Option (Bool×AV):=fun vs=>match vs with|[]=>some (true,stepsV)|_=>none
theorem stepsP_ok {G:Nat→Option (List AV)}{I:World→Prop}{B0:Nat}:PrimSpec Tryd.prog G I B0 16 stepsP:=by
 intro vs v hv E args hE hB H hr;unfold stepsP at hv;split at hv
 ·simp only[Option.some.injEq,Prod.mk.injEq,true_and] at hv;subst hv;simp only[Rels] at hr;subst hr
  refine(steps_run E.w).mono fun e w' ⟨h1,h2,h3⟩=>⟨_,h1,h2,?_⟩
  refine⟨E.w.heap.size,_,_,rfl,h3,rfl,?_⟩
  have fn:∀f:Nat,Rels1 {E with w:=w'} [.fn (.func f) [] []] [.func (.func f) #[] #[]]:=fun f=>⟨_,[],rfl,rfl,⟨#[],#[],rfl,rfl,rfl⟩,rfl⟩
  exact⟨_,_,rfl,fn 26,_,_,rfl,fn 27,_,_,rfl,fn 28,_,_,rfl,fn 28,_,_,rfl,fn 29,_,_,rfl,fn 30,_,_,rfl,fn 30,rfl⟩
 ·cases hv
end Go.Proofs.YtopjpnhgnopbiaaDoor
end
section
namespace Go.Proofs.YtopjpnhgnopbiaaDoor
open Go.Ai Go Go.Ai.Sp
open Go.Ai.Ex (encAs encT encTs lexM tokC limE)
set_option maxRecDepth 100000
theorem pf8 :pureFn cfg2 8 Tryd.f8:=(by refine⟨?_,?_,?_,?_,?_,?_⟩<;>kernel_rfl)
theorem c15 :COk cfg2 15 tokC:=by
 refine cok_prim (g:=Lx.lexP) (by kernel_rfl) (by kernel_rfl) (by kernel_rfl) (by kernel_rfl) fun vs h K ht=> ?_
 obtain⟨s,hs,rfl,h1,h2⟩:=ht
 refine⟨Ex.lexV (lexM s),?_,by show some (Nat.ble s.length 1000000,Ex.lexV (lexM s))=_;rw[show Nat.ble s.length 1000000=true from Nat.ble_eq_true_of_le hs]⟩
 cases hl:lexM s with
 |error x=>
  obtain⟨p,e⟩:=x;exact h1 p e hl
 |ok l=>
  show K (AV.tup [.sl 6 (stripss 0 [] (encTs l)) none,.int .i64 0,.int .i64 0]) h;rw[stripss_low 0 [] _ (Ex.low_ts 0 l)];exact h2 l hl
theorem c16 :COk cfg2 16 stepsC:=by
 refine cok_prim (g:=stepsP) (by kernel_rfl) (by kernel_rfl) (by kernel_rfl) (by kernel_rfl) fun vs h K ht=> ?_
 obtain⟨hv,hk⟩:=ht
 match vs,hv with
 |[],_=>exact⟨stepsV,hk,rfl⟩
def outV (z1 z2:Nat):Except (Int×Int) Nd→AV
 |.ok n=>.tup [.agg (encN n),.int .i64 0,.int .i64 0]
 |.error (p,e)=>.tup [.agg [.int .i64 0,.int .i64 0,.str [],.sl z1 [] none,.sl z2 [] none],.int .i64 p,.int .i64 e]
theorem getE_enc {l:List Ex.Tok}{i:Nat}(h:i<l.length):getE (encTs l) (i:Int)=encT l[i]:=by
 unfold encTs getE;simp[h]
theorem low_rowsP (l:List Nd):(List.all (rowsP l) fun r=>lowVs 8 r.2)=true:=okR_low (okR_rowsP l) 8 (by decide)
theorem round8 {v:AV}{s:List UInt8}{l:List Ex.Tok}{i:Nat}{g:Nat}{st:Ps}(hi:i<l.length)(hl:l.length≤131074)(ht:tokB l[i])(hk:l[i].kind=1∨l[i].kind=2∨l[i].kind=3∨l[i].kind=4∨l[i].kind=5∨l[i].kind=6∨l[i].kind=7)(hinv:Inv i st.rows)
  (h1:((stepP l[i] st).e !=0)=true→v=outV 0 0 (.error ((stepP l[i] st).pl,(stepP l[i] st).e)))
  (h2:((stepP l[i] st).e !=0)=false→∀g',ToEnd cfg2 8 (bodyOf Tryd.f8) (RetIs Tryd.prog Tryd.f8 v) [.code [0,1,0,1,1,1,1,1,1],.block 0,.code [1,1,1,1,1,1,1]] .normal [(0,true,.str s),(2,true,.ptr 2 0),(6,true,.ptr 7 0),(7,true,stepsV),(30,true,.sl 6 (encTs l) none),(31,true,.int .i64 l.length),(32,true,.int .i64 ((i+1:Nat):Int))] (hP g' (rowsP (stepP l[i] st).rows) (stepP l[i] st).pl (stepP l[i] st).e)):
  ToEnd cfg2 8 (bodyOf Tryd.f8) (RetIs Tryd.prog Tryd.f8 v) [.code [1,0,0,1,1,0,0,1,0,1,1,1,1,1,1],.block 1,.code [1,1,1,0,0,1,0,1,1,1,1,1,1],.loop [0,1,0,1,1,1,1,1,1] 8,.block 0,.code [1,1,1,1,1,1,1]] .normal [(0,true,.str s),(2,true,.ptr 2 0),(6,true,.ptr 7 0),(7,true,stepsV),(9,true,.ptr 9 0),(30,true,.sl 6 (encTs l) none),(31,true,.int .i64 l.length),(32,true,.int .i64 i)]
   (hP g (rowsP st.rows) st.pl st.e++tokH l[i]):=by
 have hsm:smallR st.rows:=by
  have:=hinv.len
  refine⟨by unfold limS;omega,fun n hn=> ?_⟩
  have:=hinv.kids n hn;unfold limS;omega
 have wr:IntKind.wrap .i64 ((i:Int)+1)=((i+1:Nat):Int):=wrapS (by unfold limS;omega)
 have low1:(lowVss 8 (encTs l)&&true&&true&&((List.all (rowsP (stepP l[i] st).rows) fun(r:Nat×List AV)↦lowVs 8 (Prod.snd r))&&true))=true:=by
  rw[Ex.low_ts,low_rowsP];rfl
 have hone:onePage st:=fun n hn=>by
  have:=hinv.bot;rw[hn] at this;exact this
 generalize hT:l[i]=t at *;obtain⟨k,nm,al,tx,fr,to⟩:=t
 have fin:∀(w:Ps),w=stepP ⟨k,nm,al,tx,fr,to⟩ st→∀g',ifP (w.e !=0) (AV.tup [.agg [.int .i64 0,.int .i64 0,.str [],.sl 0 [] none,.sl 0 [] none],.int .i64 w.pl,.int .i64 w.e]=v)
   (gAnd (lowVss 8 (encTs l)&&true&&true&&((List.all (rowsP w.rows) fun(r:Nat×List AV)↦lowVs 8 (Prod.snd r))&&true)) (ToEnd cfg2 8 (bodyOf Tryd.f8) (RetIs Tryd.prog Tryd.f8 v) [.code [0,1,0,1,1,1,1,1,1],.block 0,.code [1,1,1,1,1,1,1]] .normal [(0,true,.str s),(2,true,.ptr 2 0),(6,true,.ptr 7 0),(7,true,stepsV),(30,true,.sl 6 (encTs l) none),(31,true,.int .i64 l.length),(32,true,.int .i64 (IntKind.wrap .i64 ((i:Int)+1)))] (hP g' (rowsP w.rows) w.pl w.e))):=by
  rintro w rfl g'
  refine ifP_intro (fun a=>(h1 a).symm) fun a=>gAnd_intro low1 ?_
  rw[wr];exact h2 a g'
 have hk:k=1∨k=2∨k=3∨k=4∨k=5∨k=6∨k=7:=hk
 rcases hk with rfl|rfl|rfl|rfl|rfl|rfl|rfl
 ·exact t8_1 (ctab_ok (ctab_cons c26 ctab_nil)) ⟨g,st,_,hinv.bot.ne,hsm,ht,trivial,rfl,rfl,fun g'=>fin _ rfl g'⟩
 ·exact t8_2 (ctab_ok (ctab_cons c28 ctab_nil)) ⟨g,st,_,hinv.bot.ne,hsm,ht,trivial,rfl,rfl,fun g'=>fin _ rfl g'⟩
 ·exact t8_3 (ctab_ok (ctab_cons c28 ctab_nil)) ⟨g,st,_,hinv.bot.ne,hsm,ht,trivial,rfl,rfl,fun g'=>fin _ rfl g'⟩
 ·exact t8_4 (ctab_ok (ctab_cons c30 ctab_nil)) ⟨g,st,_,hinv.bot.ne,hsm,ht,hone,rfl,rfl,fun g'=>fin _ rfl g'⟩
 ·exact t8_5 (ctab_ok (ctab_cons c29 ctab_nil)) ⟨g,st,_,hinv.bot.ne,hsm,ht,trivial,rfl,rfl,fun g'=>fin _ rfl g'⟩
 ·exact t8_6 (ctab_ok (ctab_cons c30 ctab_nil)) ⟨g,st,_,hinv.bot.ne,hsm,ht,hone,rfl,rfl,fun g'=>fin _ rfl g'⟩
 ·exact t8_7 (ctab_ok (ctab_cons c27 ctab_nil)) ⟨g,st,_,hinv.bot.ne,hsm,ht,trivial,rfl,rfl,fun g'=>fin _ rfl g'⟩
theorem loop8 {v:AV}{s:List UInt8}{l:List Ex.Tok}(hl:l.length≤131074)(hts:∀t∈l,tokB t∧(t.kind=1∨t.kind=2∨t.kind=3∨t.kind=4∨t.kind=5∨t.kind=6∨t.kind=7)):∀(m i:Nat) (g:Nat) (st:Ps),l.length-i=m→i≤l.length→Inv i st.rows→st.e=0→
  (∃z,v=outV z.1 z.2 (doneT s.length (parseL (l.drop i) st))∧((parseL (l.drop i) st).e=0→z=(3,5))∧((parseL (l.drop i) st).e≠0→z=(0,0)))→
  ToEnd cfg2 8 (bodyOf Tryd.f8) (RetIs Tryd.prog Tryd.f8 v) [.code [0,1,0,1,1,1,1,1,1],.block 0,.code [1,1,1,1,1,1,1]] .normal [(0,true,.str s),(2,true,.ptr 2 0),(6,true,.ptr 7 0),(7,true,stepsV),(30,true,.sl 6 (encTs l) none),(31,true,.int .i64 l.length),(32,true,.int .i64 i)] (hP g (rowsP st.rows) st.pl st.e)
 |0,i,g,st,hm,hi,hinv,he,⟨z,hv,hz,_⟩=>by
  rw[List.drop_of_length_le (by omega)] at hv hz
  have hz:=hz he;subst hz;have hp:parseL [] st=st:=rfl;rw[hp] at hv;unfold doneT at hv;rw[he] at hv
  refine t8a (s:=s) noT (ifP_intro (fun a=> ?_) fun _=>ifP_intro (fun a=> ?_) fun a=> ?_)
  ·simp at a;omega
  ·rw[rowsP_len] at a;have a:=of_decide_eq_true a
   match hr:st.rows,a with
   |[],a=>simp at a
   |[_],a=>simp at a
   |n::m::r,_=>
    rw[hr] at hv;exact hv.symm
  ·rw[rowsP_len] at a;have a:=of_decide_eq_false a;have hne:=hinv.bot.ne
   match hr:st.rows,a with
   |[],_=>exact absurd hr hne
   |[n],_=>
    rw[hr] at hv;refine t8z noT (gAnd_intro (beq_refl' g) ?_);rw[hv,stripss_pure 0 _ _ (pure_encAs n.attrs),stripss_pure 0 _ _ (pure_encNs n.kids),←encN_eq];rfl
   |n::m::r,a=>simp at a;omega
 |m+1,i,g,st,hm,hi,hinv,he,⟨z,hv,hz,hz2⟩=>by
  have hlt:i<l.length:=by omega
  obtain⟨h1,h2⟩:=hts _ (List.getElem_mem hlt)
  have hlen:(encTs l).length=l.length:=by simp[encTs]
  rw[List.drop_eq_getElem_cons hlt] at hv hz hz2
  refine t8a (s:=s) noT (ifP_intro (fun a=>gAnd_intro (by rw[hlen,inR_nat hlt];rfl) ⟨_,_,_,_,_,_,getE_enc hlt,round8 hlt hl h1 h2 hinv (fun b=> ?_) fun b g'=> ?_⟩) fun a=> ?_)
  ·have b':((stepP l[i] st).e==0)=false:=bne_t b
   have hp:parseL (l[i]::l.drop (i+1)) st=stepP l[i] st:=by
    rw[parseL,b'];rfl
   rw[hp] at hv hz2
   have hz2:=hz2 (by simpa using b')
   subst hz2;rw[hv];unfold doneT;rw[b'];rfl
  ·have b':((stepP l[i] st).e==0)=true:=bne_f b
   have hp:parseL (l[i]::l.drop (i+1)) st=parseL (l.drop (i+1)) (stepP l[i] st):=by
    rw[parseL,b'];rfl
   rw[hp] at hv hz hz2
   exact loop8 hl hts m (i+1) g' _ (by omega) (by omega) (inv_step hinv _) (by simpa using b') ⟨z,hv,hz,hz2⟩
  ·simp at a;omega
theorem tab8 :TabOk cfg2 (ctab [(15,tokC),(16,stepsC)]):=ctab_ok (ctab_cons c15 (ctab_cons c16 ctab_nil))
theorem c8 :COk cfg2 8 parseC:=by
 refine cok_pure pf8 fun vs h K ht=> ?_
 obtain⟨s,rfl,hk1,hk2⟩:=ht
 have done:∀z1 z2:Nat,(z1=3∧z2=5)∨(z1=0∧z2=0)→K (outV z1 z2 (parseM s)) h:=fun z1 z2 hz=>by
  cases hp:parseM s with
  |ok n=>exact hk1 n hp
  |error x=>exact hk2 x.1 x.2 hp z1 z2 hz
 by_cases hs:65536<s.length
 ·refine⟨_,done 3 5 (.inl ⟨rfl,rfl⟩),t8 tab8 (ifP_intro (fun _=> ?_) fun a=> ?_)⟩
  ·unfold parseM;rw[if_pos hs];rfl
  ·simp at a;omega
 ·cases hl:lexM s with
  |error x=>
   obtain⟨p,e⟩:=x
   have hp:parseM s=.error ((p:Nat),e):=by
    unfold parseM;rw[if_neg hs,hl]
   have he:(e !=0)=true:=by
    have:=Ex.lexM_e hl;simp[bne,this]
   refine⟨_,done 3 5 (.inl ⟨rfl,rfl⟩),t8 tab8 (ifP_intro (fun a=> ?_) fun a=>⟨s,by omega,rfl,fun p' e' h'=> ?_,fun l' h'=> ?_⟩)⟩
   ·simp at a;omega
   ·rw[hl] at h'
    injection h' with h'
    injection h' with e1 e2
    subst e1;subst e2
    refine ifP_intro (fun _=> ?_) fun b=> ?_
    ·rw[hp];rfl
    ·rw[he] at b;cases b
   ·rw[hl] at h';cases h'
  |ok l=>
   obtain⟨hl1,hl2⟩:=lex_tok (by omega) hl
   have hp:parseM s=doneT s.length (parseL l page0):=by
    unfold parseM;rw[if_neg hs,hl];rfl
   have hz:∃z:Nat×Nat,((z.1=3∧z.2=5)∨(z.1=0∧z.2=0))∧((parseL l page0).e=0→z=(3,5))∧((parseL l page0).e≠0→z=(0,0)):=by
    by_cases h0:(parseL l page0).e=0
    ·exact⟨(3,5),.inl ⟨rfl,rfl⟩,fun _=>rfl,fun h=>absurd h0 h⟩
    ·exact⟨(0,0),.inr ⟨rfl,rfl⟩,fun h=>absurd h h0,fun _=>rfl⟩
   obtain⟨z,z0,z1,z2⟩:=hz
   refine⟨_,done z.1 z.2 z0,t8 tab8 (ifP_intro (fun a=> ?_) fun a=>⟨s,by omega,rfl,fun p' e' h'=> ?_,fun l' h'=>⟨rfl,?_⟩⟩)⟩
   ·simp at a;omega
   ·rw[hl] at h';cases h'
   ·rw[hl] at h'
    injection h' with h'
    subst h'
    have hlen:(encTs l).length=l.length:=by simp[encTs]
    rw[hlen]
    exact loop8 hl1 hl2 l.length 0 0 page0 rfl (Nat.zero_le _) inv0 rfl ⟨z,by rw[hp];rfl,z1,z2⟩
end Go.Proofs.YtopjpnhgnopbiaaDoor
end
section
namespace Go.Ai
open Go.RowKit
section
variable {C:Cfg}{I:World→Prop}{B0:Nat}
theorem prim_of (S0:Sound C I B0){k:Nat}{vs:List AV}{u v:AV}(hr:CallR C false k vs [] u [])(hu:pureV u=true)(hv:∀(E:Env) c,Rel E u c→Rel E v c)(E:Env)(args:List Value)(hE:E.h=[])(hB:E.B=E.w.heap.size)(H:Good C.G I B0 E)(ha:Rels E vs args):
  Calls C.P k args.toArray E.w (fun e w'=>∃c,e=.returned c∧Below E.w.heap.size E.w w'∧Rel {E with w:=w'} v c):=by
 obtain⟨n0,hn⟩:=hr;obtain⟨_,hcall⟩:=(calls_ok S0 false n0).2 k vs [] u [] (hn n0 (Nat.le_refl _))
 refine(hcall E args hE H ha).mono fun e w' hp=> ?_
 obtain⟨c,E',rfl,rfl,S,hE',hrel⟩:=hp
 refine⟨c,rfl,by have:=S.below;rwa [hB] at this,hv _ _ ?_⟩
 have hA:∀g,E.A g=none:=fun g=>by
  cases hg:E.A g with
  |none=>rfl
  |some x=>
   obtain⟨o,i,m⟩:=x;have:=H.ar g o i m hg;omega
 have K:Cut 0 [] E' {E with w:=E'.w}:=
  ⟨rfl,fun _ h=>absurd h (Nat.not_lt_zero _),fun b o w _ hs=>⟨⟨fun hu=>hs.1.1 (by rw[S.U];exact hu),fun id i m h=>(by have h:E.A b=_:=h;rw[hA] at h;cases h)⟩,fun id x hx=>(by have hx:E.h[id]?=_:=hx;rw[hE] at hx;simp at hx)⟩,
   fun _ _ _ h=>absurd h (Nat.not_lt_zero _),fun _ h=>absurd h (Nat.not_lt_zero _),Nat.zero_le _,fun _ _ _ _ h=>absurd h (Nat.not_lt_zero _),fun _ _ _ h=>absurd h (Nat.not_lt_zero _),fun _ _ _ _ _ _ _ _ h=>absurd h (Nat.not_lt_zero _),fun _ h=>absurd h (Nat.not_lt_zero _),fun b t cs _ h=>by simp at h⟩
 have:=Rel.cut K u c hrel
 rwa [strip_pure 0 [] u hu] at this
end
theorem rel_nil {E:Env}{z z':Nat}{c:Value}(h:Rel E (.sl z [] none) c):Rel E (.sl z' [] none) c:=by
 obtain⟨⟨A,cap,h1,h2,h3,_,h5⟩,_⟩:=h
 exact⟨⟨A,cap,h1,h2,h3,fun e he=>(by cases he),fun hn=>absurd rfl hn⟩,trivial⟩
end Go.Ai
namespace Go.Proofs.YtopjpnhgnopbiaaDoor
open Go.Ai Go Go.Ai.Sp
set_option maxRecDepth 100000
theorem pure_outV (r:Except (Int×Int) Nd):pureV (outV 3 5 r)=true∧pureV (outV 0 0 r)=true:=by
 cases r with
 |ok n=>
  have h:=pure_encN n
  constructor<;>simp[outV,pureV,pureV.pureVs,h]
 |error x=>exact⟨rfl,rfl⟩
theorem rel_out {E:Env}{r:Except (Int×Int) Nd}{c:Value}(h:Rel E (outV 0 0 r) c):Rel E (outV 3 5 r) c:=by
 cases r with
 |ok n=>exact h
 |error x=>
  obtain⟨p,e⟩:=x;obtain⟨a,h1,⟨v1,r1,h2,h3,h4⟩⟩:=h;refine⟨a,h1,⟨v1,r1,h2,?_,h4⟩⟩;obtain⟨b,g1,g2⟩:=h3;refine⟨b,g1,?_⟩;obtain⟨x1,q1,e1,o1,l1,x2,q2,e2,o2,l2,x3,q3,e3,o3,l3,x4,q4,e4,o4,l4,x5,q5,e5,o5,l5,l6⟩:=g2;exact⟨x1,q1,e1,o1,l1,x2,q2,e2,o2,l2,x3,q3,e3,o3,l3,x4,q4,e4,o4,rel_nil l4,x5,q5,e5,o5,rel_nil l5,l6⟩
def parseP :List AV→Option (Bool×AV)
 |[.str s]=>some (true,outV 3 5 (parseM s))
 |_=>none
theorem parseP_ok {I:World→Prop}{B0:Nat}(S0:Sound cfg2 I B0):PrimSpec Tryd.prog cfg2.G I B0 8 parseP:=by
 intro vs v hv E args hE hB H hr;unfold parseP at hv;split at hv
 ·rename_i s;simp only[Option.some.injEq,Prod.mk.injEq,true_and] at hv;subst hv
  obtain⟨u,h',hc,hh,hu⟩:=c8 [.str s] [] (fun u h=>h=[]∧(u=outV 3 5 (parseM s)∨u=outV 0 0 (parseM s))) ⟨s,rfl,fun n hn=>⟨rfl,.inl (by rw[hn];rfl)⟩,fun p e he z1 z2 hz=>⟨rfl,by
   rw[he]
   rcases hz with ⟨rfl,rfl⟩|⟨rfl,rfl⟩
   ·exact .inl rfl
   ·exact .inr rfl⟩⟩
  subst hh
  rcases hu with rfl|rfl
  ·exact prim_of S0 hc (pure_outV _).1 (fun _ _ h=>h) E args hE hB H hr
  ·exact prim_of S0 hc (pure_outV _).2 (fun _ _ h=>rel_out h) E args hE hB H hr
 ·cases hv
noncomputable def cfg3:Cfg:={cfg with prim:=fun f=>lookN f (primT++[(15,Lx.lexP),(8,parseP)])}
end Go.Proofs.YtopjpnhgnopbiaaDoor
end
