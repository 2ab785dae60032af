/-
  Pieces of a page's text: bytes, words, lists of names: contracts.
  Pieces of a page's text: the reader's own steps: contracts.
  Pieces of a page's text: what adds a piece, what finds what stands next: contracts.
  Pieces of a page's text: hidden parts, raw texts, tags that close: contracts.
  Pieces of a page's text: an attribute of a tag: contract.
  Pieces of a page's text: a tag that opens: contract.
  Pieces of a page's text: what takes back what was given up; the pieces of a text, whole.
  Pieces of a page's text: the pieces of a text, whole: the function under contract.
-/
import Derived.Test.YtopjpnhgnopbiaaDoorJB
import Derived.Test.YtopjpnhgnopbiaaDoorJA
import Derived.Test.YtopjpnhgnopbiaaDoorJC
import Derived.Test.YtopjpnhgnopbiaaDoorAiRec
import Derived.WalkKit
import Derived.ProofKit
set_option linter.unusedVariables false
set_option linter.unusedSimpArgs false
set_option linter.unnecessarySimpa false
section
namespace Go.Proofs.YtopjpnhgnopbiaaDoor.Lx
open Go.Ai Go Go.Ai.Ex
set_option maxRecDepth 100000
theorem pf80 :pureFn cfg 80 Tryd.f80:=(by refine⟨?_,?_,?_,?_,?_,?_⟩<;>kernel_rfl)
theorem pf39 :pureFn cfg 39 Tryd.f39:=(by refine⟨?_,?_,?_,?_,?_,?_⟩<;>kernel_rfl)
theorem pf57 :pureFn cfg 57 Tryd.f57:=(by refine⟨?_,?_,?_,?_,?_,?_⟩<;>kernel_rfl)
theorem pf36 :pureFn cfg 36 Tryd.f36:=(by refine⟨?_,?_,?_,?_,?_,?_⟩<;>kernel_rfl)
theorem pf72 :pureFn cfg 72 Tryd.f72:=(by refine⟨?_,?_,?_,?_,?_,?_⟩<;>kernel_rfl)
theorem pf88 :pureFn cfg 88 Tryd.f88:=(by refine⟨?_,?_,?_,?_,?_,?_⟩<;>kernel_rfl)
theorem noT :TabOk cfg (ctab []):=ctab_ok ctab_nil
theorem c64 :COk cfg 64 ixBC:=by
 refine cok_prim (by kernel_rfl) (by kernel_rfl) (by kernel_rfl:cfg.prim 64=some pByteIx) (by kernel_rfl) fun vs h K ht=> ?_
 obtain⟨s,c,hl,rfl,hk⟩:=ht;have:=c.toNat_lt;refine⟨.int .i64 (Lib.indexByte s c),hk,?_⟩
 have e:(c.toNat:Int).toNat.toUInt8=c:=by simp
 simp only[pByteIx,e]
 rw[decide_eq_true (by omega),decide_eq_true (by omega)];rfl
theorem c74 :COk cfg 74 ixSC:=by
 refine cok_prim (by kernel_rfl) (by kernel_rfl) (by kernel_rfl:cfg.prim 74=some pIndex) (by kernel_rfl) fun vs h K ht=> ?_
 obtain⟨s,x,hl,rfl,hk⟩:=ht;refine⟨.int .i64 (idxB s x 0),hk,?_⟩
 have:Nat.blt s.length 4294967281=true:=Nat.ble_eq_true_of_le (by unfold limE at hl;omega)
 simp only[pIndex,this]
theorem c79 :COk cfg 79 fieldsC:=by
 refine cok_prim (by kernel_rfl) (by kernel_rfl) (by kernel_rfl:cfg.prim 79=some pFields) (by kernel_rfl) fun vs h K ht=> ?_
 obtain⟨s,rfl,rfl,hk⟩:=ht
 exact⟨.sl 1 (namesL.map fun n=>[.str n]) none,hk,by kernel_rfl⟩
theorem sm_iff (c:UInt8):smB c=(decide ((c.toNat:Int)≥97)&&decide ((c.toNat:Int)≤122)):=by
 unfold smB
 congr 1
 ·rw[decide_eq_decide];omega
 ·rw[decide_eq_decide];omega
theorem c80 :COk cfg 80 smallC:=by
 refine cok_pure pf80 fun vs h K ht=> ?_
 obtain⟨c,rfl,hk⟩:=ht
 refine⟨_,hk,t80 noT (ifP_intro (fun a=> ?_) fun a=> ?_)⟩
 ·rw[sm_iff,a,Bool.true_and]
 ·rw[sm_iff,a,Bool.false_and]
theorem bl_ix (c:UInt8):decide (Lib.indexByte [32,9,10,13] c≥0)=blB c:=by
 unfold blB;simp only[Lib.indexByte]
 by_cases h1:c=32
 ·subst h1;rfl
 by_cases h2:c=9
 ·subst h2;rfl
 by_cases h3:c=10
 ·subst h3;rfl
 by_cases h4:c=13
 ·subst h4;rfl
 have e1:((32:UInt8)==c)=false:=by simpa using fun h=>h1 h.symm
 have e2:((9:UInt8)==c)=false:=by simpa using fun h=>h2 h.symm
 have e3:((10:UInt8)==c)=false:=by simpa using fun h=>h3 h.symm
 have e4:((13:UInt8)==c)=false:=by simpa using fun h=>h4 h.symm
 simp[h1,h2,h3,h4,e1,e2,e3,e4,Ne.symm h1,Ne.symm h2,Ne.symm h3,Ne.symm h4]
theorem c39 :COk cfg 39 blankC:=by
 refine cok_pure pf39 fun vs h K ht=> ?_
 obtain⟨c,rfl,hk⟩:=ht
 exact⟨_,hk,t39 (ctab_ok (ctab_cons c64 ctab_nil)) ⟨_,c,by decide,rfl,by rw[bl_ix]⟩⟩
theorem pref_take :∀(x s:List UInt8),x.isPrefixOf s=(decide (x.length≤s.length)&&(s.take x.length==x))
 |[],s=>by simp
 |a::x,[]=>by simp
 |a::x,b::s=>by
  have:=pref_take x s;simp only[List.isPrefixOf_cons_cons,this,List.length_cons,List.take_succ_cons,List.cons_beq_cons]
  rw[show(decide (x.length+1≤s.length+1))=decide (x.length≤s.length) from by simp,show(a==b)=(b==a) from by rw[Bool.eq_iff_iff];simp;exact eq_comm]
  cases (b==a)<;>cases decide (x.length≤s.length)<;>simp
theorem c57 :COk cfg 57 Ex.prefC:=by
 refine cok_pure pf57 fun vs h K ht=> ?_
 obtain⟨s,x,rfl,hk⟩:=ht
 refine⟨_,hk,t57 noT (ifP_intro (fun a=>gAnd_intro ?_ ?_) fun a=> ?_)⟩
 ·simp[cutOb] at a⊢;omega
 ·simp at a
  rw[pref_take,decide_eq_true (by omega),Bool.true_and]
  simp[cutL]
 ·simp at a
  rw[pref_take,decide_eq_false (by omega),Bool.false_and]
theorem c36 :COk cfg 36 Ex.prefC:=by
 refine cok_pure pf36 fun vs h K ht=> ?_
 obtain⟨s,x,rfl,hk⟩:=ht;exact⟨_,hk,t36 (ctab_ok (ctab_cons c57 ctab_nil)) ⟨s,x,rfl,rfl⟩⟩
theorem wrap_nat {n:Nat}(h:n≤2*limE):IntKind.wrap .i64 ((n:Int)+1)=((n+1:Nat):Int):=by
 unfold limE at h;rw[wrap_in]<;>omega
theorem getE_map {α:Type}(f:α→List AV)(l:List α){i:Nat}(h:i<l.length):getE (l.map f) (i:Int)=f l[i]:=by
 unfold getE;simp[h]
theorem inR_nat {i n:Nat}(h:i<n):inR (i:Int) n=true:=by
 unfold inR
 rw[decide_eq_true (by omega),decide_eq_true (by omega)];rfl
theorem purE (l:List (List UInt8)):pureV.pureVss (l.map fun n=>[AV.str n])=true:=by
 induction l with
 |nil=>rfl
 |cons a r ih=>simp only[List.map_cons,pureV.pureVss,pureV.pureVs,pureV,ih,Bool.true_and]
theorem any_drop {α:Type}(p:α→Bool)(l:List α){i:Nat}(h:i<l.length):(l.drop i).any p=(p l[i]||(l.drop (i+1)).any p):=by
 rw[List.drop_eq_getElem_cons h,List.any_cons]
theorem loop88 (l:List (List UInt8))(x:List UInt8)(hl:l.length≤limE):∀(n i:Nat),l.length-i=n→i≤l.length→∃z:Int,decide (z≥0)=(l.drop i).any (·==x)∧
  ToEnd cfg 88 (bodyOf Tryd.f88) (RetIs Tryd.prog Tryd.f88 (.int .i64 z)) [.code [0,1,0,1],.block 0,.code [1,1]] .normal [(0,true,.sl 1 (l.map fun n=>[.str n]) none),(1,true,.str x),(7,true,.int .i64 l.length),(8,true,.int .i64 i)] []
 |0,i,hn,hi=>by
  refine⟨-1,?_,t88a noT (ifP_intro (fun a=> ?_) fun _=>rfl)⟩
  ·rw[List.drop_of_length_le (by omega)];rfl
  ·simp at a;omega
 |n+1,i,hn,hi=>by
  have hlt:i<l.length:=by omega
  by_cases hx:l[i]=x
  ·refine⟨i,?_,t88a noT (ifP_intro (fun a=>gAnd_intro ?_ ⟨l[i],getE_map _ l hlt,ifP_intro (fun _=>rfl) fun b=> ?_⟩) fun a=> ?_)⟩
   ·rw[any_drop _ _ hlt,decide_eq_true (by omega)];simp[hx]
   ·rw[List.length_map,inR_nat hlt];rfl
   ·simp[hx] at b
   ·simp at a;omega
  ·obtain⟨z,hz,hr⟩:=loop88 l x hl n (i+1) (by omega) (by omega)
   refine⟨z,?_,t88a noT (ifP_intro (fun a=>gAnd_intro ?_ ⟨l[i],getE_map _ l hlt,ifP_intro (fun b=> ?_) fun b=> ?_⟩) fun a=> ?_)⟩
   ·rw[hz,any_drop _ _ hlt];simp[hx]
   ·rw[List.length_map,inR_nat hlt];rfl
   ·simp at b;exact absurd b.symm hx
   ·rw[wrap_nat (by omega)];exact hr
   ·simp at a;omega
theorem c88 :COk cfg 88 inIC:=by
 refine cok_pure pf88 fun vs h K ht=> ?_
 obtain⟨l,x,rfl,hl,hk⟩:=ht
 obtain⟨z,hz,hr⟩:=loop88 l x hl l.length 0 (by omega) (by omega)
 refine⟨_,hk z hz,t88 noT ?_⟩;rw[List.length_map];exact hr
theorem c72 :COk cfg 72 inC:=by
 refine cok_pure pf72 fun vs h K ht=> ?_
 obtain⟨l,x,rfl,hl,hk⟩:=ht
 exact⟨_,hk,t72 (ctab_ok (ctab_cons c88 ctab_nil)) ⟨l,x,by rw[stripss_pure 0 [] _ (purE l)],hl,fun z hz=>by rw[hz]⟩⟩
theorem getD_drop' (s:List UInt8)(a j:Nat):s.getD (a+j) 0=(s.drop a).getD j 0:=by
 simp[List.getD_eq_getElem?_getD,List.getElem?_drop]
theorem tw_yes {p:UInt8→Bool}:∀(l:List UInt8) (j:Nat),j<(l.takeWhile p).length→j<l.length∧p (l.getD j 0)=true
 |[],j,h=>by simp at h
 |c::r,j,h=>by
  cases hc:p c with
  |false=>simp[List.takeWhile_cons,hc] at h
  |true=>
   simp only[List.takeWhile_cons,hc,if_true,List.length_cons] at h
   cases j with
   |zero=>exact⟨by simp,by simpa using hc⟩
   |succ j=>
    obtain⟨h1,h2⟩:=tw_yes (p:=p) r j (by omega)
    exact⟨by simp;omega,by simpa using h2⟩
theorem tw_no {p:UInt8→Bool}:∀(l:List UInt8),(l.takeWhile p).length<l.length→p (l.getD (l.takeWhile p).length 0)=false
 |[],h=>by simp at h
 |c::r,h=>by
  cases hc:p c with
  |false=>simp[List.takeWhile_cons,hc]
  |true=>
   simp only[List.takeWhile_cons,hc,if_true,List.length_cons] at h⊢
   have:=tw_no (p:=p) r (by omega)
   simpa using this
theorem lets_yes {s:List UInt8}{a b:Nat}(h1:a≤b)(h2:b<a+lets s a):b<s.length∧smB (s.getD b 0)=true:=by
 obtain⟨j,rfl⟩:∃j,b=a+j:=⟨b-a,by omega⟩
 unfold lets at h2
 obtain⟨k1,k2⟩:=tw_yes (p:=smB) (s.drop a) j (by omega)
 rw[List.length_drop] at k1
 exact⟨by omega,by rw[getD_drop'];exact k2⟩
theorem lets_no {s:List UInt8}{a:Nat}(h:a+lets s a<s.length):smB (s.getD (a+lets s a) 0)=false:=by
 rw[getD_drop']
 exact tw_no (p:=smB) (s.drop a) (by unfold lets at h;rw[List.length_drop];omega)
theorem past_yes {s:List UInt8}{a b:Nat}(h1:a≤b)(h2:b<past s a):b<s.length∧blB (s.getD b 0)=true:=by
 obtain⟨j,rfl⟩:∃j,b=a+j:=⟨b-a,by omega⟩
 unfold past at h2
 obtain⟨k1,k2⟩:=tw_yes (p:=blB) (s.drop a) j (by omega)
 rw[List.length_drop] at k1
 exact⟨by omega,by rw[getD_drop'];exact k2⟩
theorem past_no {s:List UInt8}{a:Nat}(h:past s a<s.length):blB (s.getD (past s a) 0)=false:=by
 unfold past at h⊢;rw[getD_drop']
 exact tw_no (p:=blB) (s.drop a) (by rw[List.length_drop];omega)
theorem byte_eq {s:List UInt8}{b:Nat}:[AV.int IntKind.u8 ((s.getD ((b:Int).toNat) 0).toNat:Int)]=[AV.int IntKind.u8 ((s.getD b 0).toNat:Int)]:=by rw[Int.toNat_natCast]
theorem cut_cutL (s:List UInt8){a b:Nat}(h:a≤b)(hb:b≤s.length):cutL s (some (a:Int)) (some (b:Int))=cut s a b∧cutOb s.length (some (a:Int)) (some (b:Int))=true:=by
 refine⟨?_,?_⟩
 ·simp only[cutL,Int.toNat_natCast,cut];rw[List.drop_take]
 ·simp only[cutOb]
  rw[decide_eq_true (by omega),decide_eq_true (by omega),decide_eq_true (by omega)];rfl
theorem hf78 :heapFn cfg 78 Tryd.f78:=(by refine⟨?_,?_,?_,?_,?_,?_⟩<;>kernel_rfl)
theorem hf59 :heapFn cfg 59 Tryd.f59:=(by refine⟨?_,?_,?_,?_,?_,?_⟩<;>kernel_rfl)
theorem tab80 :TabOk cfg (ctab [(80,smallC)]):=ctab_ok (ctab_cons c80 ctab_nil)
theorem tab39 :TabOk cfg (ctab [(39,blankC)]):=ctab_ok (ctab_cons c39 ctab_nil)
theorem loop78 {K:AV→Hp→Prop}{s:List UInt8}{a:Nat}{L:List (List AV)}{hid:Int}(hok:Keep.okX [] L)(ha:a≤s.length)(hs:s.length≤limE)(hk:K (.str ((s.drop a).take (lets s a))) (hX s ((a+lets s a:Nat):Int) L hid)):
  ∀(n b:Nat),a+lets s a-b=n→a≤b→b≤a+lets s a→ToEnd cfg 78 (bodyOf Tryd.f78) (RetIn Tryd.prog Tryd.f78 6 K) [.code [0,0,1,1],.block 0,.code [1,1,1]] .normal [(0,true,.ptr 5 0),(3,true,.int .i64 a)] (hX s (b:Nat) L hid)
 |0,b,hn,h1,h2=>by
  have hb:b=a+lets s a:=by omega
  subst hb
  have hle:a+lets s a≤s.length:=by have:=lets_le s a;omega
  obtain⟨e1,e2⟩:=cut_cutL s (show a≤a+lets s a by omega) hle
  have hL:=fun g=>(hok 6 g (by simp)).2
  have e3:cut s a (a+lets s a)=(s.drop a).take (lets s a):=cut_take;rw[←e3] at hk
  refine t78a tab80 (ifP_intro (fun x=>gAnd_intro (inR_nat (by simp at x;omega)) ⟨s.getD (a+lets s a) 0,byte_eq,ifP_intro (fun y=> ?_) fun y=>gAnd_intro e2 ?_⟩) fun x=>gAnd_intro e2 ?_)
  ·rw[lets_no (by simp at x;omega)] at y;cases y
  ·rw[e1,hL];exact hk
  ·rw[e1,hL];exact hk
 |n+1,b,hn,h1,h2=>by
  obtain⟨k1,k2⟩:=lets_yes h1 (show b<a+lets s a by omega)
  refine t78a tab80 (ifP_intro (fun x=>gAnd_intro (inR_nat k1) ⟨s.getD b 0,byte_eq,ifP_intro (fun y=> ?_) fun y=> ?_⟩) fun x=> ?_)
  ·rw[wrap_nat (by omega)]
   exact loop78 hok ha hs hk n (b+1) (by omega) (by omega) (by omega)
  ·rw[k2] at y;cases y
  ·simp at x;omega
theorem c78 :COk cfg 78 wordC:=by
 refine cok_heap hf78 fun vs h K ht=> ?_
 obtain⟨s,a,L,hid,hok,ha,hs,rfl,rfl,hk⟩:=ht
 exact t78 tab80 (loop78 hok ha hs hk _ a rfl (by omega) (by omega))
theorem loop59 {K:AV→Hp→Prop}{r:Hp}{s:List UInt8}{a:Nat}{L:List (List AV)}{hid:Int}(hok:Keep.okX r L)(ha:a≤s.length)(hs:s.length≤limE)(hk:K (.int .i64 ((past s a-a:Nat):Int)) (hX s ((past s a:Nat):Int) L hid++r)):
  ∀(n b:Nat),past s a-b=n→a≤b→b≤past s a→ToEnd cfg 59 (bodyOf Tryd.f59) (RetIn Tryd.prog Tryd.f59 (hX s (b:Nat) L hid++r).length K) [.code [0,0,1,1],.block 0,.code [1,1,1]] .normal [(0,true,.ptr 5 0),(3,true,.int .i64 a)] (hX s (b:Nat) L hid++r)
 |0,b,hn,h1,h2=>by
  have hb:b=past s a:=by omega
  subst hb;have hle:=past_le ha
  have hN:=fun g=>hok (hX s ((past s a:Nat):Int) L hid++r).length g (by simp[hX];omega)
  have hN1:=fun g=>(hN g).1
  have hN2:=fun g=>(hN g).2
  have ew:IntKind.wrap .i64 ((past s a:Int)-(a:Int))=((past s a-a:Nat):Int):=by
   unfold limE at hs
   rw[wrap_in]<;>omega
  have fin:K (.int .i64 (IntKind.wrap .i64 ((past s a:Int)-(a:Int)))) (Blk.grow 0 6 53::Blk.mem 44 [AV.sl 6 [] (some 0)]::Blk.mem 3 [AV.int .i64 0]::Blk.mem 24 [AV.int .i64 0]::Blk.grow (List.length L) 6 53::Blk.mem 68 [AV.str s,AV.int .i64 (past s a:Nat),AV.sl 6 L (some 4),AV.int .i64 hid]::r):=by rw[ew];exact hk
  refine t59a tab39 (ifP_intro (fun x=>gAnd_intro (inR_nat (by simp at x;omega)) ⟨s.getD (past s a) 0,byte_eq,ifP_intro (fun y=> ?_) fun y=> ?_⟩) fun x=> ?_)
  ·rw[past_no (by simp at x;omega)] at y;cases y
  ·simp only[List.append_eq,List.nil_append,List.take_length,hN1,hN2];exact fin
  ·simp only[List.append_eq,List.nil_append,List.take_length,hN1,hN2];exact fin
 |n+1,b,hn,h1,h2=>by
  obtain⟨k1,k2⟩:=past_yes h1 (show b<past s a by omega)
  refine t59a tab39 (ifP_intro (fun x=>gAnd_intro (inR_nat k1) ⟨s.getD b 0,byte_eq,ifP_intro (fun y=> ?_) fun y=> ?_⟩) fun x=> ?_)
  ·rw[wrap_nat (by omega)]
   exact loop59 hok ha hs hk n (b+1) (by omega) (by omega) (by omega)
  ·rw[k2] at y;cases y
  ·simp at x;omega
theorem c59 :COk cfg 59 skipC:=by
 refine cok_heap hf59 fun vs h K ht=> ?_
 obtain⟨r,s,a,L,hid,hok,ha,hs,rfl,rfl,hk⟩:=ht
 exact t59 tab39 (loop59 hok ha hs hk _ a rfl (by omega) (past_le ha).1)
theorem c59t :COk cfg 59 skipT:=by
 intro l h K ht;refine c59 l h K ?_;obtain⟨s,a,L,hid,k,nm,l',hok,ha,hs,e1,e2,hk⟩:=ht;exact⟨rT k nm (encAs l'),s,a,L,hid,hok,ha,hs,e1,e2,hk⟩
end Go.Proofs.YtopjpnhgnopbiaaDoor.Lx
end
section
namespace Go.Proofs.YtopjpnhgnopbiaaDoor.Lx
open Go.Ai Go Go.Ai.Ex
set_option maxRecDepth 100000
theorem hf60 :heapFn cfg 60 Tryd.f60:=(by refine⟨?_,?_,?_,?_,?_,?_⟩<;>kernel_rfl)
theorem hf62 :heapFn cfg 62 Tryd.f62:=(by refine⟨?_,?_,?_,?_,?_,?_⟩<;>kernel_rfl)
theorem hf58 :heapFn cfg 58 Tryd.f58:=(by refine⟨?_,?_,?_,?_,?_,?_⟩<;>kernel_rfl)
theorem hf81 :heapFn cfg 81 Tryd.f81:=(by refine⟨?_,?_,?_,?_,?_,?_⟩<;>kernel_rfl)
theorem hf70 :heapFn cfg 70 Tryd.f70:=(by refine⟨?_,?_,?_,?_,?_,?_⟩<;>kernel_rfl)
theorem hf87 :heapFn cfg 87 Tryd.f87:=(by refine⟨?_,?_,?_,?_,?_,?_⟩<;>kernel_rfl)
theorem blt_zero (b:Nat):Nat.blt b 0=false:=rfl
theorem strip_int {v:AV}{k:IntKind}{n:Int}(h:strip 0 [] v=.int k n):v=.int k n:=by
 cases v<;>simp_all[strip,blt_zero]
theorem argsOf_fail (l:List AV)(p e:Int)(h:argsOf cfg 25 l=[.int .i64 p,.int .i64 e]):l=[.int .i64 p,.int .i64 e]:=by
 have hh:((cfg.hprim 25).isSome||cfg.heap 25)=false:=by kernel_rfl
 unfold argsOf at h;rw[hh] at h;simp only at h
 cases l with
 |nil=>cases h
 |cons x l=>
  cases l with
  |nil=>simp[strips] at h
  |cons y l=>
   cases l with
   |cons z l=>simp[strips] at h
   |nil=>
    simp only[strips,List.cons.injEq,and_true] at h;rw[strip_int h.1,strip_int h.2]
theorem c25 :COkP cfg pfE 25 failC:=by
 intro l h K KP ht;obtain⟨p,e,hl,hk⟩:=ht;have hl':=argsOf_fail l p e hl;refine .inr ⟨1,(p,e),h,?_,hk⟩;simp only[PanK];refine .inl ⟨?_,trivial⟩;rw[hl'];rfl
theorem tabF :TabPOk cfg pfE (ctabP [] [(25,failC)]):=ctabP_ok ctab_nil (tabP_cons c25 tabP_nil)
theorem c60 :COkP cfg pfE 60 peekC:=by
 refine cokP_heap hf60 fun vs h K KP ht=> ?_
 obtain⟨r,s,a,L,hid,tag,hok,ha,hs,rfl,rfl,h1,h2⟩:=ht
 have hN:=fun g=>hok (hX s (a:Nat) L hid++r).length g (by simp[hX];omega)
 have hN1:=fun g=>(hN g).1
 have hN2:=fun g=>(hN g).2
 refine t60 tabF (ifP_intro (fun x=>⟨tag,14,rfl,?_⟩) fun x=>gAnd_intro (inR_nat (by simp at x;omega)) ?_)
 ·simp only[List.append_eq,List.nil_append,List.take_length,hN1,hN2]
  exact h1 (by simp at x;omega)
 ·simp only[List.append_eq,List.nil_append,List.take_length,hN1,hN2,Int.toNat_natCast]
  exact h2 (by simp at x;omega)
theorem tab62 :TabPOk cfg pfE (ctabP [] [(25,failC),(60,peekC)]):=ctabP_ok ctab_nil (tabP_cons c25 (tabP_cons c60 tabP_nil))
theorem c62 :COkP cfg pfE 62 needC:=by
 refine cokP_heap hf62 fun vs h K KP ht=> ?_
 obtain⟨r,s,a,L,hid,tag,is,hok,ha,hs,rfl,rfl,h1,h2,h3⟩:=ht
 have hN:=fun g=>hok (hX s (a:Nat) L hid++r).length g (by simp[hX];omega)
 have hN1:=fun g=>(hN g).1
 have hN2:=fun g=>(hN g).2
 refine t62 tab62 ?_;simp only[List.append_eq,List.nil_append,List.take_length,hN1,hN2]
 refine⟨r,s,a,L,hid,tag,hok,ha,hs,rfl,rfl,fun x=>h1 x,fun x=>ifP_intro (fun y=>⟨a,12,rfl,?_⟩) fun y=> ?_⟩
 ·exact h2 x (by simpa using y)
 ·rw[wrap_nat (by omega)]
  exact h3 x (by simpa using y)
theorem c62t :COkP cfg pfE 62 needT:=by
 intro l h K KP ht;refine c62 l h K KP ?_;obtain⟨s,a,L,hid,k,tag,nm,l',is,hok,ha,hs,e1,e2,hk⟩:=ht;exact⟨rT k nm (encAs l'),s,a,L,hid,tag,is,hok,ha,hs,e1,e2,hk⟩
theorem c62a :COkP cfg pfE 62 needA:=by
 intro l h K KP ht;refine c62 l h K KP ?_;obtain⟨s,a,L,hid,k,tag,nm,l',an,av,aa,is,hok,ha,hs,e1,e2,hk⟩:=ht;exact⟨rA k nm (encAs l') an av aa,s,a,L,hid,tag,is,hok,ha,hs,e1,e2,hk⟩
theorem tab58 :TabPOk cfg pfE (ctabP [(78,wordC),(79,fieldsC),(72,inC)] [(25,failC)]):=ctabP_ok (ctab_cons c78 (ctab_cons c79 (ctab_cons c72 ctab_nil))) (tabP_cons c25 tabP_nil)
theorem c58 :COkP cfg pfE 58 nameC:=by
 refine cokP_heap hf58 fun vs h K KP ht=> ?_
 obtain⟨s,a,L,hid,tag,hok,ha,hs,rfl,rfl,h1,h2⟩:=ht
 have hL:=fun g=>(hok 6 g (by simp)).2
 refine t58 tab58 ⟨s,a,L,hid,hok,ha,hs,rfl,rfl,_,rfl,rfl,namesL,_,rfl,by decide,?_⟩
 simp only[hL]
 refine ifP_intro (fun x=>⟨tag,11,rfl,?_⟩) fun x=> ?_
 ·exact h1 (by simpa[knownB] using x) _ L hid
 ·exact h2 (by simpa[knownB] using x)
theorem pureAs (l:List Att):pureV.pureVss (encAs l)=true:=by
 unfold encAs
 induction l with
 |nil=>rfl
 |cons a r ih=>simp only[List.map_cons,encA,pureV.pureVss,pureV.pureVs,pureV,ih,Bool.true_and]
theorem stripAs (n:Nat)(g:Hp)(l:List Att):stripss n g (encAs l)=encAs l:=stripss_pure _ _ _ (pureAs l)
theorem okA_es {k:Int}{nm:List UInt8}{es:List (List AV)}{an av:List UInt8}{aa:Int}{L:List (List AV)}(h:Keep.okX (rA k nm es an av aa) L){n:Nat}(hn:11≤n)(g:Hp):stripss n g es=es∧stripss n g L=L:=by
 obtain⟨h1,h2⟩:=h n g hn;refine⟨?_,h2⟩;simp only[rA,rT,List.cons_append,List.nil_append,List.map_cons,List.cons.injEq] at h1;have:=h1.2.2.1;simp only[stripB,strips,strip,Blk.mem.injEq,List.cons.injEq,AV.sl.injEq] at this;exact this.2.2.2.1.2.1
theorem c81 :COk cfg 81 sameNC:=by
 refine cok_heap hf81 fun vs h K ht=> ?_
 obtain⟨s,a,L,hid,k,nm,es,an,av,aa,b,hok,rfl,rfl,hk⟩:=ht
 have hN:=fun g=>okA_es hok (Nat.le_refl 11) g
 refine t81 noT ?_
 simp only[fun g=>(hN g).1,fun g=>(hN g).2]
 exact hk
theorem tab81 :TabOk cfg (ctab [(81,sameNC)]):=ctab_ok (ctab_cons c81 ctab_nil)
theorem loop87 {K:AV→Hp→Prop}{s:List UInt8}{a:Int}{L:List (List AV)}{hid k:Int}{nm:List UInt8}{l:List Att}{an av:List UInt8}{aa:Int}(hok:Keep.okX (rA k nm (encAs l) an av aa) L)(hl:l.length≤limE)
  (hk:∀z:Int,decide (z≥0)=(l.any fun b=>an==b.name)→K (.int .i64 z) (hAt s a L hid k nm (encAs l) an av aa)):
  ∀(n i:Nat),l.length-i=n→i≤l.length→(l.take i).any (fun b=>an==b.name)=false→ToEnd cfg 87 (bodyOf Tryd.f87) (RetIn Tryd.prog Tryd.f87 11 K) [.code [0,1,0,1],.block 0,.code [1,1]] .normal [(0,true,.sl 3 (encAs l) (some 6)),(1,true,.fn (.func 81) [] [.ptr 10 0]),(7,true,.int .i64 l.length),(8,true,.int .i64 i)] (hAt s a L hid k nm (encAs l) an av aa)
 |0,i,hn,hi,hp=>by
  have hN:=fun g=>okA_es hok (Nat.le_refl 11) g
  refine t87a tab81 ?_
  simp only[fun g=>(hN g).1,fun g=>(hN g).2]
  refine ifP_intro (fun x=> ?_) fun x=>hk (-1) ?_
  ·simp at x;omega
  ·rw[List.take_of_length_le (by omega)] at hp;rw[hp];rfl
 |n+1,i,hn,hi,hp=>by
  have hN:=fun g=>okA_es hok (Nat.le_refl 11) g
  have hlt:i<l.length:=by omega
  refine t87a tab81 ?_
  simp only[fun g=>(hN g).1,fun g=>(hN g).2]
  refine ifP_intro (fun x=>gAnd_intro ?_ ⟨l[i].name,l[i].value,l[i].at',getE_map _ l hlt,s,a,L,hid,k,nm,encAs l,an,av,aa,l[i],hok,rfl,rfl,ifP_intro (fun y=>hk i ?_) fun y=> ?_⟩) fun x=> ?_
  ·rw[show(encAs l).length=l.length by simp[encAs],inR_nat hlt];rfl
  ·rw[decide_eq_true (by omega)]
   exact(List.any_eq_true.2 ⟨l[i],List.getElem_mem hlt,y⟩).symm
  ·rw[wrap_nat (by omega)]
   refine loop87 hok hl hk n (i+1) (by omega) (by omega) ?_
   rw[List.take_succ_eq_append_getElem hlt,List.any_append,hp];simpa using y
  ·simp at x;omega
theorem c87 :COk cfg 87 dupIC:=by
 refine cok_heap hf87 fun vs h K ht=> ?_
 obtain⟨s,a,L,hid,k,nm,l,an,av,aa,hok,rfl,hl,rfl,hk⟩:=ht;refine t87 tab81 ?_
 have:=loop87 hok hl hk _ 0 rfl (by omega) rfl
 rw[show l.length=(encAs l).length by simp[encAs]] at this
 exact this
theorem c70 :COk cfg 70 dupC:=by
 refine cok_heap hf70 fun vs h K ht=> ?_
 obtain⟨s,a,L,hid,k,nm,l,an,av,aa,hok,rfl,hl,rfl,hk⟩:=ht
 have hN:=fun g=>okA_es hok (Nat.le_refl 11) g
 refine t70 (ctab_ok (ctab_cons c87 ctab_nil)) ?_
 simp only[fun g=>(hN g).1,fun g=>(hN g).2]
 refine⟨s,a,L,hid,k,nm,l,an,av,aa,hok,rfl,hl,rfl,fun z hz=> ?_⟩
 rw[hz];exact hk
end Go.Proofs.YtopjpnhgnopbiaaDoor.Lx
end
section
namespace Go.Proofs.YtopjpnhgnopbiaaDoor.Lx
open Go.Ai Go Go.Ai.Ex
set_option maxRecDepth 100000
theorem hf42 :heapFn cfg 42 Tryd.f42:=(by refine⟨?_,?_,?_,?_,?_,?_⟩<;>kernel_rfl)
theorem hf41 :heapFn cfg 41 Tryd.f41:=(by refine⟨?_,?_,?_,?_,?_,?_⟩<;>kernel_rfl)
theorem hf24 :heapFn cfg 24 Tryd.f24:=(by refine⟨?_,?_,?_,?_,?_,?_⟩<;>kernel_rfl)
theorem hf23 :heapFn cfg 23 Tryd.f23:=(by refine⟨?_,?_,?_,?_,?_,?_⟩<;>kernel_rfl)
theorem stripss_app (n:Nat)(g:Hp):∀(a b:List (List AV)),stripss n g (a++b)=stripss n g a++stripss n g b
 |[],b=>rfl
 |x::a,b=>by rw[List.cons_append,stripss,stripss,stripss_app n g a b];rfl
theorem pureTs (l:List Tok):pureV.pureVss (encTs l)=true:=by
 unfold encTs
 induction l with
 |nil=>rfl
 |cons a r ih=>simp only[List.map_cons,encT,pureV.pureVss,pureV.pureVs,pureV,ih,pureAs,Option.isNone_none,Bool.true_and,Bool.and_true]
theorem stripTs (n:Nat)(g:Hp)(l:List Tok):stripss n g (encTs l)=encTs l:=stripss_pure _ _ _ (pureTs l)
theorem ok0 (l:List Tok):Keep.okX [] (encTs l):=fun n g _=>⟨rfl,stripTs n g l⟩
theorem okG (l:List Tok):Keep.okX [.grow 0 3 32] (encTs l):=fun n g _=>⟨rfl,stripTs n g l⟩
theorem blt6 {n:Nat}(h:9≤n):Nat.blt 6 n=true:=Nat.ble_eq_true_of_le (by omega)
theorem strip_row {n:Nat}(g:Hp){L:List (List AV)}(hL:stripss n g L=L){k fr to:Int}{nm t:List UInt8}{es:List (List AV)}(he:stripss n g es=es){id:Nat}(hi:Nat.blt id n=true):
  stripss n g (L++[[.int .i64 k,.str nm,.sl 3 es (some id),.str t,.int .i64 fr,.int .i64 to]])=L++[[.int .i64 k,.str nm,.sl 3 es (some id),.str t,.int .i64 fr,.int .i64 to]]:=by
 rw[stripss_app,hL];simp only[stripss,strips,strip,he,hi,cond_true]
theorem strip_row0 {n:Nat}(g:Hp){L:List (List AV)}(hL:stripss n g L=L){k fr to:Int}{nm t:List UInt8}{es:List (List AV)}(he:stripss n g es=es){id:Nat}(hi:Nat.blt id n=false):
  stripss n g (L++[[.int .i64 k,.str nm,.sl 3 es (some id),.str t,.int .i64 fr,.int .i64 to]])=L++[[.int .i64 k,.str nm,.sl 3 es none,.str t,.int .i64 fr,.int .i64 to]]:=by
 rw[stripss_app,hL];simp only[stripss,strips,strip,he,hi,cond_false]
theorem len_app {α:Type}(L:List α)(x:α):(L++[x]).length=L.length+1:=by simp
theorem tag_ok {h:Hp}{n:Nat}(e:h[4]?=some (.grow n 6 53)):tagOk h n 6 53 (some 4)=true:=by
 simp only[tagOk,e,Nat.beq_refl,Bool.and_self]
theorem c42g :COk cfg 42 addGC:=by
 refine cok_heap hf42 fun vs h K ht=> ?_
 obtain⟨s,a,fr,L,hid,k,hok,ha,hs,hf,hl,rfl,rfl,hk⟩:=ht;obtain⟨e1,e2⟩:=cut_cutL s hf ha
 have hL:=fun g=>(hok 7 g (Nat.le_refl _)).2
 refine t42g noT (gAnd_intro e2 (gAnd_intro ?_ ?_))
 ·rw[tag_ok rfl,decide_eq_true (by unfold limE at hl;omega)];rfl
 ·rw[strip_row _ (hL _) rfl rfl,e1];unfold hG at hk;rw[len_app] at hk;exact hk
theorem c42t :COk cfg 42 addTC:=by
 refine cok_heap hf42 fun vs h K ht=> ?_
 obtain⟨s,a,fr,L,hid,k,nm,l,hok,ha,hs,hf,hl,rfl,rfl,hk⟩:=ht;obtain⟨e1,e2⟩:=cut_cutL s hf ha
 have hL:=fun g=>(hok 9 g (Nat.le_refl _)).2
 refine t42t noT (gAnd_intro e2 (gAnd_intro ?_ ?_))
 ·rw[tag_ok rfl,decide_eq_true (by unfold limE at hl;omega)];rfl
 ·rw[strip_row _ (hL _) (stripAs _ _ _) rfl,e1,stripAs];unfold hTg at hk;rw[len_app] at hk;exact hk
theorem c42r :COk cfg 42 addRC:=by
 refine cok_heap hf42 fun vs h K ht=> ?_
 obtain⟨s,a,fr,L,hid,k,nm,l,hok,ha,hs,hf,hl,rfl,rfl,hk⟩:=ht;obtain⟨e1,e2⟩:=cut_cutL s hf ha
 have hL:=fun g=>(hok 10 g (Nat.le_refl _)).2
 refine t42r noT (gAnd_intro e2 (gAnd_intro ?_ ?_))
 ·rw[tag_ok rfl,decide_eq_true (by unfold limE at hl;omega)];rfl
 ·rw[strip_row _ (hL _) rfl rfl,e1,stripAs];unfold hTG at hk;rw[len_app] at hk;exact hk
theorem encTs_app (l m:List Tok):encTs (l++m)=encTs l++encTs m:=by unfold encTs;rw[List.map_append]
theorem encTs_len (l:List Tok):(encTs l).length=l.length:=by simp[encTs]
theorem wrap_add {a b:Nat}(h:a+b≤2*limE):IntKind.wrap .i64 ((a:Int)+(b:Int))=((a+b:Nat):Int):=by
 unfold limE at h;rw[wrap_in]<;>omega
theorem tab42g :TabOk cfg (ctab [(42,addGC)]):=ctab_ok (ctab_cons c42g ctab_nil)
theorem c41 :COk cfg 41 showTC:=by
 refine cok_heap hf41 fun vs h K ht=> ?_
 obtain⟨s,a,l,hid,ha,hs,hl,rfl,rfl,hk⟩:=ht
 have e3:IntKind.wrap .i64 ((a:Int)+3)=((a+3:Nat):Int):=wrap_add (b:=3) (by omega)
 refine t41 tab42g ⟨s,a+3,a,encTs l,-1,6,okG l,ha,hs,by omega,by rw[encTs_len];exact Nat.le_trans hl hs,rfl,by rw[e3],?_⟩
 rw[encTs_app] at hk;unfold row;rw[strip_row0 _ (stripTs _ _ _) rfl rfl,len_app];unfold hX at hk
 rw[show encTs [(⟨6,[],[],cut s a (a+3),a,a+3⟩:Tok)]=[row 6 [] [] none (cut s a (a+3)) a ((a+3:Nat):Int)] from rfl,len_app] at hk
 exact hk
theorem c24 :COk cfg 24 textTC:=by
 refine cok_heap hf24 fun vs h K ht=> ?_
 obtain⟨s,fr,a,l,hid,hf,ha,hs,hl,rfl,rfl,hk⟩:=ht
 refine t24 tab42g (ifP_intro (fun x=>⟨s,a,fr,encTs l,hid,1,okG l,ha,hs,hf,by rw[encTs_len];exact Nat.le_trans hl hs,rfl,rfl,?_⟩) fun x=> ?_)
 ·have hlt:fr<a:=by simp at x;omega
  rw[textL,if_pos hlt,encTs_app] at hk;unfold row;rw[strip_row0 _ (stripTs _ _ _) rfl rfl,len_app];unfold hX at hk
  rw[show encTs [(⟨1,[],[],cut s fr a,fr,a⟩:Tok)]=[row 1 [] [] none (cut s fr a) fr a] from rfl,len_app] at hk
  exact hk
 ·have hlt:¬fr<a:=by simp at x;omega
  rw[textL,if_neg hlt,List.append_nil] at hk;rw[stripTs];exact hk
theorem cut_from (s:List UInt8){a:Nat}(h:a≤s.length):cutL s (some (a:Int)) none=s.drop a∧cutOb s.length (some (a:Int)) none=true:=by
 refine⟨by simp only[cutL,Int.toNat_natCast],?_⟩
 simp only[cutOb]
 rw[decide_eq_true (by omega),decide_eq_true (by omega)];rfl
theorem tab23 :TabOk cfg (ctab [(36,Ex.prefC),(39,blankC)]):=ctab_ok (ctab_cons c36 (ctab_cons c39 ctab_nil))
theorem c23 :COk cfg 23 findC:=by
 refine cok_heap hf23 fun vs h K ht=> ?_
 obtain⟨s,a,l,hid,ha,hs,rfl,rfl,hk⟩:=ht;obtain⟨e1,e2⟩:=cut_from s ha;refine t23 tab23 (gAnd_intro e2 ?_);rw[e1];simp only[stripTs]
 have hh:hideB s a=(hidesS.isPrefixOf (s.drop a)&&(decide (((s.drop a).length:Int)>7)&&blB ((s.drop a).getD 7 0))):=by
  unfold hideB has;rw[←getD_drop',List.length_drop]
  congr 2
  rw[decide_eq_decide];omega
 have tail:hideB s a=false→has s opensS a=false→has s closesS a=false→∃(s8 x9:List UInt8),[AV.str (s.drop a),AV.str [45,45,62]]=[AV.str s8,AV.str x9]∧ifP (x9.isPrefixOf s8) (ifP (decide (hid≥0)) (K (.fn (.func 41) [.ptr 5 0] []) (hX s a (encTs l) hid)) (K .nilf (hX s a (encTs l) hid))) (K .nilf (hX s a (encTs l) hid)):=by
  intro h3 h1 h2
  refine⟨s.drop a,showsS,rfl,ifP_intro (fun x=>ifP_intro (fun y=> ?_) fun y=> ?_) fun x=> ?_⟩
  all_goals
   have x':has s showsS a=_:=x;simp only[findV,h1,h2,h3,x',Bool.false_eq_true,if_false,Bool.true_and,Bool.false_and] at hk
   first|(rw[if_pos (by simpa using y)] at hk;exact hk)|(rw[if_neg (by simpa using y)] at hk;exact hk)|exact hk
 refine⟨s.drop a,opensS,rfl,ifP_intro (fun x=> ?_) fun h1=>⟨s.drop a,closesS,rfl,ifP_intro (fun x=> ?_) fun h2=>⟨s.drop a,hidesS,rfl,ifP_intro (fun h3=>ifP_intro (fun h4=>gAnd_intro ?_ ⟨(s.drop a).getD 7 0,rfl,ifP_intro (fun h5=> ?_) fun h5=> ?_⟩) fun h4=> ?_) fun h3=> ?_⟩⟩⟩
 ·rw[findV,if_pos (show has s opensS a=true from x)] at hk;exact hk
 ·rw[findV,if_neg (by rw[show has s opensS a=false from h1];simp),if_pos (show has s closesS a=true from x)] at hk;exact hk
 ·exact inR_nat (i:=7) (by simp at h4⊢;omega)
 ·rw[findV,if_neg (by rw[show has s opensS a=false from h1];simp),if_neg (by rw[show has s closesS a=false from h2];simp),if_pos (by rw[hh,h3,h4,h5];rfl)] at hk;exact hk
 ·exact tail (by rw[hh,h3,h4,h5];rfl) h1 h2
 ·exact tail (by rw[hh,h3,h4];rfl) h1 h2
 ·exact tail (by rw[hh,h3];rfl) h1 h2
end Go.Proofs.YtopjpnhgnopbiaaDoor.Lx
end
section
namespace Go.Proofs.YtopjpnhgnopbiaaDoor.Lx
open Go.Ai Go Go.Ai.Ex
set_option maxRecDepth 100000
theorem hf40 :heapFn cfg 40 Tryd.f40:=(by refine⟨?_,?_,?_,?_,?_,?_⟩<;>kernel_rfl)
theorem hf63 :heapFn cfg 63 Tryd.f63:=(by refine⟨?_,?_,?_,?_,?_,?_⟩<;>kernel_rfl)
theorem hf38 :heapFn cfg 38 Tryd.f38:=(by refine⟨?_,?_,?_,?_,?_,?_⟩<;>kernel_rfl)
theorem tab40 :TabPOk cfg pfE (ctabP [(42,addGC)] [(25,failC)]):=ctabP_ok (ctab_cons c42g ctab_nil) (tabP_cons c25 tabP_nil)
theorem c40 :COkP cfg pfE 40 hideTC:=by
 refine cokP_heap hf40 fun vs h K KP ht=> ?_
 obtain⟨s,a,l,hid,ha,hs,hl,rfl,rfl,h1,h2⟩:=ht
 have e3:IntKind.wrap .i64 ((a:Int)+8)=((a+8:Nat):Int):=wrap_add (b:=8) (by omega)
 refine t40 tab40 (ifP_intro (fun x=>⟨a,13,rfl,?_⟩) fun x=>⟨s,a+8,a,encTs l,a,5,okG l,ha,hs,by omega,by rw[encTs_len];exact Nat.le_trans hl hs,rfl,by rw[e3],?_⟩)
 ·rw[stripTs]
  exact h1 (by simpa using x) _ _ hid
 ·have hk:=h2 (by simp at x;omega)
  rw[encTs_app] at hk;unfold row;rw[strip_row0 _ (stripTs _ _ _) rfl rfl,len_app];unfold hX at hk
  rw[show encTs [(⟨5,[],[],cut s a (a+8),a,a+8⟩:Tok)]=[row 5 [] [] none (cut s a (a+8)) a ((a+8:Nat):Int)] from rfl,len_app] at hk
  exact hk
theorem idx_fnd :∀(s x:List UInt8) (i:Nat),idxB s x i=match fnd x s with|some n=>((n+i:Nat):Int)|none=> -1
 |[],x,i=>by cases x<;>simp[idxB,fnd]
 |c::r,x,i=>by
  rw[idxB,fnd]
  cases h:x.isPrefixOf (c::r) with
  |true=>simp
  |false=>
   simp only[Bool.false_eq_true,if_false];rw[idx_fnd r x (i+1)]
   cases fnd x r with
   |none=>rfl
   |some n=>simp only[Option.map_some];congr 1;omega
theorem idx0_fnd (s x:List UInt8):idxB s x 0=match fnd x s with|some n=>(n:Int)|none=> -1:=by
 rw[idx_fnd]
 cases fnd x s<;>rfl
theorem tab63 :TabPOk cfg pfE (ctabP [(42,addRC),(74,ixSC)] [(25,failC)]):=ctabP_ok (ctab_cons c42r (ctab_cons c74 ctab_nil)) (tabP_cons c25 tabP_nil)
theorem okT {k:Int}{nm:List UInt8}{l:List Att}{L:List (List AV)}(hL:∀n g,9≤n→stripss n g L=L):Keep.okX (rT k nm (encAs l)) L:=fun n g hn=>by
 refine⟨?_,hL n g hn⟩;simp only[rT,List.map_cons,List.map_nil,stripB,strips,strip,stripAs,blt6 hn,cond_true]
theorem okTG {k:Int}{nm:List UInt8}{l:List Att}{L:List (List AV)}(hL:∀n g,9≤n→stripss n g L=L):Keep.okX (rT k nm (encAs l)++[.grow 0 3 32]) L:=fun n g hn=>by
 simp only[rT,List.cons_append,List.nil_append,List.length_cons,List.length_nil] at hn
 refine⟨?_,hL n g (by omega)⟩
 simp only[rT,List.cons_append,List.nil_append,List.map_cons,List.map_nil,stripB,strips,strip,stripAs,blt6 (show 9≤n by omega),cond_true]
theorem okA {k:Int}{nm an av:List UInt8}{aa:Int}{l:List Att}{L:List (List AV)}(hL:∀n g,9≤n→stripss n g L=L):Keep.okX (rA k nm (encAs l) an av aa) L:=fun n g hn=>by
 simp only[rA,rT,List.cons_append,List.nil_append,List.length_cons,List.length_nil] at hn
 refine⟨?_,hL n g (by omega)⟩
 simp only[rA,rT,List.cons_append,List.nil_append,List.map_cons,List.map_nil,stripB,strips,strip,stripAs,blt6 (show 9≤n by omega),cond_true]
theorem ok_rows {r:Hp}{k:Int}{nm:List UInt8}{l:List Att}{L:List (List AV)}(h:Keep.okX (rT k nm (encAs l)) L):∀n g,9≤n→stripss n g L=L:=fun n g hn=>(h n g hn).2
theorem fnd_lt {x s:List UInt8}{n:Nat}(h:fnd x s=some n):n+x.length≤s.length:=fnd_le h
theorem c63 :COkP cfg pfE 63 rawTC:=by
 refine cokP_heap hf63 fun vs h K KP ht=> ?_
 obtain⟨s,a,tag,L,hid,k,nm,l,hok,ha,hs,hl,hn,rfl,rfl,h1,h2⟩:=ht;have hL:=ok_rows (r:=[]) hok;obtain⟨e1,e2⟩:=cut_from s ha
 have hfin:∀n,fnd (closesS++nm) (s.drop a)=some n→(fnd opensS ((s.drop a).take n)=none∨nm≠removeS)→∃(s9:List UInt8) (a10 fr11:Nat) (L12:List (List AV)) (hid13 k14:Int) (nm15:List UInt8) (l16:List Att),Keep.okX (rT k14 nm15 (encAs l16)++[Blk.grow 0 3 32]) L12∧a10≤s9.length∧s9.length≤1000000∧fr11≤a10∧L12.length≤1000000∧
   [AV.ptr 5 0,AV.agg [.int .i64 7,AV.str [],AV.sl 3 [] (some 9),AV.str [],.int .i64 0,.int .i64 0],.int .i64 (a:Int)]=[AV.ptr 5 0,AV.agg [.int .i64 7,AV.str [],AV.sl 3 [] (some 9),AV.str [],.int .i64 0,.int .i64 0],.int .i64 (fr11:Int)]∧
   hTG s ((a+n:Nat):Int) L hid k nm (encAs l)=hTG s9 a10 L12 hid13 k14 nm15 (encAs l16)∧K (.tup []) [.grow 0 6 53,.mem 44 [.sl 6 [] (some 0)],.mem 3 [.int .i64 0],.mem 24 [.int .i64 0],.grow (L12++[row 7 [] [] (some 9) (cut s9 fr11 a10) fr11 a10]).length 6 53,
    .mem 68 [.str s9,.int .i64 a10,.sl 6 (stripss 9 [.grow 0 6 53,.mem 44 [.sl 6 [] (some 0)],.mem 3 [.int .i64 0],.mem 24 [.int .i64 0],.grow (L12++[row 7 [] [] (some 9) (cut s9 fr11 a10) fr11 a10]).length 6 53,.mem 68 [.str s9,.int .i64 a10,.sl 6 (L12++[row 7 [] [] (some 9) (cut s9 fr11 a10) fr11 a10]) (some 4),.int .i64 hid13],
     .grow (encAs l16).length 3 32,.grow 0 3 32,.mem 53 [.int .i64 k14,.str nm15,.sl 3 (encAs l16) (some 6),.str [],.int .i64 0,.int .i64 0],.grow 0 3 32] (L12++[row 7 [] [] (some 9) (cut s9 fr11 a10) fr11 a10])) (some 4),.int .i64 hid13],.grow (encAs l16).length 3 32,.grow 0 3 32,.mem 53 [.int .i64 k14,.str nm15,.sl 3 (encAs l16) (some 6),.str [],.int .i64 0,.int .i64 0]]:=by
  intro n hf hno;have hle:=fnd_lt hf;rw[List.length_drop,List.length_append] at hle
  refine⟨s,a+n,a,L,hid,k,nm,l,okTG hL,by omega,hs,by omega,hl,rfl,rfl,?_⟩
  have hk:=(h2 n hf).2 hno;unfold row;rw[strip_row0 _ (hL 9 _ (Nat.le_refl _)) rfl rfl,len_app]
  rw[show(s.drop a).take n=cut s a (a+n) from cut_take.symm] at hk
  unfold hTg row at hk;rw[len_app] at hk;exact hk
 refine t63 tab63 (gAnd_intro e2 (gAnd_intro (decide_eq_true (by unfold limE at hn;omega)) ⟨s.drop a,closesS++nm,by rw[List.length_drop];unfold limE at hs;omega,by rw[e1];rfl,?_⟩))
 simp only[stripAs,fun g=>hL 9 g (Nat.le_refl 9)]
 rw[idx0_fnd]
 cases hf:fnd (closesS++nm) (s.drop a) with
 |none=>exact ifP_intro (fun _=>⟨tag,14,rfl,h1 hf _ _ _⟩) fun x=>by simp at x
 |some n=>
  have hle:=fnd_lt hf;rw[List.length_drop,List.length_append] at hle
  have ew:IntKind.wrap .i64 ((a:Int)+(n:Int))=((a+n:Nat):Int):=wrap_add (by omega)
  refine ifP_intro (fun x=>by simp at x;omega) fun _=> ?_
  simp only[ew]
  obtain⟨q1,q2⟩:=cut_cutL s (show a≤a+n by omega) (show a+n≤s.length by omega)
  rw[cut_take] at q1
  refine gAnd_intro q2 ⟨(s.drop a).take n,opensS,by rw[List.length_take,List.length_drop];unfold limE at hs;omega,by rw[q1];rfl,?_⟩
  rw[idx0_fnd]
  cases hj:fnd opensS ((s.drop a).take n) with
  |none=>exact ifP_intro (fun x=>by simp at x) fun _=>hfin n hf (.inl hj)
  |some j=>
   have hle2:=fnd_lt hj;rw[List.length_take,List.length_drop] at hle2
   have ej:IntKind.wrap .i64 ((a:Int)+(j:Int))=((a+j:Nat):Int):=wrap_add (by omega)
   refine ifP_intro (fun _=>ifP_intro (fun y=>⟨_,13,rfl,?_⟩) fun y=>hfin n hf (.inr (by simpa[removeS] using y))) fun x=>by simp at x
   rw[ej]
   exact(h2 n hf).1 j hj (by simpa[removeS] using y) _ _ _
theorem stripss_len (n:Nat)(g:Hp):∀L:List (List AV),(stripss n g L).length=L.length
 |[]=>rfl
 |x::r=>by rw[stripss,List.length_cons,List.length_cons,stripss_len n g r]
theorem pan_up {s:List UInt8}{KP:PX→Hp→Prop}{x:PX}(h:PanX [] s KP x)(a:Int)(L:List (List AV))(hid:Int)(g:Hp):KP x [.grow 0 6 53,.mem 44 [.sl 6 [] (some 0)],.mem 3 [.int .i64 0],.mem 24 [.int .i64 0],.grow L.length 6 53,.mem 68 [.str s,.int .i64 a,.sl 6 (stripss 6 g L) (some 4),.int .i64 hid]]:=by
 have:=h a (stripss 6 g L) hid;unfold hX at this;rw[stripss_len] at this;exact this
theorem pan_at {s:List UInt8}{KP:PX→Hp→Prop}{x:PX}(h:PanX [] s KP x)(a:Int)(L:List (List AV))(hid:Int):KP x [.grow 0 6 53,.mem 44 [.sl 6 [] (some 0)],.mem 3 [.int .i64 0],.mem 24 [.int .i64 0],.grow L.length 6 53,.mem 68 [.str s,.int .i64 a,.sl 6 L (some 4),.int .i64 hid]]:=h a L hid
theorem tab38 :TabPOk cfg pfE (ctabP [(42,addTC),(59,skipT)] [(25,failC),(58,nameC),(60,peekC)]):=ctabP_ok (ctab_cons c42t (ctab_cons c59t ctab_nil)) (tabP_cons c25 (tabP_cons c58 (tabP_cons c60 tabP_nil)))
theorem byte_ne {s:List UInt8}{b:Nat}{c:UInt8}:(((s.getD b 0).toNat:Int)==(c.toNat:Int))=(s.getD b 0==c):=by
 rw[Bool.eq_iff_iff];simp only[beq_iff_eq];constructor
 ·intro h
  exact UInt8.toNat_inj.1 (by omega)
 ·intro h;rw[h]
theorem rowsT (l:List Tok):∀n g,9≤n→stripss n g (encTs l)=encTs l:=fun n g _=>stripTs n g l
theorem c38 :COkP cfg pfE 38 closeTC:=by
 refine cokP_heap hf38 fun vs h K KP ht=> ?_
 obtain⟨s,a,l,hid,hh,ha,hs,hl,rfl,rfl,h1,h2⟩:=ht
 have h6:a+6≤s.length:=has_le hh (by decide)
 have e6:IntKind.wrap .i64 ((a:Int)+6)=((a+6:Nat):Int):=wrap_add (b:=6) (by omega)
 refine t38 tab38 ⟨s,a+6,encTs l,hid,a,ok0 l,h6,hs,rfl,by rw[e6],fun hk a7 L8 hid9=> ?_,fun hk=> ?_⟩
 ·have:closeM s a=.error (a,11):=by unfold closeM;rw[if_pos hk]
  exact pan_up (h1 _ _ this) _ _ _ _
 ·have hll:=lets_le s (a+6)
  have hb:=past_le (s:=s) (a:=a+6+lets s (a+6)) (by omega)
  refine⟨s,a+6+lets s (a+6),encTs l,hid,4,_,[],okT (l:=[]) (rowsT l),by omega,hs,rfl,rfl,?_⟩
  refine⟨rT 4 ((s.drop (a+6)).take (lets s (a+6))) (encAs []),s,past s (a+6+lets s (a+6)),encTs l,hid,a,okT (l:=[]) (rowsT l),hb.2,hs,rfl,rfl,fun x=> ?_,fun x=>ifP_intro (fun y=>⟨a,11,rfl,?_⟩) fun y=> ?_⟩
  ·have:closeM s a=.error (a,14):=by unfold closeM;simp only[hk,x,Bool.true_eq_false,if_false];simp
   rw[stripTs];exact pan_at (h1 _ _ this) _ _ _
  ·have hy:s.getD (past s (a+6+lets s (a+6))) 0≠62:=by
    have:=byte_ne (s:=s) (b:=past s (a+6+lets s (a+6))) (c:=62);simp only[bne,Bool.not_eq_true'] at y
    rw[show((62:UInt8).toNat:Int)=62 from rfl] at this
    rw[this] at y;simpa using y
   have:closeM s a=.error (a,11):=by unfold closeM;simp only[hk,Bool.true_eq_false,if_false];rw[if_neg (by omega),if_pos hy]
   rw[stripTs];exact pan_at (h1 _ _ this) _ _ _
  ·have hy:s.getD (past s (a+6+lets s (a+6))) 0=62:=by
    have:=byte_ne (s:=s) (b:=past s (a+6+lets s (a+6))) (c:=62);simp only[bne,Bool.not_eq_false'] at y
    rw[show((62:UInt8).toNat:Int)=62 from rfl] at this
    rw[this] at y;simpa using y
   have hc:closeM s a=.ok ⟨4,(s.drop (a+6)).take (lets s (a+6)),[],cut s a (past s (a+6+lets s (a+6))+1),a,past s (a+6+lets s (a+6))+1⟩:=by
    unfold closeM;simp only[hk,Bool.true_eq_false,if_false];rw[if_neg (by omega),if_neg (by simpa using hy)]
   have hkk:=h2 _ hc
   refine⟨s,past s (a+6+lets s (a+6))+1,a,encTs l,hid,4,_,[],okT (l:=[]) (rowsT l),by omega,hs,by omega,by rw[encTs_len];exact Nat.le_trans hl hs,rfl,by rw[wrap_nat (by omega)],?_⟩
   rw[encTs_app] at hkk;unfold row;rw[strip_row0 _ (stripTs _ _ _) (stripAs _ _ _) rfl,len_app];unfold hX at hkk
   rw[show ∀t:Tok,encTs [t]=[row t.kind t.name (encAs t.attrs) none t.text t.fr t.to] from fun _=>rfl,len_app] at hkk
   exact hkk
end Go.Proofs.YtopjpnhgnopbiaaDoor.Lx
end
section
namespace Go.Proofs.YtopjpnhgnopbiaaDoor.Lx
open Go.Ai Go Go.Ai.Ex
set_option maxRecDepth 100000
theorem hf61 :heapFn cfg 61 Tryd.f61:=(by refine⟨?_,?_,?_,?_,?_,?_⟩<;>kernel_rfl)
theorem ixB_fnd :∀(s:List UInt8) (c:UInt8),Lib.indexByte s c=match fnd [c] s with|some n=>(n:Int)|none=> -1
 |[],c=>rfl
 |b::r,c=>by
  rw[Lib.indexByte,fnd]
  have e:List.isPrefixOf [c] (b::r)=(c==b):=by simp[List.isPrefixOf]
  rw[e,ixB_fnd r c]
  by_cases h:b=c
  ·subst h;simp
  ·have h1:(b==c)=false:=by simpa using h
   have h2:(c==b)=false:=by simpa using fun q=>h q.symm
   rw[h1,h2]
   cases fnd [c] r with
   |none=>rfl
   |some n=>
    simp only[Bool.false_eq_true,if_false,Option.map_some]
    have:((n:Int)== -1)=false:=by simp
    rw[this];simp
theorem attrM_eq (s:List UInt8)(a tg:Nat)(l:List Att){n:Nat}(hn:n=min (lets s a) 16):attrM s a tg l=
  if l.any (fun c=>(s.drop a).take n==c.name)=true then .error (a,12) else
  if s.length≤a+n then .error (tg,14) else
  if n=0∨s.getD (a+n) 0≠61 then .error (a+n,12) else
  if s.length≤a+n+1 then .error (tg,14) else
  if s.getD (a+n+1) 0≠34∧s.getD (a+n+1) 0≠39 then .error (a+n+1,12) else
  match fnd [s.getD (a+n+1) 0] (s.drop (a+n+2)) with
  |none=>.error (tg,14)
  |some k=>.ok (⟨(s.drop a).take n,(s.drop (a+n+2)).take k,a⟩,a+n+2+k+1):=by
 subst hn;rfl
theorem tab61 :TabPOk cfg pfE (ctabP [(80,smallC),(64,ixBC),(70,dupC)] [(25,failC),(60,peekC),(62,needA)]):=
 ctabP_ok (ctab_cons c80 (ctab_cons c64 (ctab_cons c70 ctab_nil))) (tabP_cons c25 (tabP_cons c60 (tabP_cons c62a tabP_nil)))
theorem byteI {s:List UInt8}{b:Nat}(c:UInt8)(i:Int)(hi:(c.toNat:Int)=i):(((s.getD b 0).toNat:Int)==i)=(s.getD b 0==c):=by rw[←hi];exact byte_ne
theorem tail38 {K:AV→Hp→Prop}{KP:PX→Hp→Prop}{s:List UInt8}{a n:Nat}{L:List (List AV)}{hid k:Int}{tg:Nat}{nm:List UInt8}{l:List Att}(hL:∀n g,9≤n→stripss n g L=L)(hs:s.length≤limE)(hl:l.length≤limE)(hn:n=min (lets s a) 16)(ha:a+n≤s.length)
  (h1:∀p e,attrM s a tg l=.error (p,e)→PanX (rT k nm (encAs l)) s KP ((p:Int),e)) (h2:∀at' b,attrM s a tg l=.ok (at',b)→K (.agg (encA at')) (hTg s (b:Nat) L hid k nm (encAs l))):
  ToE cfg 61 (bodyOf Tryd.f61) (retQ Tryd.prog Tryd.f61 pfE 9 K KP) [.code [1,1,1]] .normal [(0,true,.ptr 5 0),(1,true,.int .i64 tg),(2,true,.sl 3 (encAs l) (some 6)),(6,true,.ptr 9 0),(7,true,.int .i64 a)] (hBt s ((a+n:Nat):Int) L hid k nm (encAs l)):=by
 obtain⟨e1,e2⟩:=cut_cutL s (show a≤a+n by omega) ha
 rw[cut_take] at e1;have hA:=attrM_eq s a tg l hn
 have ok:∀(an av:List UInt8) (aa:Int),Keep.okX (rA k nm (encAs l) an av aa) L:=fun an av aa=>okA hL
 have hl9:=fun g=>hL 9 g (Nat.le_refl 9)
 refine t61b tab61 (gAnd_intro e2 ?_);simp only[stripAs,hl9,e1]
 refine⟨s,_,L,hid,k,nm,l,(s.drop a).take n,[],a,ok _ _ _,rfl,hl,rfl,ifP_intro (fun x=>⟨a,12,rfl,?_⟩) fun x=> ?_⟩
 ·rw[if_pos x] at hA;exact h1 _ _ hA _ _ _
 rw[if_neg (by rw[x];simp)] at hA
 refine⟨rA k nm (encAs l) _ _ _,s,a+n,L,hid,tg,ok _ _ _,ha,hs,rfl,rfl,fun y=> ?_,fun y=> ?_⟩
 ·rw[if_pos (by omega)] at hA
  exact h1 _ _ hA _ _ _
 rw[if_neg (by omega)] at hA
 rw[byteI 61 61 rfl]
 refine ifP_intro (fun z=> ?_) fun z=> ?_
 ·have z61:s.getD (a+n) 0=61:=by simpa using z
  refine⟨s,a+n,L,hid,k,tg,nm,l,(s.drop a).take n,[],a,_,ok _ _ _,ha,hs,rfl,rfl,fun y'=>absurd y' (by omega),fun _ y'=> ?_,fun _ y'=> ?_⟩
  ·have hn0:n=0:=by
    have:(s.drop a).take n=[]:=by simpa using y'
    rw[List.take_eq_nil_iff] at this
    rcases this with h|h
    ·exact h
    ·rw[List.drop_eq_nil_iff] at h;omega
   rw[if_pos (.inl hn0)] at hA;exact h1 _ _ hA _ _ _
  have hn0:¬n=0:=by
   intro h;subst h;simp at y'
  rw[if_neg (fun h=>h.elim hn0 fun h=>h z61)] at hA
  refine⟨rA k nm (encAs l) _ _ _,s,a+n+1,L,hid,tg,ok _ _ _,by omega,hs,rfl,rfl,fun w=> ?_,fun w=> ?_⟩
  ·rw[if_pos (by omega)] at hA
   simp only[stripAs,hl9];exact h1 _ _ hA _ _ _
  rw[if_neg (by omega)] at hA
  simp only[stripAs,hl9]
  have ex:=cut_from s (show a+n+1+1≤s.length by omega)
  have ep:((a+n+1+1:Nat):Int)=((a+n+2:Nat):Int):=rfl
  have fin:∀(hm:¬(s.getD (a+n+1) 0≠34∧s.getD (a+n+1) 0≠39)),(fnd [s.getD (a+n+1) 0] (s.drop (a+n+2))=none→PanX (rT k nm (encAs l)) s KP ((tg:Int),14))∧
    (∀j,fnd [s.getD (a+n+1) 0] (s.drop (a+n+2))=some j→K (.agg [.str ((s.drop a).take n),.str ((s.drop (a+n+2)).take j),.int .i64 a]) (hTg s ((a+n+2+j+1:Nat):Int) L hid k nm (encAs l))):=by
   intro hm;rw[if_neg hm] at hA
   refine⟨fun hf=> ?_,fun j hf=> ?_⟩
   ·rw[hf] at hA;exact h1 _ _ hA
   ·rw[hf] at hA;exact h2 _ _ hA
  rw[byteI 34 34 rfl,byteI 39 39 rfl]
  refine ifP_intro (fun m=> ?_) fun m=> ?_
  all_goals
   refine⟨s,a+n+1,L,hid,k,tg,nm,l,(s.drop a).take n,[],a,_,ok _ _ _,by omega,hs,rfl,rfl,fun y'=>absurd y' (by omega),fun _ m2=> ?_,fun _ m2=> ?_⟩
  ·cases m2
  rotate_left
  ·have:s.getD (a+n+1) 0≠34∧s.getD (a+n+1) 0≠39:=⟨by simpa using m,by simpa using m2⟩
   rw[if_pos this] at hA;exact h1 _ _ hA _ _ _
  all_goals
   try simp only[stripAs,hl9]
   obtain⟨f1,f2⟩:=fin (fun u=>by first|exact u.1 (by simpa using m)|exact u.2 (by simpa using m2))
   refine gAnd_intro ex.2 ⟨s.drop (a+n+2),s.getD (a+n+1) 0,by rw[List.length_drop];unfold limE at hs;omega,by rw[ex.1],?_⟩
   rw[ixB_fnd]
   cases hf:fnd [s.getD (a+n+1) 0] (s.drop (a+n+2)) with
   |none=>exact ifP_intro (fun _=>⟨tg,14,rfl,f1 hf _ _ _⟩) fun q=>by simp at q
   |some j=>
    have hle:=fnd_lt hf;simp only[List.length_drop,List.length_cons,List.length_nil] at hle
    have w1:IntKind.wrap .i64 (((a+n+1+1:Nat):Int)+(j:Int))=((a+n+2+j:Nat):Int):=wrap_add (by omega)
    have w2:IntKind.wrap .i64 ((j:Int)+1)=((j+1:Nat):Int):=wrap_nat (by omega)
    have w3:IntKind.wrap .i64 (((a+n+1+1:Nat):Int)+((j+1:Nat):Int))=((a+n+2+j+1:Nat):Int):=by rw[wrap_add (by omega)];congr 1
    obtain⟨q1,q2⟩:=cut_cutL s (show a+n+2≤a+n+2+j by omega) (show a+n+2+j≤s.length by omega)
    rw[cut_take] at q1
    refine ifP_intro (fun q=>absurd (of_decide_eq_true q) (Int.not_lt.2 (Int.natCast_nonneg j))) fun _=> ?_
    simp only[w1,w2,w3];refine gAnd_intro q2 ?_
    rw[show(((a+n+1+1:Nat):Int))=((a+n+2:Nat):Int) from rfl,q1]
    exact f2 j hf
 ·have z61:s.getD (a+n) 0≠61:=by simpa using z
  rw[if_pos (.inr z61)] at hA
  refine⟨s,a+n,L,hid,k,tg,nm,l,(s.drop a).take n,[],a,_,ok _ _ _,ha,hs,rfl,rfl,fun y'=>absurd y' (by omega),fun _ _=>h1 _ _ hA _ _ _,fun _ y'=>by cases y'⟩
theorem loop61 {K:AV→Hp→Prop}{KP:PX→Hp→Prop}{s:List UInt8}{a n:Nat}{L:List (List AV)}{hid k:Int}{tg:Nat}{nm:List UInt8}{l:List Att}(hL:∀n g,9≤n→stripss n g L=L)(hs:s.length≤limE)(hl:l.length≤limE)(hn:n=min (lets s a) 16)(ha:a≤s.length)
  (h1:∀p e,attrM s a tg l=.error (p,e)→PanX (rT k nm (encAs l)) s KP ((p:Int),e)) (h2:∀at' b,attrM s a tg l=.ok (at',b)→K (.agg (encA at')) (hTg s (b:Nat) L hid k nm (encAs l))):
  ∀(m b:Nat),a+n-b=m→a≤b→b≤a+n→ToE cfg 61 (bodyOf Tryd.f61) (retQ Tryd.prog Tryd.f61 pfE 9 K KP) [.code [0,0,1,1],.block 0,.code [1,1,1]] .normal [(0,true,.ptr 5 0),(1,true,.int .i64 tg),(2,true,.sl 3 (encAs l) (some 6)),(6,true,.ptr 9 0),(7,true,.int .i64 a)] (hBt s (b:Nat) L hid k nm (encAs l))
 |0,b,hm,q1,q2=>by
  have hb:b=a+n:=by omega
  subst hb;have hle:=lets_le s a
  have hle2:a+n≤s.length:=by omega
  have T:=tail38 hL hs hl hn hle2 h1 h2
  have sub:((a+n:Nat):Int)-(a:Int)=(n:Int):=by omega
  refine t61a tab61 (ifP_intro (fun x=>gAnd_intro (inR_nat (by simp at x;omega)) ⟨s.getD (a+n) 0,byte_eq,ifP_intro (fun y=>ifP_intro (fun z=> ?_) fun z=>T) fun y=>T⟩) fun x=>T)
  exfalso
  rw[sub,wrap_in (by omega) (by unfold limE at hs;omega)] at z
  have hz:n<16:=by simp at z;omega
  have:n=lets s a:=by omega
  rw[this] at y
  rw[lets_no (by simp at x;omega)] at y
  cases y
 |m+1,b,hm,q1,q2=>by
  obtain⟨k1,k2⟩:=lets_yes (s:=s) q1 (show b<a+lets s a by omega)
  have sub:(b:Int)-(a:Int)=((b-a:Nat):Int):=by omega
  refine t61a tab61 (ifP_intro (fun x=>gAnd_intro (inR_nat k1) ⟨s.getD b 0,byte_eq,ifP_intro (fun y=>ifP_intro (fun z=> ?_) fun z=> ?_) fun y=> ?_⟩) fun x=> ?_)
  ·rw[wrap_nat (by omega)]
   exact loop61 hL hs hl hn ha h1 h2 m (b+1) (by omega) (by omega) (by omega)
  ·exfalso
   rw[sub,wrap_in (by omega) (by unfold limE at hs;omega)] at z
   simp at z;omega
  ·rw[k2] at y;cases y
  ·simp at x;omega
theorem c61 :COkP cfg pfE 61 attrC:=by
 refine cokP_heap hf61 fun vs h K KP ht=> ?_
 obtain⟨s,a,L,hid,tag,k,tg,nm,l,hok,ha,hs,hl,rfl,rfl,rfl,h1,h2⟩:=ht
 exact t61 tab61 (loop61 (ok_rows (r:=[]) hok) hs hl rfl ha h1 h2 _ a rfl (by omega) (by omega))
end Go.Proofs.YtopjpnhgnopbiaaDoor.Lx
end
section
namespace Go.Proofs.YtopjpnhgnopbiaaDoor.Lx
open Go.Ai Go Go.Ai.Ex
set_option maxRecDepth 100000
theorem hf37 :heapFn cfg 37 Tryd.f37:=(by refine⟨?_,?_,?_,?_,?_,?_⟩<;>kernel_rfl)
theorem tab37 :TabPOk cfg pfE (ctabP [(42,addTC),(59,skipT)] [(25,failC),(58,nameC),(60,peekC),(61,attrC),(62,needT),(63,rawTC)]):=
 ctabP_ok (ctab_cons c42t (ctab_cons c59t ctab_nil)) (tabP_cons c25 (tabP_cons c58 (tabP_cons c60 (tabP_cons c61 (tabP_cons c62t (tabP_cons c63 tabP_nil))))))
theorem rows_tag {l0:List Tok}{k fr to:Int}{nm t:List UInt8}{l:List Att}:∀n g,9≤n→stripss n g (encTs l0++[row k nm (encAs l) (some 6) t fr to])=encTs l0++[row k nm (encAs l) (some 6) t fr to]:=fun n g hn=>by
 unfold row;exact strip_row g (stripTs _ _ _) (stripAs _ _ _) (blt6 hn)
theorem end_tag (g:Hp){l0:List Tok}{k fr to:Int}{nm t:List UInt8}{l:List Att}:stripss 6 g (encTs l0++[row k nm (encAs l) (some 6) t fr to])=encTs l0++[row k nm (encAs l) none t fr to]:=by
 unfold row;exact strip_row0 g (stripTs _ _ _) (stripAs _ _ _) rfl
theorem end_raw (g:Hp){l0:List Tok}{k fr to:Int}{nm t:List UInt8}{l:List Att}{t7002:List UInt8}{f2 o2:Int}:stripss 6 g ((encTs l0++[row k nm (encAs l) (some 6) t fr to])++[row 7 [] [] none t7002 f2 o2])=encTs l0++[row k nm (encAs l) none t fr to]++[row 7 [] [] none t7002 f2 o2]:=by
 rw[stripss_app,end_tag];rfl
theorem pan_len {s:List UInt8}{KP:PX→Hp→Prop}{x:PX}(h:PanX [] s KP x)(a:Int)(L L':List (List AV))(hl:L.length=L'.length)(hid:Int):KP x [.grow 0 6 53,.mem 44 [.sl 6 [] (some 0)],.mem 3 [.int .i64 0],.mem 24 [.int .i64 0],.grow L.length 6 53,.mem 68 [.str s,.int .i64 a,.sl 6 L' (some 4),.int .i64 hid]]:=by
 rw[hl];exact h a L' hid
theorem encT_row (t:Tok):encTs [t]=[row t.kind t.name (encAs t.attrs) none t.text t.fr t.to]:=rfl
theorem hX_tag {s:List UInt8}{b:Int}{l0:List Tok}{t:Tok}{hid:Int}:hX s b (encTs (l0++[t])) hid=[.grow 0 6 53,.mem 44 [.sl 6 [] (some 0)],.mem 3 [.int .i64 0],.mem 24 [.int .i64 0],.grow ((encTs l0).length+1) 6 53,.mem 68 [.str s,.int .i64 b,.sl 6 (encTs l0++[row t.kind t.name (encAs t.attrs) none t.text t.fr t.to]) (some 4),.int .i64 hid]]:=by
 rw[encTs_app,encT_row];unfold hX;rw[len_app]
theorem tail22 {K:AV→Hp→Prop}{KP:PX→Hp→Prop}{s:List UInt8}{a b:Nat}{l0:List Tok}{hid:Int}{nm:List UInt8}{l:List Att}(hs:s.length≤limE)(hl0:l0.length<s.length)(hnm:nm.length≤limE)(hab:a≤b)(hb:b<s.length)(hc:s.getD b 0=62∨s.getD b 0=47)
  (h1:∀p e,(match tagEnd s a nm l b with|.error e=>.error e|.ok t=>rawM s t:Except Bad (List Tok))=.error (p,e)→PanX [] s KP ((p:Int),e))
  (h2:∀ts,(match tagEnd s a nm l b with|.error e=>.error e|.ok t=>rawM s t:Except Bad (List Tok))=.ok ts→K (.tup []) (hX s ((lastTo ts (a+1):Nat):Int) (encTs (l0++ts)) hid)):
  ToE cfg 37 (bodyOf Tryd.f37) (retQ Tryd.prog Tryd.f37 pfE 6 K KP) [.code [1,1,1,1]] .normal [(0,true,.ptr 5 0),(2,true,.int .i64 a),(3,true,.ptr 8 0)] (hTg s (b:Nat) (encTs l0) hid 2 nm (encAs l)):=by
 have hl0':(encTs l0).length≤1000000:=by rw[encTs_len];unfold limE at hs;omega
 refine t37b tab37 (gAnd_intro (inR_nat hb) ?_);simp only[Int.toNat_natCast];rw[byteI 47 47 rfl]
 refine ifP_intro (fun x=> ?_) fun x=> ?_
 ·have x47:s.getD b 0=47:=by simpa using x
  have wb:IntKind.wrap .i64 ((b:Int)+1)=((b+1:Nat):Int):=wrap_nat (by omega)
  rw[wb]
  refine⟨rT 3 nm (encAs l),s,b+1,encTs l0,hid,a,okT (rowsT l0),by omega,hs,rfl,rfl,fun y=> ?_,fun y=>⟨s,b+1,encTs l0,hid,3,a,nm,l,_,okT (rowsT l0),by omega,hs,rfl,rfl,fun z=>absurd z (by omega),fun _ z=> ?_,fun _ z=> ?_⟩⟩
  ·have:tagEnd s a nm l b=.error (a,14):=by unfold tagEnd;rw[if_pos x47];simp only;rw[if_pos (by omega)]
   rw[stripTs]
   exact h1 _ _ (by rw[this]) _ _ _
  ·rw[byteI 62 62 rfl] at z
   have z62:s.getD (b+1) 0≠62:=by simpa using z
   have:tagEnd s a nm l b=.error (b+1,12):=by unfold tagEnd;rw[if_pos x47];simp only;rw[if_neg (by omega),if_pos z62]
   rw[stripTs]
   exact h1 _ _ (by rw[this]) _ _ _
  ·rw[byteI 62 62 rfl] at z
   have z62:s.getD (b+1) 0=62:=by simpa using z
   have ht:tagEnd s a nm l b=.ok ⟨3,nm,l,cut s a (b+2),a,b+2⟩:=by unfold tagEnd;rw[if_pos x47];simp only;rw[if_neg (by omega),if_neg (by simpa using z62)];rfl
   have hk:=h2 [⟨3,nm,l,cut s a (b+2),a,b+2⟩] (by rw[ht];rfl)
   refine⟨s,b+2,a,encTs l0,hid,3,nm,l,okT (rowsT l0),by omega,hs,by omega,hl0',rfl,rfl,ifP_intro (fun q=>by cases q) fun _=> ?_⟩
   rw[end_tag,len_app];rw[hX_tag] at hk;exact hk
 ·have x62:s.getD b 0=62:=hc.resolve_right (by simpa using x)
  refine⟨rT 2 nm (encAs l),s,b,encTs l0,hid,a,okT (rowsT l0),by omega,hs,rfl,rfl,fun y=>absurd y (by omega),fun y=>⟨s,b,encTs l0,hid,2,a,nm,l,_,okT (rowsT l0),by omega,hs,rfl,rfl,fun z=>absurd z (by omega),fun _ z=> ?_,fun _ z=> ?_⟩⟩
  ·rw[byteI 62 62 rfl,x62] at z;cases z
  ·have ht:tagEnd s a nm l b=.ok ⟨2,nm,l,cut s a (b+1),a,b+1⟩:=by
    have h47:¬s.getD b 0=47:=by rw[x62];decide
    unfold tagEnd;simp only[h47,if_false,Nat.add_zero];rw[if_neg (by omega),if_neg (by rw[x62];simp)];rfl
   rw[ht] at h1 h2;simp only at h1 h2
   refine⟨s,b+1,a,encTs l0,hid,2,nm,l,okT (rowsT l0),by omega,hs,by omega,hl0',rfl,rfl,ifP_intro (fun _=> ?_) fun q=>by cases q⟩
   have raw:∀(hn:nm=removeS∨nm=inlineS),(fnd (closesS++nm) (s.drop (b+1))=none→PanX [] s KP ((a:Int),14))∧
     ∀n,fnd (closesS++nm) (s.drop (b+1))=some n→(∀j,fnd opensS ((s.drop (b+1)).take n)=some j→nm=removeS→PanX [] s KP (((b+1+j:Nat):Int),13))∧
      ((fnd opensS ((s.drop (b+1)).take n)=none∨nm≠removeS)→K (.tup []) (hX s ((b+1+n:Nat):Int) (encTs (l0++[⟨2,nm,l,cut s a (b+1),a,b+1⟩,⟨7,[],[],(s.drop (b+1)).take n,b+1,b+1+n⟩])) hid)):=by
    intro hn
    have e:rawM s ⟨2,nm,l,cut s a (b+1),a,b+1⟩=match fnd (closesS++nm) (s.drop (b+1)) with
      |none=>.error (a,14)
      |some n=>match fnd opensS ((s.drop (b+1)).take n),decide (nm=removeS) with
       |some k,true=>.error (b+1+k,13)
       |_,_=>.ok [⟨2,nm,l,cut s a (b+1),a,b+1⟩,⟨7,[],[],(s.drop (b+1)).take n,b+1,b+1+n⟩]:=by
     unfold rawM;rw[if_pos ⟨rfl,hn⟩];rfl
    refine⟨fun hf=>h1 _ _ (by rw[e,hf]),fun n hf=>⟨fun j hj hr=>h1 _ _ (by rw[e,hf];simp only[hj,decide_eq_true hr]),fun hno=> ?_⟩⟩
    refine h2 [⟨2,nm,l,cut s a (b+1),a,b+1⟩,⟨7,[],[],(s.drop (b+1)).take n,b+1,b+1+n⟩] (by
     rw[e,hf]
     rcases hno with hno|hno
     ·simp only[hno]
     ·simp only[decide_eq_false hno]
      cases fnd opensS ((s.drop (b+1)).take n)<;>rfl)
   have fin:(nm=removeS∨nm=inlineS)→∃(s31:List UInt8) (a32 tag33:Nat) (L34:List (List AV)) (hid35 k36:Int) (nm37:List UInt8) (l38:List Att),Keep.okX (rT k36 nm37 (encAs l38)) L34∧a32≤s31.length∧s31.length≤1000000∧L34.length≤1000000∧nm37.length≤1000000∧
     [AV.ptr 5 0,AV.str nm,AV.int .i64 (a:Int)]=[AV.ptr 5 0,AV.str nm37,AV.int .i64 (tag33:Int)]∧hTg s ((b+1:Nat):Int) (encTs l0++[row 2 nm (encAs l) (some 6) (cut s a (b+1)) a ((b+1:Nat):Int)]) hid 2 nm (encAs l)=hTg s31 a32 L34 hid35 k36 nm37 (encAs l38)∧
     (fnd ([60,47,101,115,105,58]++nm37) (List.drop a32 s31)=none→∀(a40:Int) (L41:List (List AV)) (hid42:Int),KP ((tag33:Int),14) [.grow 0 6 53,.mem 44 [.sl 6 [] (some 0)],.mem 3 [.int .i64 0],.mem 24 [.int .i64 0],.grow L41.length 6 53,.mem 68 [.str s31,.int .i64 a40,.sl 6 (stripss 6 (hX s31 a40 L41 hid42++rT k36 nm37 (encAs l38)) L41) (some 4),.int .i64 hid42]])∧
     ∀(n43:Nat),fnd ([60,47,101,115,105,58]++nm37) (List.drop a32 s31)=some n43→(∀(j45:Nat),fnd [60,101,115,105,58] (List.take n43 (List.drop a32 s31))=some j45→nm37=[114,101,109,111,118,101]→∀(a48:Int) (L49:List (List AV)) (hid50:Int),KP (((a32+j45:Nat):Int),13) [.grow 0 6 53,.mem 44 [.sl 6 [] (some 0)],.mem 3 [.int .i64 0],.mem 24 [.int .i64 0],.grow L49.length 6 53,.mem 68 [.str s31,.int .i64 a48,.sl 6 (stripss 6 (hX s31 a48 L49 hid50++rT k36 nm37 (encAs l38)) L49) (some 4),.int .i64 hid50]])∧
      (fnd [60,101,115,105,58] (List.take n43 (List.drop a32 s31))=none∨nm37≠[114,101,109,111,118,101]→K (.tup []) [.grow 0 6 53,.mem 44 [.sl 6 [] (some 0)],.mem 3 [.int .i64 0],.mem 24 [.int .i64 0],.grow (L34++[row 7 [] [] none (List.take n43 (List.drop a32 s31)) a32 ((a32+n43:Nat):Int)]).length 6 53,
       .mem 68 [.str s31,.int .i64 ((a32+n43:Nat):Int),.sl 6 (stripss 6 [.grow 0 6 53,.mem 44 [.sl 6 [] (some 0)],.mem 3 [.int .i64 0],.mem 24 [.int .i64 0],.grow (L34++[row 7 [] [] none (List.take n43 (List.drop a32 s31)) a32 ((a32+n43:Nat):Int)]).length 6 53,
        .mem 68 [.str s31,.int .i64 ((a32+n43:Nat):Int),.sl 6 (L34++[row 7 [] [] none (List.take n43 (List.drop a32 s31)) a32 ((a32+n43:Nat):Int)]) (some 4),.int .i64 hid35],.grow (encAs l38).length 3 32,.grow 0 3 32,.mem 53 [.int .i64 k36,.str nm37,.sl 3 (encAs l38) (some 6),.str [],.int .i64 0,.int .i64 0]]
        (L34++[row 7 [] [] none (List.take n43 (List.drop a32 s31)) a32 ((a32+n43:Nat):Int)])) (some 4),.int .i64 hid35]]):=by
    intro hn;obtain⟨r1,r2⟩:=raw hn
    refine⟨s,b+1,a,_,hid,2,nm,l,okT rows_tag,by omega,hs,by rw[len_app,encTs_len];unfold limE at hs;omega,hnm,rfl,rfl,fun hf a40 L41 hid42=>pan_len (r1 hf) _ _ _ (stripss_len _ _ _).symm _,fun n hf=>⟨fun j hj hr a48 L49 hid50=>pan_len ((r2 n hf).1 j hj hr) _ _ _ (stripss_len _ _ _).symm _,fun hno=> ?_⟩⟩
    have hk:=(r2 n hf).2 hno;rw[end_raw,len_app,len_app]
    rw[show l0++[(⟨2,nm,l,cut s a (b+1),a,b+1⟩:Tok),⟨7,[],[],(s.drop (b+1)).take n,b+1,b+1+n⟩]=(l0++[⟨2,nm,l,cut s a (b+1),a,b+1⟩])++[⟨7,[],[],(s.drop (b+1)).take n,b+1,b+1+n⟩] by simp,hX_tag,encTs_app,encT_row,len_app] at hk
    exact hk
   refine ifP_intro (fun q=>fin (.inl (by simpa[removeS] using q))) fun q1=>ifP_intro (fun q=>fin (.inr (by simpa[inlineS] using q))) fun q2=> ?_
   have hno:¬(nm=removeS∨nm=inlineS):=by
    rintro(h|h)
    ·subst h;simp[removeS] at q1
    ·subst h;simp[inlineS] at q2
   have hk:=h2 [⟨2,nm,l,cut s a (b+1),a,b+1⟩] (by unfold rawM;rw[if_neg (fun h=>hno h.2)])
   rw[end_tag,len_app];rw[hX_tag] at hk;exact hk
theorem encAs_app (l:List Att)(a:Att):encAs (l++[a])=encAs l++[encA a]:=by unfold encAs;rw[List.map_append];rfl
theorem loop37 {K:AV→Hp→Prop}{KP:PX→Hp→Prop}{s:List UInt8}{a:Nat}{l0:List Tok}{hid:Int}{nm:List UInt8}(hs:s.length≤limE)(hl0:l0.length<s.length)(hnm:nm.length≤limE):
  ∀(f b:Nat) (l:List Att),s.length-b<f→a≤b→b≤s.length→l.length≤b→
  (∀p e,(match attrsM s a f b l with|.error e=>.error e|.ok (l',b')=>(match tagEnd s a nm l' b' with|.error e=>.error e|.ok t=>rawM s t):Except Bad (List Tok))=.error (p,e)→PanX [] s KP ((p:Int),e))→
  (∀ts,(match attrsM s a f b l with|.error e=>.error e|.ok (l',b')=>(match tagEnd s a nm l' b' with|.error e=>.error e|.ok t=>rawM s t):Except Bad (List Tok))=.ok ts→K (.tup []) (hX s ((lastTo ts (a+1):Nat):Int) (encTs (l0++ts)) hid))→
  ToE cfg 37 (bodyOf Tryd.f37) (retQ Tryd.prog Tryd.f37 pfE 6 K KP) [.code [0,0,1,1,1],.block 0,.code [1,1,1,1]] .normal [(0,true,.ptr 5 0),(2,true,.int .i64 a),(3,true,.ptr 8 0)] (hTg s (b:Nat) (encTs l0) hid 2 nm (encAs l))
 |0,b,l,hf,_,_,_,_,_=>by omega
 |f+1,b,l,hf,hab,hb,hl,h1,h2=>by
  obtain⟨p1,p2⟩:=past_le hb
  have ew:(((past s b-b:Nat):Int)==0)=decide (past s b=b):=by
   rw[Bool.eq_iff_iff];simp;omega
  refine t37a tab37 ⟨s,b,encTs l0,hid,2,nm,l,okT (rowsT l0),hb,hs,rfl,rfl,rT 2 nm (encAs l),s,past s b,encTs l0,hid,a,okT (rowsT l0),p2,hs,rfl,rfl,fun x=> ?_,fun x=> ?_⟩
  ·rw[attrsM] at h1
   try simp only at h1
   rw[if_pos (by omega)] at h1
   rw[stripTs];exact h1 _ _ rfl _ _ _
  rw[attrsM] at h1 h2
  try simp only at h1 h2
  rw[if_neg (by omega)] at h1 h2
  rw[byteI 62 62 rfl,byteI 47 47 rfl,ew]
  refine ifP_intro (fun y=> ?_) fun y=>ifP_intro (fun z=> ?_) fun z=>ifP_intro (fun w=> ?_) fun w=> ?_
  ·have hc:s.getD (past s b) 0=62∨s.getD (past s b) 0=47:=.inl (by simpa using y)
   rw[if_pos hc] at h1 h2
   exact tail22 hs hl0 hnm (by omega) x hc h1 h2
  ·have hc:s.getD (past s b) 0=62∨s.getD (past s b) 0=47:=.inr (by simpa using z)
   rw[if_pos hc] at h1 h2
   exact tail22 hs hl0 hnm (by omega) x hc h1 h2
  ·have hc:¬(s.getD (past s b) 0=62∨s.getD (past s b) 0=47):=by
    rintro(h|h)
    ·rw[h] at y;simp at y
    ·rw[h] at z;simp at z
   rw[if_neg hc,if_pos (by simpa using w)] at h1
   refine⟨past s b,12,rfl,?_⟩
   rw[stripTs,show past s b=b by simpa using w]
   exact h1 _ _ rfl _ _ _
  ·have hc:¬(s.getD (past s b) 0=62∨s.getD (past s b) 0=47):=by
    rintro(h|h)
    ·rw[h] at y;simp at y
    ·rw[h] at z;simp at z
   have hw:¬past s b=b:=by simpa using w
   rw[if_neg hc,if_neg hw] at h1 h2
   refine⟨s,past s b,encTs l0,hid,a,2,a,nm,l,okT (rowsT l0),p2,hs,by show l.length≤limE;omega,rfl,rfl,rfl,fun p e he a30 L31 hid32=> ?_,fun at' b' he=>⟨rfl,gAnd_intro ?_ ?_⟩⟩
   ·rw[he] at h1;exact pan_len (h1 _ _ rfl) _ _ _ (stripss_len _ _ _).symm _
   ·have:(encAs l).length=l.length:=by simp[encAs]
    simp only[tagOk,List.getElem?_cons_succ,List.getElem?_cons_zero,Nat.beq_refl,Bool.and_self,Bool.true_and,Bool.and_true]
    rw[decide_eq_true (by rw[this];unfold limE at hs;omega)]
   ·obtain⟨q1,q2⟩:=attrM_ok he;rw[he] at h1 h2;simp only at h1 h2
    have:=loop37 hs hl0 hnm f b' (l++[at']) (by omega) (by omega) q2 (by simp;omega) h1 h2
    rw[encAs_app] at this;unfold hTg at this;rw[len_app] at this;exact this
theorem c37 :COkP cfg pfE 37 openTC:=by
 refine cokP_heap hf37 fun vs h K KP ht=> ?_
 obtain⟨s,a,l,hid,hh,ha,hs,hl,rfl,rfl,h1,h2⟩:=ht
 have h6:a+5≤s.length:=has_le hh (by decide)
 have e6:IntKind.wrap .i64 ((a:Int)+5)=((a+5:Nat):Int):=wrap_add (b:=5) (by omega)
 have hll:=lets_le s (a+5);unfold openR openM at h1 h2;simp only at h1 h2
 refine t37 tab37 ⟨s,a+5,encTs l,hid,a,ok0 l,h6,hs,rfl,by rw[e6],fun hk a7 L8 hid9=> ?_,fun hk=> ?_⟩
 ·rw[if_pos hk] at h1;exact pan_up (h1 _ _ rfl) _ _ _ _
 ·rw[if_neg (by rw[hk];simp)] at h1 h2
  have hn:lets s (a+5)≤limE:=by omega
  refine loop37 hs (by omega) (by rw[List.length_take,List.length_drop];omega) (s.length+1) _ [] (by omega) (by omega) (by omega) (by simp) (fun p e he=>h1 p e ?_) fun ts he=>h2 ts ?_
  ·rw[←he]
   cases attrsM s a (s.length+1) (a+5+lets s (a+5)) [] with
   |error e=>rfl
   |ok r=>rfl
  ·rw[←he]
   cases attrsM s a (s.length+1) (a+5+lets s (a+5)) [] with
   |error e=>rfl
   |ok r=>rfl
end Go.Proofs.YtopjpnhgnopbiaaDoor.Lx
end
section
namespace Go.Proofs.YtopjpnhgnopbiaaDoor.Lx
open Go.Ai Go Go.Ai.Ex
set_option maxRecDepth 100000
def chE (x:PX):List PanicEntry:=[{v:=.iface 65 (.agg #[.int .i64 x.1,.int .i64 x.2]),recovered:=false}]
theorem fail_calls (p e:Int)(w:World):Calls Tryd.prog 25 #[.int .i64 p,.int .i64 e] w fun en w'=>en=.panicked (chE (p,e))∧w'=w:=by
 go_enter Tryd.func25,Tryd.f25
 go_wp
 first|exact⟨rfl,rfl,rfl⟩|exact⟨rfl,rfl⟩
theorem pfE_ok {I:World→Prop}{B0:Nat}:PFOk cfg I B0 chE pfE:=by
 intro k vs x h;unfold pfE at h;split at h
 ·rename_i p e hk;have hk:=Nat.eq_of_beq_eq_true hk;subst hk
  injection h with h
  subst h
  refine⟨⟨Tryd.f25,Tryd.func25,by kernel_rfl,by kernel_rfl⟩,fun E args H hr=> ?_⟩
  obtain⟨a,r,rfl,rfl,b,r2,rfl,rfl,rfl⟩:=hr
  exact(fail_calls p e E.w).mono fun en w' ⟨h1,h2⟩=>⟨h1,E,h2.symm,Step.refl H,rfl⟩
 ·cases h
theorem take_ret (a0 a1 a2:Value)(w:World):CallsD Tryd.prog 22 #[a0,a1,a2] .returning w fun en u w'=>(∃v,en=.returned v)∧u=.returning∧w'=w:=by
 refine callsD_of_wpS Tryd.func22 rfl fun c₀ cs hc=> ?_
 simp only[Tryd.f22,List.size_toArray,List.length_cons,List.length_nil,Nat.reduceAdd,Nat.reduceSub,Array.replicate_succ,Array.replicate_zero,List.push_toArray,List.append_toArray,List.nil_append,List.cons_append];refine wpS_seq (wpS_region ?_)
 have hr:recoverD (c₀::cs)=none:=by simp[recoverD,hc]
 simp[wpOpsS,go_sem,hr,List.range,List.range.loop];refine wpS_of_wp ?_
 go_wp
 simp only[bodyPostS];refine⟨trivial,c₀.mode,rfl,.tuple #[],results_none rfl _ _ _,⟨_,rfl⟩,hc,trivial⟩
theorem rec_op {P:Program}{o:Oper}{Q:Exit→Act→List Frame→World→Prop}{a:Act}{cs cs':List Frame}{v:Value}{w:World}(hg:o.guard=none){ats:Array TypeId}(hop:o.op=.call {callee:=.builtin .recover,args:= #[],argTypes:=ats})
  (hr:recoverD cs=some (v,cs')) (h:Q .normal (a.put o.dst v) cs' w):wpOpsS P #[o] Q (List.range (#[o]:Array Oper).size) a cs w:=by
 obtain⟨d,op,ty,pos,after,gd⟩:=o;simp only at hg hop;subst hg;subst hop;simp[wpOpsS,go_sem,hr,List.range,List.range.loop];exact h
theorem take_pan {I:World→Prop}{B0:Nat}(S0:Sound cfg I B0)(p e:Int){h h2:Hp}(hrun:ToEnd cfg 22 (bodyOf Tryd.f22) (fun _ h'=>h'=h2) [.code [1]] .normal [(0,true,.ptr 1 0),(1,true,.ptr 2 0),(2,true,.ptr 3 0),(6,true,.iface 65 (.agg [.int .i64 p,.int .i64 e]))] h):
  TakesD cfg I B0 chE 22 [.ptr 1 0,.ptr 2 0,.ptr 3 0] (p,e) h h2:=by
 intro E vals H hE hr;obtain⟨x,F',h',⟨n0,hx⟩,he,hq⟩:=hrun;have hq:h'=h2:=hq;subst hq
 refine callsD_of_wpS Tryd.func22 rfl fun c₀ cs hc=> ?_
 have hfr:=argFr_ok hr 16;obtain⟨a0,r0,rfl,k0,a1,r1,rfl,k1,a2,r2,rfl,k2,rfl⟩:=hr
 have hrec:recoverD (c₀::cs)=some (.iface 65 (.agg #[.int .i64 p,.int .i64 e]),{c₀ with mode:=.panicking [{v:=.iface 65 (.agg #[.int .i64 p,.int .i64 e]),recovered:=true}]}::cs):=by simp[recoverD,hc,chE]
 have hput:FrsOk E (putF (argFr 0 [.ptr 1 0,.ptr 2 0,.ptr 3 0]) (some 6) (true,.iface 65 (.agg [.int .i64 p,.int .i64 e]))) (({tmps:= #[a0,a1,a2]++Array.replicate (16-(#[a0,a1,a2]:Array Value).size) undef,defers:=[]}:Act).put (some 6) (.iface 65 (.agg #[.int .i64 p,.int .i64 e]))):=
  FrsOk.put hfr (n:=16) (by kernel_rfl) (by simp) (fun _=>⟨_,rfl,_,rfl,_,_,rfl,rfl,rfl,_,_,rfl,rfl,rfl,rfl⟩) (fun h=>by cases h)
 have hput2:FrsOk E [(0,true,.ptr 1 0),(1,true,.ptr 2 0),(2,true,.ptr 3 0),(6,true,.iface 65 (.agg [.int .i64 p,.int .i64 e]))] (({tmps:= #[a0,a1,a2]++Array.replicate (16-(#[a0,a1,a2]:Array Value).size) undef,defers:=[]}:Act).put (some 6) (.iface 65 (.agg #[.int .i64 p,.int .i64 e]))):=by
  refine hput.eq fun n=> ?_
  simp only[putF,argFr,lk]
  by_cases h6:n=6
  ·subst h6;rfl
  ·have e6:Nat.beq 6 n=false:=by
    cases hb:Nat.beq 6 n with
    |false=>rfl
    |true=>exact absurd (Nat.eq_of_beq_eq_true hb).symm h6
   rw[e6];rfl
 have hcode:=S0.codes 22 Tryd.f22 _ (by kernel_rfl) (by kernel_rfl) (by kernel_rfl) Tryd.func22 rfl
 have hcode2:okCode cfg.P Tryd.f22.ntmps (cfg.allD 22) (codeAt (bodyOf Tryd.f22) [1])=true:=by
  have h3:okCode cfg.P Tryd.f22.ntmps (cfg.allD 22) (.seq (codeAt (bodyOf Tryd.f22) [0]) (codeAt (bodyOf Tryd.f22) [1]))=true:=hcode;simp only[okCode,Bool.and_eq_true] at h3;exact h3.2
 have main:=all_ok S0 n0 22 _ _ _ x F' h' _ (hx n0 (Nat.le_refl _)) hcode2 E _ hE H hput2 (by rw[show Tryd.f22.ntmps=16 from rfl];simp[Act.put])
 refine wpS_seq (wpS_region (rec_op rfl rfl hrec ?_))
 refine wpS_of_wp (main _ fun E' a' S hE' hf' hs hd=> ?_)
 have hd0:a'.defers=[]:=hd.resolve_left (by rw[show cfg.dfr 22=false by kernel_rfl];simp)
 have fin:a'.defers=[]∧∃u',({c₀ with mode:=.panicking [{v:=.iface 65 (.agg #[.int .i64 p,.int .i64 e]),recovered:=true}]}:Frame)::cs={c₀ with mode:=u'}::cs∧∃v,(results Tryd.f22 a'.tmps).run Tryd.prog E'.w=.ok v E'.w∧
   ((∃r,(Ending.returned v)=.returned r)∧settle u'=.returning∧∃E2,E2.w=E'.w∧Step cfg.G I B0 E E2∧E2.h=h'):=
  ⟨hd0,_,rfl,.tuple #[],results_none rfl _ _ _,⟨_,rfl⟩,rfl,E',rfl,S,hE'⟩
 cases x with
 |normal=>exact fin
 |ret=>exact fin
 |_=>cases he
end Go.Proofs.YtopjpnhgnopbiaaDoor.Lx
end
section
namespace Go.Ai.Ex
open Go.Ai Go.RowKit
def hidI :Option Nat→Int
 |some h=>h
 |none=> -1
def lexV :Except Bad (List Tok)→AV
 |.ok l=>.tup [.sl 6 (encTs l) none,.int .i64 0,.int .i64 0]
 |.error (p,e)=>.tup [.sl 0 [] none,.int .i64 p,.int .i64 e]
theorem hid_iff (hid:Option Nat):decide (0≤hidI hid)=hid.isSome:=by
 cases hid with
 |none=>rfl
 |some h=>simp[hidI]
theorem open_far {s:List UInt8}{tag:Nat}{t:Tok}(hl:tag+5≤s.length)(h:openM s tag=.ok t):tag+6≤t.to∧t.to≤s.length:=by
 unfold openM at h;simp only at h;split at h
 ·cases h
 ·have hn:=lets_le s (tag+5);split at h
  ·cases h
  ·rename_i l b hb
   obtain⟨q1,q2⟩:=attrsM_ok _ _ _ _ _ (by omega) hb
   obtain⟨k1,k2,k3,k4,k5,k6⟩:=tagEnd_ok h
   exact⟨by omega,k6⟩
def fwd (s:List UInt8)(a:Nat)(ts:List Tok):Prop:=a+ts.length≤lastTo ts (a+1)∧a<lastTo ts (a+1)∧lastTo ts (a+1)≤s.length
theorem openR_fwd {s:List UInt8}{a:Nat}{ts:List Tok}(hl:a+5≤s.length)(h:openR s a=.ok ts):fwd s a ts:=by
 unfold openR at h;split at h
 ·cases h
 ·rename_i t ht;obtain⟨q1,q2⟩:=open_far hl ht
  rcases rawM_ok h with ⟨_,rfl⟩|⟨_,_,n,hf,rfl⟩
  ·simp only[fwd,lastTo,List.getLast?_singleton,List.length_singleton];omega
  ·have:=fnd_le hf;rw[List.length_drop,List.length_append] at this;have e:lastTo [t,⟨7,[],[],(s.drop t.to).take n,t.to,t.to+n⟩] (a+1)=t.to+n:=rfl;simp only[fwd,e,List.length_cons,List.length_nil];omega
theorem close_fwd {s:List UInt8}{a:Nat}{t:Tok}(hl:a+6≤s.length)(h:closeM s a=.ok t):fwd s a [t]:=by
 obtain⟨_,_,_,_,_,q1,q2⟩:=closeM_ok hl h;have e:lastTo [t] (a+1)=t.to:=rfl;simp only[fwd,e,List.length_cons,List.length_nil];omega
def endB :Option Nat→Except Bad (List Tok)
 |some h=>.error (h,14)
 |none=>.ok []
theorem lexG_succ (s:List UInt8)(f a:Nat)(hid:Option Nat):lexG s (f+1) a hid=
  if s.length≤a then endB hid else
  if spec s a hid.isSome=true then
   match nextM s a hid with
   |.error e=>.error e
   |.ok (l,hid2)=>match lexG s f (lastTo l (a+1)) hid2 with
    |.error e=>.error e
    |.ok r=>.ok (l++r)
  else
   match lexG s f (textTo s hid.isSome (s.length-a) a) hid with
   |.error e=>.error e
   |.ok r=>.ok (⟨1,[],[],cut s a (textTo s hid.isSome (s.length-a) a),a,textTo s hid.isSome (s.length-a) a⟩::r):=by
 rw[lexG.eq_def]
 cases hid<;>rfl
theorem lexG_pend {s:List UInt8}{fr a:Nat}{hid:Option Nat}{f:Nat}(hfa:fr≤a)(ha:a≤s.length)(hno:∀j,fr≤j→j<a→spec s j hid.isSome=false)(hstop:a=s.length∨spec s a hid.isSome=true)(hf:s.length-fr<f):
  ∃g,s.length-a<g∧lexG s f fr hid=match lexG s g a hid with|.error e=>.error e|.ok r=>.ok (textL s fr a++r):=by
 rcases Nat.eq_or_lt_of_le hfa with rfl|hlt
 ·refine⟨f,hf,?_⟩
  rw[textL,if_neg (by omega)]
  cases lexG s f fr hid<;>rfl
 ·cases f with
  |zero=>omega
  |succ f=>
   refine⟨f,by omega,?_⟩
   have ht:textTo s hid.isSome (s.length-fr) fr=a:=by
    have:=textTo_is (s:=s) (hid:=hid.isSome) (a-fr) (s.length-fr) fr (fun j hj=>hno (fr+j) (by omega) (by omega)) (by omega) (by rw[show fr+(a-fr)=a by omega];exact hstop) (by omega)
    rw[this];omega
   have h0:spec s fr hid.isSome=false:=hno fr (Nat.le_refl _) hlt
   rw[lexG_succ,if_neg (by omega),if_neg (by rw[h0];simp)]
   simp only[ht];rw[textL,if_pos hlt]
   cases lexG s f a hid<;>rfl
theorem lexG_next {s:List UInt8}{a:Nat}{hid:Option Nat}{g:Nat}(ha:a<s.length)(hsp:spec s a hid.isSome=true):lexG s (g+1) a hid=match nextM s a hid with|.error e=>.error e|.ok (l,hid2)=>(match lexG s g (lastTo l (a+1)) hid2 with|.error e=>.error e|.ok r=>.ok (l++r)):=by
 rw[lexG_succ,if_neg (by omega),if_pos hsp]
end Go.Ai.Ex
namespace Go.Proofs.YtopjpnhgnopbiaaDoor.Lx
open Go.Ai Go Go.Ai.Ex
set_option maxRecDepth 100000
theorem c23t :COk cfg 23 findTC:=by
 intro l h K ht;obtain⟨s,a,l',hid,ha,hs,e1,rfl,h0,h1,h2,h3,h4⟩:=ht;refine c23 l _ K ⟨s,a,l',hid,ha,hs,e1,rfl,?_⟩;unfold findV;unfold findN at h0 h1 h2 h3 h4
 by_cases q1:has s opensS a=true
 ·rw[if_pos q1] at h1⊢;exact h1 rfl
 rw[if_neg q1] at h0 h2 h3 h4⊢
 by_cases q2:has s closesS a=true
 ·rw[if_pos q2] at h2⊢;exact h2 rfl
 rw[if_neg q2] at h0 h3 h4⊢
 by_cases q3:hideB s a=true
 ·rw[if_pos q3] at h3⊢;exact h3 rfl
 rw[if_neg q3] at h0 h4⊢
 by_cases q4:(has s showsS a&&decide (0≤hid))=true
 ·rw[if_pos q4] at h4⊢;exact h4 rfl
 ·rw[if_neg q4] at h0⊢;exact h0 rfl
theorem tab15 :TabPOk cfg pfE (ctabP [(23,findTC),(24,textTC),(41,showTC)] [(25,failC),(37,openTC),(38,closeTC),(40,hideTC)]):=
 ctabP_ok (ctab_cons c23t (ctab_cons c24 (ctab_cons c41 ctab_nil))) (tabP_cons c25 (tabP_cons c37 (tabP_cons c38 (tabP_cons c40 tabP_nil))))
def cap14 :List AV:=[.ptr 1 0,.ptr 2 0,.ptr 3 0]
theorem rd23 (x:AV)(r:List AV):rd cfg.P 44 (x::r)=some x:=by kernel_rfl
theorem rd3 (x:AV)(r:List AV):rd cfg.P 3 (x::r)=some x:=by kernel_rfl
theorem rd24 (x:AV)(r:List AV):rd cfg.P 24 (x::r)=some x:=by kernel_rfl
theorem res8 {F:Fr}(h2:lk F 2=(true,.ptr 1 0))(h3:lk F 3=(true,.ptr 2 0))(h4:lk F 4=(true,.ptr 3 0))(x0:Blk)(x y z:AV)(r:Hp):result cfg.P Tryd.f15 F (x0:: .mem 44 [x]:: .mem 3 [y]:: .mem 24 [z]::r)=some (.tup [x,y,z]):=by
 have e:Tryd.f15.results.toList=[.cell 2 44,.cell 3 3,.cell 4 24]:=rfl;unfold result;rw[e];simp only[resAll,resOne,h2,h3,h4,List.getElem?_cons_succ,List.getElem?_cons_zero,List.drop_zero,rd23,rd3,rd24,Option.map_some,Bool.and_self]
section
variable {I:World→Prop}{B0:Nat}
def qE (v:AV):Fr→Hp→Prop:=fun F h=>(lk F dS).2=.dfr [.fn (.func 22) [] cap14]∧∃u,result cfg.P Tryd.f15 F h=some u∧stripR 0 h u=v
def pE (I:World→Prop)(B0:Nat)(v:AV):Fr→PX→Hp→Prop:=fun F x h=>(lk F dS).2=.dfr [.fn (.func 22) [] cap14]∧∃h2 u,TakesD cfg I B0 chE 22 cap14 x h h2∧result cfg.P Tryd.f15 F h2=some u∧stripR 0 h2 u=v
theorem panQ (S0:Sound cfg I B0){v:AV}{F:Fr}{s:List UInt8}{p e:Int}(hd:(lk F dS).2=.dfr [.fn (.func 22) [] cap14])(h2:lk F 2=(true,.ptr 1 0))(h3:lk F 3=(true,.ptr 2 0))(h4:lk F 4=(true,.ptr 3 0))
  (hv:v=.tup [.sl 0 [] none,.int .i64 p,.int .i64 e]) (a:Int) (L:List (List AV)) (hid:Int):pE I B0 v F (p,e) (hX s a L hid):=by
 refine⟨hd,_,_,take_pan S0 p e (t22 noT rfl),res8 h2 h3 h4 _ _ _ _ _,?_⟩;rw[hv];rfl
theorem tok_end (S0:Sound cfg I B0){v:AV}{s:List UInt8}{fr:Nat}{l:List Tok}{hid:Option Nat}(hs:s.length≤limE)(hfr:fr≤s.length)(hl:l.length≤s.length)(hno:∀j,fr≤j→j<s.length→spec s j hid.isSome=false){f:Nat}(hf:s.length-fr<f)
  (hv:v=lexV (match lexG s f fr hid with|.error e=>.error e|.ok r=>.ok (l++r))):
  ToE cfg 15 (bodyOf Tryd.f15) (QP.mk pfE (qE v) (pE I B0 v)) [.code [1,1,1,1,1]] .normal [(2,true,.ptr 1 0),(3,true,.ptr 2 0),(4,true,.ptr 3 0),(5,true,.ptr 5 0),(6,true,.int .i64 fr),(1000000,true,.dfr [.fn (.func 22) [] cap14])] (hX s (s.length:Nat) (encTs l) (hidI hid)):=by
 obtain⟨g,hg,e⟩:=lexG_pend (f:=f) hfr (Nat.le_refl _) hno (.inl rfl) hf
 obtain⟨g,rfl⟩:∃k,g=k+1:=⟨g-1,by omega⟩
 have eg:lexG s (g+1) s.length hid=endB hid:=by
  rw[lexG_succ,if_pos (Nat.le_refl _)]
 rw[e,eg] at hv
 refine t15b tab15 ⟨s,fr,s.length,l,hidI hid,hfr,Nat.le_refl _,hs,hl,rfl,rfl,ifP_intro (fun x=>⟨_,14,rfl,?_⟩) fun x=> ?_⟩
 ·cases hid with
  |none=>simp[hidI] at x
  |some h=>exact panQ S0 rfl rfl rfl rfl hv _ _ _
 ·cases hid with
  |some h=>simp[hidI] at x
  |none=>
   simp only[endB,List.append_nil] at hv;refine⟨rfl,_,res8 rfl rfl rfl _ _ _ _ _,?_⟩;rw[hv];show AV.tup [.sl 6 (stripss 0 _ (encTs (l++textL s fr s.length))) none,.int .i64 0,.int .i64 0]=_;rw[stripTs];rfl
theorem tok_loop (S0:Sound cfg I B0){v:AV}{s:List UInt8}(hs:s.length≤limE):∀(n a fr:Nat) (l:List Tok) (hid:Option Nat) (f:Nat),s.length-a≤n→fr≤a→a≤s.length→l.length≤fr→(∀j,fr≤j→j<a→spec s j hid.isSome=false)→s.length-fr<f→
  v=lexV (match lexG s f fr hid with|.error e=>.error e|.ok r=>.ok (l++r))→
  ToE cfg 15 (bodyOf Tryd.f15) (QP.mk pfE (qE v) (pE I B0 v)) [.code [0,0,1,1,1,1],.block 0,.code [1,1,1,1,1]] .normal [(0,true,.str s),(2,true,.ptr 1 0),(3,true,.ptr 2 0),(4,true,.ptr 3 0),(5,true,.ptr 5 0),(6,true,.int .i64 fr),(1000000,true,.dfr [.fn (.func 22) [] cap14])] (hX s (a:Nat) (encTs l) (hidI hid)):=by
 intro n
 induction n with
 |zero=>
  intro a fr l hid f hn hfr ha hl hno hf hv
  have:a=s.length:=by omega
  subst this
  refine t15a tab15 (ifP_intro (fun x=>by simp at x) fun x=> ?_)
  exact tok_end S0 hs hfr (by omega) hno hf hv
 |succ n ih=>
  intro a fr l hid f hn hfr ha hl hno hf hv
  by_cases hal:a=s.length
  ·subst hal
   refine t15a tab15 (ifP_intro (fun x=>by simp at x) fun x=> ?_)
   exact tok_end S0 hs hfr (by omega) hno hf hv
  have hlt:a<s.length:=by omega
  have hspec:spec s a hid.isSome=decide (findN s a hid.isSome≠0):=by
   unfold spec findN
   cases has s opensS a<;>cases has s closesS a<;>cases hideB s a<;>cases has s showsS a<;>cases hid.isSome<;>rfl
  have take:∀(ts:List Tok) (hid2:Option Nat),spec s a hid.isSome=true→nextM s a hid=.ok (ts,hid2)→fwd s a ts→
    ToE cfg 15 (bodyOf Tryd.f15) (QP.mk pfE (qE v) (pE I B0 v)) [.code [0,0,1,1,1,1],.block 0,.code [1,1,1,1,1]] .normal [(0,true,.str s),(2,true,.ptr 1 0),(3,true,.ptr 2 0),(4,true,.ptr 3 0),(5,true,.ptr 5 0),(6,true,.int .i64 ((lastTo ts (a+1):Nat):Int)),(1000000,true,.dfr [.fn (.func 22) [] cap14])]
     (hX s ((lastTo ts (a+1):Nat):Int) (encTs ((l++textL s fr a)++ts)) (hidI hid2)):=by
   intro ts hid2 hsp hnx hfw;obtain⟨w1,w2,w3⟩:=hfw;obtain⟨g,hg,e⟩:=lexG_pend (f:=f) hfr ha hno (.inr hsp) hf
   obtain⟨g,rfl⟩:∃k,g=k+1:=⟨g-1,by omega⟩
   rw[lexG_next hlt hsp,hnx] at e;simp only at e
   have htl:(textL s fr a).length≤a-fr:=by
    unfold textL;split
    ·simp;omega
    ·simp
   refine ih (lastTo ts (a+1)) (lastTo ts (a+1)) _ hid2 g (by omega) (Nat.le_refl _) w3 ?_ (fun j h1 h2=>by omega) (by omega) ?_
   ·simp only[List.length_append];omega
   ·rw[hv,e]
    cases lexG s g (lastTo ts (a+1)) hid2 with
    |error e=>rfl
    |ok r=>simp only[List.append_assoc]
  have bad:∀(p:Nat) (e:Int),spec s a hid.isSome=true→nextM s a hid=.error (p,e)→v=.tup [.sl 0 [] none,.int .i64 p,.int .i64 e]:=by
   intro p e hsp hnx;obtain⟨g,hg,eq⟩:=lexG_pend (f:=f) hfr ha hno (.inr hsp) hf
   obtain⟨g,rfl⟩:∃k,g=k+1:=⟨g-1,by omega⟩
   rw[lexG_next hlt hsp,hnx] at eq;rw[hv,eq];rfl
  have hll:(l++textL s fr a).length≤a:=by
   have htl:(textL s fr a).length≤a-fr:=by
    unfold textL;split
    ·simp;omega
    ·simp
   simp only[List.length_append];omega
  refine t15a tab15 (ifP_intro (fun _=>⟨s,a,l,hidI hid,ha,hs,rfl,rfl,fun q=> ?_,fun q=> ?_,fun q=> ?_,fun q=> ?_,fun q=> ?_⟩) fun x=>by simp at x;omega)
  all_goals rw[hid_iff] at q
  ·rw[wrap_nat (by omega)]
   refine ih (a+1) fr l hid f (by omega) (by omega) (by omega) hl (fun j h1 h2=> ?_) hf hv
   rcases Nat.lt_or_ge j a with h|h
   ·exact hno j h1 h
   ·have:j=a:=by omega
    subst this;rw[hspec,q];rfl
  ·have hsp:spec s a hid.isSome=true:=by rw[hspec,q];rfl
   have ho:has s opensS a=true:=by
    unfold findN at q
    by_cases h:has s opensS a=true
    ·exact h
    ·rw[if_neg h] at q;split at q<;>(try split at q)<;>(try split at q)<;>omega
   have h5:a+5≤s.length:=has_le ho (by decide)
   have hnx:nextM s a hid=match openR s a with|.error e=>.error e|.ok ts=>.ok (ts,hid):=by
    unfold nextM openR;rw[if_pos ho]
    cases openM s a with
    |error e=>rfl
    |ok t=>simp only;cases rawM s t<;>rfl
   refine⟨s,fr,a,l,hidI hid,hfr,ha,hs,by omega,rfl,rfl,s,a,_,hidI hid,ho,ha,hs,by omega,rfl,rfl,fun p e he a19 L20 hid21=>panQ S0 rfl rfl rfl rfl (bad p e hsp (by rw[hnx,he])) _ _ _,fun ts he=> ?_⟩
   exact take ts hid hsp (by rw[hnx,he]) (openR_fwd h5 he)
  ·have hsp:spec s a hid.isSome=true:=by rw[hspec,q];rfl
   have ho:¬has s opensS a=true:=fun h=>by unfold findN at q;rw[if_pos h] at q;cases q
   have hc:has s closesS a=true:=by
    unfold findN at q;rw[if_neg ho] at q
    by_cases h:has s closesS a=true
    ·exact h
    ·rw[if_neg h] at q;split at q<;>(try split at q)<;>omega
   have h6:a+6≤s.length:=has_le hc (by decide)
   have hnx:nextM s a hid=match closeM s a with|.error e=>.error e|.ok t=>.ok ([t],hid):=by
    unfold nextM;rw[if_neg ho,if_pos hc]
    cases closeM s a<;>rfl
   refine⟨s,fr,a,l,hidI hid,hfr,ha,hs,by omega,rfl,rfl,s,a,_,hidI hid,hc,ha,hs,by omega,rfl,rfl,fun p e he a19 L20 hid21=>panQ S0 rfl rfl rfl rfl (bad p e hsp (by rw[hnx,he])) _ _ _,fun t he=> ?_⟩
   exact take [t] hid hsp (by rw[hnx,he]) (close_fwd h6 he)
  ·have hsp:spec s a hid.isSome=true:=by rw[hspec,q];rfl
   have ho:¬has s opensS a=true:=fun h=>by unfold findN at q;rw[if_pos h] at q;cases q
   have hc:¬has s closesS a=true:=fun h=>by unfold findN at q;rw[if_neg ho,if_pos h] at q;cases q
   have hh:hideB s a=true:=by
    unfold findN at q;rw[if_neg ho,if_neg hc] at q
    by_cases h:hideB s a=true
    ·exact h
    ·rw[if_neg h] at q;split at q<;>omega
   have h8:a+8≤s.length:=by
    unfold hideB at hh;simp only[Bool.and_eq_true,decide_eq_true_eq] at hh;omega
   have hnx:nextM s a hid=if hid.isSome=true then .error (a,13) else .ok ([⟨5,[],[],cut s a (a+8),a,a+8⟩],some a):=by
    unfold nextM;rw[if_neg ho,if_neg hc,if_pos hh]
   refine⟨s,fr,a,l,hidI hid,hfr,ha,hs,by omega,rfl,rfl,s,a,_,hidI hid,h8,hs,by omega,rfl,rfl,fun hp a53 L54 hid55=> ?_,fun hp=> ?_⟩
   ·have:hid.isSome=true:=by rw[←hid_iff];simpa using hp
    rw[if_pos this] at hnx;exact panQ S0 rfl rfl rfl rfl (bad a 13 hsp hnx) _ _ _
   ·have:¬hid.isSome=true:=by rw[←hid_iff];simp;omega
    rw[if_neg this] at hnx
    exact take [⟨5,[],[],cut s a (a+8),a,a+8⟩] (some a) hsp hnx ⟨by show a+1≤a+8;omega,by show a<a+8;omega,h8⟩
  ·have hsp:spec s a hid.isSome=true:=by rw[hspec,q];rfl
   have ho:¬has s opensS a=true:=fun h=>by unfold findN at q;rw[if_pos h] at q;cases q
   have hc:¬has s closesS a=true:=fun h=>by unfold findN at q;rw[if_neg ho,if_pos h] at q;cases q
   have hh:¬hideB s a=true:=fun h=>by unfold findN at q;rw[if_neg ho,if_neg hc,if_pos h] at q;cases q
   have hw:has s showsS a=true:=(spec_show hsp ho hc hh).1
   have h3:a+3≤s.length:=has_le hw (by decide)
   have hcut:cut s a (a+3)=showsS:=by
    have:=List.prefix_iff_eq_take.1 (List.isPrefixOf_iff_prefix.1 hw);rw[cut_take];exact this.symm
   have hnx:nextM s a hid=.ok ([⟨6,[],[],cut s a (a+3),a,a+3⟩],none):=by
    unfold nextM;rw[if_neg ho,if_neg hc,if_neg hh,hcut]
   refine⟨s,fr,a,l,hidI hid,hfr,ha,hs,by omega,rfl,rfl,s,a,_,hidI hid,h3,hs,by omega,rfl,rfl,?_⟩
   exact take [⟨6,[],[],cut s a (a+3),a,a+3⟩] none hsp hnx ⟨by show a+1≤a+3;omega,by show a<a+3;omega,h3⟩
theorem tokens_run (S0:Sound cfg I B0){s:List UInt8}(hs:s.length≤limE):ToE cfg 15 (bodyOf Tryd.f15) (recQ cfg I B0 chE pfE Tryd.f15 22 cap14 (lexV (lexM s))) [.code []] .normal (argFr 0 [.str s]++[(dS,true,.dfr [])]) []:=by
 show ToE cfg 15 (bodyOf Tryd.f15) (QP.mk pfE (qE (lexV (lexM s))) (pE I B0 (lexV (lexM s)))) [.code []] .normal [(0,true,.str s),(1000000,true,.dfr [])] []
 refine t15 tab15 (tok_loop S0 hs s.length 0 0 [] none (s.length+1) (by omega) (by omega) (by omega) (by simp) (fun j _ h=>by omega) (by omega) ?_)
 unfold lexM
 cases lexG s (s.length+1) 0 none<;>rfl
def lexP :List AV→Option (Bool×AV)
 |[.str s]=>some (Nat.ble s.length 1000000,lexV (lexM s))
 |_=>none
theorem lexP_ok (S0:Sound cfg I B0):PrimSpec Tryd.prog cfg.G I B0 15 lexP:=by
 intro vs v hv E args hE hB H hr;unfold lexP at hv;split at hv
 ·rename_i s;simp only[Option.some.injEq,Prod.mk.injEq] at hv;obtain⟨hs,rfl⟩:=hv
  refine rec_calls S0 pfE_ok (by kernel_rfl) (by kernel_rfl) (by kernel_rfl) Tryd.func15 (by kernel_rfl) (by kernel_rfl) ⟨Tryd.f22,Tryd.func22,by kernel_rfl,by kernel_rfl⟩ (fun vals w hl=> ?_) rfl (tokens_run S0 (Nat.le_of_ble_eq_true hs)) H hr
  match vals,hl with
  |[a0,a1,a2],_=>exact take_ret a0 a1 a2 w
 ·cases hv
end
end Go.Proofs.YtopjpnhgnopbiaaDoor.Lx
end
