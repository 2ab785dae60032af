/-
  Contracts that name functions of this seat: rules of attributes.
  Runs of the functions of trees, printed by a home tool; each is the kernel's word.
  Which trees are pages: the small functions keep to their contracts.
  Which trees are pages: texts of nodes.
  Which trees are pages: attributes keep to the rules of a kind. Printed by a home tool.
  Which trees are pages: attributes as a whole.
  Which trees are pages: check, and what looks at a page.
-/
import Derived.Test.YtopjpnhgnopbiaaDoorJG
import Derived.Test.YtopjpnhgnopbiaaDoorJT
import Derived.Test.YtopjpnhgnopbiaaDoorJH
set_option linter.unusedVariables false
set_option linter.unusedSimpArgs false
set_option linter.unnecessarySimpa false
section
namespace Go.Proofs.YtopjpnhgnopbiaaDoor.Tr
open Go.Ai Go Go.RowKit
def tagIxC :Con:=fun vs h K=>∃s:List UInt8,s.length≤tlim∧h=[.mem 9 [.str s],.grow 4 1 9]∧vs=[.sl 1 [[.str [32]],[.str [9]],[.str [10]],[.str [13]]] (some 1),.fn (.func 77) [] [.ptr 0 0]]∧K (.int .i64 (ixOf (fun b=>contB s (esi3++b)) blanksL 0)) [.mem 9 [.str s],.grow 4 1 9]
def tagAnyC :Con:=fun vs h K=>∃s:List UInt8,s.length≤tlim∧h=[.mem 9 [.str s],.grow 4 1 9]∧vs=[.sl 1 [[.str [32]],[.str [9]],[.str [10]],[.str [13]]] (some 1),.fn (.func 77) [] [.ptr 0 0]]∧K (.bool (blanksL.any fun b=>contB s (esi3++b))) [.mem 9 [.str s],.grow 4 1 9]
def mayE :May→AV
 |.full=>.fn (.func 52) [] []
 |.one l=>.fn (.func 53) [.sl 1 (Go.Ai.encT l) none] []
 |.any=>.fn (.func 54) [] []
def encR (r:Rul):List AV:=[.str r.name,.bool r.must,mayE r.may]
def rulesC :Con:=fun vs h K=>∃k:Int,vs=[.int .i64 k]∧K (.sl 3 ((rulesL k).map encR) none) h
def keepC :Con:=fun vs h K=>∃(k:Int) (al:List Att),al.length≤tlim∧(∀a∈al,a.value.length≤tlim)∧vs=[.agg [.sl 3 (al.map encA) none],.sl 3 ((rulesL k).map encR) none]∧K (.bool (keepR (rulesL k) al 0)) h
end Go.Proofs.YtopjpnhgnopbiaaDoor.Tr
end
section
namespace Go.Proofs.YtopjpnhgnopbiaaDoor.Tr
open Go.Ai Go
set_option maxRecDepth 100000
open Go.IntKind (wrap i64 u8)
open Go.Ai.AV (int str sl tup bool agg ptr)
open Go.Ai.Blk (mem grow)
open Go.Ai.Fm (code block loop)
open Go.Ai.XT (normal)
open List (length)
open Prod (fst snd)
open UInt8 (toNat)
open Tryd (prog f34 f35 f52 f53 f54 f56 f69 f75 f86 f90)
variable {v:AV}{k:Int}{e:List (List AV)}
theorem t34 (hT:TabOk cfg3 (ctab []))(H:ifP (decide (k≥2)) (bool (decide (k≤6))=v) (bool false=v)):ToEnd cfg3 34 (bodyOf f34) (RetIs prog f34 v) ([.code []]) .normal ([(0,true,.int .i64 k)]) ([]):=
 uo (pl:=⟨[],[]⟩) hT H (by kernel_rfl)
theorem t86a (hT:TabOk cfg3 (ctab []))(H:ToEnd cfg3 86 (bodyOf f86) (RetIs prog f86 v) [code [0,1,0,1],block 0,code [1,1]] normal [(0,true,sl 1 e none),(1,true,int i64 k),(7,true,int i64 (↑(length e):Int)),(8,true,int i64 0)] []):ToEnd cfg3 86 (bodyOf f86) (RetIs prog f86 v) ([.code []]) .normal ([(0,true,.sl 1 e none),(1,true,.int .i64 k)]) ([]):=
 uo (pl:=⟨[[0,1,0,1]],[([0,1,0,0,1,1,0,0,1,0,1],3,[.int .i64])]⟩) hT H (by kernel_rfl)
theorem t86b {v:AV}{e:List (List AV)}{i1:Int}{i7:Int}{i8:Int}(hT:TabOk cfg3 (ctab []))(H:ifP (decide (i8<i7)) (gAnd (inR i8 (length e)&&true&&true) (∃(z1:Int),getE e i8=[int i64 z1]∧ifP (i1==z1) (int i64 i8=v) (ToEnd cfg3 86 (bodyOf f86) (RetIs prog f86 v) [code [0,1,0,1],block 0,code [1,1]] normal [(0,true,sl 1 e none),(1,true,int i64 i1),(7,true,int i64 i7),(8,true,int i64 (wrap i64 (i8+1)))] []))) (int i64 (-1)=v)):ToEnd cfg3 86 (bodyOf f86) (RetIs prog f86 v) ([.code [0,1,0,1],block 0,code [1,1]]) .normal ([(0,true,sl 1 e none),(1,true,int i64 i1),(7,true,int i64 i7),(8,true,int i64 i8)]) ([]):=
 ends_round (pl:=⟨[[0,1,0,1]],[([0,1,0,0,1,1,0,0,1,0,1],3,[.int .i64])]⟩) hT 100000 (by kernel_rfl) (unr_use H (by kernel_rfl))
theorem t69 (hT:TabOk cfg3 (ctab [(86,ixIC)]))(H:∃(l1:List Int) (k2:Int),length l1≤9223372036854775807∧[sl 1 (stripss 0 [] e) none,int i64 k]=[sl 1 (encI l1) none,int i64 k2]∧bool (decide (ixOf (fun(x:Int)↦k2==x) l1 0≥0))=v):ToEnd cfg3 69 (bodyOf f69) (RetIs prog f69 v) ([.code []]) .normal ([(0,true,.sl 1 e none),(1,true,.int .i64 k)]) ([]):=
 uo (pl:=⟨[],[]⟩) hT H (by kernel_rfl)
theorem t56 (hT:TabOk cfg3 (ctab [(69,hasTC)]))(H:∃(l1:List Int) (k2:Int),length l1≤9223372036854775807∧[sl 1 [[int i64 2],[int i64 3],[int i64 4],[int i64 5],[int i64 6],[int i64 7],[int i64 10],[int i64 13],[int i64 14]] none,int i64 k]=[sl 1 (encI l1) none,int i64 k2]∧bool (List.any l1 fun(x:Int)↦k2==x)=v):ToEnd cfg3 56 (bodyOf f56) (RetIs prog f56 v) ([.code []]) .normal ([(0,true,.int .i64 k)]) ([]):=
 uo (pl:=⟨[],[]⟩) hT H (by kernel_rfl)
theorem t90a {k:List UInt8}(hT:TabOk cfg3 (ctab []))(H:ToEnd cfg3 90 (bodyOf f90) (RetIs prog f90 v) [code [0,1,0,1],block 0,code [1,1]] normal [(0,true,sl 1 e none),(1,true,str k),(7,true,int i64 (↑(length e):Int)),(8,true,int i64 0)] []):ToEnd cfg3 90 (bodyOf f90) (RetIs prog f90 v) ([.code []]) .normal ([(0,true,.sl 1 e none),(1,true,.str k)]) ([]):=
 uo (pl:=⟨[[0,1,0,1]],[([0,1,0,0,1,1,0,0,1,0,1],3,[.str])]⟩) hT H (by kernel_rfl)
theorem t90b {v:AV}{e:List (List AV)}{s1:List UInt8}{i7:Int}{i8:Int}(hT:TabOk cfg3 (ctab []))(H:ifP (decide (i8<i7)) (gAnd (inR i8 (length e)&&true&&true) (∃(s1_1:List UInt8),getE e i8=[str s1_1]∧ifP (s1==s1_1) (int i64 i8=v) (ToEnd cfg3 90 (bodyOf f90) (RetIs prog f90 v) [code [0,1,0,1],block 0,code [1,1]] normal [(0,true,sl 1 e none),(1,true,str s1),(7,true,int i64 i7),(8,true,int i64 (wrap i64 (i8+1)))] []))) (int i64 (-1)=v)):ToEnd cfg3 90 (bodyOf f90) (RetIs prog f90 v) ([.code [0,1,0,1],block 0,code [1,1]]) .normal ([(0,true,sl 1 e none),(1,true,str s1),(7,true,int i64 i7),(8,true,int i64 i8)]) ([]):=
 ends_round (pl:=⟨[[0,1,0,1]],[([0,1,0,0,1,1,0,0,1,0,1],3,[.str])]⟩) hT 100000 (by kernel_rfl) (unr_use H (by kernel_rfl))
theorem t75 {k:List UInt8}(hT:TabOk cfg3 (ctab [(90,ixSC)]))(H:∃(l1:List (List UInt8)) (k2:List UInt8),length l1≤9223372036854775807∧[sl 1 (stripss 0 [] e) none,str k]=[sl 1 (encT l1) none,str k2]∧bool (decide (ixOf (fun(x:List UInt8)↦k2==x) l1 0≥0))=v):ToEnd cfg3 75 (bodyOf f75) (RetIs prog f75 v) ([.code []]) .normal ([(0,true,.sl 1 e none),(1,true,.str k)]) ([]):=
 uo (pl:=⟨[],[]⟩) hT H (by kernel_rfl)
theorem t53 {k:List UInt8}(hT:TabOk cfg3 (ctab [(75,hasSC)]))(H:∃(l1:List (List UInt8)) (k2:List UInt8),length l1≤9223372036854775807∧[sl 1 (stripss 0 [] e) none,str k]=[sl 1 (encT l1) none,str k2]∧bool (List.any l1 fun(x:List UInt8)↦k2==x)=v):ToEnd cfg3 53 (bodyOf f53) (RetIs prog f53 v) ([.code []]) .normal ([(0,true,.sl 1 e none),(1,true,.str k)]) ([]):=
 uo (pl:=⟨[],[]⟩) hT H (by kernel_rfl)
theorem t52 {k:List UInt8}(hT:TabOk cfg3 (ctab []))(H:(bool !k==[])=v):ToEnd cfg3 52 (bodyOf f52) (RetIs prog f52 v) ([.code []]) .normal ([(0,true,.str k)]) ([]):=
 uo (pl:=⟨[],[]⟩) hT H (by kernel_rfl)
theorem t54 {k:List UInt8}(hT:TabOk cfg3 (ctab []))(H:bool true=v):ToEnd cfg3 54 (bodyOf f54) (RetIs prog f54 v) ([.code []]) .normal ([(0,true,.str k)]) ([]):=
 uo (pl:=⟨[],[]⟩) hT H (by kernel_rfl)
theorem t35 {p i n:Int}(hT:TabOk cfg3 (ctab [(56,contentC)]))(H:ifP (p==7) (gAnd (inR (min i 1) 2&&true&&true) (∃(z1:Int),getE [[int i64 8],[int i64 9]] (min i 1)=[int i64 z1]∧ifP (k==z1) (bool (decide (i<2))=v) (bool false=v))) (ifP (p==10) (ifP (k==11) (bool true=v) (ifP (k==12) (ifP (decide (i>0)) (bool (i==wrap i64 (n-1))=v) (bool false=v)) (bool false=v))) (∃(k2:Int),[int i64 k]=[int i64 k2]∧bool (contentB k2)=v))):ToEnd cfg3 35 (bodyOf f35) (RetIs prog f35 v) ([.code []]) .normal ([(0,true,.int .i64 p),(1,true,.int .i64 k),(2,true,.int .i64 i),(3,true,.int .i64 n)]) ([]):=
 uo (pl:=⟨[],[([0,0,1,0,1,0,1],4,[.int .i64])]⟩) hT H (by kernel_rfl)
end Go.Proofs.YtopjpnhgnopbiaaDoor.Tr
end
section
namespace Go.Proofs.YtopjpnhgnopbiaaDoor.Tr
open Go.Ai Go
set_option maxRecDepth 100000
theorem stripAs (n:Nat)(h:Hp)(l:List Att):stripss n h (l.map encA)=l.map encA:=stripss_pure _ _ _ (pure_encAs l)
theorem stripNs (n:Nat)(h:Hp)(l:List Nd):stripss n h (encNs l)=encNs l:=stripss_pure _ _ _ (pure_encNs l)
theorem pf34 :pureFn cfg3 34 Tryd.f34:=(by refine⟨?_,?_,?_,?_,?_,?_⟩<;>kernel_rfl)
theorem pf86 :pureFn cfg3 86 Tryd.f86:=(by refine⟨?_,?_,?_,?_,?_,?_⟩<;>kernel_rfl)
theorem pf69 :pureFn cfg3 69 Tryd.f69:=(by refine⟨?_,?_,?_,?_,?_,?_⟩<;>kernel_rfl)
theorem pf56 :pureFn cfg3 56 Tryd.f56:=(by refine⟨?_,?_,?_,?_,?_,?_⟩<;>kernel_rfl)
theorem pf90 :pureFn cfg3 90 Tryd.f90:=(by refine⟨?_,?_,?_,?_,?_,?_⟩<;>kernel_rfl)
theorem pf75 :pureFn cfg3 75 Tryd.f75:=(by refine⟨?_,?_,?_,?_,?_,?_⟩<;>kernel_rfl)
theorem pf53 :pureFn cfg3 53 Tryd.f53:=(by refine⟨?_,?_,?_,?_,?_,?_⟩<;>kernel_rfl)
theorem pf52 :pureFn cfg3 52 Tryd.f52:=(by refine⟨?_,?_,?_,?_,?_,?_⟩<;>kernel_rfl)
theorem pf54 :pureFn cfg3 54 Tryd.f54:=(by refine⟨?_,?_,?_,?_,?_,?_⟩<;>kernel_rfl)
theorem pf35 :pureFn cfg3 35 Tryd.f35:=(by refine⟨?_,?_,?_,?_,?_,?_⟩<;>kernel_rfl)
theorem pure_encI (l:List Int):pureV.pureVss (encI l)=true:=by
 unfold encI
 induction l with
 |nil=>rfl
 |cons a r ih=>simp only[List.map_cons,pureV.pureVss,pureV.pureVs,pureV,ih,Bool.true_and]
theorem pure_encT (l:List (List UInt8)):pureV.pureVss (encT l)=true:=by
 unfold encT
 induction l with
 |nil=>rfl
 |cons a r ih=>simp only[List.map_cons,pureV.pureVss,pureV.pureVs,pureV,ih,Bool.true_and]
theorem stripIs (n:Nat)(h:Hp)(l:List Int):stripss n h (encI l)=encI l:=stripss_pure _ _ _ (pure_encI l)
theorem stripTs (n:Nat)(h:Hp)(l:List (List UInt8)):stripss n h (encT l)=encT l:=stripss_pure _ _ _ (pure_encT l)
theorem c51 :COk cfg3 51 containsC:=by
 refine cok_prim (by kernel_rfl) (by kernel_rfl) (by kernel_rfl:cfg3.prim 51=some pContains) (by kernel_rfl) fun vs h K ht=> ?_
 obtain⟨s,x,hs,rfl,hk⟩:=ht;refine⟨.bool (contB s x),hk,?_⟩
 have e:Nat.blt s.length 4294967281=true:=Nat.ble_eq_true_of_le (by unfold tlim at hs;omega)
 simp only[pContains,e]
theorem c34 :COk cfg3 34 leafC:=by
 refine cok_pure pf34 fun vs h K ht=> ?_
 obtain⟨k,rfl,hk⟩:=ht
 refine⟨_,hk,t34 (ctab_ok ctab_nil) (ifP_intro (fun a=> ?_) fun a=> ?_)⟩
 ·rw[decide_eq_true_eq] at a;unfold leafB
  rw[decide_eq_true (p:=2≤k) (by omega)];rfl
 ·rw[decide_eq_false_iff_not] at a;unfold leafB
  rw[decide_eq_false (p:=2≤k) (by omega)];rfl
theorem c52 :COk cfg3 52 fullC:=by
 refine cok_pure pf52 fun vs h K ht=> ?_
 obtain⟨s,rfl,hk⟩:=ht;exact⟨_,hk,t52 (ctab_ok ctab_nil) rfl⟩
theorem c54 :COk cfg3 54 anyC:=by
 refine cok_pure pf54 fun vs h K ht=> ?_
 obtain⟨s,rfl,hk⟩:=ht;exact⟨_,hk,t54 (ctab_ok ctab_nil) rfl⟩
theorem loop86 (k v:Int):∀(r pre:List Int),(pre++r).length≤lim→v=ixOf (fun x=>k==x) r (pre.length:Nat)→
  ToEnd cfg3 86 (bodyOf Tryd.f86) (RetIs Tryd.prog Tryd.f86 (.int .i64 v)) [.code [0,1,0,1],.block 0,.code [1,1]] .normal
   [(0,true,.sl 1 (encI (pre++r)) none),(1,true,.int .i64 k),(7,true,.int .i64 ((pre++r).length:Nat)),(8,true,.int .i64 pre.length)] []:=by
 intro r
 induction r with
 |nil=>
  intro pre hl hk
  refine t86b (ctab_ok ctab_nil) (ifP_intro (fun hc=> ?_) fun _=> ?_)
  ·simp at hc
  ·rw[hk];rfl
 |cons x r ih=>
  intro pre hl hk
  have hlen:pre.length<lim:=by simp at hl;omega
  have hin:inR (pre.length:Int) (encI (pre++x::r)).length=true:=inR_of (by omega) (by unfold encI;simp;omega)
  refine t86b (ctab_ok ctab_nil) (ifP_intro (fun _=> ?_) fun hc=> ?_)
  ·refine gAnd_intro (by rw[hin];rfl) ⟨x,getE_pre _ _ _ _,ifP_intro (fun hq=> ?_) fun hq=> ?_⟩
   ·rw[hk,ixOf,hq];rfl
   ·rw[wrap_succ hlen]
    have:=ih (pre++[x]) (by simpa using hl) (by rw[hk,ixOf,hq];simp)
    simpa using this
  ·simp at hc;omega
theorem c86 :COk cfg3 86 ixIC:=by
 refine cok_pure pf86 fun vs h K ht=> ?_
 obtain⟨l,k,hl,rfl,hk⟩:=ht;refine⟨_,hk,t86a (ctab_ok ctab_nil) ?_⟩;have:=loop86 k _ l [] hl rfl
 have e:(encI l).length=l.length:=by unfold encI;simp
 rw[e];exact this
theorem c69 :COk cfg3 69 hasTC:=by
 refine cok_pure pf69 fun vs h K ht=> ?_
 obtain⟨l,k,hl,rfl,hk⟩:=ht
 refine⟨_,hk,t69 (ctab_ok (ctab_cons c86 ctab_nil)) ⟨l,k,hl,by rw[stripIs],?_⟩⟩
 exact congrArg AV.bool (ixOf_ge _ l 0 (Int.le_refl _))
theorem c56 :COk cfg3 56 contentC:=by
 refine cok_pure pf56 fun vs h K ht=> ?_
 obtain⟨k,rfl,hk⟩:=ht
 exact⟨_,hk,t56 (ctab_ok (ctab_cons c69 ctab_nil)) ⟨kindsL,k,by decide,rfl,rfl⟩⟩
theorem loop90 (k:List UInt8)(v:Int):∀(r pre:List (List UInt8)),(pre++r).length≤lim→v=ixOf (fun x=>k==x) r (pre.length:Nat)→
  ToEnd cfg3 90 (bodyOf Tryd.f90) (RetIs Tryd.prog Tryd.f90 (.int .i64 v)) [.code [0,1,0,1],.block 0,.code [1,1]] .normal
   [(0,true,.sl 1 (encT (pre++r)) none),(1,true,.str k),(7,true,.int .i64 ((pre++r).length:Nat)),(8,true,.int .i64 pre.length)] []:=by
 intro r
 induction r with
 |nil=>
  intro pre hl hk
  refine t90b (ctab_ok ctab_nil) (ifP_intro (fun hc=> ?_) fun _=> ?_)
  ·simp at hc
  ·rw[hk];rfl
 |cons x r ih=>
  intro pre hl hk
  have hlen:pre.length<lim:=by simp at hl;omega
  have hin:inR (pre.length:Int) (encT (pre++x::r)).length=true:=inR_of (by omega) (by unfold encT;simp;omega)
  refine t90b (ctab_ok ctab_nil) (ifP_intro (fun _=> ?_) fun hc=> ?_)
  ·refine gAnd_intro (by rw[hin];rfl) ⟨x,getE_pre _ _ _ _,ifP_intro (fun hq=> ?_) fun hq=> ?_⟩
   ·rw[hk,ixOf,hq];rfl
   ·rw[wrap_succ hlen]
    have:=ih (pre++[x]) (by simpa using hl) (by rw[hk,ixOf,hq];simp)
    simpa using this
  ·simp at hc;omega
theorem c90 :COk cfg3 90 ixSC:=by
 refine cok_pure pf90 fun vs h K ht=> ?_
 obtain⟨l,k,hl,rfl,hk⟩:=ht;refine⟨_,hk,t90a (ctab_ok ctab_nil) ?_⟩;have:=loop90 k _ l [] hl rfl
 have e:(encT l).length=l.length:=by unfold encT;simp
 rw[e];exact this
theorem c75 :COk cfg3 75 hasSC:=by
 refine cok_pure pf75 fun vs h K ht=> ?_
 obtain⟨l,k,hl,rfl,hk⟩:=ht
 refine⟨_,hk,t75 (ctab_ok (ctab_cons c90 ctab_nil)) ⟨l,k,hl,by rw[stripTs],?_⟩⟩
 exact congrArg AV.bool (ixOf_ge _ l 0 (Int.le_refl _))
theorem c53 :COk cfg3 53 hasSC:=by
 refine cok_pure pf53 fun vs h K ht=> ?_
 obtain⟨l,k,hl,rfl,hk⟩:=ht
 exact⟨_,hk,t53 (ctab_ok (ctab_cons c75 ctab_nil)) ⟨l,k,hl,by rw[stripTs],rfl⟩⟩
theorem c35 :COk cfg3 35 fitC:=by
 refine cok_pure pf35 fun vs h K ht=> ?_
 obtain⟨p,k,i,n,h0,h1,h2,rfl,hk⟩:=ht
 refine⟨_,hk,t35 (ctab_ok (ctab_cons c56 ctab_nil)) (ifP_intro (fun a=> ?_) fun a=> ?_)⟩
 ·unfold fitB;rw[a,cond_true]
  refine gAnd_intro (by rw[inR_of (by omega) (by omega)];rfl) ?_
  by_cases hi:i=0
  ·subst hi
   refine⟨8,rfl,ifP_intro (fun b=> ?_) fun b=> ?_⟩
   ·rw[if_pos rfl,b];rfl
   ·rw[if_pos rfl,b];rfl
  ·have e:min i 1=1:=by omega
   rw[e]
   refine⟨9,rfl,ifP_intro (fun b=> ?_) fun b=> ?_⟩
   ·rw[if_neg hi,b];rfl
   ·rw[if_neg hi,b];rfl
 ·unfold fitB;rw[a,cond_false]
  refine ifP_intro (fun b=> ?_) fun b=> ?_
  ·rw[b,cond_true]
   refine ifP_intro (fun c=>by rw[c];rfl) fun c=> ?_
   rw[c]
   refine ifP_intro (fun d=> ?_) fun d=>by rw[d];rfl
   rw[d]
   refine ifP_intro (fun e=> ?_) fun e=> ?_
   ·rw[wrap_in (by omega) (by unfold lim at h2;omega),decide_eq_true (p:=0<i) (by simpa using e)];rfl
   ·rw[decide_eq_false (p:=0<i) (by simpa using e)];rfl
  ·rw[b,cond_false];exact⟨k,rfl,rfl⟩
end Go.Proofs.YtopjpnhgnopbiaaDoor.Tr
end
section
namespace Go.Proofs.YtopjpnhgnopbiaaDoor.Tr
open Go.Ai Go
set_option maxRecDepth 100000
open Go.IntKind (wrap i64 u8)
open Go.Ai.AV (int str sl tup bool agg ptr)
open Go.Ai.Blk (mem grow)
open Go.Ai.Fm (code block loop)
open Go.Ai.XT (normal)
open List (length)
open Prod (fst snd)
open UInt8 (toNat)
open Tryd (prog f32 f33 f55 f76 f77 f91)
variable {K:AV→Hp→Prop}{s:List UInt8}{v:AV}
theorem t77 {x:List UInt8}(hT:TabOk cfg3 (ctab [(51,containsC)]))(H:gAnd (decide (7+length x≤9223372036854775807)) (∃(s1:List UInt8) (x2:List UInt8),length s1≤100000∧[str s,str (60::33::45::45::101::115::105::List.append [] x)]=[str s1,str x2]∧K (bool (contB s1 x2)) [mem 9 [str s],grow 4 1 9])):ToEnd cfg3 77 (bodyOf f77) (RetIn prog f77 2 K) ([.code []]) .normal ([(0,true,.str x),(1,true,.ptr 0 0)]) ([.mem 9 [.str s],.grow 4 1 9]):=
 uo (pl:=⟨[],[]⟩) hT H (by kernel_rfl)
theorem t91 (hT:TabOk cfg3 (ctab [(77,tag1C)]))(H:∃(s1:List UInt8),[str [32]]=[str s1]∧∃(s2 b3:List UInt8),(fun(A0:Hp)=>length s2≤100000∧length b3≤10∧[mem 9 [str s],grow 4 1 9]=A0∧[str s1,ptr 0 0]=[str b3,ptr 0 0]∧ifP (contB s2 ([60,33,45,45,101,115,105]++b3)) (K (int i64 0) A0) (∃(s4:List UInt8),[str [9]]=[str s4]∧∃(s5 b6:List UInt8),(fun(B0:Hp)=>length s5≤100000∧length b6≤10∧A0=B0∧[str s4,ptr 0 0]=[str b6,ptr 0 0]∧ifP (contB s5 ([60,33,45,45,101,115,105]++b6)) (K (int i64 1) B0) (∃(s7:List UInt8),[str [10]]=[str s7]∧∃(s8 b9:List UInt8),(fun(C0:Hp)=>length s8≤100000∧length b9≤10∧B0=C0∧[str s7,ptr 0 0]=[str b9,ptr 0 0]∧ifP (contB s8 ([60,33,45,45,101,115,105]++b9)) (K (int i64 2) C0) (∃(G0:List UInt8),[str [13]]=[str G0]∧∃(D0 E0:List UInt8),(fun(F0:Hp)=>length D0≤100000∧length E0≤10∧C0=F0∧[str G0,ptr 0 0]=[str E0,ptr 0 0]∧ifP (contB D0 ([60,33,45,45,101,115,105]++E0)) (K (int i64 3) F0) (K (int i64 (-1)) F0)) [mem 9 [str D0],grow 4 1 9])) [mem 9 [str s8],grow 4 1 9])) [mem 9 [str s5],grow 4 1 9])) [mem 9 [str s2],grow 4 1 9]):ToEnd cfg3 91 (bodyOf f91) (RetIn prog f91 2 K) ([.code []]) .normal ([(0,true,.sl 1 [[.str [32]],[.str [9]],[.str [10]],[.str [13]]] (some 1)),(1,true,.fn (.func 77) [] [.ptr 0 0])]) ([.mem 9 [.str s],.grow 4 1 9]):=
 uo (pl:=⟨[],[([0,1,0,0,1,1,0,0,1,0,1],3,[.str])]⟩) hT H (by kernel_rfl)
theorem t76 (hT:TabOk cfg3 (ctab [(91,tagIxC)]))(H:(fun(A0:List AV)=>∃(s1:List UInt8),length s1≤100000∧[mem 9 [str s],grow 4 1 9]=[mem 9 [str s1],grow 4 1 9]∧A0=A0∧K (bool (decide (ixOf (fun(b:List UInt8)↦contB s1 ([60,33,45,45,101,115,105]++b)) blanksL 0≥0))) [mem 9 [str s1],grow 4 1 9]) [sl 1 [[str [32]],[str [9]],[str [10]],[str [13]]] (some 1),AV.fn (Fn.func 77) [] [ptr 0 0]]):ToEnd cfg3 76 (bodyOf f76) (RetIn prog f76 2 K) ([.code []]) .normal ([(0,true,.sl 1 [[.str [32]],[.str [9]],[.str [10]],[.str [13]]] (some 1)),(1,true,.fn (.func 77) [] [.ptr 0 0])]) ([.mem 9 [.str s],.grow 4 1 9]):=
 uo (pl:=⟨[],[]⟩) hT H (by kernel_rfl)
theorem t55 (hT:TabOk cfg3 (ctab [(51,containsC),(76,tagAnyC)]))(H:(fun(A0:List AV)=>∃(s1 x2:List UInt8),length s1≤100000∧[str s,str [60,101,115,105,58]]=[str s1,str x2]∧ifP (contB s1 x2) (bool true=v) (∃(s3 x4:List UInt8),length s3≤100000∧[str s,str [60,47,101,115,105,58]]=[str s3,str x4]∧ifP (contB s3 x4) (bool true=v) (∃(s5:List UInt8),length s5≤100000∧[mem 9 [str s],grow 4 1 9]=[mem 9 [str s5],grow 4 1 9]∧A0=A0∧bool (List.any blanksL fun(b:List UInt8)↦contB s5 ([60,33,45,45,101,115,105]++b))=v))) [sl 1 [[str [32]],[str [9]],[str [10]],[str [13]]] (some 1),AV.fn (Fn.func 77) [] [ptr 0 0]]):ToEnd cfg3 55 (bodyOf f55) (RetIs prog f55 v) ([.code []]) .normal ([(0,true,.str s)]) ([]):=
 uo (pl:=⟨[],[]⟩) hT H (by kernel_rfl)
theorem t33 {xk xp:Int}{xt:List UInt8}{xa xs:List (List AV)}{hid:Bool}(hT:TabOk cfg3 (ctab [(51,containsC),(55,taggedC)]))(H:ifP (xk==2) (ifP (!xt==[]) (∃(s1:List UInt8),length s1≤100000∧[str xt]=[str s1]∧ifP (!taggedB s1) (ifP hid (∃(s2 x3:List UInt8),length s2≤100000∧[str xt,str [45,45,62]]=[str s2,str x3]∧(bool !contB s2 x3)=v) (bool true=v)) (bool false=v)) (bool false=v)) (ifP (xk==4) (∃(s4 x5:List UInt8),length s4≤100000∧[str xt,str [60,47,101,115,105,58,105,110,108,105,110,101]]=[str s4,str x5]∧(bool !contB s4 x5)=v) (ifP (xk==5) (∃(s6 x7:List UInt8),length s6≤100000∧[str xt,str [60,47,101,115,105,58,114,101,109,111,118,101]]=[str s6,str x7]∧ifP (!contB s6 x7) (∃(s8 x9:List UInt8),length s8≤100000∧[str xt,str [60,101,115,105,58]]=[str s8,str x9]∧(bool !contB s8 x9)=v) (bool false=v)) (bool (xt==[])=v)))):ToEnd cfg3 33 (bodyOf f33) (RetIs prog f33 v) ([.code []]) .normal ([(0,true,.agg [.int .i64 xk,.int .i64 xp,.str xt,.sl 3 xa none,.sl 5 xs none]),(1,true,.bool hid)]) ([]):=
 uo (pl:=⟨[],[]⟩) hT H (by kernel_rfl)
theorem t32 {k:Int}(hT:TabOk cfg3 (ctab []))(H:ifP (k==3) (sl 3 [[str [115,114,99],bool true,AV.fn (Fn.func 52) [] []],[str [97,108,116],bool false,AV.fn (Fn.func 52) [] []],[str [111,110,101,114,114,111,114],bool false,AV.fn (Fn.func 53) [sl 1 [[str [99,111,110,116,105,110,117,101]]] none] []]] none=v) (ifP (k==4) (sl 3 [[str [110,97,109,101],bool true,AV.fn (Fn.func 52) [] []],[str [102,101,116,99,104,97,98,108,101],bool false,AV.fn (Fn.func 53) [sl 1 [[str [121,101,115]],[str [110,111]]] none] []]] none=v) (ifP (k==6) (sl 3 [[str [116,101,120,116],bool true,AV.fn (Fn.func 54) [] []]] none=v) (ifP (k==11) (sl 3 [[str [116,101,115,116],bool true,AV.fn (Fn.func 52) [] []]] none=v) (sl 3 [] none=v))))):ToEnd cfg3 32 (bodyOf f32) (RetIs prog f32 v) ([.code []]) .normal ([(0,true,.int .i64 k)]) ([]):=
 uo (pl:=⟨[],[]⟩) hT H (by kernel_rfl)
end Go.Proofs.YtopjpnhgnopbiaaDoor.Tr
end
section
namespace Go.Proofs.YtopjpnhgnopbiaaDoor.Tr
open Go.Ai Go
set_option maxRecDepth 100000
theorem pf55 :pureFn cfg3 55 Tryd.f55:=(by refine⟨?_,?_,?_,?_,?_,?_⟩<;>kernel_rfl)
theorem pf33 :pureFn cfg3 33 Tryd.f33:=(by refine⟨?_,?_,?_,?_,?_,?_⟩<;>kernel_rfl)
theorem pf32 :pureFn cfg3 32 Tryd.f32:=(by refine⟨?_,?_,?_,?_,?_,?_⟩<;>kernel_rfl)
theorem hf77 :heapFn cfg3 77 Tryd.f77:=(by refine⟨?_,?_,?_,?_,?_,?_⟩<;>kernel_rfl)
theorem hf91 :heapFn cfg3 91 Tryd.f91:=(by refine⟨?_,?_,?_,?_,?_,?_⟩<;>kernel_rfl)
theorem hf76 :heapFn cfg3 76 Tryd.f76:=(by refine⟨?_,?_,?_,?_,?_,?_⟩<;>kernel_rfl)
theorem c77 :COk cfg3 77 tag1C:=by
 refine cok_heap hf77 fun vs h K ht=> ?_
 obtain⟨s,b,hs,hb,rfl,rfl,hk⟩:=ht;refine t77 (ctab_ok (ctab_cons c51 ctab_nil)) (gAnd_intro ?_ ⟨_,_,hs,rfl,hk⟩);rw[decide_eq_true_eq];omega
theorem c91 :COk cfg3 91 tagIxC:=by
 refine cok_heap hf91 fun vs h K ht=> ?_
 obtain⟨s,hs,rfl,rfl,hk⟩:=ht;refine t91 (ctab_ok (ctab_cons c77 ctab_nil)) ?_;simp only[blanksL,ixOf] at hk
 refine⟨_,rfl,s,_,hs,by decide,rfl,rfl,ifP_intro (fun a=> ?_) fun a=> ?_⟩
 ·have e:contB s (esi3++[32])=true:=a;rw[e] at hk;exact hk
 have e:contB s (esi3++[32])=false:=a;rw[e] at hk
 refine⟨_,rfl,s,_,hs,by decide,rfl,rfl,ifP_intro (fun a=> ?_) fun a=> ?_⟩
 ·have e:contB s (esi3++[9])=true:=a;rw[e] at hk;exact hk
 have e:contB s (esi3++[9])=false:=a;rw[e] at hk
 refine⟨_,rfl,s,_,hs,by decide,rfl,rfl,ifP_intro (fun a=> ?_) fun a=> ?_⟩
 ·have e:contB s (esi3++[10])=true:=a;rw[e] at hk;exact hk
 have e:contB s (esi3++[10])=false:=a;rw[e] at hk
 refine⟨_,rfl,s,_,hs,by decide,rfl,rfl,ifP_intro (fun a=> ?_) fun a=> ?_⟩
 ·have e:contB s (esi3++[13])=true:=a;rw[e] at hk;exact hk
 have e:contB s (esi3++[13])=false:=a;rw[e] at hk;exact hk
theorem c76 :COk cfg3 76 tagAnyC:=by
 refine cok_heap hf76 fun vs h K ht=> ?_
 obtain⟨s,hs,rfl,rfl,hk⟩:=ht;refine t76 (ctab_ok (ctab_cons c91 ctab_nil)) ⟨s,hs,rfl,rfl,?_⟩
 have e:=ixOf_ge (fun b=>contB s (esi3++b)) blanksL 0 (Int.le_refl _)
 rw[←e] at hk;exact hk
theorem c55 :COk cfg3 55 taggedC:=by
 refine cok_pure pf55 fun vs h K ht=> ?_
 obtain⟨s,hs,rfl,hk⟩:=ht
 refine⟨_,hk,t55 (ctab_ok (ctab_cons c51 (ctab_cons c76 ctab_nil))) ⟨_,_,hs,rfl,ifP_intro (fun a=> ?_) fun a=>⟨_,_,hs,rfl,ifP_intro (fun b=> ?_) fun b=>⟨_,hs,rfl,rfl,?_⟩⟩⟩⟩
 ·have e:contB s esi1=true:=a;unfold taggedB;rw[e];rfl
 ·have e:contB s esi1=false:=a;have e':contB s esi2=true:=b;unfold taggedB;rw[e,e'];rfl
 ·have e:contB s esi1=false:=a;have e':contB s esi2=false:=b;unfold taggedB;rw[e,e'];rfl
theorem c33 :COk cfg3 33 textC:=by
 refine cok_pure pf33 fun vs h K ht=> ?_
 obtain⟨n,hid,hs,rfl,hk⟩:=ht;refine⟨_,hk,?_⟩;rw[encN_eq];have hT:=ctab_ok (ctab_cons c51 (ctab_cons c55 ctab_nil));generalize n.text=t at *;generalize n.kind=k at *
 refine t33 hT (ifP_intro (fun a=> ?_) fun a=>ifP_intro (fun b=> ?_) fun b=>ifP_intro (fun c=> ?_) fun c=> ?_)
 ·unfold textB;rw[a,cond_true]
  refine ifP_intro (fun b=>⟨_,hs,rfl,ifP_intro (fun c=>ifP_intro (fun d=>⟨_,_,hs,rfl,?_⟩) fun d=> ?_) fun c=> ?_⟩) fun b=> ?_
  ·rw[b,c,d];rfl
  ·rw[b,c,d];rfl
  ·rw[b,c];rfl
  ·rw[b];rfl
 ·unfold textB;rw[a,b];exact⟨_,_,hs,rfl,rfl⟩
 ·unfold textB;rw[a,b,c]
  refine⟨_,_,hs,rfl,ifP_intro (fun d=>⟨_,_,hs,rfl,?_⟩) fun d=> ?_⟩
  ·have e:(!contB t rem1)=true:=d;simp only[cond_true,cond_false,e];rfl
  ·have e:(!contB t rem1)=false:=d;simp only[cond_true,cond_false,e];rfl
 ·unfold textB;rw[a,b,c];rfl
end Go.Proofs.YtopjpnhgnopbiaaDoor.Tr
end
section
namespace Go.Proofs.YtopjpnhgnopbiaaDoor.Tr
open Go.Ai Go
set_option maxRecDepth 100000
open Go.IntKind (wrap i64 u8)
open Go.Ai.AV (int str sl tup bool agg ptr)
open Go.Ai.Blk (mem grow)
open Go.Ai.Fm (code block loop)
open Go.Ai.XT (normal)
open List (length)
open Prod (fst snd)
open UInt8 (toNat)
open Tryd (prog f31)
variable {v:AV}{ea:List (List AV)}{f n z j:Int}
theorem t31x (hT:TabOk cfg3 (ctab [(51,containsC),(52,fullC),(53,hasSC),(54,anyC)]))(H:bool (0==(↑(length ea):Int))=v):ToEnd cfg3 31 (bodyOf f31) (RetIs prog f31 v) ([.code []]) .normal ([(0,true,.agg [.sl 3 ea none]),(1,true,.sl 3 [] none)]) ([]):=
 uo (pl:=⟨[[0,1,0,1,1,0,0,1,1,0,0,1,0,1,1]],[([0,0,0,1,1,0,0,1,0,1,1,0,0,1,1,0,0,1,0,1,1],0,[.str,.str,.int .i64])]⟩) hT H (by kernel_rfl)
theorem t31e3 (hT:TabOk cfg3 (ctab [(51,containsC),(52,fullC),(53,hasSC),(54,anyC)]))(H:(fun(A0:List AV)=>ToEnd cfg3 31 (bodyOf f31) (RetIs prog f31 v) [code [0,1,0,1,1,0,0,1,1,0,0,1,0,1,1],block 2,code [1,1,1,0,0,1,1,0,0,1,0,1,1],block 1,code [1,1,1,0,0,1,0,1,1],loop [0,1,0,1,1] 1,block 0,code [1,1,1]] normal [(2,true,ptr 0 0),(5,true,int i64 0),(7,true,ptr 1 0),(8,true,int i64 0),(11,true,sl 3 [A0,[str [97,108,116],bool false,AV.fn (Fn.func 52) [] []],[str [111,110,101,114,114,111,114],bool false,AV.fn (Fn.func 53) [sl 1 [[str [99,111,110,116,105,110,117,101]]] none] []]] none),(12,true,int i64 3),(13,true,int i64 0),(18,true,sl 3 ea none),(19,true,int i64 (↑(length ea):Int)),(20,true,int i64 0)] [mem 74 [sl 3 ea none],mem 94 A0]) [str [115,114,99],bool true,AV.fn (Fn.func 52) [] []]):ToEnd cfg3 31 (bodyOf f31) (RetIs prog f31 v) ([.code []]) .normal ([(0,true,.agg [.sl 3 ea none]),(1,true,.sl 3 [[.str [115,114,99],.bool true,.fn (.func 52) [] []],[.str [97,108,116],.bool false,.fn (.func 52) [] []],[.str [111,110,101,114,114,111,114],.bool false,.fn (.func 53) [.sl 1 [[.str [99,111,110,116,105,110,117,101]]] none] []]] none)]) ([]):=
 uo (pl:=⟨[[0,1,0,1,1,0,0,1,1,0,0,1,0,1,1]],[([0,0,0,1,1,0,0,1,0,1,1,0,0,1,1,0,0,1,0,1,1],0,[.str,.str,.int .i64])]⟩) hT H (by kernel_rfl)
theorem t31r3_0 (hT:TabOk cfg3 (ctab [(51,containsC),(52,fullC),(53,hasSC),(54,anyC)]))(H:(fun(D0:List AV)=>(fun(E0:List AV)=>(fun(C0:Hp)=>(fun(A0:List Fm)=>(fun(B0:List (List AV))=>ifP (decide (j<z)) (gAnd (inR j (length ea)&&true&&true) (∃(s1 s2:List UInt8) (z3:Int),getE ea j=[str s1,str s2,int i64 z3]∧ifP (!s1==[115,114,99]) (gAnd (lowVss 2 ea&&true&&true&&(lowVss 2 ea&&true&&true&&true)) (ToEnd cfg3 31 (bodyOf f31) (RetIs prog f31 v) A0 normal [(2,true,ptr 0 0),(5,true,int i64 f),(7,true,ptr 1 0),(8,true,int i64 n),(11,true,sl 3 B0 none),(12,true,int i64 3),(13,true,int i64 0),(18,true,sl 3 ea none),(19,true,int i64 z),(20,true,int i64 (wrap i64 (j+1)))] C0)) (∃(s4:List UInt8),[str s2]=[str s4]∧ifP (!!s4==[]) (bool false=v) (∃(s5 x6:List UInt8),length s5≤100000∧[str s2,str [34]]=[str s5,str x6]∧ifP (contB s5 x6) (∃(s7 x8:List UInt8),length s7≤100000∧[str s2,str [39]]=[str s7,str x8]∧ifP (contB s7 x8) (bool false=v) (gAnd (lowVss 2 ea&&true&&true&&(lowVss 2 ea&&true&&true&&true)) (ToEnd cfg3 31 (bodyOf f31) (RetIs prog f31 v) A0 normal [(2,true,ptr 0 0),(5,true,int i64 f),(7,true,ptr 1 0),(8,true,int i64 (wrap i64 (n+1))),(11,true,sl 3 B0 none),(12,true,int i64 3),(13,true,int i64 0),(18,true,sl 3 ea none),(19,true,int i64 z),(20,true,int i64 (wrap i64 (j+1)))] C0))) (gAnd (lowVss 2 ea&&true&&true&&(lowVss 2 ea&&true&&true&&true)) (ToEnd cfg3 31 (bodyOf f31) (RetIs prog f31 v) A0 normal [(2,true,ptr 0 0),(5,true,int i64 f),(7,true,ptr 1 0),(8,true,int i64 (wrap i64 (n+1))),(11,true,sl 3 B0 none),(12,true,int i64 3),(13,true,int i64 0),(18,true,sl 3 ea none),(19,true,int i64 z),(20,true,int i64 (wrap i64 (j+1)))] C0)))))) (ifP (decide (n>1)) (bool false=v) (ifP (n==0) (bool false=v) (gAnd (lowVss 1 ea&&true&&true&&true) (ToEnd cfg3 31 (bodyOf f31) (RetIs prog f31 v) A0 normal [(2,true,ptr 0 0),(5,true,int i64 (wrap i64 (f+n))),(7,true,ptr 1 0),(8,true,int i64 0),(11,true,sl 3 B0 none),(12,true,int i64 3),(13,true,int i64 1),(18,true,sl 3 ea none),(19,true,int i64 (↑(length ea):Int)),(20,true,int i64 0)] [mem 74 [sl 3 ea none],mem 94 E0]))))) [D0,E0,[str [111,110,101,114,114,111,114],bool false,AV.fn (Fn.func 53) [sl 1 [[str [99,111,110,116,105,110,117,101]]] none] []]]) [code [0,1,0,1,1,0,0,1,1,0,0,1,0,1,1],block 2,code [1,1,1,0,0,1,1,0,0,1,0,1,1],block 1,code [1,1,1,0,0,1,0,1,1],loop [0,1,0,1,1] 1,block 0,code [1,1,1]]) [mem 74 [sl 3 ea none],mem 94 D0]) [str [97,108,116],bool false,AV.fn (Fn.func 52) [] []]) [str [115,114,99],bool true,AV.fn (Fn.func 52) [] []]):ToEnd cfg3 31 (bodyOf f31) (RetIs prog f31 v) ([.code [0,1,0,1,1,0,0,1,1,0,0,1,0,1,1],.block 2,.code [1,1,1,0,0,1,1,0,0,1,0,1,1],.block 1,.code [1,1,1,0,0,1,0,1,1],.loop [0,1,0,1,1] 1,.block 0,.code [1,1,1]]) .normal ([(2,true,.ptr 0 0),(5,true,.int .i64 f),(7,true,.ptr 1 0),(8,true,.int .i64 n),(11,true,.sl 3 [[.str [115,114,99],.bool true,.fn (.func 52) [] []],[.str [97,108,116],.bool false,.fn (.func 52) [] []],[.str [111,110,101,114,114,111,114],.bool false,.fn (.func 53) [.sl 1 [[.str [99,111,110,116,105,110,117,101]]] none] []]] none),(12,true,.int .i64 3),(13,true,.int .i64 0),(18,true,.sl 3 ea none),(19,true,.int .i64 z),(20,true,.int .i64 j)]) ([.mem 74 [.sl 3 ea none],.mem 94 [.str [115,114,99],.bool true,.fn (.func 52) [] []]]):=
 ends_round (pl:=⟨[[0,1,0,1,1,0,0,1,1,0,0,1,0,1,1]],[([0,0,0,1,1,0,0,1,0,1,1,0,0,1,1,0,0,1,0,1,1],0,[.str,.str,.int .i64])]⟩) hT 100000 (by kernel_rfl) (unr_use H (by kernel_rfl))
theorem t31r3_1 (hT:TabOk cfg3 (ctab [(51,containsC),(52,fullC),(53,hasSC),(54,anyC)]))(H:(fun(E0:List AV)=>(fun(C0:Hp)=>(fun(D0:List AV)=>(fun(A0:List Fm)=>(fun(B0:List (List AV))=>ifP (decide (j<z)) (gAnd (inR j (length ea)&&true&&true) (∃(s1 s2:List UInt8) (z3:Int),getE ea j=[str s1,str s2,int i64 z3]∧ifP (!s1==[97,108,116]) (gAnd (lowVss 2 ea&&true&&true&&(lowVss 2 ea&&true&&true&&true)) (ToEnd cfg3 31 (bodyOf f31) (RetIs prog f31 v) A0 normal [(2,true,ptr 0 0),(5,true,int i64 f),(7,true,ptr 1 0),(8,true,int i64 n),(11,true,sl 3 B0 none),(12,true,int i64 3),(13,true,int i64 1),(18,true,sl 3 ea none),(19,true,int i64 z),(20,true,int i64 (wrap i64 (j+1)))] C0)) (∃(s4:List UInt8),[str s2]=[str s4]∧ifP (!!s4==[]) (bool false=v) (∃(s5 x6:List UInt8),length s5≤100000∧[str s2,str [34]]=[str s5,str x6]∧ifP (contB s5 x6) (∃(s7 x8:List UInt8),length s7≤100000∧[str s2,str [39]]=[str s7,str x8]∧ifP (contB s7 x8) (bool false=v) (gAnd (lowVss 2 ea&&true&&true&&(lowVss 2 ea&&true&&true&&true)) (ToEnd cfg3 31 (bodyOf f31) (RetIs prog f31 v) A0 normal [(2,true,ptr 0 0),(5,true,int i64 f),(7,true,ptr 1 0),(8,true,int i64 (wrap i64 (n+1))),(11,true,sl 3 B0 none),(12,true,int i64 3),(13,true,int i64 1),(18,true,sl 3 ea none),(19,true,int i64 z),(20,true,int i64 (wrap i64 (j+1)))] C0))) (gAnd (lowVss 2 ea&&true&&true&&(lowVss 2 ea&&true&&true&&true)) (ToEnd cfg3 31 (bodyOf f31) (RetIs prog f31 v) A0 normal [(2,true,ptr 0 0),(5,true,int i64 f),(7,true,ptr 1 0),(8,true,int i64 (wrap i64 (n+1))),(11,true,sl 3 B0 none),(12,true,int i64 3),(13,true,int i64 1),(18,true,sl 3 ea none),(19,true,int i64 z),(20,true,int i64 (wrap i64 (j+1)))] C0)))))) (ifP (decide (n>1)) (bool false=v) (ifP (n==0) (gAnd (lowVss 1 ea&&true&&true&&true) (ToEnd cfg3 31 (bodyOf f31) (RetIs prog f31 v) A0 normal [(2,true,ptr 0 0),(5,true,int i64 (wrap i64 (f+n))),(7,true,ptr 1 0),(8,true,int i64 0),(11,true,sl 3 B0 none),(12,true,int i64 3),(13,true,int i64 2),(18,true,sl 3 ea none),(19,true,int i64 (↑(length ea):Int)),(20,true,int i64 0)] [mem 74 [sl 3 ea none],mem 94 D0])) (gAnd (lowVss 1 ea&&true&&true&&true) (ToEnd cfg3 31 (bodyOf f31) (RetIs prog f31 v) A0 normal [(2,true,ptr 0 0),(5,true,int i64 (wrap i64 (f+n))),(7,true,ptr 1 0),(8,true,int i64 0),(11,true,sl 3 B0 none),(12,true,int i64 3),(13,true,int i64 2),(18,true,sl 3 ea none),(19,true,int i64 (↑(length ea):Int)),(20,true,int i64 0)] [mem 74 [sl 3 ea none],mem 94 D0]))))) [[str [115,114,99],bool true,AV.fn (Fn.func 52) [] []],E0,D0]) [code [0,1,0,1,1,0,0,1,1,0,0,1,0,1,1],block 2,code [1,1,1,0,0,1,1,0,0,1,0,1,1],block 1,code [1,1,1,0,0,1,0,1,1],loop [0,1,0,1,1] 1,block 0,code [1,1,1]]) [str [111,110,101,114,114,111,114],bool false,AV.fn (Fn.func 53) [sl 1 [[str [99,111,110,116,105,110,117,101]]] none] []]) [mem 74 [sl 3 ea none],mem 94 E0]) [str [97,108,116],bool false,AV.fn (Fn.func 52) [] []]):ToEnd cfg3 31 (bodyOf f31) (RetIs prog f31 v) ([.code [0,1,0,1,1,0,0,1,1,0,0,1,0,1,1],.block 2,.code [1,1,1,0,0,1,1,0,0,1,0,1,1],.block 1,.code [1,1,1,0,0,1,0,1,1],.loop [0,1,0,1,1] 1,.block 0,.code [1,1,1]]) .normal ([(2,true,.ptr 0 0),(5,true,.int .i64 f),(7,true,.ptr 1 0),(8,true,.int .i64 n),(11,true,.sl 3 [[.str [115,114,99],.bool true,.fn (.func 52) [] []],[.str [97,108,116],.bool false,.fn (.func 52) [] []],[.str [111,110,101,114,114,111,114],.bool false,.fn (.func 53) [.sl 1 [[.str [99,111,110,116,105,110,117,101]]] none] []]] none),(12,true,.int .i64 3),(13,true,.int .i64 1),(18,true,.sl 3 ea none),(19,true,.int .i64 z),(20,true,.int .i64 j)]) ([.mem 74 [.sl 3 ea none],.mem 94 [.str [97,108,116],.bool false,.fn (.func 52) [] []]]):=
 ends_round (pl:=⟨[[0,1,0,1,1,0,0,1,1,0,0,1,0,1,1]],[([0,0,0,1,1,0,0,1,0,1,1,0,0,1,1,0,0,1,0,1,1],0,[.str,.str,.int .i64])]⟩) hT 100000 (by kernel_rfl) (unr_use H (by kernel_rfl))
theorem t31r3_2 (hT:TabOk cfg3 (ctab [(51,containsC),(52,fullC),(53,hasSC),(54,anyC)]))(H:(fun(E0:List AV)=>(fun(B0:List AV)=>(fun(C0:List AV)=>(fun(D0:List Fm)=>(fun(A0:List AV)=>ifP (decide (j<z)) (gAnd (inR j (length ea)&&true&&true) (∃(s1 s2:List UInt8) (z3:Int),getE ea j=[str s1,str s2,int i64 z3]∧ifP (!s1==[111,110,101,114,114,111,114]) (gAnd (lowVss 2 ea&&true&&true&&(lowVss 2 ea&&true&&true&&true)) (ToEnd cfg3 31 (bodyOf f31) (RetIs prog f31 v) D0 normal [(2,true,ptr 0 0),(5,true,int i64 f),(7,true,ptr 1 0),(8,true,int i64 n),(11,true,sl 3 [B0,C0,A0] none),(12,true,int i64 3),(13,true,int i64 2),(18,true,sl 3 ea none),(19,true,int i64 z),(20,true,int i64 (wrap i64 (j+1)))] [mem 74 [sl 3 ea none],mem 94 A0])) (∃(l4:List (List UInt8)) (k5:List UInt8),length l4≤9223372036854775807∧[sl 1 [E0] none,str s2]=[sl 1 (encT l4) none,str k5]∧ifP (!List.any l4 fun(x:List UInt8)↦k5==x) (bool false=v) (∃(s6 x7:List UInt8),length s6≤100000∧[str s2,str [34]]=[str s6,str x7]∧ifP (contB s6 x7) (∃(s8 x9:List UInt8),length s8≤100000∧[str s2,str [39]]=[str s8,str x9]∧ifP (contB s8 x9) (bool false=v) (gAnd (lowVss 2 ea&&true&&true&&(lowVss 2 ea&&true&&true&&true)) (ToEnd cfg3 31 (bodyOf f31) (RetIs prog f31 v) D0 normal [(2,true,ptr 0 0),(5,true,int i64 f),(7,true,ptr 1 0),(8,true,int i64 (wrap i64 (n+1))),(11,true,sl 3 [B0,C0,A0] none),(12,true,int i64 3),(13,true,int i64 2),(18,true,sl 3 ea none),(19,true,int i64 z),(20,true,int i64 (wrap i64 (j+1)))] [mem 74 [sl 3 ea none],mem 94 A0]))) (gAnd (lowVss 2 ea&&true&&true&&(lowVss 2 ea&&true&&true&&true)) (ToEnd cfg3 31 (bodyOf f31) (RetIs prog f31 v) D0 normal [(2,true,ptr 0 0),(5,true,int i64 f),(7,true,ptr 1 0),(8,true,int i64 (wrap i64 (n+1))),(11,true,sl 3 [B0,C0,A0] none),(12,true,int i64 3),(13,true,int i64 2),(18,true,sl 3 ea none),(19,true,int i64 z),(20,true,int i64 (wrap i64 (j+1)))] [mem 74 [sl 3 ea none],mem 94 A0])))))) (ifP (decide (n>1)) (bool false=v) (ifP (n==0) (gAnd (lowVss 1 ea&&true&&true&&true) (bool (wrap i64 (f+n)==(↑(length ea):Int))=v)) (gAnd (lowVss 1 ea&&true&&true&&true) (bool (wrap i64 (f+n)==(↑(length ea):Int))=v))))) [str [111,110,101,114,114,111,114],bool false,AV.fn (Fn.func 53) [sl 1 [E0] none] []]) [code [0,1,0,1,1,0,0,1,1,0,0,1,0,1,1],block 2,code [1,1,1,0,0,1,1,0,0,1,0,1,1],block 1,code [1,1,1,0,0,1,0,1,1],loop [0,1,0,1,1] 1,block 0,code [1,1,1]]) [str [97,108,116],bool false,AV.fn (Fn.func 52) [] []]) [str [115,114,99],bool true,AV.fn (Fn.func 52) [] []]) [str [99,111,110,116,105,110,117,101]]):ToEnd cfg3 31 (bodyOf f31) (RetIs prog f31 v) ([.code [0,1,0,1,1,0,0,1,1,0,0,1,0,1,1],.block 2,.code [1,1,1,0,0,1,1,0,0,1,0,1,1],.block 1,.code [1,1,1,0,0,1,0,1,1],.loop [0,1,0,1,1] 1,.block 0,.code [1,1,1]]) .normal ([(2,true,.ptr 0 0),(5,true,.int .i64 f),(7,true,.ptr 1 0),(8,true,.int .i64 n),(11,true,.sl 3 [[.str [115,114,99],.bool true,.fn (.func 52) [] []],[.str [97,108,116],.bool false,.fn (.func 52) [] []],[.str [111,110,101,114,114,111,114],.bool false,.fn (.func 53) [.sl 1 [[.str [99,111,110,116,105,110,117,101]]] none] []]] none),(12,true,.int .i64 3),(13,true,.int .i64 2),(18,true,.sl 3 ea none),(19,true,.int .i64 z),(20,true,.int .i64 j)]) ([.mem 74 [.sl 3 ea none],.mem 94 [.str [111,110,101,114,114,111,114],.bool false,.fn (.func 53) [.sl 1 [[.str [99,111,110,116,105,110,117,101]]] none] []]]):=
 ends_round (pl:=⟨[[0,1,0,1,1,0,0,1,1,0,0,1,0,1,1]],[([0,0,0,1,1,0,0,1,0,1,1,0,0,1,1,0,0,1,0,1,1],0,[.str,.str,.int .i64])]⟩) hT 100000 (by kernel_rfl) (unr_use H (by kernel_rfl))
theorem t31e4 (hT:TabOk cfg3 (ctab [(51,containsC),(52,fullC),(53,hasSC),(54,anyC)]))(H:(fun(A0:List AV)=>ToEnd cfg3 31 (bodyOf f31) (RetIs prog f31 v) [code [0,1,0,1,1,0,0,1,1,0,0,1,0,1,1],block 2,code [1,1,1,0,0,1,1,0,0,1,0,1,1],block 1,code [1,1,1,0,0,1,0,1,1],loop [0,1,0,1,1] 1,block 0,code [1,1,1]] normal [(2,true,ptr 0 0),(5,true,int i64 0),(7,true,ptr 1 0),(8,true,int i64 0),(11,true,sl 3 [A0,[str [102,101,116,99,104,97,98,108,101],bool false,AV.fn (Fn.func 53) [sl 1 [[str [121,101,115]],[str [110,111]]] none] []]] none),(12,true,int i64 2),(13,true,int i64 0),(18,true,sl 3 ea none),(19,true,int i64 (↑(length ea):Int)),(20,true,int i64 0)] [mem 74 [sl 3 ea none],mem 94 A0]) [str [110,97,109,101],bool true,AV.fn (Fn.func 52) [] []]):ToEnd cfg3 31 (bodyOf f31) (RetIs prog f31 v) ([.code []]) .normal ([(0,true,.agg [.sl 3 ea none]),(1,true,.sl 3 [[.str [110,97,109,101],.bool true,.fn (.func 52) [] []],[.str [102,101,116,99,104,97,98,108,101],.bool false,.fn (.func 53) [.sl 1 [[.str [121,101,115]],[.str [110,111]]] none] []]] none)]) ([]):=
 uo (pl:=⟨[[0,1,0,1,1,0,0,1,1,0,0,1,0,1,1]],[([0,0,0,1,1,0,0,1,0,1,1,0,0,1,1,0,0,1,0,1,1],0,[.str,.str,.int .i64])]⟩) hT H (by kernel_rfl)
theorem t31r4_0 (hT:TabOk cfg3 (ctab [(51,containsC),(52,fullC),(53,hasSC),(54,anyC)]))(H:(fun(D0:List AV)=>(fun(E0:List AV)=>(fun(C0:Hp)=>(fun(A0:List Fm)=>(fun(B0:List (List AV))=>ifP (decide (j<z)) (gAnd (inR j (length ea)&&true&&true) (∃(s1 s2:List UInt8) (z3:Int),getE ea j=[str s1,str s2,int i64 z3]∧ifP (!s1==[110,97,109,101]) (gAnd (lowVss 2 ea&&true&&true&&(lowVss 2 ea&&true&&true&&true)) (ToEnd cfg3 31 (bodyOf f31) (RetIs prog f31 v) A0 normal [(2,true,ptr 0 0),(5,true,int i64 f),(7,true,ptr 1 0),(8,true,int i64 n),(11,true,sl 3 B0 none),(12,true,int i64 2),(13,true,int i64 0),(18,true,sl 3 ea none),(19,true,int i64 z),(20,true,int i64 (wrap i64 (j+1)))] C0)) (∃(s4:List UInt8),[str s2]=[str s4]∧ifP (!!s4==[]) (bool false=v) (∃(s5 x6:List UInt8),length s5≤100000∧[str s2,str [34]]=[str s5,str x6]∧ifP (contB s5 x6) (∃(s7 x8:List UInt8),length s7≤100000∧[str s2,str [39]]=[str s7,str x8]∧ifP (contB s7 x8) (bool false=v) (gAnd (lowVss 2 ea&&true&&true&&(lowVss 2 ea&&true&&true&&true)) (ToEnd cfg3 31 (bodyOf f31) (RetIs prog f31 v) A0 normal [(2,true,ptr 0 0),(5,true,int i64 f),(7,true,ptr 1 0),(8,true,int i64 (wrap i64 (n+1))),(11,true,sl 3 B0 none),(12,true,int i64 2),(13,true,int i64 0),(18,true,sl 3 ea none),(19,true,int i64 z),(20,true,int i64 (wrap i64 (j+1)))] C0))) (gAnd (lowVss 2 ea&&true&&true&&(lowVss 2 ea&&true&&true&&true)) (ToEnd cfg3 31 (bodyOf f31) (RetIs prog f31 v) A0 normal [(2,true,ptr 0 0),(5,true,int i64 f),(7,true,ptr 1 0),(8,true,int i64 (wrap i64 (n+1))),(11,true,sl 3 B0 none),(12,true,int i64 2),(13,true,int i64 0),(18,true,sl 3 ea none),(19,true,int i64 z),(20,true,int i64 (wrap i64 (j+1)))] C0)))))) (ifP (decide (n>1)) (bool false=v) (ifP (n==0) (bool false=v) (gAnd (lowVss 1 ea&&true&&true&&true) (ToEnd cfg3 31 (bodyOf f31) (RetIs prog f31 v) A0 normal [(2,true,ptr 0 0),(5,true,int i64 (wrap i64 (f+n))),(7,true,ptr 1 0),(8,true,int i64 0),(11,true,sl 3 B0 none),(12,true,int i64 2),(13,true,int i64 1),(18,true,sl 3 ea none),(19,true,int i64 (↑(length ea):Int)),(20,true,int i64 0)] [mem 74 [sl 3 ea none],mem 94 E0]))))) [D0,E0]) [code [0,1,0,1,1,0,0,1,1,0,0,1,0,1,1],block 2,code [1,1,1,0,0,1,1,0,0,1,0,1,1],block 1,code [1,1,1,0,0,1,0,1,1],loop [0,1,0,1,1] 1,block 0,code [1,1,1]]) [mem 74 [sl 3 ea none],mem 94 D0]) [str [102,101,116,99,104,97,98,108,101],bool false,AV.fn (Fn.func 53) [sl 1 [[str [121,101,115]],[str [110,111]]] none] []]) [str [110,97,109,101],bool true,AV.fn (Fn.func 52) [] []]):ToEnd cfg3 31 (bodyOf f31) (RetIs prog f31 v) ([.code [0,1,0,1,1,0,0,1,1,0,0,1,0,1,1],.block 2,.code [1,1,1,0,0,1,1,0,0,1,0,1,1],.block 1,.code [1,1,1,0,0,1,0,1,1],.loop [0,1,0,1,1] 1,.block 0,.code [1,1,1]]) .normal ([(2,true,.ptr 0 0),(5,true,.int .i64 f),(7,true,.ptr 1 0),(8,true,.int .i64 n),(11,true,.sl 3 [[.str [110,97,109,101],.bool true,.fn (.func 52) [] []],[.str [102,101,116,99,104,97,98,108,101],.bool false,.fn (.func 53) [.sl 1 [[.str [121,101,115]],[.str [110,111]]] none] []]] none),(12,true,.int .i64 2),(13,true,.int .i64 0),(18,true,.sl 3 ea none),(19,true,.int .i64 z),(20,true,.int .i64 j)]) ([.mem 74 [.sl 3 ea none],.mem 94 [.str [110,97,109,101],.bool true,.fn (.func 52) [] []]]):=
 ends_round (pl:=⟨[[0,1,0,1,1,0,0,1,1,0,0,1,0,1,1]],[([0,0,0,1,1,0,0,1,0,1,1,0,0,1,1,0,0,1,0,1,1],0,[.str,.str,.int .i64])]⟩) hT 100000 (by kernel_rfl) (unr_use H (by kernel_rfl))
theorem t31r4_1 (hT:TabOk cfg3 (ctab [(51,containsC),(52,fullC),(53,hasSC),(54,anyC)]))(H:(fun(B0:List AV)=>(fun(C0:List Fm)=>(fun(A0:List AV)=>ifP (decide (j<z)) (gAnd (inR j (length ea)&&true&&true) (∃(s1 s2:List UInt8) (z3:Int),getE ea j=[str s1,str s2,int i64 z3]∧ifP (!s1==[102,101,116,99,104,97,98,108,101]) (gAnd (lowVss 2 ea&&true&&true&&(lowVss 2 ea&&true&&true&&true)) (ToEnd cfg3 31 (bodyOf f31) (RetIs prog f31 v) C0 normal [(2,true,ptr 0 0),(5,true,int i64 f),(7,true,ptr 1 0),(8,true,int i64 n),(11,true,sl 3 [B0,A0] none),(12,true,int i64 2),(13,true,int i64 1),(18,true,sl 3 ea none),(19,true,int i64 z),(20,true,int i64 (wrap i64 (j+1)))] [mem 74 [sl 3 ea none],mem 94 A0])) (∃(l4:List (List UInt8)) (k5:List UInt8),length l4≤9223372036854775807∧[sl 1 [[str [121,101,115]],[str [110,111]]] none,str s2]=[sl 1 (encT l4) none,str k5]∧ifP (!List.any l4 fun(x:List UInt8)↦k5==x) (bool false=v) (∃(s6 x7:List UInt8),length s6≤100000∧[str s2,str [34]]=[str s6,str x7]∧ifP (contB s6 x7) (∃(s8 x9:List UInt8),length s8≤100000∧[str s2,str [39]]=[str s8,str x9]∧ifP (contB s8 x9) (bool false=v) (gAnd (lowVss 2 ea&&true&&true&&(lowVss 2 ea&&true&&true&&true)) (ToEnd cfg3 31 (bodyOf f31) (RetIs prog f31 v) C0 normal [(2,true,ptr 0 0),(5,true,int i64 f),(7,true,ptr 1 0),(8,true,int i64 (wrap i64 (n+1))),(11,true,sl 3 [B0,A0] none),(12,true,int i64 2),(13,true,int i64 1),(18,true,sl 3 ea none),(19,true,int i64 z),(20,true,int i64 (wrap i64 (j+1)))] [mem 74 [sl 3 ea none],mem 94 A0]))) (gAnd (lowVss 2 ea&&true&&true&&(lowVss 2 ea&&true&&true&&true)) (ToEnd cfg3 31 (bodyOf f31) (RetIs prog f31 v) C0 normal [(2,true,ptr 0 0),(5,true,int i64 f),(7,true,ptr 1 0),(8,true,int i64 (wrap i64 (n+1))),(11,true,sl 3 [B0,A0] none),(12,true,int i64 2),(13,true,int i64 1),(18,true,sl 3 ea none),(19,true,int i64 z),(20,true,int i64 (wrap i64 (j+1)))] [mem 74 [sl 3 ea none],mem 94 A0])))))) (ifP (decide (n>1)) (bool false=v) (ifP (n==0) (gAnd (lowVss 1 ea&&true&&true&&true) (bool (wrap i64 (f+n)==(↑(length ea):Int))=v)) (gAnd (lowVss 1 ea&&true&&true&&true) (bool (wrap i64 (f+n)==(↑(length ea):Int))=v))))) [str [102,101,116,99,104,97,98,108,101],bool false,AV.fn (Fn.func 53) [sl 1 [[str [121,101,115]],[str [110,111]]] none] []]) [code [0,1,0,1,1,0,0,1,1,0,0,1,0,1,1],block 2,code [1,1,1,0,0,1,1,0,0,1,0,1,1],block 1,code [1,1,1,0,0,1,0,1,1],loop [0,1,0,1,1] 1,block 0,code [1,1,1]]) [str [110,97,109,101],bool true,AV.fn (Fn.func 52) [] []]):ToEnd cfg3 31 (bodyOf f31) (RetIs prog f31 v) ([.code [0,1,0,1,1,0,0,1,1,0,0,1,0,1,1],.block 2,.code [1,1,1,0,0,1,1,0,0,1,0,1,1],.block 1,.code [1,1,1,0,0,1,0,1,1],.loop [0,1,0,1,1] 1,.block 0,.code [1,1,1]]) .normal ([(2,true,.ptr 0 0),(5,true,.int .i64 f),(7,true,.ptr 1 0),(8,true,.int .i64 n),(11,true,.sl 3 [[.str [110,97,109,101],.bool true,.fn (.func 52) [] []],[.str [102,101,116,99,104,97,98,108,101],.bool false,.fn (.func 53) [.sl 1 [[.str [121,101,115]],[.str [110,111]]] none] []]] none),(12,true,.int .i64 2),(13,true,.int .i64 1),(18,true,.sl 3 ea none),(19,true,.int .i64 z),(20,true,.int .i64 j)]) ([.mem 74 [.sl 3 ea none],.mem 94 [.str [102,101,116,99,104,97,98,108,101],.bool false,.fn (.func 53) [.sl 1 [[.str [121,101,115]],[.str [110,111]]] none] []]]):=
 ends_round (pl:=⟨[[0,1,0,1,1,0,0,1,1,0,0,1,0,1,1]],[([0,0,0,1,1,0,0,1,0,1,1,0,0,1,1,0,0,1,0,1,1],0,[.str,.str,.int .i64])]⟩) hT 100000 (by kernel_rfl) (unr_use H (by kernel_rfl))
theorem t31e6 (hT:TabOk cfg3 (ctab [(51,containsC),(52,fullC),(53,hasSC),(54,anyC)]))(H:(fun(A0:List AV)=>ToEnd cfg3 31 (bodyOf f31) (RetIs prog f31 v) [code [0,1,0,1,1,0,0,1,1,0,0,1,0,1,1],block 2,code [1,1,1,0,0,1,1,0,0,1,0,1,1],block 1,code [1,1,1,0,0,1,0,1,1],loop [0,1,0,1,1] 1,block 0,code [1,1,1]] normal [(2,true,ptr 0 0),(5,true,int i64 0),(7,true,ptr 1 0),(8,true,int i64 0),(11,true,sl 3 [A0] none),(12,true,int i64 1),(13,true,int i64 0),(18,true,sl 3 ea none),(19,true,int i64 (↑(length ea):Int)),(20,true,int i64 0)] [mem 74 [sl 3 ea none],mem 94 A0]) [str [116,101,120,116],bool true,AV.fn (Fn.func 54) [] []]):ToEnd cfg3 31 (bodyOf f31) (RetIs prog f31 v) ([.code []]) .normal ([(0,true,.agg [.sl 3 ea none]),(1,true,.sl 3 [[.str [116,101,120,116],.bool true,.fn (.func 54) [] []]] none)]) ([]):=
 uo (pl:=⟨[[0,1,0,1,1,0,0,1,1,0,0,1,0,1,1]],[([0,0,0,1,1,0,0,1,0,1,1,0,0,1,1,0,0,1,0,1,1],0,[.str,.str,.int .i64])]⟩) hT H (by kernel_rfl)
theorem t31r6_0 (hT:TabOk cfg3 (ctab [(51,containsC),(52,fullC),(53,hasSC),(54,anyC)]))(H:(fun(A0:List AV)=>(fun(C0:Fr)=>(fun(B0:List Fm)=>ifP (decide (j<z)) (gAnd (inR j (length ea)&&true&&true) (∃(s1 s2:List UInt8) (z3:Int),getE ea j=[str s1,str s2,int i64 z3]∧ifP (!s1==[116,101,120,116]) (gAnd (lowVss 2 ea&&true&&true&&(lowVss 2 ea&&true&&true&&true)) (ToEnd cfg3 31 (bodyOf f31) (RetIs prog f31 v) B0 normal [(2,true,ptr 0 0),(5,true,int i64 f),(7,true,ptr 1 0),(8,true,int i64 n),(11,true,sl 3 [A0] none),(12,true,int i64 1),(13,true,int i64 0),(18,true,sl 3 ea none),(19,true,int i64 z),(20,true,int i64 (wrap i64 (j+1)))] [mem 74 [sl 3 ea none],mem 94 A0])) (∃(s4:List UInt8),[str s2]=[str s4]∧∃(s5 x6:List UInt8),length s5≤100000∧[str s2,str [34]]=[str s5,str x6]∧ifP (contB s5 x6) (∃(s7 x8:List UInt8),length s7≤100000∧[str s2,str [39]]=[str s7,str x8]∧ifP (contB s7 x8) (bool false=v) (gAnd (lowVss 2 ea&&true&&true&&(lowVss 2 ea&&true&&true&&true)) (ToEnd cfg3 31 (bodyOf f31) (RetIs prog f31 v) B0 normal C0 [mem 74 [sl 3 ea none],mem 94 A0]))) (gAnd (lowVss 2 ea&&true&&true&&(lowVss 2 ea&&true&&true&&true)) (ToEnd cfg3 31 (bodyOf f31) (RetIs prog f31 v) B0 normal C0 [mem 74 [sl 3 ea none],mem 94 A0]))))) (ifP (decide (n>1)) (bool false=v) (ifP (n==0) (bool false=v) (gAnd (lowVss 1 ea&&true&&true&&true) (bool (wrap i64 (f+n)==(↑(length ea):Int))=v))))) [code [0,1,0,1,1,0,0,1,1,0,0,1,0,1,1],block 2,code [1,1,1,0,0,1,1,0,0,1,0,1,1],block 1,code [1,1,1,0,0,1,0,1,1],loop [0,1,0,1,1] 1,block 0,code [1,1,1]]) [(2,true,ptr 0 0),(5,true,int i64 f),(7,true,ptr 1 0),(8,true,int i64 (wrap i64 (n+1))),(11,true,sl 3 [A0] none),(12,true,int i64 1),(13,true,int i64 0),(18,true,sl 3 ea none),(19,true,int i64 z),(20,true,int i64 (wrap i64 (j+1)))]) [str [116,101,120,116],bool true,AV.fn (Fn.func 54) [] []]):ToEnd cfg3 31 (bodyOf f31) (RetIs prog f31 v) ([.code [0,1,0,1,1,0,0,1,1,0,0,1,0,1,1],.block 2,.code [1,1,1,0,0,1,1,0,0,1,0,1,1],.block 1,.code [1,1,1,0,0,1,0,1,1],.loop [0,1,0,1,1] 1,.block 0,.code [1,1,1]]) .normal ([(2,true,.ptr 0 0),(5,true,.int .i64 f),(7,true,.ptr 1 0),(8,true,.int .i64 n),(11,true,.sl 3 [[.str [116,101,120,116],.bool true,.fn (.func 54) [] []]] none),(12,true,.int .i64 1),(13,true,.int .i64 0),(18,true,.sl 3 ea none),(19,true,.int .i64 z),(20,true,.int .i64 j)]) ([.mem 74 [.sl 3 ea none],.mem 94 [.str [116,101,120,116],.bool true,.fn (.func 54) [] []]]):=
 ends_round (pl:=⟨[[0,1,0,1,1,0,0,1,1,0,0,1,0,1,1]],[([0,0,0,1,1,0,0,1,0,1,1,0,0,1,1,0,0,1,0,1,1],0,[.str,.str,.int .i64])]⟩) hT 100000 (by kernel_rfl) (unr_use H (by kernel_rfl))
theorem t31e11 (hT:TabOk cfg3 (ctab [(51,containsC),(52,fullC),(53,hasSC),(54,anyC)]))(H:(fun(A0:List AV)=>ToEnd cfg3 31 (bodyOf f31) (RetIs prog f31 v) [code [0,1,0,1,1,0,0,1,1,0,0,1,0,1,1],block 2,code [1,1,1,0,0,1,1,0,0,1,0,1,1],block 1,code [1,1,1,0,0,1,0,1,1],loop [0,1,0,1,1] 1,block 0,code [1,1,1]] normal [(2,true,ptr 0 0),(5,true,int i64 0),(7,true,ptr 1 0),(8,true,int i64 0),(11,true,sl 3 [A0] none),(12,true,int i64 1),(13,true,int i64 0),(18,true,sl 3 ea none),(19,true,int i64 (↑(length ea):Int)),(20,true,int i64 0)] [mem 74 [sl 3 ea none],mem 94 A0]) [str [116,101,115,116],bool true,AV.fn (Fn.func 52) [] []]):ToEnd cfg3 31 (bodyOf f31) (RetIs prog f31 v) ([.code []]) .normal ([(0,true,.agg [.sl 3 ea none]),(1,true,.sl 3 [[.str [116,101,115,116],.bool true,.fn (.func 52) [] []]] none)]) ([]):=
 uo (pl:=⟨[[0,1,0,1,1,0,0,1,1,0,0,1,0,1,1]],[([0,0,0,1,1,0,0,1,0,1,1,0,0,1,1,0,0,1,0,1,1],0,[.str,.str,.int .i64])]⟩) hT H (by kernel_rfl)
theorem t31r11_0 (hT:TabOk cfg3 (ctab [(51,containsC),(52,fullC),(53,hasSC),(54,anyC)]))(H:(fun(A0:List AV)=>(fun(C0:Fr)=>(fun(B0:List Fm)=>ifP (decide (j<z)) (gAnd (inR j (length ea)&&true&&true) (∃(s1 s2:List UInt8) (z3:Int),getE ea j=[str s1,str s2,int i64 z3]∧ifP (!s1==[116,101,115,116]) (gAnd (lowVss 2 ea&&true&&true&&(lowVss 2 ea&&true&&true&&true)) (ToEnd cfg3 31 (bodyOf f31) (RetIs prog f31 v) B0 normal [(2,true,ptr 0 0),(5,true,int i64 f),(7,true,ptr 1 0),(8,true,int i64 n),(11,true,sl 3 [A0] none),(12,true,int i64 1),(13,true,int i64 0),(18,true,sl 3 ea none),(19,true,int i64 z),(20,true,int i64 (wrap i64 (j+1)))] [mem 74 [sl 3 ea none],mem 94 A0])) (∃(s4:List UInt8),[str s2]=[str s4]∧ifP (!!s4==[]) (bool false=v) (∃(s5 x6:List UInt8),length s5≤100000∧[str s2,str [34]]=[str s5,str x6]∧ifP (contB s5 x6) (∃(s7 x8:List UInt8),length s7≤100000∧[str s2,str [39]]=[str s7,str x8]∧ifP (contB s7 x8) (bool false=v) (gAnd (lowVss 2 ea&&true&&true&&(lowVss 2 ea&&true&&true&&true)) (ToEnd cfg3 31 (bodyOf f31) (RetIs prog f31 v) B0 normal C0 [mem 74 [sl 3 ea none],mem 94 A0]))) (gAnd (lowVss 2 ea&&true&&true&&(lowVss 2 ea&&true&&true&&true)) (ToEnd cfg3 31 (bodyOf f31) (RetIs prog f31 v) B0 normal C0 [mem 74 [sl 3 ea none],mem 94 A0])))))) (ifP (decide (n>1)) (bool false=v) (ifP (n==0) (bool false=v) (gAnd (lowVss 1 ea&&true&&true&&true) (bool (wrap i64 (f+n)==(↑(length ea):Int))=v))))) [code [0,1,0,1,1,0,0,1,1,0,0,1,0,1,1],block 2,code [1,1,1,0,0,1,1,0,0,1,0,1,1],block 1,code [1,1,1,0,0,1,0,1,1],loop [0,1,0,1,1] 1,block 0,code [1,1,1]]) [(2,true,ptr 0 0),(5,true,int i64 f),(7,true,ptr 1 0),(8,true,int i64 (wrap i64 (n+1))),(11,true,sl 3 [A0] none),(12,true,int i64 1),(13,true,int i64 0),(18,true,sl 3 ea none),(19,true,int i64 z),(20,true,int i64 (wrap i64 (j+1)))]) [str [116,101,115,116],bool true,AV.fn (Fn.func 52) [] []]):ToEnd cfg3 31 (bodyOf f31) (RetIs prog f31 v) ([.code [0,1,0,1,1,0,0,1,1,0,0,1,0,1,1],.block 2,.code [1,1,1,0,0,1,1,0,0,1,0,1,1],.block 1,.code [1,1,1,0,0,1,0,1,1],.loop [0,1,0,1,1] 1,.block 0,.code [1,1,1]]) .normal ([(2,true,.ptr 0 0),(5,true,.int .i64 f),(7,true,.ptr 1 0),(8,true,.int .i64 n),(11,true,.sl 3 [[.str [116,101,115,116],.bool true,.fn (.func 52) [] []]] none),(12,true,.int .i64 1),(13,true,.int .i64 0),(18,true,.sl 3 ea none),(19,true,.int .i64 z),(20,true,.int .i64 j)]) ([.mem 74 [.sl 3 ea none],.mem 94 [.str [116,101,115,116],.bool true,.fn (.func 52) [] []]]):=
 ends_round (pl:=⟨[[0,1,0,1,1,0,0,1,1,0,0,1,0,1,1]],[([0,0,0,1,1,0,0,1,0,1,1,0,0,1,1,0,0,1,0,1,1],0,[.str,.str,.int .i64])]⟩) hT 100000 (by kernel_rfl) (unr_use H (by kernel_rfl))
end Go.Proofs.YtopjpnhgnopbiaaDoor.Tr
end
section
namespace Go.Proofs.YtopjpnhgnopbiaaDoor.Tr
open Go.Ai Go
set_option maxRecDepth 100000
theorem pf31 :pureFn cfg3 31 Tryd.f31:=(by refine⟨?_,?_,?_,?_,?_,?_⟩<;>kernel_rfl)
theorem c32 :COk cfg3 32 rulesC:=by
 refine cok_pure pf32 fun vs h K ht=> ?_
 obtain⟨k,rfl,hk⟩:=ht;refine⟨_,hk,t32 (ctab_ok ctab_nil) ?_⟩;unfold rulesL
 refine ifP_intro (fun a=>by rw[a];rfl) fun a=> ?_
 rw[a]
 refine ifP_intro (fun b=>by rw[b];rfl) fun b=> ?_
 rw[b]
 refine ifP_intro (fun c=>by rw[c];rfl) fun c=> ?_
 rw[c]
 refine ifP_intro (fun d=>by rw[d];rfl) fun d=> ?_
 rw[d];rfl
theorem tab31 :TabOk cfg3 (ctab [(51,containsC),(52,fullC),(53,hasSC),(54,anyC)]):=ctab_ok (ctab_cons c51 (ctab_cons c52 (ctab_cons c53 (ctab_cons c54 ctab_nil))))
theorem quo_t {v:List UInt8}(a:contB v [34]=true)(b:contB v [39]=true):quoB v=true:=by unfold quoB;rw[a,b];rfl
theorem quo_f1 {v:List UInt8}(a:contB v [34]=false):quoB v=false:=by unfold quoB;rw[a];rfl
theorem quo_f2 {v:List UInt8}(a:contB v [39]=false):quoB v=false:=by unfold quoB;rw[a,Bool.and_false]
theorem cnt_skip {r:Rul}{x:Att}{t:List Att}{n:Int}(a:(x.name==r.name)=false):cntR r (x::t) n=cntR r t n:=by rw[cntR,a];rfl
theorem cnt_bad {r:Rul}{x:Att}{t:List Att}{n:Int}(a:(x.name==r.name)=true)(b:(r.may.ok x.value&& !quoB x.value)=false):cntR r (x::t) n=none:=by rw[cntR,a,b];rfl
theorem cnt_one {r:Rul}{x:Att}{t:List Att}{n:Int}(a:(x.name==r.name)=true)(b:(r.may.ok x.value&& !quoB x.value)=true):cntR r (x::t) n=cntR r t (n+1):=by rw[cntR,a,b];rfl
theorem low33 (al:List Att):(lowVss 2 (al.map encA)&&true&&true&&(lowVss 2 (al.map encA)&&true&&true&&true))=true:=by rw[low_encAs];rfl
theorem low33' (al:List Att):(lowVss 1 (al.map encA)&&true&&true&&true)=true:=by rw[low_encAs];rfl
theorem loop33_3_2 (v:Bool)(f:Int)(hf0:0≤f)(hf1:f≤200000):∀(r pre:List Att) (n:Int),0≤n→n≤(pre.length:Nat)→(pre++r).length≤tlim→(∀a∈pre++r,a.value.length≤tlim)→v=resR rul3_2.must [] (pre++r) f (cntR rul3_2 r n)→
  ToEnd cfg3 31 (bodyOf Tryd.f31) (RetIs Tryd.prog Tryd.f31 (.bool v)) [.code [0,1,0,1,1,0,0,1,1,0,0,1,0,1,1],.block 2,.code [1,1,1,0,0,1,1,0,0,1,0,1,1],.block 1,.code [1,1,1,0,0,1,0,1,1],.loop [0,1,0,1,1] 1,.block 0,.code [1,1,1]] .normal
   [(2,true,.ptr 0 0),(5,true,.int .i64 f),(7,true,.ptr 1 0),(8,true,.int .i64 n),(11,true,.sl 3 [[.str [115,114,99],.bool true,.fn (.func 52) [] []],[.str [97,108,116],.bool false,.fn (.func 52) [] []],[.str [111,110,101,114,114,111,114],.bool false,.fn (.func 53) [.sl 1 [[.str [99,111,110,116,105,110,117,101]]] none] []]] none),(12,true,.int .i64 3),(13,true,.int .i64 2),(18,true,.sl 3 ((pre++r).map encA) none),(19,true,.int .i64 ((pre++r).length:Nat)),(20,true,.int .i64 (pre.length:Nat))] [.mem 74 [.sl 3 ((pre++r).map encA) none],.mem 94 [.str [111,110,101,114,114,111,114],.bool false,.fn (.func 53) [.sl 1 [[.str [99,111,110,116,105,110,117,101]]] none] []]]:=by
 intro r
 induction r with
 |nil=>
  intro pre n h0 h1 hl hx hv
  refine t31r3_2 tab31 (ifP_intro (fun hc=> ?_) fun _=>ifP_intro (fun hc=> ?_) fun hc=> ?_)
  ·simp at hc
  ·have hc:decide (1<n)=true:=hc;rw[hv];simp only[cntR,resR,hc,cond_true]
  ·have hc:decide (1<n)=false:=hc;rw[cntR] at hv
   have he:(n==0&&rul3_2.must)=false:=by simp[rul3_2]
   refine ifP_intro (fun _=> ?_) fun _=> ?_
   ·refine gAnd_intro (low33' _) ?_
    rw[wrap_in (by unfold tlim at hl;simp only[List.append_nil] at hl;omega) (by unfold tlim at hl;simp only[List.append_nil] at hl;omega)]
    rw[hv];simp only[resR,hc,he,cond_false,keepR,List.append_nil,List.length_map];try rfl
   ·refine gAnd_intro (low33' _) ?_
    rw[wrap_in (by unfold tlim at hl;simp only[List.append_nil] at hl;omega) (by unfold tlim at hl;simp only[List.append_nil] at hl;omega)]
    rw[hv];simp only[resR,hc,he,cond_false,keepR,List.append_nil,List.length_map];try rfl
 |cons x r ih=>
  intro pre n h0 h1 hl hx hv;have hl':=hl;simp only[List.length_append,List.length_cons] at hl';unfold tlim at hl'
  have hlen:pre.length<lim:=by unfold lim;omega
  have hn1:IntKind.wrap .i64 (n+1)=n+1:=wrap_in (by omega) (by omega)
  have hxv:x.value.length≤tlim:=hx x (by simp)
  have hin:inR (pre.length:Int) ((pre++x::r).map encA).length=true:=inR_of (by omega) (by simp;omega)
  refine t31r3_2 tab31 (ifP_intro (fun _=> ?_) fun hc=> ?_)
  ·refine gAnd_intro (by rw[hin];rfl) ⟨x.name,x.value,x.pl,getE_pre _ _ _ _,ifP_intro (fun a=> ?_) fun a=> ?_⟩
   ·have e:=cnt_skip (r:=rul3_2) (x:=x) (t:=r) (n:=n) (by simpa[rul3_2] using a)
    refine gAnd_intro (low33 _) ?_;rw[wrap_succ hlen]
    have:=ih (pre++[x]) n h0 (by simp;omega) (by simpa using hl) (by simpa using hx) (by rw[hv,e];simp)
    simpa using this
   refine⟨[[99,111,110,116,105,110,117,101]],x.value,by decide,rfl,ifP_intro (fun b=> ?_) fun b=> ?_⟩
   ·have nb:rul3_2.may.ok x.value=false:=by simpa[rul3_2,May.ok] using b
    have e:=cnt_bad (r:=rul3_2) (x:=x) (t:=r) (n:=n) (by simpa[rul3_2] using a) (by rw[nb];rfl)
    rw[hv,e];rfl
   ·have gd:rul3_2.may.ok x.value=true:=by have b':=b;rw[Bool.not_eq_false'] at b';exact b'
    refine⟨_,_,hxv,rfl,ifP_intro (fun c=>⟨_,_,hxv,rfl,ifP_intro (fun d=> ?_) fun d=> ?_⟩) fun c=> ?_⟩
    ·have e:=cnt_bad (r:=rul3_2) (x:=x) (t:=r) (n:=n) (by simpa[rul3_2] using a) (by rw[gd,quo_t c d];rfl)
     rw[hv,e];rfl
    ·have e:=cnt_one (r:=rul3_2) (x:=x) (t:=r) (n:=n) (by simpa[rul3_2] using a) (by rw[gd,quo_f2 d];rfl)
     refine gAnd_intro (low33 _) ?_;rw[wrap_succ hlen,hn1]
     have:=ih (pre++[x]) (n+1) (by omega) (by simp;omega) (by simpa using hl) (by simpa using hx) (by rw[hv,e];simp)
     simpa using this
    ·have e:=cnt_one (r:=rul3_2) (x:=x) (t:=r) (n:=n) (by simpa[rul3_2] using a) (by rw[gd,quo_f1 c];rfl)
     refine gAnd_intro (low33 _) ?_;rw[wrap_succ hlen,hn1]
     have:=ih (pre++[x]) (n+1) (by omega) (by simp;omega) (by simpa using hl) (by simpa using hx) (by rw[hv,e];simp)
     simpa using this
  ·simp at hc;omega
theorem loop33_3_1 (v:Bool)(f:Int)(hf0:0≤f)(hf1:f≤100000):∀(r pre:List Att) (n:Int),0≤n→n≤(pre.length:Nat)→(pre++r).length≤tlim→(∀a∈pre++r,a.value.length≤tlim)→v=resR rul3_1.must [rul3_2] (pre++r) f (cntR rul3_1 r n)→
  ToEnd cfg3 31 (bodyOf Tryd.f31) (RetIs Tryd.prog Tryd.f31 (.bool v)) [.code [0,1,0,1,1,0,0,1,1,0,0,1,0,1,1],.block 2,.code [1,1,1,0,0,1,1,0,0,1,0,1,1],.block 1,.code [1,1,1,0,0,1,0,1,1],.loop [0,1,0,1,1] 1,.block 0,.code [1,1,1]] .normal
   [(2,true,.ptr 0 0),(5,true,.int .i64 f),(7,true,.ptr 1 0),(8,true,.int .i64 n),(11,true,.sl 3 [[.str [115,114,99],.bool true,.fn (.func 52) [] []],[.str [97,108,116],.bool false,.fn (.func 52) [] []],[.str [111,110,101,114,114,111,114],.bool false,.fn (.func 53) [.sl 1 [[.str [99,111,110,116,105,110,117,101]]] none] []]] none),(12,true,.int .i64 3),(13,true,.int .i64 1),(18,true,.sl 3 ((pre++r).map encA) none),(19,true,.int .i64 ((pre++r).length:Nat)),(20,true,.int .i64 (pre.length:Nat))] [.mem 74 [.sl 3 ((pre++r).map encA) none],.mem 94 [.str [97,108,116],.bool false,.fn (.func 52) [] []]]:=by
 intro r
 induction r with
 |nil=>
  intro pre n h0 h1 hl hx hv
  refine t31r3_1 tab31 (ifP_intro (fun hc=> ?_) fun _=>ifP_intro (fun hc=> ?_) fun hc=> ?_)
  ·simp at hc
  ·have hc:decide (1<n)=true:=hc;rw[hv];simp only[cntR,resR,hc,cond_true]
  ·have hc:decide (1<n)=false:=hc;rw[cntR] at hv
   have he:(n==0&&rul3_1.must)=false:=by simp[rul3_1]
   refine ifP_intro (fun _=> ?_) fun _=> ?_
   ·refine gAnd_intro (low33' _) ?_
    rw[wrap_in (by unfold tlim at hl;simp only[List.append_nil] at hl;omega) (by unfold tlim at hl;simp only[List.append_nil] at hl;omega)]
    have hv':v=resR rul3_2.must [] (pre++[]) (f+n) (cntR rul3_2 (pre++[]) 0):=by
     rw[hv,←keepR_cons];simp only[resR,hc,he,cond_false]
    have:=loop33_3_2 v (f+n) (by omega) (by simp only[List.append_nil] at hl;unfold tlim at hl;omega) (pre++[]) [] 0 (by decide) (by simp) hl hx hv'
    simpa using this
   ·refine gAnd_intro (low33' _) ?_
    rw[wrap_in (by unfold tlim at hl;simp only[List.append_nil] at hl;omega) (by unfold tlim at hl;simp only[List.append_nil] at hl;omega)]
    have hv':v=resR rul3_2.must [] (pre++[]) (f+n) (cntR rul3_2 (pre++[]) 0):=by
     rw[hv,←keepR_cons];simp only[resR,hc,he,cond_false]
    have:=loop33_3_2 v (f+n) (by omega) (by simp only[List.append_nil] at hl;unfold tlim at hl;omega) (pre++[]) [] 0 (by decide) (by simp) hl hx hv'
    simpa using this
 |cons x r ih=>
  intro pre n h0 h1 hl hx hv;have hl':=hl;simp only[List.length_append,List.length_cons] at hl';unfold tlim at hl'
  have hlen:pre.length<lim:=by unfold lim;omega
  have hn1:IntKind.wrap .i64 (n+1)=n+1:=wrap_in (by omega) (by omega)
  have hxv:x.value.length≤tlim:=hx x (by simp)
  have hin:inR (pre.length:Int) ((pre++x::r).map encA).length=true:=inR_of (by omega) (by simp;omega)
  refine t31r3_1 tab31 (ifP_intro (fun _=> ?_) fun hc=> ?_)
  ·refine gAnd_intro (by rw[hin];rfl) ⟨x.name,x.value,x.pl,getE_pre _ _ _ _,ifP_intro (fun a=> ?_) fun a=> ?_⟩
   ·have e:=cnt_skip (r:=rul3_1) (x:=x) (t:=r) (n:=n) (by simpa[rul3_1] using a)
    refine gAnd_intro (low33 _) ?_;rw[wrap_succ hlen]
    have:=ih (pre++[x]) n h0 (by simp;omega) (by simpa using hl) (by simpa using hx) (by rw[hv,e];simp)
    simpa using this
   refine⟨_,rfl,ifP_intro (fun b=> ?_) fun b=> ?_⟩
   ·have nb:rul3_1.may.ok x.value=false:=by simpa[rul3_1,May.ok] using b
    have e:=cnt_bad (r:=rul3_1) (x:=x) (t:=r) (n:=n) (by simpa[rul3_1] using a) (by rw[nb];rfl)
    rw[hv,e];rfl
   ·have gd:rul3_1.may.ok x.value=true:=by have b':=b;rw[Bool.not_eq_false'] at b';exact b'
    refine⟨_,_,hxv,rfl,ifP_intro (fun c=>⟨_,_,hxv,rfl,ifP_intro (fun d=> ?_) fun d=> ?_⟩) fun c=> ?_⟩
    ·have e:=cnt_bad (r:=rul3_1) (x:=x) (t:=r) (n:=n) (by simpa[rul3_1] using a) (by rw[gd,quo_t c d];rfl)
     rw[hv,e];rfl
    ·have e:=cnt_one (r:=rul3_1) (x:=x) (t:=r) (n:=n) (by simpa[rul3_1] using a) (by rw[gd,quo_f2 d];rfl)
     refine gAnd_intro (low33 _) ?_;rw[wrap_succ hlen,hn1]
     have:=ih (pre++[x]) (n+1) (by omega) (by simp;omega) (by simpa using hl) (by simpa using hx) (by rw[hv,e];simp)
     simpa using this
    ·have e:=cnt_one (r:=rul3_1) (x:=x) (t:=r) (n:=n) (by simpa[rul3_1] using a) (by rw[gd,quo_f1 c];rfl)
     refine gAnd_intro (low33 _) ?_;rw[wrap_succ hlen,hn1]
     have:=ih (pre++[x]) (n+1) (by omega) (by simp;omega) (by simpa using hl) (by simpa using hx) (by rw[hv,e];simp)
     simpa using this
  ·simp at hc;omega
theorem loop33_3_0 (v:Bool)(f:Int)(hf0:0≤f)(hf1:f≤0):∀(r pre:List Att) (n:Int),0≤n→n≤(pre.length:Nat)→(pre++r).length≤tlim→(∀a∈pre++r,a.value.length≤tlim)→v=resR rul3_0.must [rul3_1,rul3_2] (pre++r) f (cntR rul3_0 r n)→
  ToEnd cfg3 31 (bodyOf Tryd.f31) (RetIs Tryd.prog Tryd.f31 (.bool v)) [.code [0,1,0,1,1,0,0,1,1,0,0,1,0,1,1],.block 2,.code [1,1,1,0,0,1,1,0,0,1,0,1,1],.block 1,.code [1,1,1,0,0,1,0,1,1],.loop [0,1,0,1,1] 1,.block 0,.code [1,1,1]] .normal
   [(2,true,.ptr 0 0),(5,true,.int .i64 f),(7,true,.ptr 1 0),(8,true,.int .i64 n),(11,true,.sl 3 [[.str [115,114,99],.bool true,.fn (.func 52) [] []],[.str [97,108,116],.bool false,.fn (.func 52) [] []],[.str [111,110,101,114,114,111,114],.bool false,.fn (.func 53) [.sl 1 [[.str [99,111,110,116,105,110,117,101]]] none] []]] none),(12,true,.int .i64 3),(13,true,.int .i64 0),(18,true,.sl 3 ((pre++r).map encA) none),(19,true,.int .i64 ((pre++r).length:Nat)),(20,true,.int .i64 (pre.length:Nat))] [.mem 74 [.sl 3 ((pre++r).map encA) none],.mem 94 [.str [115,114,99],.bool true,.fn (.func 52) [] []]]:=by
 intro r
 induction r with
 |nil=>
  intro pre n h0 h1 hl hx hv
  refine t31r3_0 tab31 (ifP_intro (fun hc=> ?_) fun _=>ifP_intro (fun hc=> ?_) fun hc=> ?_)
  ·simp at hc
  ·have hc:decide (1<n)=true:=hc;rw[hv];simp only[cntR,resR,hc,cond_true]
  ·have hc:decide (1<n)=false:=hc;rw[cntR] at hv
   refine ifP_intro (fun he=> ?_) fun he=> ?_
   ·rw[hv];simp only[resR,hc,cond_false,rul3_0,he,Bool.and_true,cond_true]
   ·have he:(n==0&&rul3_0.must)=false:=by rw[he];rfl
    refine gAnd_intro (low33' _) ?_
    rw[wrap_in (by unfold tlim at hl;simp only[List.append_nil] at hl;omega) (by unfold tlim at hl;simp only[List.append_nil] at hl;omega)]
    have hv':v=resR rul3_1.must [rul3_2] (pre++[]) (f+n) (cntR rul3_1 (pre++[]) 0):=by
     rw[hv,←keepR_cons];simp only[resR,hc,he,cond_false]
    have:=loop33_3_1 v (f+n) (by omega) (by simp only[List.append_nil] at hl;unfold tlim at hl;omega) (pre++[]) [] 0 (by decide) (by simp) hl hx hv'
    simpa using this
 |cons x r ih=>
  intro pre n h0 h1 hl hx hv;have hl':=hl;simp only[List.length_append,List.length_cons] at hl';unfold tlim at hl'
  have hlen:pre.length<lim:=by unfold lim;omega
  have hn1:IntKind.wrap .i64 (n+1)=n+1:=wrap_in (by omega) (by omega)
  have hxv:x.value.length≤tlim:=hx x (by simp)
  have hin:inR (pre.length:Int) ((pre++x::r).map encA).length=true:=inR_of (by omega) (by simp;omega)
  refine t31r3_0 tab31 (ifP_intro (fun _=> ?_) fun hc=> ?_)
  ·refine gAnd_intro (by rw[hin];rfl) ⟨x.name,x.value,x.pl,getE_pre _ _ _ _,ifP_intro (fun a=> ?_) fun a=> ?_⟩
   ·have e:=cnt_skip (r:=rul3_0) (x:=x) (t:=r) (n:=n) (by simpa[rul3_0] using a)
    refine gAnd_intro (low33 _) ?_;rw[wrap_succ hlen]
    have:=ih (pre++[x]) n h0 (by simp;omega) (by simpa using hl) (by simpa using hx) (by rw[hv,e];simp)
    simpa using this
   refine⟨_,rfl,ifP_intro (fun b=> ?_) fun b=> ?_⟩
   ·have nb:rul3_0.may.ok x.value=false:=by simpa[rul3_0,May.ok] using b
    have e:=cnt_bad (r:=rul3_0) (x:=x) (t:=r) (n:=n) (by simpa[rul3_0] using a) (by rw[nb];rfl)
    rw[hv,e];rfl
   ·have gd:rul3_0.may.ok x.value=true:=by have b':=b;rw[Bool.not_eq_false'] at b';exact b'
    refine⟨_,_,hxv,rfl,ifP_intro (fun c=>⟨_,_,hxv,rfl,ifP_intro (fun d=> ?_) fun d=> ?_⟩) fun c=> ?_⟩
    ·have e:=cnt_bad (r:=rul3_0) (x:=x) (t:=r) (n:=n) (by simpa[rul3_0] using a) (by rw[gd,quo_t c d];rfl)
     rw[hv,e];rfl
    ·have e:=cnt_one (r:=rul3_0) (x:=x) (t:=r) (n:=n) (by simpa[rul3_0] using a) (by rw[gd,quo_f2 d];rfl)
     refine gAnd_intro (low33 _) ?_;rw[wrap_succ hlen,hn1]
     have:=ih (pre++[x]) (n+1) (by omega) (by simp;omega) (by simpa using hl) (by simpa using hx) (by rw[hv,e];simp)
     simpa using this
    ·have e:=cnt_one (r:=rul3_0) (x:=x) (t:=r) (n:=n) (by simpa[rul3_0] using a) (by rw[gd,quo_f1 c];rfl)
     refine gAnd_intro (low33 _) ?_;rw[wrap_succ hlen,hn1]
     have:=ih (pre++[x]) (n+1) (by omega) (by simp;omega) (by simpa using hl) (by simpa using hx) (by rw[hv,e];simp)
     simpa using this
  ·simp at hc;omega
theorem loop33_4_1 (v:Bool)(f:Int)(hf0:0≤f)(hf1:f≤100000):∀(r pre:List Att) (n:Int),0≤n→n≤(pre.length:Nat)→(pre++r).length≤tlim→(∀a∈pre++r,a.value.length≤tlim)→v=resR rul4_1.must [] (pre++r) f (cntR rul4_1 r n)→
  ToEnd cfg3 31 (bodyOf Tryd.f31) (RetIs Tryd.prog Tryd.f31 (.bool v)) [.code [0,1,0,1,1,0,0,1,1,0,0,1,0,1,1],.block 2,.code [1,1,1,0,0,1,1,0,0,1,0,1,1],.block 1,.code [1,1,1,0,0,1,0,1,1],.loop [0,1,0,1,1] 1,.block 0,.code [1,1,1]] .normal
   [(2,true,.ptr 0 0),(5,true,.int .i64 f),(7,true,.ptr 1 0),(8,true,.int .i64 n),(11,true,.sl 3 [[.str [110,97,109,101],.bool true,.fn (.func 52) [] []],[.str [102,101,116,99,104,97,98,108,101],.bool false,.fn (.func 53) [.sl 1 [[.str [121,101,115]],[.str [110,111]]] none] []]] none),(12,true,.int .i64 2),(13,true,.int .i64 1),(18,true,.sl 3 ((pre++r).map encA) none),(19,true,.int .i64 ((pre++r).length:Nat)),(20,true,.int .i64 (pre.length:Nat))] [.mem 74 [.sl 3 ((pre++r).map encA) none],.mem 94 [.str [102,101,116,99,104,97,98,108,101],.bool false,.fn (.func 53) [.sl 1 [[.str [121,101,115]],[.str [110,111]]] none] []]]:=by
 intro r
 induction r with
 |nil=>
  intro pre n h0 h1 hl hx hv
  refine t31r4_1 tab31 (ifP_intro (fun hc=> ?_) fun _=>ifP_intro (fun hc=> ?_) fun hc=> ?_)
  ·simp at hc
  ·have hc:decide (1<n)=true:=hc;rw[hv];simp only[cntR,resR,hc,cond_true]
  ·have hc:decide (1<n)=false:=hc;rw[cntR] at hv
   have he:(n==0&&rul4_1.must)=false:=by simp[rul4_1]
   refine ifP_intro (fun _=> ?_) fun _=> ?_
   ·refine gAnd_intro (low33' _) ?_
    rw[wrap_in (by unfold tlim at hl;simp only[List.append_nil] at hl;omega) (by unfold tlim at hl;simp only[List.append_nil] at hl;omega)]
    rw[hv];simp only[resR,hc,he,cond_false,keepR,List.append_nil,List.length_map];try rfl
   ·refine gAnd_intro (low33' _) ?_
    rw[wrap_in (by unfold tlim at hl;simp only[List.append_nil] at hl;omega) (by unfold tlim at hl;simp only[List.append_nil] at hl;omega)]
    rw[hv];simp only[resR,hc,he,cond_false,keepR,List.append_nil,List.length_map];try rfl
 |cons x r ih=>
  intro pre n h0 h1 hl hx hv;have hl':=hl;simp only[List.length_append,List.length_cons] at hl';unfold tlim at hl'
  have hlen:pre.length<lim:=by unfold lim;omega
  have hn1:IntKind.wrap .i64 (n+1)=n+1:=wrap_in (by omega) (by omega)
  have hxv:x.value.length≤tlim:=hx x (by simp)
  have hin:inR (pre.length:Int) ((pre++x::r).map encA).length=true:=inR_of (by omega) (by simp;omega)
  refine t31r4_1 tab31 (ifP_intro (fun _=> ?_) fun hc=> ?_)
  ·refine gAnd_intro (by rw[hin];rfl) ⟨x.name,x.value,x.pl,getE_pre _ _ _ _,ifP_intro (fun a=> ?_) fun a=> ?_⟩
   ·have e:=cnt_skip (r:=rul4_1) (x:=x) (t:=r) (n:=n) (by simpa[rul4_1] using a)
    refine gAnd_intro (low33 _) ?_;rw[wrap_succ hlen]
    have:=ih (pre++[x]) n h0 (by simp;omega) (by simpa using hl) (by simpa using hx) (by rw[hv,e];simp)
    simpa using this
   refine⟨[[121,101,115],[110,111]],x.value,by decide,rfl,ifP_intro (fun b=> ?_) fun b=> ?_⟩
   ·have nb:rul4_1.may.ok x.value=false:=by simpa[rul4_1,May.ok] using b
    have e:=cnt_bad (r:=rul4_1) (x:=x) (t:=r) (n:=n) (by simpa[rul4_1] using a) (by rw[nb];rfl)
    rw[hv,e];rfl
   ·have gd:rul4_1.may.ok x.value=true:=by have b':=b;rw[Bool.not_eq_false'] at b';exact b'
    refine⟨_,_,hxv,rfl,ifP_intro (fun c=>⟨_,_,hxv,rfl,ifP_intro (fun d=> ?_) fun d=> ?_⟩) fun c=> ?_⟩
    ·have e:=cnt_bad (r:=rul4_1) (x:=x) (t:=r) (n:=n) (by simpa[rul4_1] using a) (by rw[gd,quo_t c d];rfl)
     rw[hv,e];rfl
    ·have e:=cnt_one (r:=rul4_1) (x:=x) (t:=r) (n:=n) (by simpa[rul4_1] using a) (by rw[gd,quo_f2 d];rfl)
     refine gAnd_intro (low33 _) ?_;rw[wrap_succ hlen,hn1]
     have:=ih (pre++[x]) (n+1) (by omega) (by simp;omega) (by simpa using hl) (by simpa using hx) (by rw[hv,e];simp)
     simpa using this
    ·have e:=cnt_one (r:=rul4_1) (x:=x) (t:=r) (n:=n) (by simpa[rul4_1] using a) (by rw[gd,quo_f1 c];rfl)
     refine gAnd_intro (low33 _) ?_;rw[wrap_succ hlen,hn1]
     have:=ih (pre++[x]) (n+1) (by omega) (by simp;omega) (by simpa using hl) (by simpa using hx) (by rw[hv,e];simp)
     simpa using this
  ·simp at hc;omega
theorem loop33_4_0 (v:Bool)(f:Int)(hf0:0≤f)(hf1:f≤0):∀(r pre:List Att) (n:Int),0≤n→n≤(pre.length:Nat)→(pre++r).length≤tlim→(∀a∈pre++r,a.value.length≤tlim)→v=resR rul4_0.must [rul4_1] (pre++r) f (cntR rul4_0 r n)→
  ToEnd cfg3 31 (bodyOf Tryd.f31) (RetIs Tryd.prog Tryd.f31 (.bool v)) [.code [0,1,0,1,1,0,0,1,1,0,0,1,0,1,1],.block 2,.code [1,1,1,0,0,1,1,0,0,1,0,1,1],.block 1,.code [1,1,1,0,0,1,0,1,1],.loop [0,1,0,1,1] 1,.block 0,.code [1,1,1]] .normal
   [(2,true,.ptr 0 0),(5,true,.int .i64 f),(7,true,.ptr 1 0),(8,true,.int .i64 n),(11,true,.sl 3 [[.str [110,97,109,101],.bool true,.fn (.func 52) [] []],[.str [102,101,116,99,104,97,98,108,101],.bool false,.fn (.func 53) [.sl 1 [[.str [121,101,115]],[.str [110,111]]] none] []]] none),(12,true,.int .i64 2),(13,true,.int .i64 0),(18,true,.sl 3 ((pre++r).map encA) none),(19,true,.int .i64 ((pre++r).length:Nat)),(20,true,.int .i64 (pre.length:Nat))] [.mem 74 [.sl 3 ((pre++r).map encA) none],.mem 94 [.str [110,97,109,101],.bool true,.fn (.func 52) [] []]]:=by
 intro r
 induction r with
 |nil=>
  intro pre n h0 h1 hl hx hv
  refine t31r4_0 tab31 (ifP_intro (fun hc=> ?_) fun _=>ifP_intro (fun hc=> ?_) fun hc=> ?_)
  ·simp at hc
  ·have hc:decide (1<n)=true:=hc;rw[hv];simp only[cntR,resR,hc,cond_true]
  ·have hc:decide (1<n)=false:=hc;rw[cntR] at hv
   refine ifP_intro (fun he=> ?_) fun he=> ?_
   ·rw[hv];simp only[resR,hc,cond_false,rul4_0,he,Bool.and_true,cond_true]
   ·have he:(n==0&&rul4_0.must)=false:=by rw[he];rfl
    refine gAnd_intro (low33' _) ?_
    rw[wrap_in (by unfold tlim at hl;simp only[List.append_nil] at hl;omega) (by unfold tlim at hl;simp only[List.append_nil] at hl;omega)]
    have hv':v=resR rul4_1.must [] (pre++[]) (f+n) (cntR rul4_1 (pre++[]) 0):=by
     rw[hv,←keepR_cons];simp only[resR,hc,he,cond_false]
    have:=loop33_4_1 v (f+n) (by omega) (by simp only[List.append_nil] at hl;unfold tlim at hl;omega) (pre++[]) [] 0 (by decide) (by simp) hl hx hv'
    simpa using this
 |cons x r ih=>
  intro pre n h0 h1 hl hx hv;have hl':=hl;simp only[List.length_append,List.length_cons] at hl';unfold tlim at hl'
  have hlen:pre.length<lim:=by unfold lim;omega
  have hn1:IntKind.wrap .i64 (n+1)=n+1:=wrap_in (by omega) (by omega)
  have hxv:x.value.length≤tlim:=hx x (by simp)
  have hin:inR (pre.length:Int) ((pre++x::r).map encA).length=true:=inR_of (by omega) (by simp;omega)
  refine t31r4_0 tab31 (ifP_intro (fun _=> ?_) fun hc=> ?_)
  ·refine gAnd_intro (by rw[hin];rfl) ⟨x.name,x.value,x.pl,getE_pre _ _ _ _,ifP_intro (fun a=> ?_) fun a=> ?_⟩
   ·have e:=cnt_skip (r:=rul4_0) (x:=x) (t:=r) (n:=n) (by simpa[rul4_0] using a)
    refine gAnd_intro (low33 _) ?_;rw[wrap_succ hlen]
    have:=ih (pre++[x]) n h0 (by simp;omega) (by simpa using hl) (by simpa using hx) (by rw[hv,e];simp)
    simpa using this
   refine⟨_,rfl,ifP_intro (fun b=> ?_) fun b=> ?_⟩
   ·have nb:rul4_0.may.ok x.value=false:=by simpa[rul4_0,May.ok] using b
    have e:=cnt_bad (r:=rul4_0) (x:=x) (t:=r) (n:=n) (by simpa[rul4_0] using a) (by rw[nb];rfl)
    rw[hv,e];rfl
   ·have gd:rul4_0.may.ok x.value=true:=by have b':=b;rw[Bool.not_eq_false'] at b';exact b'
    refine⟨_,_,hxv,rfl,ifP_intro (fun c=>⟨_,_,hxv,rfl,ifP_intro (fun d=> ?_) fun d=> ?_⟩) fun c=> ?_⟩
    ·have e:=cnt_bad (r:=rul4_0) (x:=x) (t:=r) (n:=n) (by simpa[rul4_0] using a) (by rw[gd,quo_t c d];rfl)
     rw[hv,e];rfl
    ·have e:=cnt_one (r:=rul4_0) (x:=x) (t:=r) (n:=n) (by simpa[rul4_0] using a) (by rw[gd,quo_f2 d];rfl)
     refine gAnd_intro (low33 _) ?_;rw[wrap_succ hlen,hn1]
     have:=ih (pre++[x]) (n+1) (by omega) (by simp;omega) (by simpa using hl) (by simpa using hx) (by rw[hv,e];simp)
     simpa using this
    ·have e:=cnt_one (r:=rul4_0) (x:=x) (t:=r) (n:=n) (by simpa[rul4_0] using a) (by rw[gd,quo_f1 c];rfl)
     refine gAnd_intro (low33 _) ?_;rw[wrap_succ hlen,hn1]
     have:=ih (pre++[x]) (n+1) (by omega) (by simp;omega) (by simpa using hl) (by simpa using hx) (by rw[hv,e];simp)
     simpa using this
  ·simp at hc;omega
theorem loop33_6_0 (v:Bool)(f:Int)(hf0:0≤f)(hf1:f≤0):∀(r pre:List Att) (n:Int),0≤n→n≤(pre.length:Nat)→(pre++r).length≤tlim→(∀a∈pre++r,a.value.length≤tlim)→v=resR rul6_0.must [] (pre++r) f (cntR rul6_0 r n)→
  ToEnd cfg3 31 (bodyOf Tryd.f31) (RetIs Tryd.prog Tryd.f31 (.bool v)) [.code [0,1,0,1,1,0,0,1,1,0,0,1,0,1,1],.block 2,.code [1,1,1,0,0,1,1,0,0,1,0,1,1],.block 1,.code [1,1,1,0,0,1,0,1,1],.loop [0,1,0,1,1] 1,.block 0,.code [1,1,1]] .normal
   [(2,true,.ptr 0 0),(5,true,.int .i64 f),(7,true,.ptr 1 0),(8,true,.int .i64 n),(11,true,.sl 3 [[.str [116,101,120,116],.bool true,.fn (.func 54) [] []]] none),(12,true,.int .i64 1),(13,true,.int .i64 0),(18,true,.sl 3 ((pre++r).map encA) none),(19,true,.int .i64 ((pre++r).length:Nat)),(20,true,.int .i64 (pre.length:Nat))] [.mem 74 [.sl 3 ((pre++r).map encA) none],.mem 94 [.str [116,101,120,116],.bool true,.fn (.func 54) [] []]]:=by
 intro r
 induction r with
 |nil=>
  intro pre n h0 h1 hl hx hv
  refine t31r6_0 tab31 (ifP_intro (fun hc=> ?_) fun _=>ifP_intro (fun hc=> ?_) fun hc=> ?_)
  ·simp at hc
  ·have hc:decide (1<n)=true:=hc;rw[hv];simp only[cntR,resR,hc,cond_true]
  ·have hc:decide (1<n)=false:=hc;rw[cntR] at hv
   refine ifP_intro (fun he=> ?_) fun he=> ?_
   ·rw[hv];simp only[resR,hc,cond_false,rul6_0,he,Bool.and_true,cond_true]
   ·have he:(n==0&&rul6_0.must)=false:=by rw[he];rfl
    refine gAnd_intro (low33' _) ?_
    rw[wrap_in (by unfold tlim at hl;simp only[List.append_nil] at hl;omega) (by unfold tlim at hl;simp only[List.append_nil] at hl;omega)]
    rw[hv];simp only[resR,hc,he,cond_false,keepR,List.append_nil,List.length_map];try rfl
 |cons x r ih=>
  intro pre n h0 h1 hl hx hv;have hl':=hl;simp only[List.length_append,List.length_cons] at hl';unfold tlim at hl'
  have hlen:pre.length<lim:=by unfold lim;omega
  have hn1:IntKind.wrap .i64 (n+1)=n+1:=wrap_in (by omega) (by omega)
  have hxv:x.value.length≤tlim:=hx x (by simp)
  have hin:inR (pre.length:Int) ((pre++x::r).map encA).length=true:=inR_of (by omega) (by simp;omega)
  refine t31r6_0 tab31 (ifP_intro (fun _=> ?_) fun hc=> ?_)
  ·refine gAnd_intro (by rw[hin];rfl) ⟨x.name,x.value,x.pl,getE_pre _ _ _ _,ifP_intro (fun a=> ?_) fun a=> ?_⟩
   ·have e:=cnt_skip (r:=rul6_0) (x:=x) (t:=r) (n:=n) (by simpa[rul6_0] using a)
    refine gAnd_intro (low33 _) ?_;rw[wrap_succ hlen]
    have:=ih (pre++[x]) n h0 (by simp;omega) (by simpa using hl) (by simpa using hx) (by rw[hv,e];simp)
    simpa using this
   refine⟨_,rfl,?_⟩;have gd:rul6_0.may.ok x.value=true:=rfl
   refine⟨_,_,hxv,rfl,ifP_intro (fun c=>⟨_,_,hxv,rfl,ifP_intro (fun d=> ?_) fun d=> ?_⟩) fun c=> ?_⟩
   ·have e:=cnt_bad (r:=rul6_0) (x:=x) (t:=r) (n:=n) (by simpa[rul6_0] using a) (by rw[gd,quo_t c d];rfl)
    rw[hv,e];rfl
   ·have e:=cnt_one (r:=rul6_0) (x:=x) (t:=r) (n:=n) (by simpa[rul6_0] using a) (by rw[gd,quo_f2 d];rfl)
    refine gAnd_intro (low33 _) ?_;rw[wrap_succ hlen,hn1]
    have:=ih (pre++[x]) (n+1) (by omega) (by simp;omega) (by simpa using hl) (by simpa using hx) (by rw[hv,e];simp)
    simpa using this
   ·have e:=cnt_one (r:=rul6_0) (x:=x) (t:=r) (n:=n) (by simpa[rul6_0] using a) (by rw[gd,quo_f1 c];rfl)
    refine gAnd_intro (low33 _) ?_;rw[wrap_succ hlen,hn1]
    have:=ih (pre++[x]) (n+1) (by omega) (by simp;omega) (by simpa using hl) (by simpa using hx) (by rw[hv,e];simp)
    simpa using this
  ·simp at hc;omega
theorem loop33_11_0 (v:Bool)(f:Int)(hf0:0≤f)(hf1:f≤0):∀(r pre:List Att) (n:Int),0≤n→n≤(pre.length:Nat)→(pre++r).length≤tlim→(∀a∈pre++r,a.value.length≤tlim)→v=resR rul11_0.must [] (pre++r) f (cntR rul11_0 r n)→
  ToEnd cfg3 31 (bodyOf Tryd.f31) (RetIs Tryd.prog Tryd.f31 (.bool v)) [.code [0,1,0,1,1,0,0,1,1,0,0,1,0,1,1],.block 2,.code [1,1,1,0,0,1,1,0,0,1,0,1,1],.block 1,.code [1,1,1,0,0,1,0,1,1],.loop [0,1,0,1,1] 1,.block 0,.code [1,1,1]] .normal
   [(2,true,.ptr 0 0),(5,true,.int .i64 f),(7,true,.ptr 1 0),(8,true,.int .i64 n),(11,true,.sl 3 [[.str [116,101,115,116],.bool true,.fn (.func 52) [] []]] none),(12,true,.int .i64 1),(13,true,.int .i64 0),(18,true,.sl 3 ((pre++r).map encA) none),(19,true,.int .i64 ((pre++r).length:Nat)),(20,true,.int .i64 (pre.length:Nat))] [.mem 74 [.sl 3 ((pre++r).map encA) none],.mem 94 [.str [116,101,115,116],.bool true,.fn (.func 52) [] []]]:=by
 intro r
 induction r with
 |nil=>
  intro pre n h0 h1 hl hx hv
  refine t31r11_0 tab31 (ifP_intro (fun hc=> ?_) fun _=>ifP_intro (fun hc=> ?_) fun hc=> ?_)
  ·simp at hc
  ·have hc:decide (1<n)=true:=hc;rw[hv];simp only[cntR,resR,hc,cond_true]
  ·have hc:decide (1<n)=false:=hc;rw[cntR] at hv
   refine ifP_intro (fun he=> ?_) fun he=> ?_
   ·rw[hv];simp only[resR,hc,cond_false,rul11_0,he,Bool.and_true,cond_true]
   ·have he:(n==0&&rul11_0.must)=false:=by rw[he];rfl
    refine gAnd_intro (low33' _) ?_
    rw[wrap_in (by unfold tlim at hl;simp only[List.append_nil] at hl;omega) (by unfold tlim at hl;simp only[List.append_nil] at hl;omega)]
    rw[hv];simp only[resR,hc,he,cond_false,keepR,List.append_nil,List.length_map];try rfl
 |cons x r ih=>
  intro pre n h0 h1 hl hx hv;have hl':=hl;simp only[List.length_append,List.length_cons] at hl';unfold tlim at hl'
  have hlen:pre.length<lim:=by unfold lim;omega
  have hn1:IntKind.wrap .i64 (n+1)=n+1:=wrap_in (by omega) (by omega)
  have hxv:x.value.length≤tlim:=hx x (by simp)
  have hin:inR (pre.length:Int) ((pre++x::r).map encA).length=true:=inR_of (by omega) (by simp;omega)
  refine t31r11_0 tab31 (ifP_intro (fun _=> ?_) fun hc=> ?_)
  ·refine gAnd_intro (by rw[hin];rfl) ⟨x.name,x.value,x.pl,getE_pre _ _ _ _,ifP_intro (fun a=> ?_) fun a=> ?_⟩
   ·have e:=cnt_skip (r:=rul11_0) (x:=x) (t:=r) (n:=n) (by simpa[rul11_0] using a)
    refine gAnd_intro (low33 _) ?_;rw[wrap_succ hlen]
    have:=ih (pre++[x]) n h0 (by simp;omega) (by simpa using hl) (by simpa using hx) (by rw[hv,e];simp)
    simpa using this
   refine⟨_,rfl,ifP_intro (fun b=> ?_) fun b=> ?_⟩
   ·have nb:rul11_0.may.ok x.value=false:=by simpa[rul11_0,May.ok] using b
    have e:=cnt_bad (r:=rul11_0) (x:=x) (t:=r) (n:=n) (by simpa[rul11_0] using a) (by rw[nb];rfl)
    rw[hv,e];rfl
   ·have gd:rul11_0.may.ok x.value=true:=by have b':=b;rw[Bool.not_eq_false'] at b';exact b'
    refine⟨_,_,hxv,rfl,ifP_intro (fun c=>⟨_,_,hxv,rfl,ifP_intro (fun d=> ?_) fun d=> ?_⟩) fun c=> ?_⟩
    ·have e:=cnt_bad (r:=rul11_0) (x:=x) (t:=r) (n:=n) (by simpa[rul11_0] using a) (by rw[gd,quo_t c d];rfl)
     rw[hv,e];rfl
    ·have e:=cnt_one (r:=rul11_0) (x:=x) (t:=r) (n:=n) (by simpa[rul11_0] using a) (by rw[gd,quo_f2 d];rfl)
     refine gAnd_intro (low33 _) ?_;rw[wrap_succ hlen,hn1]
     have:=ih (pre++[x]) (n+1) (by omega) (by simp;omega) (by simpa using hl) (by simpa using hx) (by rw[hv,e];simp)
     simpa using this
    ·have e:=cnt_one (r:=rul11_0) (x:=x) (t:=r) (n:=n) (by simpa[rul11_0] using a) (by rw[gd,quo_f1 c];rfl)
     refine gAnd_intro (low33 _) ?_;rw[wrap_succ hlen,hn1]
     have:=ih (pre++[x]) (n+1) (by omega) (by simp;omega) (by simpa using hl) (by simpa using hx) (by rw[hv,e];simp)
     simpa using this
  ·simp at hc;omega
end Go.Proofs.YtopjpnhgnopbiaaDoor.Tr
end
section
namespace Go.Proofs.YtopjpnhgnopbiaaDoor.Tr
open Go.Ai Go
set_option maxRecDepth 100000
theorem len33 (al:List Att):(al.map encA).length=al.length:=List.length_map _
theorem c31 :COk cfg3 31 keepC:=by
 refine cok_pure pf31 fun vs h K ht=> ?_
 obtain⟨k,al,hl,hx,rfl,hk⟩:=ht;refine⟨_,hk,?_⟩;unfold rulesL
 cases e3:k==3 with
 |true=>
  simp only[cond_true,cond_false];refine t31e3 tab31 ?_;rw[len33]
  have:=loop33_3_0 (keepR [rul3_0,rul3_1,rul3_2] al 0) 0 (by decide) (by decide) al [] 0 (by decide) (by decide) (by simpa using hl) (by simpa using hx) (keepR_cons _ _ _ _)
  simpa using this
 |false=>
 simp only[cond_false]
 cases e4:k==4 with
 |true=>
  simp only[cond_true,cond_false];refine t31e4 tab31 ?_;rw[len33]
  have:=loop33_4_0 (keepR [rul4_0,rul4_1] al 0) 0 (by decide) (by decide) al [] 0 (by decide) (by decide) (by simpa using hl) (by simpa using hx) (keepR_cons _ _ _ _)
  simpa using this
 |false=>
 simp only[cond_false]
 cases e6:k==6 with
 |true=>
  simp only[cond_true,cond_false];refine t31e6 tab31 ?_;rw[len33]
  have:=loop33_6_0 (keepR [rul6_0] al 0) 0 (by decide) (by decide) al [] 0 (by decide) (by decide) (by simpa using hl) (by simpa using hx) (keepR_cons _ _ _ _)
  simpa using this
 |false=>
 simp only[cond_false]
 cases e11:k==11 with
 |true=>
  simp only[cond_true,cond_false];refine t31e11 tab31 ?_;rw[len33]
  have:=loop33_11_0 (keepR [rul11_0] al 0) 0 (by decide) (by decide) al [] 0 (by decide) (by decide) (by simpa using hl) (by simpa using hx) (keepR_cons _ _ _ _)
  simpa using this
 |false=>
 simp only[cond_false];refine t31x tab31 ?_;rw[len33];rfl
end Go.Proofs.YtopjpnhgnopbiaaDoor.Tr
end
section
namespace Go.Proofs.YtopjpnhgnopbiaaDoor.Tr
open Go.Ai Go
set_option maxRecDepth 100000
open Go.IntKind (wrap i64 u8)
open Go.Ai.AV (int str sl tup bool agg ptr)
open Go.Ai.Blk (mem grow)
open Go.Ai.Fm (code block loop)
open Go.Ai.XT (normal)
open List (length)
open Prod (fst snd)
open UInt8 (toNat)
open Tryd (prog f13 f21)
variable {N:Nat}{v:AV}{xk xp:Int}{xt:List UInt8}{xa xs:List (List AV)}{d b:Int}{hid:Bool}
theorem t21a (hT:TabOk cfg3 (ctab [(21,checkC N),(31,keepC),(32,rulesC),(33,textC),(34,leafC),(35,fitC)]))(H:(fun(A0:List Fm)=>(fun(B0:Fr)=>(fun(C0:Hp)=>ifP (xk==14) (ifP hid (int i64 13=v) (ToEnd cfg3 21 (bodyOf f21) (RetIs prog f21 v) A0 normal B0 C0)) (ToEnd cfg3 21 (bodyOf f21) (RetIs prog f21 v) A0 normal B0 C0)) [mem 28 [int i64 xk,int i64 xp,str xt,sl 3 xa none,sl 5 xs none],mem 63 [int i64 d,bool hid]]) [(2,true,int i64 b),(3,true,ptr 0 0),(4,true,ptr 1 0)]) [code [1,1,0,0,1],block 0,code [1,1]]):ToEnd cfg3 21 (bodyOf f21) (RetIs prog f21 v) ([.code []]) .normal ([(0,true,.agg [.int .i64 xk,.int .i64 xp,.str xt,.sl 3 xa none,.sl 5 xs none]),(1,true,.agg [.int .i64 d,.bool hid]),(2,true,.int .i64 b)]) ([]):=
 uo (pl:=⟨[[1,1,0,0,1],[1,1,1,1,0,0,1],[1,1,1,1,1,1,0,0,1],[1,1,1,1,1,1,1,1,0,0,1],[1,1],[0,1,0,1,1,1,1]],[([0,0,0,1,1,0,0,1,0,1,1,1,1],1,[.int .i64,.int .i64,.str,.sl 3,.sl 5])]⟩) hT H (by kernel_rfl)
theorem t21b (hT:TabOk cfg3 (ctab [(21,checkC N),(31,keepC),(32,rulesC),(33,textC),(34,leafC),(35,fitC)]))(H:(fun(A0:List Fm)=>(fun(B0:Fr)=>(fun(C0:Hp)=>ifP (xk !=2) (ifP (decide (d>16)) (int i64 3=v) (ToEnd cfg3 21 (bodyOf f21) (RetIs prog f21 v) A0 normal B0 C0)) (ToEnd cfg3 21 (bodyOf f21) (RetIs prog f21 v) A0 normal B0 C0)) [mem 28 [int i64 xk,int i64 xp,str xt,sl 3 xa none,sl 5 xs none],mem 63 [int i64 d,bool hid]]) [(2,true,int i64 b),(3,true,ptr 0 0),(4,true,ptr 1 0)]) [code [1,1,1,1,0,0,1],block 0,code [1,1]]):ToEnd cfg3 21 (bodyOf f21) (RetIs prog f21 v) ([.code [1,1,0,0,1],.block 0,.code [1,1]]) .normal ([(2,true,.int .i64 b),(3,true,.ptr 0 0),(4,true,.ptr 1 0)]) ([.mem 28 [.int .i64 xk,.int .i64 xp,.str xt,.sl 3 xa none,.sl 5 xs none],.mem 63 [.int .i64 d,.bool hid]]):=
 uo (pl:=⟨[[1,1,1,1,0,0,1],[1,1,1,1,1,1,0,0,1],[1,1,1,1,1,1,1,1,0,0,1],[1,1],[0,1,0,1,1,1,1]],[([0,0,0,1,1,0,0,1,0,1,1,1,1],1,[.int .i64,.int .i64,.str,.sl 3,.sl 5])]⟩) hT H (by kernel_rfl)
theorem t21c (hT:TabOk cfg3 (ctab [(21,checkC N),(31,keepC),(32,rulesC),(33,textC),(34,leafC),(35,fitC)]))(H:∃(k1:Int),[int i64 xk]=[int i64 k1]∧∃(k2:Int) (A0:List Att),length A0≤100000∧(∀(a4:Att),a4∈A0→length (Att.value a4)≤100000)∧[agg [sl 3 (stripss 0 [] xa) none],sl 3 (stripss 0 [] (List.map encR (rulesL k1))) none]=[agg [sl 3 (List.map encA A0) none],sl 3 (List.map encR (rulesL k2)) none]∧ifP (!keepR (rulesL k2) A0 0) (int i64 12=v) (ToEnd cfg3 21 (bodyOf f21) (RetIs prog f21 v) [code [1,1,1,1,1,1,0,0,1],block 0,code [1,1]] normal [(2,true,int i64 b),(3,true,ptr 0 0),(4,true,ptr 1 0)] [mem 28 [int i64 xk,int i64 xp,str xt,sl 3 xa none,sl 5 xs none],mem 63 [int i64 d,bool hid]])):ToEnd cfg3 21 (bodyOf f21) (RetIs prog f21 v) ([.code [1,1,1,1,0,0,1],.block 0,.code [1,1]]) .normal ([(2,true,.int .i64 b),(3,true,.ptr 0 0),(4,true,.ptr 1 0)]) ([.mem 28 [.int .i64 xk,.int .i64 xp,.str xt,.sl 3 xa none,.sl 5 xs none],.mem 63 [.int .i64 d,.bool hid]]):=
 uo (pl:=⟨[[1,1,0,0,1],[1,1,1,1,1,1,0,0,1],[1,1,1,1,1,1,1,1,0,0,1],[1,1],[0,1,0,1,1,1,1]],[([0,0,0,1,1,0,0,1,0,1,1,1,1],1,[.int .i64,.int .i64,.str,.sl 3,.sl 5])]⟩) hT H (by kernel_rfl)
theorem t21d (hT:TabOk cfg3 (ctab [(21,checkC N),(31,keepC),(32,rulesC),(33,textC),(34,leafC),(35,fitC)]))(H:(fun(B0:Fr)=>(fun(C0:List Fm)=>(fun(D0:Hp)=>∃(n1:Nd) (A0:Bool),length (Nd.text n1)≤100000∧[agg [int i64 xk,int i64 xp,str xt,sl 3 (stripss 0 [] xa) none,sl 5 (stripss 0 [] xs) none],bool hid]=[agg (encN n1),bool A0]∧ifP (!textB (Nd.kind n1) (Nd.text n1) A0) (int i64 4=v) (ifP (xk==2) (ifP (b==2) (int i64 4=v) (ToEnd cfg3 21 (bodyOf f21) (RetIs prog f21 v) C0 normal B0 D0)) (ToEnd cfg3 21 (bodyOf f21) (RetIs prog f21 v) C0 normal B0 D0))) [mem 28 [int i64 xk,int i64 xp,str xt,sl 3 xa none,sl 5 xs none],mem 63 [int i64 d,bool hid]]) [code [1,1,1,1,1,1,1,1,0,0,1],block 0,code [1,1]]) [(3,true,ptr 0 0),(4,true,ptr 1 0)]):ToEnd cfg3 21 (bodyOf f21) (RetIs prog f21 v) ([.code [1,1,1,1,1,1,0,0,1],.block 0,.code [1,1]]) .normal ([(2,true,.int .i64 b),(3,true,.ptr 0 0),(4,true,.ptr 1 0)]) ([.mem 28 [.int .i64 xk,.int .i64 xp,.str xt,.sl 3 xa none,.sl 5 xs none],.mem 63 [.int .i64 d,.bool hid]]):=
 uo (pl:=⟨[[1,1,0,0,1],[1,1,1,1,0,0,1],[1,1,1,1,1,1,1,1,0,0,1],[1,1],[0,1,0,1,1,1,1]],[([0,0,0,1,1,0,0,1,0,1,1,1,1],1,[.int .i64,.int .i64,.str,.sl 3,.sl 5])]⟩) hT H (by kernel_rfl)
theorem t21e (hT:TabOk cfg3 (ctab [(21,checkC N),(31,keepC),(32,rulesC),(33,textC),(34,leafC),(35,fitC)]))(H:(fun(A0:Fr)=>(fun(B0:Hp)=>∃(k1:Int),[int i64 xk]=[int i64 k1]∧ifP (leafB k1) (ifP (decide ((↑(length xs):Int)>0)) (int i64 13=v) (ifP (xk==7) (ifP ((↑(length xs):Int) !=2) (int i64 13=v) (ifP (xk==10) (ifP ((↑(length xs):Int)==0) (int i64 13=v) (ToEnd cfg3 21 (bodyOf f21) (RetIs prog f21 v) [code [1,1]] normal A0 B0)) (ToEnd cfg3 21 (bodyOf f21) (RetIs prog f21 v) [code [1,1]] normal A0 B0))) (ifP (xk==10) (ifP ((↑(length xs):Int)==0) (int i64 13=v) (ToEnd cfg3 21 (bodyOf f21) (RetIs prog f21 v) [code [1,1]] normal A0 B0)) (ToEnd cfg3 21 (bodyOf f21) (RetIs prog f21 v) [code [1,1]] normal A0 B0)))) (ifP (xk==7) (ifP ((↑(length xs):Int) !=2) (int i64 13=v) (ifP (xk==10) (ifP ((↑(length xs):Int)==0) (int i64 13=v) (ToEnd cfg3 21 (bodyOf f21) (RetIs prog f21 v) [code [1,1]] normal A0 B0)) (ToEnd cfg3 21 (bodyOf f21) (RetIs prog f21 v) [code [1,1]] normal A0 B0))) (ifP (xk==10) (ifP ((↑(length xs):Int)==0) (int i64 13=v) (ToEnd cfg3 21 (bodyOf f21) (RetIs prog f21 v) [code [1,1]] normal A0 B0)) (ToEnd cfg3 21 (bodyOf f21) (RetIs prog f21 v) [code [1,1]] normal A0 B0)))) [mem 28 [int i64 xk,int i64 xp,str xt,sl 3 xa none,sl 5 xs none],mem 63 [int i64 d,bool hid]]) [(3,true,ptr 0 0),(4,true,ptr 1 0)]):ToEnd cfg3 21 (bodyOf f21) (RetIs prog f21 v) ([.code [1,1,1,1,1,1,1,1,0,0,1],.block 0,.code [1,1]]) .normal ([(3,true,.ptr 0 0),(4,true,.ptr 1 0)]) ([.mem 28 [.int .i64 xk,.int .i64 xp,.str xt,.sl 3 xa none,.sl 5 xs none],.mem 63 [.int .i64 d,.bool hid]]):=
 uo (pl:=⟨[[1,1,0,0,1],[1,1,1,1,0,0,1],[1,1,1,1,1,1,0,0,1],[1,1],[0,1,0,1,1,1,1]],[([0,0,0,1,1,0,0,1,0,1,1,1,1],1,[.int .i64,.int .i64,.str,.sl 3,.sl 5])]⟩) hT H (by kernel_rfl)
theorem t21f (hT:TabOk cfg3 (ctab [(21,checkC N),(31,keepC),(32,rulesC),(33,textC),(34,leafC),(35,fitC)]))(H:(fun(A0:List Fm)=>(fun(B0:List AV)=>(fun(C0:Fr)=>ifP hid (ToEnd cfg3 21 (bodyOf f21) (RetIs prog f21 v) A0 normal C0 [mem 28 B0,mem 63 [int i64 d,bool hid],mem 63 [int i64 (wrap i64 (d+1)),bool true]]) (ToEnd cfg3 21 (bodyOf f21) (RetIs prog f21 v) A0 normal C0 [mem 28 B0,mem 63 [int i64 d,bool hid],mem 63 [int i64 (wrap i64 (d+1)),bool (xk==14)]])) [(3,true,ptr 0 0),(7,true,ptr 2 0),(8,true,int i64 0),(97,true,sl 5 xs none),(98,true,int i64 (↑(length xs):Int)),(99,true,int i64 0)]) [int i64 xk,int i64 xp,str xt,sl 3 xa none,sl 5 xs none]) [code [0,1,0,1,1,1,1],block 1,code [1,1,1,1,1]]):ToEnd cfg3 21 (bodyOf f21) (RetIs prog f21 v) ([.code [1,1]]) .normal ([(3,true,.ptr 0 0),(4,true,.ptr 1 0)]) ([.mem 28 [.int .i64 xk,.int .i64 xp,.str xt,.sl 3 xa none,.sl 5 xs none],.mem 63 [.int .i64 d,.bool hid]]):=
 uo (pl:=⟨[[0,1,0,1,1,1,1]],[([0,0,0,1,1,0,0,1,0,1,1,1,1],1,[.int .i64,.int .i64,.str,.sl 3,.sl 5])]⟩) hT H (by kernel_rfl)
theorem t13 (hT:TabOk cfg3 (ctab [(21,checkC N)]))(H:ifP (xk !=1) (int i64 13=v) (∃(n1:Nd) (d2:Int) (b3:Int) (hid4:Bool),Nd.size n1<N∧Nd.tfit n1∧0≤d2∧d2+(↑N:Int)≤1000000∧[agg [int i64 xk,int i64 xp,str xt,sl 3 (stripss 0 [] xa) none,sl 5 (stripss 0 [] xs) none],agg [int i64 0,bool false],int i64 0]=[agg (encN n1),agg [int i64 d2,bool hid4],int i64 b3]∧int i64 (Nd.chk n1 d2 hid4 b3)=v)):ToEnd cfg3 13 (bodyOf f13) (RetIs prog f13 v) ([.code []]) .normal ([(0,true,.agg [.int .i64 xk,.int .i64 xp,.str xt,.sl 3 xa none,.sl 5 xs none])]) ([]):=
 uo (pl:=⟨[],[]⟩) hT H (by kernel_rfl)
theorem t21g {d2 c i z:Int}{hid2:Bool}(hT:TabOk cfg3 (ctab [(21,checkC N),(31,keepC),(32,rulesC),(33,textC),(34,leafC),(35,fitC)]))(H:ifP (decide (i<z)) (gAnd (inR i (length xs)&&true&&true) (∃(z1 z2:Int) (s3:List UInt8) (E0 F0:List (List AV)),getE xs i=[int i64 z1,int i64 z2,str s3,sl 3 E0 none,sl 5 F0 none]∧∃(p6 k7 i8 n9:Int),0≤i8∧i8<n9∧n9≤9223372036854775807∧[int i64 xk,int i64 z1,int i64 i,int i64 (↑(length xs):Int)]=[int i64 p6,int i64 k7,int i64 i8,int i64 n9]∧ifP (!fitB p6 k7 i8 n9) (int i64 13=v) (∃(B0:Nd) (C0 D0:Int) (A0:Bool),Nd.size B0<N∧Nd.tfit B0∧0≤C0∧C0+(↑N:Int)≤1000000∧[agg [int i64 z1,int i64 z2,str s3,sl 3 (stripss 0 [] E0) none,sl 5 (stripss 0 [] F0) none],agg [int i64 d2,bool hid2],int i64 c]=[agg (encN B0),agg [int i64 C0,bool A0],int i64 D0]∧ifP (Nd.chk B0 C0 A0 D0 !=0) (int i64 (Nd.chk B0 C0 A0 D0)=v) (gAnd (lowVss 3 xs&&true&&true&&(lowVss 3 xa&&true&&(lowVss 3 xs&&true&&true)&&true)) (ToEnd cfg3 21 (bodyOf f21) (RetIs prog f21 v) [code [0,1,0,1,1,1,1],block 1,code [1,1,1,1,1]] normal [(3,true,ptr 0 0),(7,true,ptr 2 0),(8,true,int i64 z1),(97,true,sl 5 xs none),(98,true,int i64 z),(99,true,int i64 (wrap i64 (i+1)))] [mem 28 [int i64 xk,int i64 xp,str xt,sl 3 xa none,sl 5 xs none],mem 63 [int i64 d,bool hid],mem 63 [int i64 d2,bool hid2]]))))) (int i64 0=v)):ToEnd cfg3 21 (bodyOf f21) (RetIs prog f21 v) ([.code [0,1,0,1,1,1,1],.block 1,.code [1,1,1,1,1]]) .normal ([(3,true,.ptr 0 0),(7,true,.ptr 2 0),(8,true,.int .i64 c),(97,true,.sl 5 xs none),(98,true,.int .i64 z),(99,true,.int .i64 i)]) ([.mem 28 [.int .i64 xk,.int .i64 xp,.str xt,.sl 3 xa none,.sl 5 xs none],.mem 63 [.int .i64 d,.bool hid],.mem 63 [.int .i64 d2,.bool hid2]]):=
 ends_round (pl:=⟨[[0,1,0,1,1,1,1]],[([0,0,0,1,1,0,0,1,0,1,1,1,1],1,[.int .i64,.int .i64,.str,.sl 3,.sl 5])]⟩) hT 100000 (by kernel_rfl) (unr_use H (by kernel_rfl))
end Go.Proofs.YtopjpnhgnopbiaaDoor.Tr
end
section
namespace Go.Proofs.YtopjpnhgnopbiaaDoor.Tr
open Go.Ai Go
set_option maxRecDepth 100000
theorem pf21 :pureFn cfg3 21 Tryd.f21:=(by refine⟨?_,?_,?_,?_,?_,?_⟩<;>kernel_rfl)
theorem pf13 :pureFn cfg3 13 Tryd.f13:=(by refine⟨?_,?_,?_,?_,?_,?_⟩<;>kernel_rfl)
theorem len27 (l:List Nd):(encNs l).length=l.length:=by rw[encNs_map];exact List.length_map _
theorem chk_eq (n:Nd)(d:Int)(hid:Bool)(b:Int):n.chk d hid b=bif formE n.kind n.text n.attrs n.kids.length d hid b==0 then chks n.kind (n.kids.length:Nat) n.kids 0 (d+1) (hid||n.kind==14) 0 else formE n.kind n.text n.attrs n.kids.length d hid b:=by
 obtain⟨k,p,t,al,ks⟩:=n;rw[Nd.chk];rfl
theorem tfit_eq (n:Nd):n.tfit=(n.text.length≤tlim∧n.attrs.length≤tlim∧(∀a∈n.attrs,a.value.length≤tlim)∧n.kids.length≤tlim∧tfits n.kids):=by
 obtain⟨k,p,t,al,ks⟩:=n;rw[Nd.tfit];rfl
theorem stripRs (n:Nat)(h:Hp)(k:Int):stripss n h ((rulesL k).map encR)=(rulesL k).map encR:=by
 refine stripss_pure _ _ _ ?_;unfold rulesL
 cases k==3<;>cases k==4<;>cases k==6<;>cases k==11<;>rfl
theorem tab21 {N:Nat}(h:COk cfg3 21 (checkC N)):TabOk cfg3 (ctab [(21,checkC N),(31,keepC),(32,rulesC),(33,textC),(34,leafC),(35,fitC)]):=
 ctab_ok (ctab_cons h (ctab_cons c31 (ctab_cons c32 (ctab_cons c33 (ctab_cons c34 (ctab_cons c35 ctab_nil))))))
theorem loop21 {N:Nat}(hT:TabOk cfg3 (ctab [(21,checkC N),(31,keepC),(32,rulesC),(33,textC),(34,leafC),(35,fitC)]))(xk xp d d2 v:Int)(xt:List UInt8)(al:List Att)(hid hid2:Bool)(hd0:0≤d2)(hd1:d2+N≤1000000):∀(r pre:List Nd) (c:Int),(pre++r).length≤tlim→tfits r→sizes r<N→v=chks xk ((pre++r).length:Nat) r (pre.length:Nat) d2 hid2 c→
  ToEnd cfg3 21 (bodyOf Tryd.f21) (RetIs Tryd.prog Tryd.f21 (.int .i64 v)) [.code [0,1,0,1,1,1,1],.block 1,.code [1,1,1,1,1]] .normal
   [(3,true,.ptr 0 0),(7,true,.ptr 2 0),(8,true,.int .i64 c),(97,true,.sl 5 (encNs (pre++r)) none),(98,true,.int .i64 ((pre++r).length:Nat)),(99,true,.int .i64 (pre.length:Nat))]
   [.mem 28 [.int .i64 xk,.int .i64 xp,.str xt,.sl 3 (al.map encA) none,.sl 5 (encNs (pre++r)) none],.mem 63 [.int .i64 d,.bool hid],.mem 63 [.int .i64 d2,.bool hid2]]:=by
 intro r
 induction r with
 |nil=>
  intro pre c hl hf hs hv
  refine t21g hT (ifP_intro (fun hc=> ?_) fun _=> ?_)
  ·simp at hc
  ·rw[hv];rfl
 |cons x r ih=>
  intro pre c hl hf hs hv;obtain⟨hf1,hf2⟩:=hf;have hl':=hl;simp only[List.length_append,List.length_cons] at hl';unfold tlim at hl'
  have hlen:pre.length<lim:=by unfold lim;omega
  have hz:sizes (x::r)=x.size+sizes r:=rfl
  have hin:inR (pre.length:Int) (encNs (pre++x::r)).length=true:=inR_of (by omega) (by rw[len27];simp;omega)
  have hlow:(lowVss 3 (encNs (pre++x::r))&&true&&true&&(lowVss 3 (al.map encA)&&true&&(lowVss 3 (encNs (pre++x::r))&&true&&true)&&true))=true:=by rw[low_encNs,low_encAs];rfl
  rw[chks] at hv
  refine t21g hT (ifP_intro (fun _=> ?_) fun hc=> ?_)
  ·refine gAnd_intro (by rw[hin];rfl) ⟨x.kind,x.pl,x.text,x.attrs.map encA,encNs x.kids,(getE_encNs _ _ _).trans (encN_eq x),xk,x.kind,(pre.length:Nat),((encNs (pre++x::r)).length:Nat),by omega,?_,?_,rfl,?_⟩
   ·rw[len27];simp;omega
   ·rw[len27];simp;omega
   rw[len27]
   refine ifP_intro (fun a=> ?_) fun a=> ?_
   ·rw[hv,a];rfl
   ·rw[a,cond_false] at hv
    refine⟨x,d2,c,hid2,by omega,hf1,hd0,hd1,?_,ifP_intro (fun b=> ?_) fun b=> ?_⟩
    ·rw[stripAs,stripNs,←encN_eq]
    ·have e:(x.chk d2 hid2 c==0)=false:=by simpa using b
     rw[hv,e];rfl
    ·have e:(x.chk d2 hid2 c==0)=true:=by simpa using b
     rw[e,cond_true] at hv;refine gAnd_intro hlow ?_;rw[wrap_succ hlen]
     have:=ih (pre++[x]) x.kind (by simpa using hl) hf2 (by omega) (by rw[hv];simp)
     simpa using this
  ·simp at hc;omega
theorem c21 :∀N,COk cfg3 21 (checkC N)
 |0=>by
  refine cok_pure pf21 fun vs h K ht=> ?_
  obtain⟨n,d,b,hid,hs,_⟩:=ht;omega
 |N+1=>by
  have hT:=tab21 (c21 N)
  refine cok_pure pf21 fun vs h K ht=> ?_
  obtain⟨n,d,b,hid,hs,hf,hd0,hd1,rfl,hk⟩:=ht;refine⟨_,hk,?_⟩;have hsz:=n.size_eq;rw[tfit_eq] at hf;obtain⟨f1,f2,f3,f4,f5⟩:=hf;have ftx:n.text.length≤tlim:=f1;rw[chk_eq,encN_eq];have heq:formE n.kind n.text n.attrs n.kids.length d hid b=formE n.kind n.text n.attrs n.kids.length d hid b:=rfl
  conv at heq=>rhs;unfold formE
  generalize formE n.kind n.text n.attrs n.kids.length d hid b=e at heq⊢;generalize hX:chks n.kind (n.kids.length:Nat) n.kids 0 (d+1) (hid||n.kind==14) 0=X
  have bad:∀z:Int,e=z→(z==0)=false→AV.int .i64 z=AV.int .i64 (bif e==0 then X else e):=by
   intro z h h0;subst h;rw[h0];rfl
  have s5:e=0→ToEnd cfg3 21 (bodyOf Tryd.f21) (RetIs Tryd.prog Tryd.f21 (.int .i64 (bif e==0 then X else e))) [.code [1,1]] .normal [(3,true,.ptr 0 0),(4,true,.ptr 1 0)] [.mem 28 [.int .i64 n.kind,.int .i64 n.pl,.str n.text,.sl 3 (n.attrs.map encA) none,.sl 5 (encNs n.kids) none],.mem 63 [.int .i64 d,.bool hid]]:=by
   intro h0;rw[h0]
   have hw:IntKind.wrap .i64 (d+1)=d+1:=wrap_in (by omega) (by omega)
   refine t21f hT (ifP_intro (fun g=> ?_) fun g=> ?_)
   ·rw[hw,len27];rw[g,Bool.true_or] at hX
    exact loop21 hT n.kind n.pl d (d+1) _ n.text n.attrs hid true (by omega) (by omega) n.kids [] 0 (by simpa using f4) f5 (by omega) (by simpa using hX.symm)
   ·rw[hw,len27];rw[g,Bool.false_or] at hX
    exact loop21 hT n.kind n.pl d (d+1) _ n.text n.attrs hid (n.kind==14) (by omega) (by omega) n.kids [] 0 (by simpa using f4) f5 (by omega) (by simpa using hX.symm)
  have s4:(e=bif (leafB n.kind&&decide (0<n.kids.length))||(n.kind==7&& !(n.kids.length==2))||(n.kind==10&&n.kids.length==0) then 13 else 0)→ToEnd cfg3 21 (bodyOf Tryd.f21) (RetIs Tryd.prog Tryd.f21 (.int .i64 (bif e==0 then X else e))) [.code [1,1,1,1,1,1,1,1,0,0,1],.block 0,.code [1,1]] .normal [(3,true,.ptr 0 0),(4,true,.ptr 1 0)] [.mem 28 [.int .i64 n.kind,.int .i64 n.pl,.str n.text,.sl 3 (n.attrs.map encA) none,.sl 5 (encNs n.kids) none],.mem 63 [.int .i64 d,.bool hid]]:=by
   intro h0
   have i1:decide ((((encNs n.kids).length:Nat):Int)>0)=decide (0<n.kids.length):=by rw[len27];exact decide_eq_decide.2 (by omega)
   have i2:((((encNs n.kids).length:Nat):Int) !=2)=!(n.kids.length==2):=by rw[len27,Bool.eq_iff_iff];simp;omega
   have i3:((((encNs n.kids).length:Nat):Int)==0)=(n.kids.length==0):=by rw[len27,Bool.eq_iff_iff];simp
   refine t21e hT ?_;refine⟨n.kind,rfl,?_⟩;rw[i1,i2,i3];generalize leafB n.kind=p1 at *;generalize decide (0<n.kids.length)=p2 at *;generalize (n.kind==7)=p3 at *;generalize (!(n.kids.length==2))=p4 at *;generalize (n.kind==10)=p5 at *;generalize (n.kids.length==0)=p6 at *
   cases p1<;>cases p2<;>cases p3<;>cases p4<;>cases p5<;>cases p6<;>first|exact bad 13 h0 rfl|exact s5 h0
  have s3:(e=bif !textB n.kind n.text hid||(n.kind==2&&b==2) then 4 else bif (leafB n.kind&&decide (0<n.kids.length))||(n.kind==7&& !(n.kids.length==2))||(n.kind==10&&n.kids.length==0) then 13 else 0)→ToEnd cfg3 21 (bodyOf Tryd.f21) (RetIs Tryd.prog Tryd.f21 (.int .i64 (bif e==0 then X else e))) [.code [1,1,1,1,1,1,0,0,1],.block 0,.code [1,1]] .normal [(2,true,.int .i64 b),(3,true,.ptr 0 0),(4,true,.ptr 1 0)] [.mem 28 [.int .i64 n.kind,.int .i64 n.pl,.str n.text,.sl 3 (n.attrs.map encA) none,.sl 5 (encNs n.kids) none],.mem 63 [.int .i64 d,.bool hid]]:=by
   intro h0
   refine t21d hT ⟨n,hid,ftx,by rw[stripAs,stripNs,←encN_eq],?_⟩
   generalize (!textB n.kind n.text hid)=p1 at *;generalize (n.kind==2)=p2 at *;generalize (b==2)=p3 at *
   cases p1<;>cases p2<;>cases p3<;>first|exact bad 4 h0 rfl|exact s4 h0
  have s2:(e=bif !keepR (rulesL n.kind) n.attrs 0 then 12 else bif !textB n.kind n.text hid||(n.kind==2&&b==2) then 4 else bif (leafB n.kind&&decide (0<n.kids.length))||(n.kind==7&& !(n.kids.length==2))||(n.kind==10&&n.kids.length==0) then 13 else 0)→ToEnd cfg3 21 (bodyOf Tryd.f21) (RetIs Tryd.prog Tryd.f21 (.int .i64 (bif e==0 then X else e))) [.code [1,1,1,1,0,0,1],.block 0,.code [1,1]] .normal [(2,true,.int .i64 b),(3,true,.ptr 0 0),(4,true,.ptr 1 0)] [.mem 28 [.int .i64 n.kind,.int .i64 n.pl,.str n.text,.sl 3 (n.attrs.map encA) none,.sl 5 (encNs n.kids) none],.mem 63 [.int .i64 d,.bool hid]]:=by
   intro h0;refine t21c hT ⟨n.kind,rfl,n.kind,n.attrs,f2,f3,?_,?_⟩
   ·rw[stripAs,stripRs]
   generalize (!keepR (rulesL n.kind) n.attrs 0)=p1 at *
   cases p1<;>first|exact bad 12 h0 rfl|exact s3 h0
  have s1:(e=bif !(n.kind==2)&&decide (16<d) then 3 else bif !keepR (rulesL n.kind) n.attrs 0 then 12 else bif !textB n.kind n.text hid||(n.kind==2&&b==2) then 4 else bif (leafB n.kind&&decide (0<n.kids.length))||(n.kind==7&& !(n.kids.length==2))||(n.kind==10&&n.kids.length==0) then 13 else 0)→ToEnd cfg3 21 (bodyOf Tryd.f21) (RetIs Tryd.prog Tryd.f21 (.int .i64 (bif e==0 then X else e))) [.code [1,1,0,0,1],.block 0,.code [1,1]] .normal [(2,true,.int .i64 b),(3,true,.ptr 0 0),(4,true,.ptr 1 0)] [.mem 28 [.int .i64 n.kind,.int .i64 n.pl,.str n.text,.sl 3 (n.attrs.map encA) none,.sl 5 (encNs n.kids) none],.mem 63 [.int .i64 d,.bool hid]]:=by
   intro h0
   refine t21b hT (ifP_intro (fun g=>ifP_intro (fun g'=> ?_) fun g'=> ?_) fun g=> ?_)
   ·refine bad 3 ?_ rfl;have e1:(!(n.kind==2))=true:=g;have e2:decide (16<d)=true:=g';rw[h0,e1,e2];rfl
   ·refine s2 ?_;have e2:decide (16<d)=false:=g';rw[h0,e2,Bool.and_false];rfl
   ·refine s2 ?_;have e1:(!(n.kind==2))=false:=g;rw[h0,e1,Bool.false_and];rfl
  refine t21a hT (ifP_intro (fun g=>ifP_intro (fun g'=> ?_) fun g'=> ?_) fun g=> ?_)
  ·refine bad 13 ?_ rfl;rw[heq,g,g'];rfl
  ·refine s1 ?_;rw[heq,g',Bool.and_false];rfl
  ·refine s1 ?_;rw[heq,g,Bool.false_and];rfl
theorem c13 (N:Nat):COk cfg3 13 (pageC N):=by
 refine cok_pure pf13 fun vs h K ht=> ?_
 obtain⟨n,hs,hf,hN,rfl,hk⟩:=ht;refine⟨_,hk,?_⟩;rw[encN_eq];unfold Nd.page
 refine t13 (ctab_ok (ctab_cons (c21 N) ctab_nil)) (ifP_intro (fun a=> ?_) fun a=>⟨n,0,0,false,hs,hf,by decide,by omega,by rw[stripAs,stripNs,←encN_eq],?_⟩)
 ·have e:(n.kind==1)=false:=by simpa using a
  rw[e];rfl
 ·have e:(n.kind==1)=true:=by simpa using a
  rw[e];rfl
end Go.Proofs.YtopjpnhgnopbiaaDoor.Tr
end
