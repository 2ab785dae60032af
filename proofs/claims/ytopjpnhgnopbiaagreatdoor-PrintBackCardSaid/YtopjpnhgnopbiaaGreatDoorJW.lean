/-
  Contracts that name functions of this seat: rules of attributes.
  Runs of the functions of trees, printed by a home tool; each is the kernel's word.
  Which trees are pages: the small functions keep to their contracts.
  Which trees are pages: texts of nodes.
  Which trees are pages: attributes keep to the rules of a kind. Printed by a home tool.
  Which trees are pages: attributes as a whole.
  Which trees are pages: check, and what looks at a page.
-/
import Derived.Test.YtopjpnhgnopbiaaGreatDoorJG
import Derived.Test.YtopjpnhgnopbiaaGreatDoorJT
import Derived.Test.YtopjpnhgnopbiaaGreatDoorJH
set_option linter.unusedVariables false
set_option linter.unusedSimpArgs false
set_option linter.unnecessarySimpa false
section
namespace Go.Proofs.YtopjpnhgnopbiaaGreatDoor.Tr
open Go.Ai Go Go.RowKit
def YF :Ce:=fun vs h K=>∃s:List UInt8,s.length<=BG/\h=[.mem 9 [.str s],.grow 4 1 9]/\vs=[.sl 1 [[.str [32]],[.str [9]],[.str [10]],[.str [13]]] (some 1),.fn (.func 130) [] [.ptr 0 0]]/\K (.int .i64 (Jv (fun b=>An s (Ks++b)) Fq 0)) [.mem 9 [.str s],.grow 4 1 9]
def Tz :Ce:=fun vs h K=>∃s:List UInt8,s.length<=BG/\h=[.mem 9 [.str s],.grow 4 1 9]/\vs=[.sl 1 [[.str [32]],[.str [9]],[.str [10]],[.str [13]]] (some 1),.fn (.func 130) [] [.ptr 0 0]]/\K (.bool (Fq.any fun b=>An s (Ks++b))) [.mem 9 [.str s],.grow 4 1 9]
def wG :Xu->AV
 |.full=>.fn (.func 110) [] []
 |.one l=>.fn (.func 111) [.sl 1 (Go.Ai.encT l) none] []
 |.any=>.fn (.func 112) [] []
def VE (r:K6):List AV:=[.str r.name,.bool r.Ch,wG r.may]
def HQ :Ce:=fun vs h K=>∃k:Int,vs=[.int .i64 k]/\K (.sl 3 ((BI k).map VE) none) h
def Ju :Ce:=fun vs h K=>∃(k:Int) (al:List Aj),al.length<=BG/\(∀a∈al,a.value.length<=BG)/\vs=[.agg [.sl 3 (al.map Ao) none],.sl 3 ((BI k).map VE) none]/\K (.bool (Ca (BI k) al 0)) h
end Go.Proofs.YtopjpnhgnopbiaaGreatDoor.Tr
end
section
namespace Go.Proofs.YtopjpnhgnopbiaaGreatDoor.Tr
open Go.Ai Go
set_option maxRecDepth 100000
open Go.IntKind (wrap i64 u8)
open Go.Ai.AV (int str sl tup bool agg ptr)
open Go.Ai.Blk (mem grow)
open Go.Ai.Fm (code block loop)
open Go.Ai.XT (normal)
open List (length)
open Prod (fst snd)
open UInt8 (toNat)
open Tryz (prog f82 f83 f98 f110 f111 f112 f114 f124 f128 f139)
variable {v:AV}{k:Int}{e:List (List AV)}
theorem t34 (hT:AL AI (Ac []))(H:Ap (decide (k>=2)) (bool (decide (k<=6))=v) (bool false=v)):AF AI 82 (AB f82) (AK prog f82 v) ([.code []]) .normal ([(0,true,.int .i64 k)]) ([]):=
 uo (pl:=⟨[],[]⟩) hT H (by kernel_rfl)
theorem fI (hT:AL AI (Ac []))(H:AF AI 124 (AB f124) (AK prog f124 v) [code [0,1,0,1],block 0,code [1,1]] normal [(0,true,sl 1 e none),(1,true,int i64 k),(7,true,int i64 (↑(length e):Int)),(8,true,int i64 0)] []):AF AI 124 (AB f124) (AK prog f124 v) ([.code []]) .normal ([(0,true,.sl 1 e none),(1,true,.int .i64 k)]) ([]):=
 uo (pl:=⟨[[0,1,0,1]],[([0,1,0,0,1,1,0,0,1,0,1],3,[.int .i64])]⟩) hT H (by kernel_rfl)
theorem q6 {v:AV}{e:List (List AV)}{i1:Int}{i7:Int}{i8:Int}(hT:AL AI (Ac []))(H:Ap (decide (i8<i7)) (AS (Dm i8 (length e)&&true&&true) (∃(z1:Int),CH e i8=[int i64 z1]/\Ap (i1==z1) (int i64 i8=v) (AF AI 124 (AB f124) (AK prog f124 v) [code [0,1,0,1],block 0,code [1,1]] normal [(0,true,sl 1 e none),(1,true,int i64 i1),(7,true,int i64 i7),(8,true,int i64 (wrap i64 (i8+1)))] []))) (int i64 (-1)=v)):AF AI 124 (AB f124) (AK prog f124 v) ([.code [0,1,0,1],block 0,code [1,1]]) .normal ([(0,true,sl 1 e none),(1,true,int i64 i1),(7,true,int i64 i7),(8,true,int i64 i8)]) ([]):=
 Az (pl:=⟨[[0,1,0,1]],[([0,1,0,0,1,1,0,0,1,0,1],3,[.int .i64])]⟩) hT 100000 (by kernel_rfl) (Ak H (by kernel_rfl))
theorem t69 (hT:AL AI (Ac [(124,sE)]))(H:∃(l1:List Int) (k2:Int),length l1<=9223372036854775807/\[sl 1 (AE 0 [] e) none,int i64 k]=[sl 1 (N7 l1) none,int i64 k2]/\bool (decide (Jv (fun(x:Int)↦k2==x) l1 0>=0))=v):AF AI 98 (AB f98) (AK prog f98 v) ([.code []]) .normal ([(0,true,.sl 1 e none),(1,true,.int .i64 k)]) ([]):=
 uo (pl:=⟨[],[]⟩) hT H (by kernel_rfl)
theorem t56 (hT:AL AI (Ac [(98,mf)]))(H:∃(l1:List Int) (k2:Int),length l1<=9223372036854775807/\[sl 1 [[int i64 2],[int i64 3],[int i64 4],[int i64 5],[int i64 6],[int i64 7],[int i64 10],[int i64 13],[int i64 14]] none,int i64 k]=[sl 1 (N7 l1) none,int i64 k2]/\bool (List.any l1 fun(x:Int)↦k2==x)=v):AF AI 114 (AB f114) (AK prog f114 v) ([.code []]) .normal ([(0,true,.int .i64 k)]) ([]):=
 uo (pl:=⟨[],[]⟩) hT H (by kernel_rfl)
theorem uh {k:List UInt8}(hT:AL AI (Ac []))(H:AF AI 139 (AB f139) (AK prog f139 v) [code [0,1,0,1],block 0,code [1,1]] normal [(0,true,sl 1 e none),(1,true,str k),(7,true,int i64 (↑(length e):Int)),(8,true,int i64 0)] []):AF AI 139 (AB f139) (AK prog f139 v) ([.code []]) .normal ([(0,true,.sl 1 e none),(1,true,.str k)]) ([]):=
 uo (pl:=⟨[[0,1,0,1]],[([0,1,0,0,1,1,0,0,1,0,1],3,[.str])]⟩) hT H (by kernel_rfl)
theorem qz {v:AV}{e:List (List AV)}{s1:List UInt8}{i7:Int}{i8:Int}(hT:AL AI (Ac []))(H:Ap (decide (i8<i7)) (AS (Dm i8 (length e)&&true&&true) (∃(Vq:List UInt8),CH e i8=[str Vq]/\Ap (s1==Vq) (int i64 i8=v) (AF AI 139 (AB f139) (AK prog f139 v) [code [0,1,0,1],block 0,code [1,1]] normal [(0,true,sl 1 e none),(1,true,str s1),(7,true,int i64 i7),(8,true,int i64 (wrap i64 (i8+1)))] []))) (int i64 (-1)=v)):AF AI 139 (AB f139) (AK prog f139 v) ([.code [0,1,0,1],block 0,code [1,1]]) .normal ([(0,true,sl 1 e none),(1,true,str s1),(7,true,int i64 i7),(8,true,int i64 i8)]) ([]):=
 Az (pl:=⟨[[0,1,0,1]],[([0,1,0,0,1,1,0,0,1,0,1],3,[.str])]⟩) hT 100000 (by kernel_rfl) (Ak H (by kernel_rfl))
theorem t75 {k:List UInt8}(hT:AL AI (Ac [(139,dI)]))(H:∃(l1:List (List UInt8)) (k2:List UInt8),length l1<=9223372036854775807/\[sl 1 (AE 0 [] e) none,str k]=[sl 1 (encT l1) none,str k2]/\bool (decide (Jv (fun(x:List UInt8)↦k2==x) l1 0>=0))=v):AF AI 128 (AB f128) (AK prog f128 v) ([.code []]) .normal ([(0,true,.sl 1 e none),(1,true,.str k)]) ([]):=
 uo (pl:=⟨[],[]⟩) hT H (by kernel_rfl)
theorem t53 {k:List UInt8}(hT:AL AI (Ac [(128,Gv)]))(H:∃(l1:List (List UInt8)) (k2:List UInt8),length l1<=9223372036854775807/\[sl 1 (AE 0 [] e) none,str k]=[sl 1 (encT l1) none,str k2]/\bool (List.any l1 fun(x:List UInt8)↦k2==x)=v):AF AI 111 (AB f111) (AK prog f111 v) ([.code []]) .normal ([(0,true,.sl 1 e none),(1,true,.str k)]) ([]):=
 uo (pl:=⟨[],[]⟩) hT H (by kernel_rfl)
theorem t52 {k:List UInt8}(hT:AL AI (Ac []))(H:(bool !k==[])=v):AF AI 110 (AB f110) (AK prog f110 v) ([.code []]) .normal ([(0,true,.str k)]) ([]):=
 uo (pl:=⟨[],[]⟩) hT H (by kernel_rfl)
theorem t54 {k:List UInt8}(hT:AL AI (Ac []))(H:bool true=v):AF AI 112 (AB f112) (AK prog f112 v) ([.code []]) .normal ([(0,true,.str k)]) ([]):=
 uo (pl:=⟨[],[]⟩) hT H (by kernel_rfl)
theorem t35 {p i n:Int}(hT:AL AI (Ac [(114,XU)]))(H:Ap (p==7) (AS (Dm (min i 1) 2&&true&&true) (∃(z1:Int),CH [[int i64 8],[int i64 9]] (min i 1)=[int i64 z1]/\Ap (k==z1) (bool (decide (i<2))=v) (bool false=v))) (Ap (p==10) (Ap (k==11) (bool true=v) (Ap (k==12) (Ap (decide (i>0)) (bool (i==wrap i64 (n-1))=v) (bool false=v)) (bool false=v))) (∃(k2:Int),[int i64 k]=[int i64 k2]/\bool (KF k2)=v))):AF AI 83 (AB f83) (AK prog f83 v) ([.code []]) .normal ([(0,true,.int .i64 p),(1,true,.int .i64 k),(2,true,.int .i64 i),(3,true,.int .i64 n)]) ([]):=
 uo (pl:=⟨[],[([0,0,1,0,1,0,1],4,[.int .i64])]⟩) hT H (by kernel_rfl)
end Go.Proofs.YtopjpnhgnopbiaaGreatDoor.Tr
end
section
namespace Go.Proofs.YtopjpnhgnopbiaaGreatDoor.Tr
open Go.Ai Go
set_option maxRecDepth 100000
theorem Bv (n:Nat)(h:Hp)(l:List Aj):AE n h (l.map Ao)=l.map Ao:=As _ _ _ (Dh l)
theorem Gz (n:Nat)(h:Hp)(l:List Nd):AE n h (Ag l)=Ag l:=As _ _ _ (E8 l)
theorem vp :BN AI 82 Tryz.f82:=(by refine⟨?_,?_,?_,?_,?_,?_⟩<;>kernel_rfl)
theorem nv :BN AI 124 Tryz.f124:=(by refine⟨?_,?_,?_,?_,?_,?_⟩<;>kernel_rfl)
theorem nx :BN AI 98 Tryz.f98:=(by refine⟨?_,?_,?_,?_,?_,?_⟩<;>kernel_rfl)
theorem vg :BN AI 114 Tryz.f114:=(by refine⟨?_,?_,?_,?_,?_,?_⟩<;>kernel_rfl)
theorem vb :BN AI 139 Tryz.f139:=(by refine⟨?_,?_,?_,?_,?_,?_⟩<;>kernel_rfl)
theorem vd :BN AI 128 Tryz.f128:=(by refine⟨?_,?_,?_,?_,?_,?_⟩<;>kernel_rfl)
theorem vj :BN AI 111 Tryz.f111:=(by refine⟨?_,?_,?_,?_,?_,?_⟩<;>kernel_rfl)
theorem vk :BN AI 110 Tryz.f110:=(by refine⟨?_,?_,?_,?_,?_,?_⟩<;>kernel_rfl)
theorem vi :BN AI 112 Tryz.f112:=(by refine⟨?_,?_,?_,?_,?_,?_⟩<;>kernel_rfl)
theorem vo :BN AI 83 Tryz.f83:=(by refine⟨?_,?_,?_,?_,?_,?_⟩<;>kernel_rfl)
theorem cW (l:List Int):AP.BJ (N7 l)=true:=by
 unfold N7
 induction l with
 |nil=>rfl
 |cons a r ih=>simp only[List.map_cons,AP.BJ,AP.Ad,AP,ih,Bool.true_and]
theorem FD (l:List (List UInt8)):AP.BJ (encT l)=true:=by
 unfold encT
 induction l with
 |nil=>rfl
 |cons a r ih=>simp only[List.map_cons,AP.BJ,AP.Ad,AP,ih,Bool.true_and]
theorem kN (n:Nat)(h:Hp)(l:List Int):AE n h (N7 l)=N7 l:=As _ _ _ (cW l)
theorem CE (n:Nat)(h:Hp)(l:List (List UInt8)):AE n h (encT l)=encT l:=As _ _ _ (FD l)
theorem uS :CQ AI 53 Be:=by
 refine Fp (by kernel_rfl) (by kernel_rfl) (by kernel_rfl:AI.FP 53=some GG) (by kernel_rfl) fun vs h K ht=> ?_
 obtain⟨s,x,hs,rfl,hk⟩:=ht;refine⟨.bool (An s x),hk,?_⟩
 have e:Nat.blt s.length 4294967281=true:=Nat.ble_eq_true_of_le (by unfold BG at hs;omega)
 simp only[GG,e]
theorem c34 :CQ AI 82 Kw:=by
 refine Ax vp fun vs h K ht=> ?_
 obtain⟨k,rfl,hk⟩:=ht
 refine⟨_,hk,t34 (AY AM) (AA (fun a=> ?_) fun a=> ?_)⟩
 ·rw[decide_eq_true_eq] at a;unfold F6
  rw[decide_eq_true (p:=2<=k) (by omega)];rfl
 ·rw[decide_eq_false_iff_not] at a;unfold F6
  rw[decide_eq_false (p:=2<=k) (by omega)];rfl
theorem c52 :CQ AI 110 Hz:=by
 refine Ax vk fun vs h K ht=> ?_
 obtain⟨s,rfl,hk⟩:=ht;exact⟨_,hk,t52 (AY AM) rfl⟩
theorem c54 :CQ AI 112 Mx:=by
 refine Ax vi fun vs h K ht=> ?_
 obtain⟨s,rfl,hk⟩:=ht;exact⟨_,hk,t54 (AY AM) rfl⟩
theorem Uk (k v:Int):∀(r pre:List Int),(pre++r).length<=FR->v=Jv (fun x=>k==x) r (pre.length:Nat)->
  AF AI 124 (AB Tryz.f124) (AK Tryz.prog Tryz.f124 (.int .i64 v)) [.code [0,1,0,1],.block 0,.code [1,1]] .normal
   [(0,true,.sl 1 (N7 (pre++r)) none),(1,true,.int .i64 k),(7,true,.int .i64 ((pre++r).length:Nat)),(8,true,.int .i64 pre.length)] []:=by
 intro r
 induction r with
 |nil=>
  intro pre hl hk
  refine q6 (AY AM) (AA (fun hc=> ?_) fun _=> ?_)
  ·simp at hc
  ·rw[hk];rfl
 |cons x r ih=>
  intro pre hl hk
  have hlen:pre.length<FR:=by simp at hl;omega
  have Hx:Dm (pre.length:Int) (N7 (pre++x::r)).length=true:=Dw (by omega) (by unfold N7;simp;omega)
  refine q6 (AY AM) (AA (fun _=> ?_) fun hc=> ?_)
  ·refine AD (by rw[Hx];rfl) ⟨x,Co _ _ _ _,AA (fun hq=> ?_) fun hq=> ?_⟩
   ·rw[hk,Jv,hq];rfl
   ·rw[BE hlen]
    have:=ih (pre++[x]) (by simpa using hl) (by rw[hk,Jv,hq];simp)
    simpa using this
  ·simp at hc;omega
theorem yX :CQ AI 124 sE:=by
 refine Ax nv fun vs h K ht=> ?_
 obtain⟨l,k,hl,rfl,hk⟩:=ht;refine⟨_,hk,fI (AY AM) ?_⟩;have:=Uk k _ l [] hl rfl
 have e:(N7 l).length=l.length:=by unfold N7;simp
 rw[e];exact this
theorem yb :CQ AI 98 mf:=by
 refine Ax nx fun vs h K ht=> ?_
 obtain⟨l,k,hl,rfl,hk⟩:=ht
 refine⟨_,hk,t69 (AY (AH yX AM)) ⟨l,k,hl,by rw[kN],?_⟩⟩
 exact congrArg AV.bool (Pj _ l 0 (Int.le_refl _))
theorem c56 :CQ AI 114 XU:=by
 refine Ax vg fun vs h K ht=> ?_
 obtain⟨k,rfl,hk⟩:=ht
 exact⟨_,hk,t56 (AY (AH yb AM)) ⟨Y7,k,by decide,rfl,rfl⟩⟩
theorem oI (k:List UInt8)(v:Int):∀(r pre:List (List UInt8)),(pre++r).length<=FR->v=Jv (fun x=>k==x) r (pre.length:Nat)->
  AF AI 139 (AB Tryz.f139) (AK Tryz.prog Tryz.f139 (.int .i64 v)) [.code [0,1,0,1],.block 0,.code [1,1]] .normal
   [(0,true,.sl 1 (encT (pre++r)) none),(1,true,.str k),(7,true,.int .i64 ((pre++r).length:Nat)),(8,true,.int .i64 pre.length)] []:=by
 intro r
 induction r with
 |nil=>
  intro pre hl hk
  refine qz (AY AM) (AA (fun hc=> ?_) fun _=> ?_)
  ·simp at hc
  ·rw[hk];rfl
 |cons x r ih=>
  intro pre hl hk
  have hlen:pre.length<FR:=by simp at hl;omega
  have Hx:Dm (pre.length:Int) (encT (pre++x::r)).length=true:=Dw (by omega) (by unfold encT;simp;omega)
  refine qz (AY AM) (AA (fun _=> ?_) fun hc=> ?_)
  ·refine AD (by rw[Hx];rfl) ⟨x,Co _ _ _ _,AA (fun hq=> ?_) fun hq=> ?_⟩
   ·rw[hk,Jv,hq];rfl
   ·rw[BE hlen]
    have:=ih (pre++[x]) (by simpa using hl) (by rw[hk,Jv,hq];simp)
    simpa using this
  ·simp at hc;omega
theorem c90 :CQ AI 139 dI:=by
 refine Ax vb fun vs h K ht=> ?_
 obtain⟨l,k,hl,rfl,hk⟩:=ht;refine⟨_,hk,uh (AY AM) ?_⟩;have:=oI k _ l [] hl rfl
 have e:(encT l).length=l.length:=by unfold encT;simp
 rw[e];exact this
theorem c75 :CQ AI 128 Gv:=by
 refine Ax vd fun vs h K ht=> ?_
 obtain⟨l,k,hl,rfl,hk⟩:=ht
 refine⟨_,hk,t75 (AY (AH c90 AM)) ⟨l,k,hl,by rw[CE],?_⟩⟩
 exact congrArg AV.bool (Pj _ l 0 (Int.le_refl _))
theorem c53 :CQ AI 111 Gv:=by
 refine Ax vj fun vs h K ht=> ?_
 obtain⟨l,k,hl,rfl,hk⟩:=ht
 exact⟨_,hk,t53 (AY (AH c75 AM)) ⟨l,k,hl,by rw[CE],rfl⟩⟩
theorem c35 :CQ AI 83 SP:=by
 refine Ax vo fun vs h K ht=> ?_
 obtain⟨p,k,i,n,h0,h1,h2,rfl,hk⟩:=ht
 refine⟨_,hk,t35 (AY (AH c56 AM)) (AA (fun a=> ?_) fun a=> ?_)⟩
 ·unfold KA;rw[a,cond_true]
  refine AD (by rw[Dw (by omega) (by omega)];rfl) ?_
  by_cases hi:i=0
  ·subst hi
   refine⟨8,rfl,AA (fun b=> ?_) fun b=> ?_⟩
   ·rw[if_pos rfl,b];rfl
   ·rw[if_pos rfl,b];rfl
  ·have e:min i 1=1:=by omega
   rw[e]
   refine⟨9,rfl,AA (fun b=> ?_) fun b=> ?_⟩
   ·rw[if_neg hi,b];rfl
   ·rw[if_neg hi,b];rfl
 ·unfold KA;rw[a,cond_false]
  refine AA (fun b=> ?_) fun b=> ?_
  ·rw[b,cond_true]
   refine AA (fun c=>by rw[c];rfl) fun c=> ?_
   rw[c]
   refine AA (fun d=> ?_) fun d=>by rw[d];rfl
   rw[d]
   refine AA (fun e=> ?_) fun e=> ?_
   ·rw[BH (by omega) (by unfold FR at h2;omega),decide_eq_true (p:=0<i) (by simpa using e)];rfl
   ·rw[decide_eq_false (p:=0<i) (by simpa using e)];rfl
  ·rw[b,cond_false];exact⟨k,rfl,rfl⟩
end Go.Proofs.YtopjpnhgnopbiaaGreatDoor.Tr
end
section
namespace Go.Proofs.YtopjpnhgnopbiaaGreatDoor.Tr
open Go.Ai Go
set_option maxRecDepth 100000
open Go.IntKind (wrap i64 u8)
open Go.Ai.AV (int str sl tup bool agg ptr)
open Go.Ai.Blk (mem grow)
open Go.Ai.Fm (code block loop)
open Go.Ai.XT (normal)
open List (length)
open Prod (fst snd)
open UInt8 (toNat)
open Tryz (prog f80 f81 f113 f129 f130 f140)
variable {K:AV->Hp->Prop}{s:List UInt8}{v:AV}
theorem t77 {x:List UInt8}(hT:AL AI (Ac [(53,Be)]))(H:AS (decide (7+length x<=9223372036854775807)) (∃(s1:List UInt8) (x2:List UInt8),length s1<=100000/\[str s,str (60::33::45::45::101::115::105::List.append [] x)]=[str s1,str x2]/\K (bool (An s1 x2)) [mem 9 [str s],grow 4 1 9])):AF AI 130 (AB f130) (AX prog f130 2 K) ([.code []]) .normal ([(0,true,.str x),(1,true,.ptr 0 0)]) ([.mem 9 [.str s],.grow 4 1 9]):=
 uo (pl:=⟨[],[]⟩) hT H (by kernel_rfl)
theorem t91 (hT:AL AI (Ac [(130,mA)]))(H:∃(s1:List UInt8),[str [32]]=[str s1]/\∃(s2 b3:List UInt8),(fun(A0:Hp)=>length s2<=100000/\length b3<=10/\[mem 9 [str s],grow 4 1 9]=A0/\[str s1,ptr 0 0]=[str b3,ptr 0 0]/\Ap (An s2 ([60,33,45,45,101,115,105]++b3)) (K (int i64 0) A0) (∃(s4:List UInt8),[str [9]]=[str s4]/\∃(s5 b6:List UInt8),(fun(B0:Hp)=>length s5<=100000/\length b6<=10/\A0=B0/\[str s4,ptr 0 0]=[str b6,ptr 0 0]/\Ap (An s5 ([60,33,45,45,101,115,105]++b6)) (K (int i64 1) B0) (∃(s7:List UInt8),[str [10]]=[str s7]/\∃(s8 b9:List UInt8),(fun(C0:Hp)=>length s8<=100000/\length b9<=10/\B0=C0/\[str s7,ptr 0 0]=[str b9,ptr 0 0]/\Ap (An s8 ([60,33,45,45,101,115,105]++b9)) (K (int i64 2) C0) (∃(G0:List UInt8),[str [13]]=[str G0]/\∃(D0 E0:List UInt8),(fun(F0:Hp)=>length D0<=100000/\length E0<=10/\C0=F0/\[str G0,ptr 0 0]=[str E0,ptr 0 0]/\Ap (An D0 ([60,33,45,45,101,115,105]++E0)) (K (int i64 3) F0) (K (int i64 (-1)) F0)) [mem 9 [str D0],grow 4 1 9])) [mem 9 [str s8],grow 4 1 9])) [mem 9 [str s5],grow 4 1 9])) [mem 9 [str s2],grow 4 1 9]):AF AI 140 (AB f140) (AX prog f140 2 K) ([.code []]) .normal ([(0,true,.sl 1 [[.str [32]],[.str [9]],[.str [10]],[.str [13]]] (some 1)),(1,true,.fn (.func 130) [] [.ptr 0 0])]) ([.mem 9 [.str s],.grow 4 1 9]):=
 uo (pl:=⟨[],[([0,1,0,0,1,1,0,0,1,0,1],3,[.str])]⟩) hT H (by kernel_rfl)
theorem t76 (hT:AL AI (Ac [(140,YF)]))(H:(fun(A0:List AV)=>∃(s1:List UInt8),length s1<=100000/\[mem 9 [str s],grow 4 1 9]=[mem 9 [str s1],grow 4 1 9]/\A0=A0/\K (bool (decide (Jv (fun(b:List UInt8)↦An s1 ([60,33,45,45,101,115,105]++b)) Fq 0>=0))) [mem 9 [str s1],grow 4 1 9]) [sl 1 [[str [32]],[str [9]],[str [10]],[str [13]]] (some 1),AV.fn (Fn.func 130) [] [ptr 0 0]]):AF AI 129 (AB f129) (AX prog f129 2 K) ([.code []]) .normal ([(0,true,.sl 1 [[.str [32]],[.str [9]],[.str [10]],[.str [13]]] (some 1)),(1,true,.fn (.func 130) [] [.ptr 0 0])]) ([.mem 9 [.str s],.grow 4 1 9]):=
 uo (pl:=⟨[],[]⟩) hT H (by kernel_rfl)
theorem t55 (hT:AL AI (Ac [(53,Be),(129,Tz)]))(H:(fun(A0:List AV)=>∃(s1 x2:List UInt8),length s1<=100000/\[str s,str [60,101,115,105,58]]=[str s1,str x2]/\Ap (An s1 x2) (bool true=v) (∃(s3 x4:List UInt8),length s3<=100000/\[str s,str [60,47,101,115,105,58]]=[str s3,str x4]/\Ap (An s3 x4) (bool true=v) (∃(s5:List UInt8),length s5<=100000/\[mem 9 [str s],grow 4 1 9]=[mem 9 [str s5],grow 4 1 9]/\A0=A0/\bool (List.any Fq fun(b:List UInt8)↦An s5 ([60,33,45,45,101,115,105]++b))=v))) [sl 1 [[str [32]],[str [9]],[str [10]],[str [13]]] (some 1),AV.fn (Fn.func 130) [] [ptr 0 0]]):AF AI 113 (AB f113) (AK prog f113 v) ([.code []]) .normal ([(0,true,.str s)]) ([]):=
 uo (pl:=⟨[],[]⟩) hT H (by kernel_rfl)
theorem t33 {xk xp:Int}{xt:List UInt8}{xa xs:List (List AV)}{hid:Bool}(hT:AL AI (Ac [(53,Be),(113,aF)]))(H:Ap (xk==2) (Ap (!xt==[]) (∃(s1:List UInt8),length s1<=100000/\[str xt]=[str s1]/\Ap (!Hs s1) (Ap hid (∃(s2 x3:List UInt8),length s2<=100000/\[str xt,str [45,45,62]]=[str s2,str x3]/\(bool !An s2 x3)=v) (bool true=v)) (bool false=v)) (bool false=v)) (Ap (xk==4) (∃(s4 x5:List UInt8),length s4<=100000/\[str xt,str [60,47,101,115,105,58,105,110,108,105,110,101]]=[str s4,str x5]/\(bool !An s4 x5)=v) (Ap (xk==5) (∃(s6 x7:List UInt8),length s6<=100000/\[str xt,str [60,47,101,115,105,58,114,101,109,111,118,101]]=[str s6,str x7]/\Ap (!An s6 x7) (∃(s8 x9:List UInt8),length s8<=100000/\[str xt,str [60,101,115,105,58]]=[str s8,str x9]/\(bool !An s8 x9)=v) (bool false=v)) (bool (xt==[])=v)))):AF AI 81 (AB f81) (AK prog f81 v) ([.code []]) .normal ([(0,true,.agg [.int .i64 xk,.int .i64 xp,.str xt,.sl 3 xa none,.sl 5 xs none]),(1,true,.bool hid)]) ([]):=
 uo (pl:=⟨[],[]⟩) hT H (by kernel_rfl)
theorem t32 {k:Int}(hT:AL AI (Ac []))(H:Ap (k==3) (sl 3 [[str [115,114,99],bool true,AV.fn (Fn.func 110) [] []],[str [97,108,116],bool false,AV.fn (Fn.func 110) [] []],[str [111,110,101,114,114,111,114],bool false,AV.fn (Fn.func 111) [sl 1 [[str [99,111,110,116,105,110,117,101]]] none] []]] none=v) (Ap (k==4) (sl 3 [[str [110,97,109,101],bool true,AV.fn (Fn.func 110) [] []],[str [102,101,116,99,104,97,98,108,101],bool false,AV.fn (Fn.func 111) [sl 1 [[str [121,101,115]],[str [110,111]]] none] []]] none=v) (Ap (k==6) (sl 3 [[str [116,101,120,116],bool true,AV.fn (Fn.func 112) [] []]] none=v) (Ap (k==11) (sl 3 [[str [116,101,115,116],bool true,AV.fn (Fn.func 110) [] []]] none=v) (sl 3 [] none=v))))):AF AI 80 (AB f80) (AK prog f80 v) ([.code []]) .normal ([(0,true,.int .i64 k)]) ([]):=
 uo (pl:=⟨[],[]⟩) hT H (by kernel_rfl)
end Go.Proofs.YtopjpnhgnopbiaaGreatDoor.Tr
end
section
namespace Go.Proofs.YtopjpnhgnopbiaaGreatDoor.Tr
open Go.Ai Go
set_option maxRecDepth 100000
theorem vh :BN AI 113 Tryz.f113:=(by refine⟨?_,?_,?_,?_,?_,?_⟩<;>kernel_rfl)
theorem vq :BN AI 81 Tryz.f81:=(by refine⟨?_,?_,?_,?_,?_,?_⟩<;>kernel_rfl)
theorem vr :BN AI 80 Tryz.f80:=(by refine⟨?_,?_,?_,?_,?_,?_⟩<;>kernel_rfl)
theorem xO :BW AI 130 Tryz.f130:=(by refine⟨?_,?_,?_,?_,?_,?_⟩<;>kernel_rfl)
theorem xL :BW AI 140 Tryz.f140:=(by refine⟨?_,?_,?_,?_,?_,?_⟩<;>kernel_rfl)
theorem xP :BW AI 129 Tryz.f129:=(by refine⟨?_,?_,?_,?_,?_,?_⟩<;>kernel_rfl)
theorem c77 :CQ AI 130 mA:=by
 refine BD xO fun vs h K ht=> ?_
 obtain⟨s,b,hs,hb,rfl,rfl,hk⟩:=ht;refine t77 (AY (AH uS AM)) (AD ?_ ⟨_,_,hs,rfl,hk⟩);rw[decide_eq_true_eq];omega
theorem c91 :CQ AI 140 YF:=by
 refine BD xL fun vs h K ht=> ?_
 obtain⟨s,hs,rfl,rfl,hk⟩:=ht;refine t91 (AY (AH c77 AM)) ?_;simp only[Fq,Jv] at hk
 refine⟨_,rfl,s,_,hs,by decide,rfl,rfl,AA (fun a=> ?_) fun a=> ?_⟩
 ·have e:An s (Ks++[32])=true:=a;rw[e] at hk;exact hk
 have e:An s (Ks++[32])=false:=a;rw[e] at hk
 refine⟨_,rfl,s,_,hs,by decide,rfl,rfl,AA (fun a=> ?_) fun a=> ?_⟩
 ·have e:An s (Ks++[9])=true:=a;rw[e] at hk;exact hk
 have e:An s (Ks++[9])=false:=a;rw[e] at hk
 refine⟨_,rfl,s,_,hs,by decide,rfl,rfl,AA (fun a=> ?_) fun a=> ?_⟩
 ·have e:An s (Ks++[10])=true:=a;rw[e] at hk;exact hk
 have e:An s (Ks++[10])=false:=a;rw[e] at hk
 refine⟨_,rfl,s,_,hs,by decide,rfl,rfl,AA (fun a=> ?_) fun a=> ?_⟩
 ·have e:An s (Ks++[13])=true:=a;rw[e] at hk;exact hk
 have e:An s (Ks++[13])=false:=a;rw[e] at hk;exact hk
theorem c76 :CQ AI 129 Tz:=by
 refine BD xP fun vs h K ht=> ?_
 obtain⟨s,hs,rfl,rfl,hk⟩:=ht;refine t76 (AY (AH c91 AM)) ⟨s,hs,rfl,rfl,?_⟩
 have e:=Pj (fun b=>An s (Ks++b)) Fq 0 (Int.le_refl _)
 rw[<-e] at hk;exact hk
theorem c55 :CQ AI 113 aF:=by
 refine Ax vh fun vs h K ht=> ?_
 obtain⟨s,hs,rfl,hk⟩:=ht
 refine⟨_,hk,t55 (AY (AH uS (AH c76 AM))) ⟨_,_,hs,rfl,AA (fun a=> ?_) fun a=>⟨_,_,hs,rfl,AA (fun b=> ?_) fun b=>⟨_,hs,rfl,rfl,?_⟩⟩⟩⟩
 ·have e:An s XP=true:=a;unfold Hs;rw[e];rfl
 ·have e:An s XP=false:=a;have e':An s pX=true:=b;unfold Hs;rw[e,e'];rfl
 ·have e:An s XP=false:=a;have e':An s pX=false:=b;unfold Hs;rw[e,e'];rfl
theorem c33 :CQ AI 81 Hr:=by
 refine Ax vq fun vs h K ht=> ?_
 obtain⟨n,hid,hs,rfl,hk⟩:=ht;refine⟨_,hk,?_⟩;rw[BL];have hT:=AY (AH uS (AH c55 AM));generalize n.text=t at *;generalize n.kind=k at *
 refine t33 hT (AA (fun a=> ?_) fun a=>AA (fun b=> ?_) fun b=>AA (fun c=> ?_) fun c=> ?_)
 ·unfold D6;rw[a,cond_true]
  refine AA (fun b=>⟨_,hs,rfl,AA (fun c=>AA (fun d=>⟨_,_,hs,rfl,?_⟩) fun d=> ?_) fun c=> ?_⟩) fun b=> ?_
  ·rw[b,c,d];rfl
  ·rw[b,c,d];rfl
  ·rw[b,c];rfl
  ·rw[b];rfl
 ·unfold D6;rw[a,b];exact⟨_,_,hs,rfl,rfl⟩
 ·unfold D6;rw[a,b,c]
  refine⟨_,_,hs,rfl,AA (fun d=>⟨_,_,hs,rfl,?_⟩) fun d=> ?_⟩
  ·have e:(!An t cS)=true:=d;simp only[cond_true,cond_false,e];rfl
  ·have e:(!An t cS)=false:=d;simp only[cond_true,cond_false,e];rfl
 ·unfold D6;rw[a,b,c];rfl
end Go.Proofs.YtopjpnhgnopbiaaGreatDoor.Tr
end
section
namespace Go.Proofs.YtopjpnhgnopbiaaGreatDoor.Tr
open Go.Ai Go
set_option maxRecDepth 100000
open Go.IntKind (wrap i64 u8)
open Go.Ai.AV (int str sl tup bool agg ptr)
open Go.Ai.Blk (mem grow)
open Go.Ai.Fm (code block loop)
open Go.Ai.XT (normal)
open List (length)
open Prod (fst snd)
open UInt8 (toNat)
open Tryz (prog f79)
variable {v:AV}{ea:List (List AV)}{f n z j:Int}
theorem u7 (hT:AL AI (Ac [(53,Be),(110,Hz),(111,Gv),(112,Mx)]))(H:bool (0==(↑(length ea):Int))=v):AF AI 79 (AB f79) (AK prog f79 v) ([.code []]) .normal ([(0,true,.agg [.sl 3 ea none]),(1,true,.sl 3 [] none)]) ([]):=
 uo (pl:=⟨[[0,1,0,1,1,0,0,1,1,0,0,1,0,1,1]],[([0,0,0,1,1,0,0,1,0,1,1,0,0,1,1,0,0,1,0,1,1],0,[.str,.str,.int .i64])]⟩) hT H (by kernel_rfl)
theorem rJ (hT:AL AI (Ac [(53,Be),(110,Hz),(111,Gv),(112,Mx)]))(H:(fun(A0:List AV)=>AF AI 79 (AB f79) (AK prog f79 v) [code [0,1,0,1,1,0,0,1,1,0,0,1,0,1,1],block 2,code [1,1,1,0,0,1,1,0,0,1,0,1,1],block 1,code [1,1,1,0,0,1,0,1,1],loop [0,1,0,1,1] 1,block 0,code [1,1,1]] normal [(2,true,ptr 0 0),(5,true,int i64 0),(7,true,ptr 1 0),(8,true,int i64 0),(11,true,sl 3 [A0,[str [97,108,116],bool false,AV.fn (Fn.func 110) [] []],[str [111,110,101,114,114,111,114],bool false,AV.fn (Fn.func 111) [sl 1 [[str [99,111,110,116,105,110,117,101]]] none] []]] none),(12,true,int i64 3),(13,true,int i64 0),(18,true,sl 3 ea none),(19,true,int i64 (↑(length ea):Int)),(20,true,int i64 0)] [mem 126 [sl 3 ea none],mem 159 A0]) [str [115,114,99],bool true,AV.fn (Fn.func 110) [] []]):AF AI 79 (AB f79) (AK prog f79 v) ([.code []]) .normal ([(0,true,.agg [.sl 3 ea none]),(1,true,.sl 3 [[.str [115,114,99],.bool true,.fn (.func 110) [] []],[.str [97,108,116],.bool false,.fn (.func 110) [] []],[.str [111,110,101,114,114,111,114],.bool false,.fn (.func 111) [.sl 1 [[.str [99,111,110,116,105,110,117,101]]] none] []]] none)]) ([]):=
 uo (pl:=⟨[[0,1,0,1,1,0,0,1,1,0,0,1,0,1,1]],[([0,0,0,1,1,0,0,1,0,1,1,0,0,1,1,0,0,1,0,1,1],0,[.str,.str,.int .i64])]⟩) hT H (by kernel_rfl)
theorem aN (hT:AL AI (Ac [(53,Be),(110,Hz),(111,Gv),(112,Mx)]))(H:(fun(D0:List AV)=>(fun(E0:List AV)=>(fun(C0:Hp)=>(fun(A0:List Fm)=>(fun(B0:List (List AV))=>Ap (decide (j<z)) (AS (Dm j (length ea)&&true&&true) (∃(s1 s2:List UInt8) (z3:Int),CH ea j=[str s1,str s2,int i64 z3]/\Ap (!s1==[115,114,99]) (AS (AJ 2 ea&&true&&true&&(AJ 2 ea&&true&&true&&true)) (AF AI 79 (AB f79) (AK prog f79 v) A0 normal [(2,true,ptr 0 0),(5,true,int i64 f),(7,true,ptr 1 0),(8,true,int i64 n),(11,true,sl 3 B0 none),(12,true,int i64 3),(13,true,int i64 0),(18,true,sl 3 ea none),(19,true,int i64 z),(20,true,int i64 (wrap i64 (j+1)))] C0)) (∃(s4:List UInt8),[str s2]=[str s4]/\Ap (!!s4==[]) (bool false=v) (∃(s5 x6:List UInt8),length s5<=100000/\[str s2,str [34]]=[str s5,str x6]/\Ap (An s5 x6) (∃(s7 x8:List UInt8),length s7<=100000/\[str s2,str [39]]=[str s7,str x8]/\Ap (An s7 x8) (bool false=v) (AS (AJ 2 ea&&true&&true&&(AJ 2 ea&&true&&true&&true)) (AF AI 79 (AB f79) (AK prog f79 v) A0 normal [(2,true,ptr 0 0),(5,true,int i64 f),(7,true,ptr 1 0),(8,true,int i64 (wrap i64 (n+1))),(11,true,sl 3 B0 none),(12,true,int i64 3),(13,true,int i64 0),(18,true,sl 3 ea none),(19,true,int i64 z),(20,true,int i64 (wrap i64 (j+1)))] C0))) (AS (AJ 2 ea&&true&&true&&(AJ 2 ea&&true&&true&&true)) (AF AI 79 (AB f79) (AK prog f79 v) A0 normal [(2,true,ptr 0 0),(5,true,int i64 f),(7,true,ptr 1 0),(8,true,int i64 (wrap i64 (n+1))),(11,true,sl 3 B0 none),(12,true,int i64 3),(13,true,int i64 0),(18,true,sl 3 ea none),(19,true,int i64 z),(20,true,int i64 (wrap i64 (j+1)))] C0)))))) (Ap (decide (n>1)) (bool false=v) (Ap (n==0) (bool false=v) (AS (AJ 1 ea&&true&&true&&true) (AF AI 79 (AB f79) (AK prog f79 v) A0 normal [(2,true,ptr 0 0),(5,true,int i64 (wrap i64 (f+n))),(7,true,ptr 1 0),(8,true,int i64 0),(11,true,sl 3 B0 none),(12,true,int i64 3),(13,true,int i64 1),(18,true,sl 3 ea none),(19,true,int i64 (↑(length ea):Int)),(20,true,int i64 0)] [mem 126 [sl 3 ea none],mem 159 E0]))))) [D0,E0,[str [111,110,101,114,114,111,114],bool false,AV.fn (Fn.func 111) [sl 1 [[str [99,111,110,116,105,110,117,101]]] none] []]]) [code [0,1,0,1,1,0,0,1,1,0,0,1,0,1,1],block 2,code [1,1,1,0,0,1,1,0,0,1,0,1,1],block 1,code [1,1,1,0,0,1,0,1,1],loop [0,1,0,1,1] 1,block 0,code [1,1,1]]) [mem 126 [sl 3 ea none],mem 159 D0]) [str [97,108,116],bool false,AV.fn (Fn.func 110) [] []]) [str [115,114,99],bool true,AV.fn (Fn.func 110) [] []]):AF AI 79 (AB f79) (AK prog f79 v) ([.code [0,1,0,1,1,0,0,1,1,0,0,1,0,1,1],.block 2,.code [1,1,1,0,0,1,1,0,0,1,0,1,1],.block 1,.code [1,1,1,0,0,1,0,1,1],.loop [0,1,0,1,1] 1,.block 0,.code [1,1,1]]) .normal ([(2,true,.ptr 0 0),(5,true,.int .i64 f),(7,true,.ptr 1 0),(8,true,.int .i64 n),(11,true,.sl 3 [[.str [115,114,99],.bool true,.fn (.func 110) [] []],[.str [97,108,116],.bool false,.fn (.func 110) [] []],[.str [111,110,101,114,114,111,114],.bool false,.fn (.func 111) [.sl 1 [[.str [99,111,110,116,105,110,117,101]]] none] []]] none),(12,true,.int .i64 3),(13,true,.int .i64 0),(18,true,.sl 3 ea none),(19,true,.int .i64 z),(20,true,.int .i64 j)]) ([.mem 126 [.sl 3 ea none],.mem 159 [.str [115,114,99],.bool true,.fn (.func 110) [] []]]):=
 Az (pl:=⟨[[0,1,0,1,1,0,0,1,1,0,0,1,0,1,1]],[([0,0,0,1,1,0,0,1,0,1,1,0,0,1,1,0,0,1,0,1,1],0,[.str,.str,.int .i64])]⟩) hT 100000 (by kernel_rfl) (Ak H (by kernel_rfl))
theorem aM (hT:AL AI (Ac [(53,Be),(110,Hz),(111,Gv),(112,Mx)]))(H:(fun(E0:List AV)=>(fun(C0:Hp)=>(fun(D0:List AV)=>(fun(A0:List Fm)=>(fun(B0:List (List AV))=>Ap (decide (j<z)) (AS (Dm j (length ea)&&true&&true) (∃(s1 s2:List UInt8) (z3:Int),CH ea j=[str s1,str s2,int i64 z3]/\Ap (!s1==[97,108,116]) (AS (AJ 2 ea&&true&&true&&(AJ 2 ea&&true&&true&&true)) (AF AI 79 (AB f79) (AK prog f79 v) A0 normal [(2,true,ptr 0 0),(5,true,int i64 f),(7,true,ptr 1 0),(8,true,int i64 n),(11,true,sl 3 B0 none),(12,true,int i64 3),(13,true,int i64 1),(18,true,sl 3 ea none),(19,true,int i64 z),(20,true,int i64 (wrap i64 (j+1)))] C0)) (∃(s4:List UInt8),[str s2]=[str s4]/\Ap (!!s4==[]) (bool false=v) (∃(s5 x6:List UInt8),length s5<=100000/\[str s2,str [34]]=[str s5,str x6]/\Ap (An s5 x6) (∃(s7 x8:List UInt8),length s7<=100000/\[str s2,str [39]]=[str s7,str x8]/\Ap (An s7 x8) (bool false=v) (AS (AJ 2 ea&&true&&true&&(AJ 2 ea&&true&&true&&true)) (AF AI 79 (AB f79) (AK prog f79 v) A0 normal [(2,true,ptr 0 0),(5,true,int i64 f),(7,true,ptr 1 0),(8,true,int i64 (wrap i64 (n+1))),(11,true,sl 3 B0 none),(12,true,int i64 3),(13,true,int i64 1),(18,true,sl 3 ea none),(19,true,int i64 z),(20,true,int i64 (wrap i64 (j+1)))] C0))) (AS (AJ 2 ea&&true&&true&&(AJ 2 ea&&true&&true&&true)) (AF AI 79 (AB f79) (AK prog f79 v) A0 normal [(2,true,ptr 0 0),(5,true,int i64 f),(7,true,ptr 1 0),(8,true,int i64 (wrap i64 (n+1))),(11,true,sl 3 B0 none),(12,true,int i64 3),(13,true,int i64 1),(18,true,sl 3 ea none),(19,true,int i64 z),(20,true,int i64 (wrap i64 (j+1)))] C0)))))) (Ap (decide (n>1)) (bool false=v) (Ap (n==0) (AS (AJ 1 ea&&true&&true&&true) (AF AI 79 (AB f79) (AK prog f79 v) A0 normal [(2,true,ptr 0 0),(5,true,int i64 (wrap i64 (f+n))),(7,true,ptr 1 0),(8,true,int i64 0),(11,true,sl 3 B0 none),(12,true,int i64 3),(13,true,int i64 2),(18,true,sl 3 ea none),(19,true,int i64 (↑(length ea):Int)),(20,true,int i64 0)] [mem 126 [sl 3 ea none],mem 159 D0])) (AS (AJ 1 ea&&true&&true&&true) (AF AI 79 (AB f79) (AK prog f79 v) A0 normal [(2,true,ptr 0 0),(5,true,int i64 (wrap i64 (f+n))),(7,true,ptr 1 0),(8,true,int i64 0),(11,true,sl 3 B0 none),(12,true,int i64 3),(13,true,int i64 2),(18,true,sl 3 ea none),(19,true,int i64 (↑(length ea):Int)),(20,true,int i64 0)] [mem 126 [sl 3 ea none],mem 159 D0]))))) [[str [115,114,99],bool true,AV.fn (Fn.func 110) [] []],E0,D0]) [code [0,1,0,1,1,0,0,1,1,0,0,1,0,1,1],block 2,code [1,1,1,0,0,1,1,0,0,1,0,1,1],block 1,code [1,1,1,0,0,1,0,1,1],loop [0,1,0,1,1] 1,block 0,code [1,1,1]]) [str [111,110,101,114,114,111,114],bool false,AV.fn (Fn.func 111) [sl 1 [[str [99,111,110,116,105,110,117,101]]] none] []]) [mem 126 [sl 3 ea none],mem 159 E0]) [str [97,108,116],bool false,AV.fn (Fn.func 110) [] []]):AF AI 79 (AB f79) (AK prog f79 v) ([.code [0,1,0,1,1,0,0,1,1,0,0,1,0,1,1],.block 2,.code [1,1,1,0,0,1,1,0,0,1,0,1,1],.block 1,.code [1,1,1,0,0,1,0,1,1],.loop [0,1,0,1,1] 1,.block 0,.code [1,1,1]]) .normal ([(2,true,.ptr 0 0),(5,true,.int .i64 f),(7,true,.ptr 1 0),(8,true,.int .i64 n),(11,true,.sl 3 [[.str [115,114,99],.bool true,.fn (.func 110) [] []],[.str [97,108,116],.bool false,.fn (.func 110) [] []],[.str [111,110,101,114,114,111,114],.bool false,.fn (.func 111) [.sl 1 [[.str [99,111,110,116,105,110,117,101]]] none] []]] none),(12,true,.int .i64 3),(13,true,.int .i64 1),(18,true,.sl 3 ea none),(19,true,.int .i64 z),(20,true,.int .i64 j)]) ([.mem 126 [.sl 3 ea none],.mem 159 [.str [97,108,116],.bool false,.fn (.func 110) [] []]]):=
 Az (pl:=⟨[[0,1,0,1,1,0,0,1,1,0,0,1,0,1,1]],[([0,0,0,1,1,0,0,1,0,1,1,0,0,1,1,0,0,1,0,1,1],0,[.str,.str,.int .i64])]⟩) hT 100000 (by kernel_rfl) (Ak H (by kernel_rfl))
theorem aL (hT:AL AI (Ac [(53,Be),(110,Hz),(111,Gv),(112,Mx)]))(H:(fun(E0:List AV)=>(fun(B0:List AV)=>(fun(C0:List AV)=>(fun(D0:List Fm)=>(fun(A0:List AV)=>Ap (decide (j<z)) (AS (Dm j (length ea)&&true&&true) (∃(s1 s2:List UInt8) (z3:Int),CH ea j=[str s1,str s2,int i64 z3]/\Ap (!s1==[111,110,101,114,114,111,114]) (AS (AJ 2 ea&&true&&true&&(AJ 2 ea&&true&&true&&true)) (AF AI 79 (AB f79) (AK prog f79 v) D0 normal [(2,true,ptr 0 0),(5,true,int i64 f),(7,true,ptr 1 0),(8,true,int i64 n),(11,true,sl 3 [B0,C0,A0] none),(12,true,int i64 3),(13,true,int i64 2),(18,true,sl 3 ea none),(19,true,int i64 z),(20,true,int i64 (wrap i64 (j+1)))] [mem 126 [sl 3 ea none],mem 159 A0])) (∃(l4:List (List UInt8)) (k5:List UInt8),length l4<=9223372036854775807/\[sl 1 [E0] none,str s2]=[sl 1 (encT l4) none,str k5]/\Ap (!List.any l4 fun(x:List UInt8)↦k5==x) (bool false=v) (∃(s6 x7:List UInt8),length s6<=100000/\[str s2,str [34]]=[str s6,str x7]/\Ap (An s6 x7) (∃(s8 x9:List UInt8),length s8<=100000/\[str s2,str [39]]=[str s8,str x9]/\Ap (An s8 x9) (bool false=v) (AS (AJ 2 ea&&true&&true&&(AJ 2 ea&&true&&true&&true)) (AF AI 79 (AB f79) (AK prog f79 v) D0 normal [(2,true,ptr 0 0),(5,true,int i64 f),(7,true,ptr 1 0),(8,true,int i64 (wrap i64 (n+1))),(11,true,sl 3 [B0,C0,A0] none),(12,true,int i64 3),(13,true,int i64 2),(18,true,sl 3 ea none),(19,true,int i64 z),(20,true,int i64 (wrap i64 (j+1)))] [mem 126 [sl 3 ea none],mem 159 A0]))) (AS (AJ 2 ea&&true&&true&&(AJ 2 ea&&true&&true&&true)) (AF AI 79 (AB f79) (AK prog f79 v) D0 normal [(2,true,ptr 0 0),(5,true,int i64 f),(7,true,ptr 1 0),(8,true,int i64 (wrap i64 (n+1))),(11,true,sl 3 [B0,C0,A0] none),(12,true,int i64 3),(13,true,int i64 2),(18,true,sl 3 ea none),(19,true,int i64 z),(20,true,int i64 (wrap i64 (j+1)))] [mem 126 [sl 3 ea none],mem 159 A0])))))) (Ap (decide (n>1)) (bool false=v) (Ap (n==0) (AS (AJ 1 ea&&true&&true&&true) (bool (wrap i64 (f+n)==(↑(length ea):Int))=v)) (AS (AJ 1 ea&&true&&true&&true) (bool (wrap i64 (f+n)==(↑(length ea):Int))=v))))) [str [111,110,101,114,114,111,114],bool false,AV.fn (Fn.func 111) [sl 1 [E0] none] []]) [code [0,1,0,1,1,0,0,1,1,0,0,1,0,1,1],block 2,code [1,1,1,0,0,1,1,0,0,1,0,1,1],block 1,code [1,1,1,0,0,1,0,1,1],loop [0,1,0,1,1] 1,block 0,code [1,1,1]]) [str [97,108,116],bool false,AV.fn (Fn.func 110) [] []]) [str [115,114,99],bool true,AV.fn (Fn.func 110) [] []]) [str [99,111,110,116,105,110,117,101]]):AF AI 79 (AB f79) (AK prog f79 v) ([.code [0,1,0,1,1,0,0,1,1,0,0,1,0,1,1],.block 2,.code [1,1,1,0,0,1,1,0,0,1,0,1,1],.block 1,.code [1,1,1,0,0,1,0,1,1],.loop [0,1,0,1,1] 1,.block 0,.code [1,1,1]]) .normal ([(2,true,.ptr 0 0),(5,true,.int .i64 f),(7,true,.ptr 1 0),(8,true,.int .i64 n),(11,true,.sl 3 [[.str [115,114,99],.bool true,.fn (.func 110) [] []],[.str [97,108,116],.bool false,.fn (.func 110) [] []],[.str [111,110,101,114,114,111,114],.bool false,.fn (.func 111) [.sl 1 [[.str [99,111,110,116,105,110,117,101]]] none] []]] none),(12,true,.int .i64 3),(13,true,.int .i64 2),(18,true,.sl 3 ea none),(19,true,.int .i64 z),(20,true,.int .i64 j)]) ([.mem 126 [.sl 3 ea none],.mem 159 [.str [111,110,101,114,114,111,114],.bool false,.fn (.func 111) [.sl 1 [[.str [99,111,110,116,105,110,117,101]]] none] []]]):=
 Az (pl:=⟨[[0,1,0,1,1,0,0,1,1,0,0,1,0,1,1]],[([0,0,0,1,1,0,0,1,0,1,1,0,0,1,1,0,0,1,0,1,1],0,[.str,.str,.int .i64])]⟩) hT 100000 (by kernel_rfl) (Ak H (by kernel_rfl))
theorem rI (hT:AL AI (Ac [(53,Be),(110,Hz),(111,Gv),(112,Mx)]))(H:(fun(A0:List AV)=>AF AI 79 (AB f79) (AK prog f79 v) [code [0,1,0,1,1,0,0,1,1,0,0,1,0,1,1],block 2,code [1,1,1,0,0,1,1,0,0,1,0,1,1],block 1,code [1,1,1,0,0,1,0,1,1],loop [0,1,0,1,1] 1,block 0,code [1,1,1]] normal [(2,true,ptr 0 0),(5,true,int i64 0),(7,true,ptr 1 0),(8,true,int i64 0),(11,true,sl 3 [A0,[str [102,101,116,99,104,97,98,108,101],bool false,AV.fn (Fn.func 111) [sl 1 [[str [121,101,115]],[str [110,111]]] none] []]] none),(12,true,int i64 2),(13,true,int i64 0),(18,true,sl 3 ea none),(19,true,int i64 (↑(length ea):Int)),(20,true,int i64 0)] [mem 126 [sl 3 ea none],mem 159 A0]) [str [110,97,109,101],bool true,AV.fn (Fn.func 110) [] []]):AF AI 79 (AB f79) (AK prog f79 v) ([.code []]) .normal ([(0,true,.agg [.sl 3 ea none]),(1,true,.sl 3 [[.str [110,97,109,101],.bool true,.fn (.func 110) [] []],[.str [102,101,116,99,104,97,98,108,101],.bool false,.fn (.func 111) [.sl 1 [[.str [121,101,115]],[.str [110,111]]] none] []]] none)]) ([]):=
 uo (pl:=⟨[[0,1,0,1,1,0,0,1,1,0,0,1,0,1,1]],[([0,0,0,1,1,0,0,1,0,1,1,0,0,1,1,0,0,1,0,1,1],0,[.str,.str,.int .i64])]⟩) hT H (by kernel_rfl)
theorem aK (hT:AL AI (Ac [(53,Be),(110,Hz),(111,Gv),(112,Mx)]))(H:(fun(D0:List AV)=>(fun(E0:List AV)=>(fun(C0:Hp)=>(fun(A0:List Fm)=>(fun(B0:List (List AV))=>Ap (decide (j<z)) (AS (Dm j (length ea)&&true&&true) (∃(s1 s2:List UInt8) (z3:Int),CH ea j=[str s1,str s2,int i64 z3]/\Ap (!s1==[110,97,109,101]) (AS (AJ 2 ea&&true&&true&&(AJ 2 ea&&true&&true&&true)) (AF AI 79 (AB f79) (AK prog f79 v) A0 normal [(2,true,ptr 0 0),(5,true,int i64 f),(7,true,ptr 1 0),(8,true,int i64 n),(11,true,sl 3 B0 none),(12,true,int i64 2),(13,true,int i64 0),(18,true,sl 3 ea none),(19,true,int i64 z),(20,true,int i64 (wrap i64 (j+1)))] C0)) (∃(s4:List UInt8),[str s2]=[str s4]/\Ap (!!s4==[]) (bool false=v) (∃(s5 x6:List UInt8),length s5<=100000/\[str s2,str [34]]=[str s5,str x6]/\Ap (An s5 x6) (∃(s7 x8:List UInt8),length s7<=100000/\[str s2,str [39]]=[str s7,str x8]/\Ap (An s7 x8) (bool false=v) (AS (AJ 2 ea&&true&&true&&(AJ 2 ea&&true&&true&&true)) (AF AI 79 (AB f79) (AK prog f79 v) A0 normal [(2,true,ptr 0 0),(5,true,int i64 f),(7,true,ptr 1 0),(8,true,int i64 (wrap i64 (n+1))),(11,true,sl 3 B0 none),(12,true,int i64 2),(13,true,int i64 0),(18,true,sl 3 ea none),(19,true,int i64 z),(20,true,int i64 (wrap i64 (j+1)))] C0))) (AS (AJ 2 ea&&true&&true&&(AJ 2 ea&&true&&true&&true)) (AF AI 79 (AB f79) (AK prog f79 v) A0 normal [(2,true,ptr 0 0),(5,true,int i64 f),(7,true,ptr 1 0),(8,true,int i64 (wrap i64 (n+1))),(11,true,sl 3 B0 none),(12,true,int i64 2),(13,true,int i64 0),(18,true,sl 3 ea none),(19,true,int i64 z),(20,true,int i64 (wrap i64 (j+1)))] C0)))))) (Ap (decide (n>1)) (bool false=v) (Ap (n==0) (bool false=v) (AS (AJ 1 ea&&true&&true&&true) (AF AI 79 (AB f79) (AK prog f79 v) A0 normal [(2,true,ptr 0 0),(5,true,int i64 (wrap i64 (f+n))),(7,true,ptr 1 0),(8,true,int i64 0),(11,true,sl 3 B0 none),(12,true,int i64 2),(13,true,int i64 1),(18,true,sl 3 ea none),(19,true,int i64 (↑(length ea):Int)),(20,true,int i64 0)] [mem 126 [sl 3 ea none],mem 159 E0]))))) [D0,E0]) [code [0,1,0,1,1,0,0,1,1,0,0,1,0,1,1],block 2,code [1,1,1,0,0,1,1,0,0,1,0,1,1],block 1,code [1,1,1,0,0,1,0,1,1],loop [0,1,0,1,1] 1,block 0,code [1,1,1]]) [mem 126 [sl 3 ea none],mem 159 D0]) [str [102,101,116,99,104,97,98,108,101],bool false,AV.fn (Fn.func 111) [sl 1 [[str [121,101,115]],[str [110,111]]] none] []]) [str [110,97,109,101],bool true,AV.fn (Fn.func 110) [] []]):AF AI 79 (AB f79) (AK prog f79 v) ([.code [0,1,0,1,1,0,0,1,1,0,0,1,0,1,1],.block 2,.code [1,1,1,0,0,1,1,0,0,1,0,1,1],.block 1,.code [1,1,1,0,0,1,0,1,1],.loop [0,1,0,1,1] 1,.block 0,.code [1,1,1]]) .normal ([(2,true,.ptr 0 0),(5,true,.int .i64 f),(7,true,.ptr 1 0),(8,true,.int .i64 n),(11,true,.sl 3 [[.str [110,97,109,101],.bool true,.fn (.func 110) [] []],[.str [102,101,116,99,104,97,98,108,101],.bool false,.fn (.func 111) [.sl 1 [[.str [121,101,115]],[.str [110,111]]] none] []]] none),(12,true,.int .i64 2),(13,true,.int .i64 0),(18,true,.sl 3 ea none),(19,true,.int .i64 z),(20,true,.int .i64 j)]) ([.mem 126 [.sl 3 ea none],.mem 159 [.str [110,97,109,101],.bool true,.fn (.func 110) [] []]]):=
 Az (pl:=⟨[[0,1,0,1,1,0,0,1,1,0,0,1,0,1,1]],[([0,0,0,1,1,0,0,1,0,1,1,0,0,1,1,0,0,1,0,1,1],0,[.str,.str,.int .i64])]⟩) hT 100000 (by kernel_rfl) (Ak H (by kernel_rfl))
theorem aJ (hT:AL AI (Ac [(53,Be),(110,Hz),(111,Gv),(112,Mx)]))(H:(fun(B0:List AV)=>(fun(C0:List Fm)=>(fun(A0:List AV)=>Ap (decide (j<z)) (AS (Dm j (length ea)&&true&&true) (∃(s1 s2:List UInt8) (z3:Int),CH ea j=[str s1,str s2,int i64 z3]/\Ap (!s1==[102,101,116,99,104,97,98,108,101]) (AS (AJ 2 ea&&true&&true&&(AJ 2 ea&&true&&true&&true)) (AF AI 79 (AB f79) (AK prog f79 v) C0 normal [(2,true,ptr 0 0),(5,true,int i64 f),(7,true,ptr 1 0),(8,true,int i64 n),(11,true,sl 3 [B0,A0] none),(12,true,int i64 2),(13,true,int i64 1),(18,true,sl 3 ea none),(19,true,int i64 z),(20,true,int i64 (wrap i64 (j+1)))] [mem 126 [sl 3 ea none],mem 159 A0])) (∃(l4:List (List UInt8)) (k5:List UInt8),length l4<=9223372036854775807/\[sl 1 [[str [121,101,115]],[str [110,111]]] none,str s2]=[sl 1 (encT l4) none,str k5]/\Ap (!List.any l4 fun(x:List UInt8)↦k5==x) (bool false=v) (∃(s6 x7:List UInt8),length s6<=100000/\[str s2,str [34]]=[str s6,str x7]/\Ap (An s6 x7) (∃(s8 x9:List UInt8),length s8<=100000/\[str s2,str [39]]=[str s8,str x9]/\Ap (An s8 x9) (bool false=v) (AS (AJ 2 ea&&true&&true&&(AJ 2 ea&&true&&true&&true)) (AF AI 79 (AB f79) (AK prog f79 v) C0 normal [(2,true,ptr 0 0),(5,true,int i64 f),(7,true,ptr 1 0),(8,true,int i64 (wrap i64 (n+1))),(11,true,sl 3 [B0,A0] none),(12,true,int i64 2),(13,true,int i64 1),(18,true,sl 3 ea none),(19,true,int i64 z),(20,true,int i64 (wrap i64 (j+1)))] [mem 126 [sl 3 ea none],mem 159 A0]))) (AS (AJ 2 ea&&true&&true&&(AJ 2 ea&&true&&true&&true)) (AF AI 79 (AB f79) (AK prog f79 v) C0 normal [(2,true,ptr 0 0),(5,true,int i64 f),(7,true,ptr 1 0),(8,true,int i64 (wrap i64 (n+1))),(11,true,sl 3 [B0,A0] none),(12,true,int i64 2),(13,true,int i64 1),(18,true,sl 3 ea none),(19,true,int i64 z),(20,true,int i64 (wrap i64 (j+1)))] [mem 126 [sl 3 ea none],mem 159 A0])))))) (Ap (decide (n>1)) (bool false=v) (Ap (n==0) (AS (AJ 1 ea&&true&&true&&true) (bool (wrap i64 (f+n)==(↑(length ea):Int))=v)) (AS (AJ 1 ea&&true&&true&&true) (bool (wrap i64 (f+n)==(↑(length ea):Int))=v))))) [str [102,101,116,99,104,97,98,108,101],bool false,AV.fn (Fn.func 111) [sl 1 [[str [121,101,115]],[str [110,111]]] none] []]) [code [0,1,0,1,1,0,0,1,1,0,0,1,0,1,1],block 2,code [1,1,1,0,0,1,1,0,0,1,0,1,1],block 1,code [1,1,1,0,0,1,0,1,1],loop [0,1,0,1,1] 1,block 0,code [1,1,1]]) [str [110,97,109,101],bool true,AV.fn (Fn.func 110) [] []]):AF AI 79 (AB f79) (AK prog f79 v) ([.code [0,1,0,1,1,0,0,1,1,0,0,1,0,1,1],.block 2,.code [1,1,1,0,0,1,1,0,0,1,0,1,1],.block 1,.code [1,1,1,0,0,1,0,1,1],.loop [0,1,0,1,1] 1,.block 0,.code [1,1,1]]) .normal ([(2,true,.ptr 0 0),(5,true,.int .i64 f),(7,true,.ptr 1 0),(8,true,.int .i64 n),(11,true,.sl 3 [[.str [110,97,109,101],.bool true,.fn (.func 110) [] []],[.str [102,101,116,99,104,97,98,108,101],.bool false,.fn (.func 111) [.sl 1 [[.str [121,101,115]],[.str [110,111]]] none] []]] none),(12,true,.int .i64 2),(13,true,.int .i64 1),(18,true,.sl 3 ea none),(19,true,.int .i64 z),(20,true,.int .i64 j)]) ([.mem 126 [.sl 3 ea none],.mem 159 [.str [102,101,116,99,104,97,98,108,101],.bool false,.fn (.func 111) [.sl 1 [[.str [121,101,115]],[.str [110,111]]] none] []]]):=
 Az (pl:=⟨[[0,1,0,1,1,0,0,1,1,0,0,1,0,1,1]],[([0,0,0,1,1,0,0,1,0,1,1,0,0,1,1,0,0,1,0,1,1],0,[.str,.str,.int .i64])]⟩) hT 100000 (by kernel_rfl) (Ak H (by kernel_rfl))
theorem rH (hT:AL AI (Ac [(53,Be),(110,Hz),(111,Gv),(112,Mx)]))(H:(fun(A0:List AV)=>AF AI 79 (AB f79) (AK prog f79 v) [code [0,1,0,1,1,0,0,1,1,0,0,1,0,1,1],block 2,code [1,1,1,0,0,1,1,0,0,1,0,1,1],block 1,code [1,1,1,0,0,1,0,1,1],loop [0,1,0,1,1] 1,block 0,code [1,1,1]] normal [(2,true,ptr 0 0),(5,true,int i64 0),(7,true,ptr 1 0),(8,true,int i64 0),(11,true,sl 3 [A0] none),(12,true,int i64 1),(13,true,int i64 0),(18,true,sl 3 ea none),(19,true,int i64 (↑(length ea):Int)),(20,true,int i64 0)] [mem 126 [sl 3 ea none],mem 159 A0]) [str [116,101,120,116],bool true,AV.fn (Fn.func 112) [] []]):AF AI 79 (AB f79) (AK prog f79 v) ([.code []]) .normal ([(0,true,.agg [.sl 3 ea none]),(1,true,.sl 3 [[.str [116,101,120,116],.bool true,.fn (.func 112) [] []]] none)]) ([]):=
 uo (pl:=⟨[[0,1,0,1,1,0,0,1,1,0,0,1,0,1,1]],[([0,0,0,1,1,0,0,1,0,1,1,0,0,1,1,0,0,1,0,1,1],0,[.str,.str,.int .i64])]⟩) hT H (by kernel_rfl)
theorem aI (hT:AL AI (Ac [(53,Be),(110,Hz),(111,Gv),(112,Mx)]))(H:(fun(A0:List AV)=>(fun(C0:Fr)=>(fun(B0:List Fm)=>Ap (decide (j<z)) (AS (Dm j (length ea)&&true&&true) (∃(s1 s2:List UInt8) (z3:Int),CH ea j=[str s1,str s2,int i64 z3]/\Ap (!s1==[116,101,120,116]) (AS (AJ 2 ea&&true&&true&&(AJ 2 ea&&true&&true&&true)) (AF AI 79 (AB f79) (AK prog f79 v) B0 normal [(2,true,ptr 0 0),(5,true,int i64 f),(7,true,ptr 1 0),(8,true,int i64 n),(11,true,sl 3 [A0] none),(12,true,int i64 1),(13,true,int i64 0),(18,true,sl 3 ea none),(19,true,int i64 z),(20,true,int i64 (wrap i64 (j+1)))] [mem 126 [sl 3 ea none],mem 159 A0])) (∃(s4:List UInt8),[str s2]=[str s4]/\∃(s5 x6:List UInt8),length s5<=100000/\[str s2,str [34]]=[str s5,str x6]/\Ap (An s5 x6) (∃(s7 x8:List UInt8),length s7<=100000/\[str s2,str [39]]=[str s7,str x8]/\Ap (An s7 x8) (bool false=v) (AS (AJ 2 ea&&true&&true&&(AJ 2 ea&&true&&true&&true)) (AF AI 79 (AB f79) (AK prog f79 v) B0 normal C0 [mem 126 [sl 3 ea none],mem 159 A0]))) (AS (AJ 2 ea&&true&&true&&(AJ 2 ea&&true&&true&&true)) (AF AI 79 (AB f79) (AK prog f79 v) B0 normal C0 [mem 126 [sl 3 ea none],mem 159 A0]))))) (Ap (decide (n>1)) (bool false=v) (Ap (n==0) (bool false=v) (AS (AJ 1 ea&&true&&true&&true) (bool (wrap i64 (f+n)==(↑(length ea):Int))=v))))) [code [0,1,0,1,1,0,0,1,1,0,0,1,0,1,1],block 2,code [1,1,1,0,0,1,1,0,0,1,0,1,1],block 1,code [1,1,1,0,0,1,0,1,1],loop [0,1,0,1,1] 1,block 0,code [1,1,1]]) [(2,true,ptr 0 0),(5,true,int i64 f),(7,true,ptr 1 0),(8,true,int i64 (wrap i64 (n+1))),(11,true,sl 3 [A0] none),(12,true,int i64 1),(13,true,int i64 0),(18,true,sl 3 ea none),(19,true,int i64 z),(20,true,int i64 (wrap i64 (j+1)))]) [str [116,101,120,116],bool true,AV.fn (Fn.func 112) [] []]):AF AI 79 (AB f79) (AK prog f79 v) ([.code [0,1,0,1,1,0,0,1,1,0,0,1,0,1,1],.block 2,.code [1,1,1,0,0,1,1,0,0,1,0,1,1],.block 1,.code [1,1,1,0,0,1,0,1,1],.loop [0,1,0,1,1] 1,.block 0,.code [1,1,1]]) .normal ([(2,true,.ptr 0 0),(5,true,.int .i64 f),(7,true,.ptr 1 0),(8,true,.int .i64 n),(11,true,.sl 3 [[.str [116,101,120,116],.bool true,.fn (.func 112) [] []]] none),(12,true,.int .i64 1),(13,true,.int .i64 0),(18,true,.sl 3 ea none),(19,true,.int .i64 z),(20,true,.int .i64 j)]) ([.mem 126 [.sl 3 ea none],.mem 159 [.str [116,101,120,116],.bool true,.fn (.func 112) [] []]]):=
 Az (pl:=⟨[[0,1,0,1,1,0,0,1,1,0,0,1,0,1,1]],[([0,0,0,1,1,0,0,1,0,1,1,0,0,1,1,0,0,1,0,1,1],0,[.str,.str,.int .i64])]⟩) hT 100000 (by kernel_rfl) (Ak H (by kernel_rfl))
theorem nN (hT:AL AI (Ac [(53,Be),(110,Hz),(111,Gv),(112,Mx)]))(H:(fun(A0:List AV)=>AF AI 79 (AB f79) (AK prog f79 v) [code [0,1,0,1,1,0,0,1,1,0,0,1,0,1,1],block 2,code [1,1,1,0,0,1,1,0,0,1,0,1,1],block 1,code [1,1,1,0,0,1,0,1,1],loop [0,1,0,1,1] 1,block 0,code [1,1,1]] normal [(2,true,ptr 0 0),(5,true,int i64 0),(7,true,ptr 1 0),(8,true,int i64 0),(11,true,sl 3 [A0] none),(12,true,int i64 1),(13,true,int i64 0),(18,true,sl 3 ea none),(19,true,int i64 (↑(length ea):Int)),(20,true,int i64 0)] [mem 126 [sl 3 ea none],mem 159 A0]) [str [116,101,115,116],bool true,AV.fn (Fn.func 110) [] []]):AF AI 79 (AB f79) (AK prog f79 v) ([.code []]) .normal ([(0,true,.agg [.sl 3 ea none]),(1,true,.sl 3 [[.str [116,101,115,116],.bool true,.fn (.func 110) [] []]] none)]) ([]):=
 uo (pl:=⟨[[0,1,0,1,1,0,0,1,1,0,0,1,0,1,1]],[([0,0,0,1,1,0,0,1,0,1,1,0,0,1,1,0,0,1,0,1,1],0,[.str,.str,.int .i64])]⟩) hT H (by kernel_rfl)
theorem Vh (hT:AL AI (Ac [(53,Be),(110,Hz),(111,Gv),(112,Mx)]))(H:(fun(A0:List AV)=>(fun(C0:Fr)=>(fun(B0:List Fm)=>Ap (decide (j<z)) (AS (Dm j (length ea)&&true&&true) (∃(s1 s2:List UInt8) (z3:Int),CH ea j=[str s1,str s2,int i64 z3]/\Ap (!s1==[116,101,115,116]) (AS (AJ 2 ea&&true&&true&&(AJ 2 ea&&true&&true&&true)) (AF AI 79 (AB f79) (AK prog f79 v) B0 normal [(2,true,ptr 0 0),(5,true,int i64 f),(7,true,ptr 1 0),(8,true,int i64 n),(11,true,sl 3 [A0] none),(12,true,int i64 1),(13,true,int i64 0),(18,true,sl 3 ea none),(19,true,int i64 z),(20,true,int i64 (wrap i64 (j+1)))] [mem 126 [sl 3 ea none],mem 159 A0])) (∃(s4:List UInt8),[str s2]=[str s4]/\Ap (!!s4==[]) (bool false=v) (∃(s5 x6:List UInt8),length s5<=100000/\[str s2,str [34]]=[str s5,str x6]/\Ap (An s5 x6) (∃(s7 x8:List UInt8),length s7<=100000/\[str s2,str [39]]=[str s7,str x8]/\Ap (An s7 x8) (bool false=v) (AS (AJ 2 ea&&true&&true&&(AJ 2 ea&&true&&true&&true)) (AF AI 79 (AB f79) (AK prog f79 v) B0 normal C0 [mem 126 [sl 3 ea none],mem 159 A0]))) (AS (AJ 2 ea&&true&&true&&(AJ 2 ea&&true&&true&&true)) (AF AI 79 (AB f79) (AK prog f79 v) B0 normal C0 [mem 126 [sl 3 ea none],mem 159 A0])))))) (Ap (decide (n>1)) (bool false=v) (Ap (n==0) (bool false=v) (AS (AJ 1 ea&&true&&true&&true) (bool (wrap i64 (f+n)==(↑(length ea):Int))=v))))) [code [0,1,0,1,1,0,0,1,1,0,0,1,0,1,1],block 2,code [1,1,1,0,0,1,1,0,0,1,0,1,1],block 1,code [1,1,1,0,0,1,0,1,1],loop [0,1,0,1,1] 1,block 0,code [1,1,1]]) [(2,true,ptr 0 0),(5,true,int i64 f),(7,true,ptr 1 0),(8,true,int i64 (wrap i64 (n+1))),(11,true,sl 3 [A0] none),(12,true,int i64 1),(13,true,int i64 0),(18,true,sl 3 ea none),(19,true,int i64 z),(20,true,int i64 (wrap i64 (j+1)))]) [str [116,101,115,116],bool true,AV.fn (Fn.func 110) [] []]):AF AI 79 (AB f79) (AK prog f79 v) ([.code [0,1,0,1,1,0,0,1,1,0,0,1,0,1,1],.block 2,.code [1,1,1,0,0,1,1,0,0,1,0,1,1],.block 1,.code [1,1,1,0,0,1,0,1,1],.loop [0,1,0,1,1] 1,.block 0,.code [1,1,1]]) .normal ([(2,true,.ptr 0 0),(5,true,.int .i64 f),(7,true,.ptr 1 0),(8,true,.int .i64 n),(11,true,.sl 3 [[.str [116,101,115,116],.bool true,.fn (.func 110) [] []]] none),(12,true,.int .i64 1),(13,true,.int .i64 0),(18,true,.sl 3 ea none),(19,true,.int .i64 z),(20,true,.int .i64 j)]) ([.mem 126 [.sl 3 ea none],.mem 159 [.str [116,101,115,116],.bool true,.fn (.func 110) [] []]]):=
 Az (pl:=⟨[[0,1,0,1,1,0,0,1,1,0,0,1,0,1,1]],[([0,0,0,1,1,0,0,1,0,1,1,0,0,1,1,0,0,1,0,1,1],0,[.str,.str,.int .i64])]⟩) hT 100000 (by kernel_rfl) (Ak H (by kernel_rfl))
end Go.Proofs.YtopjpnhgnopbiaaGreatDoor.Tr
end
section
namespace Go.Proofs.YtopjpnhgnopbiaaGreatDoor.Tr
open Go.Ai Go
set_option maxRecDepth 100000
theorem vt :BN AI 79 Tryz.f79:=(by refine⟨?_,?_,?_,?_,?_,?_⟩<;>kernel_rfl)
theorem c32 :CQ AI 80 HQ:=by
 refine Ax vr fun vs h K ht=> ?_
 obtain⟨k,rfl,hk⟩:=ht;refine⟨_,hk,t32 (AY AM) ?_⟩;unfold BI
 refine AA (fun a=>by rw[a];rfl) fun a=> ?_
 rw[a]
 refine AA (fun b=>by rw[b];rfl) fun b=> ?_
 rw[b]
 refine AA (fun c=>by rw[c];rfl) fun c=> ?_
 rw[c]
 refine AA (fun d=>by rw[d];rfl) fun d=> ?_
 rw[d];rfl
theorem FX :AL AI (Ac [(53,Be),(110,Hz),(111,Gv),(112,Mx)]):=AY (AH uS (AH c52 (AH c53 (AH c54 AM))))
theorem QW {v:List UInt8}(a:An v [34]=true)(b:An v [39]=true):LR v=true:=by unfold LR;rw[a,b];rfl
theorem LQ {v:List UInt8}(a:An v [34]=false):LR v=false:=by unfold LR;rw[a];rfl
theorem LP {v:List UInt8}(a:An v [39]=false):LR v=false:=by unfold LR;rw[a,Bool.and_false]
theorem Hh {r:K6}{x:Aj}{t:List Aj}{n:Int}(a:(x.name==r.name)=false):DQ r (x::t) n=DQ r t n:=by rw[DQ,a];rfl
theorem EX {r:K6}{x:Aj}{t:List Aj}{n:Int}(a:(x.name==r.name)=true)(b:(r.may.ok x.value&& !LR x.value)=false):DQ r (x::t) n=none:=by rw[DQ,a,b];rfl
theorem D7 {r:K6}{x:Aj}{t:List Aj}{n:Int}(a:(x.name==r.name)=true)(b:(r.may.ok x.value&& !LR x.value)=true):DQ r (x::t) n=DQ r t (n+1):=by rw[DQ,a,b];rfl
theorem Er (al:List Aj):(AJ 2 (al.map Ao)&&true&&true&&(AJ 2 (al.map Ao)&&true&&true&&true))=true:=by rw[FF];rfl
theorem ID (al:List Aj):(AJ 1 (al.map Ao)&&true&&true&&true)=true:=by rw[FF];rfl
theorem Qx (v:Bool)(f:Int)(eL:0<=f)(Je:f<=200000):∀(r pre:List Aj) (n:Int),0<=n->n<=(pre.length:Nat)->(pre++r).length<=BG->(∀a∈pre++r,a.value.length<=BG)->v=D9 Bz.Ch [] (pre++r) f (DQ Bz r n)->
  AF AI 79 (AB Tryz.f79) (AK Tryz.prog Tryz.f79 (.bool v)) [.code [0,1,0,1,1,0,0,1,1,0,0,1,0,1,1],.block 2,.code [1,1,1,0,0,1,1,0,0,1,0,1,1],.block 1,.code [1,1,1,0,0,1,0,1,1],.loop [0,1,0,1,1] 1,.block 0,.code [1,1,1]] .normal
   [(2,true,.ptr 0 0),(5,true,.int .i64 f),(7,true,.ptr 1 0),(8,true,.int .i64 n),(11,true,.sl 3 [[.str [115,114,99],.bool true,.fn (.func 110) [] []],[.str [97,108,116],.bool false,.fn (.func 110) [] []],[.str [111,110,101,114,114,111,114],.bool false,.fn (.func 111) [.sl 1 [[.str [99,111,110,116,105,110,117,101]]] none] []]] none),(12,true,.int .i64 3),(13,true,.int .i64 2),(18,true,.sl 3 ((pre++r).map Ao) none),(19,true,.int .i64 ((pre++r).length:Nat)),(20,true,.int .i64 (pre.length:Nat))] [.mem 126 [.sl 3 ((pre++r).map Ao) none],.mem 159 [.str [111,110,101,114,114,111,114],.bool false,.fn (.func 111) [.sl 1 [[.str [99,111,110,116,105,110,117,101]]] none] []]]:=by
 intro r
 induction r with
 |nil=>
  intro pre n h0 h1 hl hx hv
  refine aL FX (AA (fun hc=> ?_) fun _=>AA (fun hc=> ?_) fun hc=> ?_)
  ·simp at hc
  ·have hc:decide (1<n)=true:=hc;rw[hv];simp only[DQ,D9,hc,cond_true]
  ·have hc:decide (1<n)=false:=hc;rw[DQ] at hv
   have he:(n==0&&Bz.Ch)=false:=by simp[Bz]
   refine AA (fun _=> ?_) fun _=> ?_
   ·refine AD (ID _) ?_
    rw[BH (by unfold BG at hl;simp only[List.append_nil] at hl;omega) (by unfold BG at hl;simp only[List.append_nil] at hl;omega)]
    rw[hv];simp only[D9,hc,he,cond_false,Ca,List.append_nil,List.length_map];try rfl
   ·refine AD (ID _) ?_
    rw[BH (by unfold BG at hl;simp only[List.append_nil] at hl;omega) (by unfold BG at hl;simp only[List.append_nil] at hl;omega)]
    rw[hv];simp only[D9,hc,he,cond_false,Ca,List.append_nil,List.length_map];try rfl
 |cons x r ih=>
  intro pre n h0 h1 hl hx hv;have Jx:=hl;simp only[List.length_append,List.length_cons] at Jx;unfold BG at Jx
  have hlen:pre.length<FR:=by unfold FR;omega
  have Jc:IntKind.wrap .i64 (n+1)=n+1:=BH (by omega) (by omega)
  have Pl:x.value.length<=BG:=hx x (by simp)
  have Hx:Dm (pre.length:Int) ((pre++x::r).map Ao).length=true:=Dw (by omega) (by simp;omega)
  refine aL FX (AA (fun _=> ?_) fun hc=> ?_)
  ·refine AD (by rw[Hx];rfl) ⟨x.name,x.value,x.pl,Co _ _ _ _,AA (fun a=> ?_) fun a=> ?_⟩
   ·have e:=Hh (r:=Bz) (x:=x) (t:=r) (n:=n) (by simpa[Bz] using a)
    refine AD (Er _) ?_;rw[BE hlen]
    have:=ih (pre++[x]) n h0 (by simp;omega) (by simpa using hl) (by simpa using hx) (by rw[hv,e];simp)
    simpa using this
   refine⟨[[99,111,110,116,105,110,117,101]],x.value,by decide,rfl,AA (fun b=> ?_) fun b=> ?_⟩
   ·have nb:Bz.may.ok x.value=false:=by simpa[Bz,Xu.ok] using b
    have e:=EX (r:=Bz) (x:=x) (t:=r) (n:=n) (by simpa[Bz] using a) (by rw[nb];rfl)
    rw[hv,e];rfl
   ·have gd:Bz.may.ok x.value=true:=by have b':=b;rw[Bool.not_eq_false'] at b';exact b'
    refine⟨_,_,Pl,rfl,AA (fun c=>⟨_,_,Pl,rfl,AA (fun d=> ?_) fun d=> ?_⟩) fun c=> ?_⟩
    ·have e:=EX (r:=Bz) (x:=x) (t:=r) (n:=n) (by simpa[Bz] using a) (by rw[gd,QW c d];rfl)
     rw[hv,e];rfl
    ·have e:=D7 (r:=Bz) (x:=x) (t:=r) (n:=n) (by simpa[Bz] using a) (by rw[gd,LP d];rfl)
     refine AD (Er _) ?_;rw[BE hlen,Jc]
     have:=ih (pre++[x]) (n+1) (by omega) (by simp;omega) (by simpa using hl) (by simpa using hx) (by rw[hv,e];simp)
     simpa using this
    ·have e:=D7 (r:=Bz) (x:=x) (t:=r) (n:=n) (by simpa[Bz] using a) (by rw[gd,LQ c];rfl)
     refine AD (Er _) ?_;rw[BE hlen,Jc]
     have:=ih (pre++[x]) (n+1) (by omega) (by simp;omega) (by simpa using hl) (by simpa using hx) (by rw[hv,e];simp)
     simpa using this
  ·simp at hc;omega
theorem Yv (v:Bool)(f:Int)(eL:0<=f)(Je:f<=100000):∀(r pre:List Aj) (n:Int),0<=n->n<=(pre.length:Nat)->(pre++r).length<=BG->(∀a∈pre++r,a.value.length<=BG)->v=D9 CU.Ch [Bz] (pre++r) f (DQ CU r n)->
  AF AI 79 (AB Tryz.f79) (AK Tryz.prog Tryz.f79 (.bool v)) [.code [0,1,0,1,1,0,0,1,1,0,0,1,0,1,1],.block 2,.code [1,1,1,0,0,1,1,0,0,1,0,1,1],.block 1,.code [1,1,1,0,0,1,0,1,1],.loop [0,1,0,1,1] 1,.block 0,.code [1,1,1]] .normal
   [(2,true,.ptr 0 0),(5,true,.int .i64 f),(7,true,.ptr 1 0),(8,true,.int .i64 n),(11,true,.sl 3 [[.str [115,114,99],.bool true,.fn (.func 110) [] []],[.str [97,108,116],.bool false,.fn (.func 110) [] []],[.str [111,110,101,114,114,111,114],.bool false,.fn (.func 111) [.sl 1 [[.str [99,111,110,116,105,110,117,101]]] none] []]] none),(12,true,.int .i64 3),(13,true,.int .i64 1),(18,true,.sl 3 ((pre++r).map Ao) none),(19,true,.int .i64 ((pre++r).length:Nat)),(20,true,.int .i64 (pre.length:Nat))] [.mem 126 [.sl 3 ((pre++r).map Ao) none],.mem 159 [.str [97,108,116],.bool false,.fn (.func 110) [] []]]:=by
 intro r
 induction r with
 |nil=>
  intro pre n h0 h1 hl hx hv
  refine aM FX (AA (fun hc=> ?_) fun _=>AA (fun hc=> ?_) fun hc=> ?_)
  ·simp at hc
  ·have hc:decide (1<n)=true:=hc;rw[hv];simp only[DQ,D9,hc,cond_true]
  ·have hc:decide (1<n)=false:=hc;rw[DQ] at hv
   have he:(n==0&&CU.Ch)=false:=by simp[CU]
   refine AA (fun _=> ?_) fun _=> ?_
   ·refine AD (ID _) ?_
    rw[BH (by unfold BG at hl;simp only[List.append_nil] at hl;omega) (by unfold BG at hl;simp only[List.append_nil] at hl;omega)]
    have Uq:v=D9 Bz.Ch [] (pre++[]) (f+n) (DQ Bz (pre++[]) 0):=by
     rw[hv,<-Di];simp only[D9,hc,he,cond_false]
    have:=Qx v (f+n) (by omega) (by simp only[List.append_nil] at hl;unfold BG at hl;omega) (pre++[]) [] 0 (by decide) (by simp) hl hx Uq
    simpa using this
   ·refine AD (ID _) ?_
    rw[BH (by unfold BG at hl;simp only[List.append_nil] at hl;omega) (by unfold BG at hl;simp only[List.append_nil] at hl;omega)]
    have Uq:v=D9 Bz.Ch [] (pre++[]) (f+n) (DQ Bz (pre++[]) 0):=by
     rw[hv,<-Di];simp only[D9,hc,he,cond_false]
    have:=Qx v (f+n) (by omega) (by simp only[List.append_nil] at hl;unfold BG at hl;omega) (pre++[]) [] 0 (by decide) (by simp) hl hx Uq
    simpa using this
 |cons x r ih=>
  intro pre n h0 h1 hl hx hv;have Jx:=hl;simp only[List.length_append,List.length_cons] at Jx;unfold BG at Jx
  have hlen:pre.length<FR:=by unfold FR;omega
  have Jc:IntKind.wrap .i64 (n+1)=n+1:=BH (by omega) (by omega)
  have Pl:x.value.length<=BG:=hx x (by simp)
  have Hx:Dm (pre.length:Int) ((pre++x::r).map Ao).length=true:=Dw (by omega) (by simp;omega)
  refine aM FX (AA (fun _=> ?_) fun hc=> ?_)
  ·refine AD (by rw[Hx];rfl) ⟨x.name,x.value,x.pl,Co _ _ _ _,AA (fun a=> ?_) fun a=> ?_⟩
   ·have e:=Hh (r:=CU) (x:=x) (t:=r) (n:=n) (by simpa[CU] using a)
    refine AD (Er _) ?_;rw[BE hlen]
    have:=ih (pre++[x]) n h0 (by simp;omega) (by simpa using hl) (by simpa using hx) (by rw[hv,e];simp)
    simpa using this
   refine⟨_,rfl,AA (fun b=> ?_) fun b=> ?_⟩
   ·have nb:CU.may.ok x.value=false:=by simpa[CU,Xu.ok] using b
    have e:=EX (r:=CU) (x:=x) (t:=r) (n:=n) (by simpa[CU] using a) (by rw[nb];rfl)
    rw[hv,e];rfl
   ·have gd:CU.may.ok x.value=true:=by have b':=b;rw[Bool.not_eq_false'] at b';exact b'
    refine⟨_,_,Pl,rfl,AA (fun c=>⟨_,_,Pl,rfl,AA (fun d=> ?_) fun d=> ?_⟩) fun c=> ?_⟩
    ·have e:=EX (r:=CU) (x:=x) (t:=r) (n:=n) (by simpa[CU] using a) (by rw[gd,QW c d];rfl)
     rw[hv,e];rfl
    ·have e:=D7 (r:=CU) (x:=x) (t:=r) (n:=n) (by simpa[CU] using a) (by rw[gd,LP d];rfl)
     refine AD (Er _) ?_;rw[BE hlen,Jc]
     have:=ih (pre++[x]) (n+1) (by omega) (by simp;omega) (by simpa using hl) (by simpa using hx) (by rw[hv,e];simp)
     simpa using this
    ·have e:=D7 (r:=CU) (x:=x) (t:=r) (n:=n) (by simpa[CU] using a) (by rw[gd,LQ c];rfl)
     refine AD (Er _) ?_;rw[BE hlen,Jc]
     have:=ih (pre++[x]) (n+1) (by omega) (by simp;omega) (by simpa using hl) (by simpa using hx) (by rw[hv,e];simp)
     simpa using this
  ·simp at hc;omega
theorem Yw (v:Bool)(f:Int)(eL:0<=f)(Je:f<=0):∀(r pre:List Aj) (n:Int),0<=n->n<=(pre.length:Nat)->(pre++r).length<=BG->(∀a∈pre++r,a.value.length<=BG)->v=D9 Cl.Ch [CU,Bz] (pre++r) f (DQ Cl r n)->
  AF AI 79 (AB Tryz.f79) (AK Tryz.prog Tryz.f79 (.bool v)) [.code [0,1,0,1,1,0,0,1,1,0,0,1,0,1,1],.block 2,.code [1,1,1,0,0,1,1,0,0,1,0,1,1],.block 1,.code [1,1,1,0,0,1,0,1,1],.loop [0,1,0,1,1] 1,.block 0,.code [1,1,1]] .normal
   [(2,true,.ptr 0 0),(5,true,.int .i64 f),(7,true,.ptr 1 0),(8,true,.int .i64 n),(11,true,.sl 3 [[.str [115,114,99],.bool true,.fn (.func 110) [] []],[.str [97,108,116],.bool false,.fn (.func 110) [] []],[.str [111,110,101,114,114,111,114],.bool false,.fn (.func 111) [.sl 1 [[.str [99,111,110,116,105,110,117,101]]] none] []]] none),(12,true,.int .i64 3),(13,true,.int .i64 0),(18,true,.sl 3 ((pre++r).map Ao) none),(19,true,.int .i64 ((pre++r).length:Nat)),(20,true,.int .i64 (pre.length:Nat))] [.mem 126 [.sl 3 ((pre++r).map Ao) none],.mem 159 [.str [115,114,99],.bool true,.fn (.func 110) [] []]]:=by
 intro r
 induction r with
 |nil=>
  intro pre n h0 h1 hl hx hv
  refine aN FX (AA (fun hc=> ?_) fun _=>AA (fun hc=> ?_) fun hc=> ?_)
  ·simp at hc
  ·have hc:decide (1<n)=true:=hc;rw[hv];simp only[DQ,D9,hc,cond_true]
  ·have hc:decide (1<n)=false:=hc;rw[DQ] at hv
   refine AA (fun he=> ?_) fun he=> ?_
   ·rw[hv];simp only[D9,hc,cond_false,Cl,he,Bool.and_true,cond_true]
   ·have he:(n==0&&Cl.Ch)=false:=by rw[he];rfl
    refine AD (ID _) ?_
    rw[BH (by unfold BG at hl;simp only[List.append_nil] at hl;omega) (by unfold BG at hl;simp only[List.append_nil] at hl;omega)]
    have Uq:v=D9 CU.Ch [Bz] (pre++[]) (f+n) (DQ CU (pre++[]) 0):=by
     rw[hv,<-Di];simp only[D9,hc,he,cond_false]
    have:=Yv v (f+n) (by omega) (by simp only[List.append_nil] at hl;unfold BG at hl;omega) (pre++[]) [] 0 (by decide) (by simp) hl hx Uq
    simpa using this
 |cons x r ih=>
  intro pre n h0 h1 hl hx hv;have Jx:=hl;simp only[List.length_append,List.length_cons] at Jx;unfold BG at Jx
  have hlen:pre.length<FR:=by unfold FR;omega
  have Jc:IntKind.wrap .i64 (n+1)=n+1:=BH (by omega) (by omega)
  have Pl:x.value.length<=BG:=hx x (by simp)
  have Hx:Dm (pre.length:Int) ((pre++x::r).map Ao).length=true:=Dw (by omega) (by simp;omega)
  refine aN FX (AA (fun _=> ?_) fun hc=> ?_)
  ·refine AD (by rw[Hx];rfl) ⟨x.name,x.value,x.pl,Co _ _ _ _,AA (fun a=> ?_) fun a=> ?_⟩
   ·have e:=Hh (r:=Cl) (x:=x) (t:=r) (n:=n) (by simpa[Cl] using a)
    refine AD (Er _) ?_;rw[BE hlen]
    have:=ih (pre++[x]) n h0 (by simp;omega) (by simpa using hl) (by simpa using hx) (by rw[hv,e];simp)
    simpa using this
   refine⟨_,rfl,AA (fun b=> ?_) fun b=> ?_⟩
   ·have nb:Cl.may.ok x.value=false:=by simpa[Cl,Xu.ok] using b
    have e:=EX (r:=Cl) (x:=x) (t:=r) (n:=n) (by simpa[Cl] using a) (by rw[nb];rfl)
    rw[hv,e];rfl
   ·have gd:Cl.may.ok x.value=true:=by have b':=b;rw[Bool.not_eq_false'] at b';exact b'
    refine⟨_,_,Pl,rfl,AA (fun c=>⟨_,_,Pl,rfl,AA (fun d=> ?_) fun d=> ?_⟩) fun c=> ?_⟩
    ·have e:=EX (r:=Cl) (x:=x) (t:=r) (n:=n) (by simpa[Cl] using a) (by rw[gd,QW c d];rfl)
     rw[hv,e];rfl
    ·have e:=D7 (r:=Cl) (x:=x) (t:=r) (n:=n) (by simpa[Cl] using a) (by rw[gd,LP d];rfl)
     refine AD (Er _) ?_;rw[BE hlen,Jc]
     have:=ih (pre++[x]) (n+1) (by omega) (by simp;omega) (by simpa using hl) (by simpa using hx) (by rw[hv,e];simp)
     simpa using this
    ·have e:=D7 (r:=Cl) (x:=x) (t:=r) (n:=n) (by simpa[Cl] using a) (by rw[gd,LQ c];rfl)
     refine AD (Er _) ?_;rw[BE hlen,Jc]
     have:=ih (pre++[x]) (n+1) (by omega) (by simp;omega) (by simpa using hl) (by simpa using hx) (by rw[hv,e];simp)
     simpa using this
  ·simp at hc;omega
theorem Yt (v:Bool)(f:Int)(eL:0<=f)(Je:f<=100000):∀(r pre:List Aj) (n:Int),0<=n->n<=(pre.length:Nat)->(pre++r).length<=BG->(∀a∈pre++r,a.value.length<=BG)->v=D9 CI.Ch [] (pre++r) f (DQ CI r n)->
  AF AI 79 (AB Tryz.f79) (AK Tryz.prog Tryz.f79 (.bool v)) [.code [0,1,0,1,1,0,0,1,1,0,0,1,0,1,1],.block 2,.code [1,1,1,0,0,1,1,0,0,1,0,1,1],.block 1,.code [1,1,1,0,0,1,0,1,1],.loop [0,1,0,1,1] 1,.block 0,.code [1,1,1]] .normal
   [(2,true,.ptr 0 0),(5,true,.int .i64 f),(7,true,.ptr 1 0),(8,true,.int .i64 n),(11,true,.sl 3 [[.str [110,97,109,101],.bool true,.fn (.func 110) [] []],[.str [102,101,116,99,104,97,98,108,101],.bool false,.fn (.func 111) [.sl 1 [[.str [121,101,115]],[.str [110,111]]] none] []]] none),(12,true,.int .i64 2),(13,true,.int .i64 1),(18,true,.sl 3 ((pre++r).map Ao) none),(19,true,.int .i64 ((pre++r).length:Nat)),(20,true,.int .i64 (pre.length:Nat))] [.mem 126 [.sl 3 ((pre++r).map Ao) none],.mem 159 [.str [102,101,116,99,104,97,98,108,101],.bool false,.fn (.func 111) [.sl 1 [[.str [121,101,115]],[.str [110,111]]] none] []]]:=by
 intro r
 induction r with
 |nil=>
  intro pre n h0 h1 hl hx hv
  refine aJ FX (AA (fun hc=> ?_) fun _=>AA (fun hc=> ?_) fun hc=> ?_)
  ·simp at hc
  ·have hc:decide (1<n)=true:=hc;rw[hv];simp only[DQ,D9,hc,cond_true]
  ·have hc:decide (1<n)=false:=hc;rw[DQ] at hv
   have he:(n==0&&CI.Ch)=false:=by simp[CI]
   refine AA (fun _=> ?_) fun _=> ?_
   ·refine AD (ID _) ?_
    rw[BH (by unfold BG at hl;simp only[List.append_nil] at hl;omega) (by unfold BG at hl;simp only[List.append_nil] at hl;omega)]
    rw[hv];simp only[D9,hc,he,cond_false,Ca,List.append_nil,List.length_map];try rfl
   ·refine AD (ID _) ?_
    rw[BH (by unfold BG at hl;simp only[List.append_nil] at hl;omega) (by unfold BG at hl;simp only[List.append_nil] at hl;omega)]
    rw[hv];simp only[D9,hc,he,cond_false,Ca,List.append_nil,List.length_map];try rfl
 |cons x r ih=>
  intro pre n h0 h1 hl hx hv;have Jx:=hl;simp only[List.length_append,List.length_cons] at Jx;unfold BG at Jx
  have hlen:pre.length<FR:=by unfold FR;omega
  have Jc:IntKind.wrap .i64 (n+1)=n+1:=BH (by omega) (by omega)
  have Pl:x.value.length<=BG:=hx x (by simp)
  have Hx:Dm (pre.length:Int) ((pre++x::r).map Ao).length=true:=Dw (by omega) (by simp;omega)
  refine aJ FX (AA (fun _=> ?_) fun hc=> ?_)
  ·refine AD (by rw[Hx];rfl) ⟨x.name,x.value,x.pl,Co _ _ _ _,AA (fun a=> ?_) fun a=> ?_⟩
   ·have e:=Hh (r:=CI) (x:=x) (t:=r) (n:=n) (by simpa[CI] using a)
    refine AD (Er _) ?_;rw[BE hlen]
    have:=ih (pre++[x]) n h0 (by simp;omega) (by simpa using hl) (by simpa using hx) (by rw[hv,e];simp)
    simpa using this
   refine⟨[[121,101,115],[110,111]],x.value,by decide,rfl,AA (fun b=> ?_) fun b=> ?_⟩
   ·have nb:CI.may.ok x.value=false:=by simpa[CI,Xu.ok] using b
    have e:=EX (r:=CI) (x:=x) (t:=r) (n:=n) (by simpa[CI] using a) (by rw[nb];rfl)
    rw[hv,e];rfl
   ·have gd:CI.may.ok x.value=true:=by have b':=b;rw[Bool.not_eq_false'] at b';exact b'
    refine⟨_,_,Pl,rfl,AA (fun c=>⟨_,_,Pl,rfl,AA (fun d=> ?_) fun d=> ?_⟩) fun c=> ?_⟩
    ·have e:=EX (r:=CI) (x:=x) (t:=r) (n:=n) (by simpa[CI] using a) (by rw[gd,QW c d];rfl)
     rw[hv,e];rfl
    ·have e:=D7 (r:=CI) (x:=x) (t:=r) (n:=n) (by simpa[CI] using a) (by rw[gd,LP d];rfl)
     refine AD (Er _) ?_;rw[BE hlen,Jc]
     have:=ih (pre++[x]) (n+1) (by omega) (by simp;omega) (by simpa using hl) (by simpa using hx) (by rw[hv,e];simp)
     simpa using this
    ·have e:=D7 (r:=CI) (x:=x) (t:=r) (n:=n) (by simpa[CI] using a) (by rw[gd,LQ c];rfl)
     refine AD (Er _) ?_;rw[BE hlen,Jc]
     have:=ih (pre++[x]) (n+1) (by omega) (by simp;omega) (by simpa using hl) (by simpa using hx) (by rw[hv,e];simp)
     simpa using this
  ·simp at hc;omega
theorem Yu (v:Bool)(f:Int)(eL:0<=f)(Je:f<=0):∀(r pre:List Aj) (n:Int),0<=n->n<=(pre.length:Nat)->(pre++r).length<=BG->(∀a∈pre++r,a.value.length<=BG)->v=D9 Ck.Ch [CI] (pre++r) f (DQ Ck r n)->
  AF AI 79 (AB Tryz.f79) (AK Tryz.prog Tryz.f79 (.bool v)) [.code [0,1,0,1,1,0,0,1,1,0,0,1,0,1,1],.block 2,.code [1,1,1,0,0,1,1,0,0,1,0,1,1],.block 1,.code [1,1,1,0,0,1,0,1,1],.loop [0,1,0,1,1] 1,.block 0,.code [1,1,1]] .normal
   [(2,true,.ptr 0 0),(5,true,.int .i64 f),(7,true,.ptr 1 0),(8,true,.int .i64 n),(11,true,.sl 3 [[.str [110,97,109,101],.bool true,.fn (.func 110) [] []],[.str [102,101,116,99,104,97,98,108,101],.bool false,.fn (.func 111) [.sl 1 [[.str [121,101,115]],[.str [110,111]]] none] []]] none),(12,true,.int .i64 2),(13,true,.int .i64 0),(18,true,.sl 3 ((pre++r).map Ao) none),(19,true,.int .i64 ((pre++r).length:Nat)),(20,true,.int .i64 (pre.length:Nat))] [.mem 126 [.sl 3 ((pre++r).map Ao) none],.mem 159 [.str [110,97,109,101],.bool true,.fn (.func 110) [] []]]:=by
 intro r
 induction r with
 |nil=>
  intro pre n h0 h1 hl hx hv
  refine aK FX (AA (fun hc=> ?_) fun _=>AA (fun hc=> ?_) fun hc=> ?_)
  ·simp at hc
  ·have hc:decide (1<n)=true:=hc;rw[hv];simp only[DQ,D9,hc,cond_true]
  ·have hc:decide (1<n)=false:=hc;rw[DQ] at hv
   refine AA (fun he=> ?_) fun he=> ?_
   ·rw[hv];simp only[D9,hc,cond_false,Ck,he,Bool.and_true,cond_true]
   ·have he:(n==0&&Ck.Ch)=false:=by rw[he];rfl
    refine AD (ID _) ?_
    rw[BH (by unfold BG at hl;simp only[List.append_nil] at hl;omega) (by unfold BG at hl;simp only[List.append_nil] at hl;omega)]
    have Uq:v=D9 CI.Ch [] (pre++[]) (f+n) (DQ CI (pre++[]) 0):=by
     rw[hv,<-Di];simp only[D9,hc,he,cond_false]
    have:=Yt v (f+n) (by omega) (by simp only[List.append_nil] at hl;unfold BG at hl;omega) (pre++[]) [] 0 (by decide) (by simp) hl hx Uq
    simpa using this
 |cons x r ih=>
  intro pre n h0 h1 hl hx hv;have Jx:=hl;simp only[List.length_append,List.length_cons] at Jx;unfold BG at Jx
  have hlen:pre.length<FR:=by unfold FR;omega
  have Jc:IntKind.wrap .i64 (n+1)=n+1:=BH (by omega) (by omega)
  have Pl:x.value.length<=BG:=hx x (by simp)
  have Hx:Dm (pre.length:Int) ((pre++x::r).map Ao).length=true:=Dw (by omega) (by simp;omega)
  refine aK FX (AA (fun _=> ?_) fun hc=> ?_)
  ·refine AD (by rw[Hx];rfl) ⟨x.name,x.value,x.pl,Co _ _ _ _,AA (fun a=> ?_) fun a=> ?_⟩
   ·have e:=Hh (r:=Ck) (x:=x) (t:=r) (n:=n) (by simpa[Ck] using a)
    refine AD (Er _) ?_;rw[BE hlen]
    have:=ih (pre++[x]) n h0 (by simp;omega) (by simpa using hl) (by simpa using hx) (by rw[hv,e];simp)
    simpa using this
   refine⟨_,rfl,AA (fun b=> ?_) fun b=> ?_⟩
   ·have nb:Ck.may.ok x.value=false:=by simpa[Ck,Xu.ok] using b
    have e:=EX (r:=Ck) (x:=x) (t:=r) (n:=n) (by simpa[Ck] using a) (by rw[nb];rfl)
    rw[hv,e];rfl
   ·have gd:Ck.may.ok x.value=true:=by have b':=b;rw[Bool.not_eq_false'] at b';exact b'
    refine⟨_,_,Pl,rfl,AA (fun c=>⟨_,_,Pl,rfl,AA (fun d=> ?_) fun d=> ?_⟩) fun c=> ?_⟩
    ·have e:=EX (r:=Ck) (x:=x) (t:=r) (n:=n) (by simpa[Ck] using a) (by rw[gd,QW c d];rfl)
     rw[hv,e];rfl
    ·have e:=D7 (r:=Ck) (x:=x) (t:=r) (n:=n) (by simpa[Ck] using a) (by rw[gd,LP d];rfl)
     refine AD (Er _) ?_;rw[BE hlen,Jc]
     have:=ih (pre++[x]) (n+1) (by omega) (by simp;omega) (by simpa using hl) (by simpa using hx) (by rw[hv,e];simp)
     simpa using this
    ·have e:=D7 (r:=Ck) (x:=x) (t:=r) (n:=n) (by simpa[Ck] using a) (by rw[gd,LQ c];rfl)
     refine AD (Er _) ?_;rw[BE hlen,Jc]
     have:=ih (pre++[x]) (n+1) (by omega) (by simp;omega) (by simpa using hl) (by simpa using hx) (by rw[hv,e];simp)
     simpa using this
  ·simp at hc;omega
theorem Ys (v:Bool)(f:Int)(eL:0<=f)(Je:f<=0):∀(r pre:List Aj) (n:Int),0<=n->n<=(pre.length:Nat)->(pre++r).length<=BG->(∀a∈pre++r,a.value.length<=BG)->v=D9 Df.Ch [] (pre++r) f (DQ Df r n)->
  AF AI 79 (AB Tryz.f79) (AK Tryz.prog Tryz.f79 (.bool v)) [.code [0,1,0,1,1,0,0,1,1,0,0,1,0,1,1],.block 2,.code [1,1,1,0,0,1,1,0,0,1,0,1,1],.block 1,.code [1,1,1,0,0,1,0,1,1],.loop [0,1,0,1,1] 1,.block 0,.code [1,1,1]] .normal
   [(2,true,.ptr 0 0),(5,true,.int .i64 f),(7,true,.ptr 1 0),(8,true,.int .i64 n),(11,true,.sl 3 [[.str [116,101,120,116],.bool true,.fn (.func 112) [] []]] none),(12,true,.int .i64 1),(13,true,.int .i64 0),(18,true,.sl 3 ((pre++r).map Ao) none),(19,true,.int .i64 ((pre++r).length:Nat)),(20,true,.int .i64 (pre.length:Nat))] [.mem 126 [.sl 3 ((pre++r).map Ao) none],.mem 159 [.str [116,101,120,116],.bool true,.fn (.func 112) [] []]]:=by
 intro r
 induction r with
 |nil=>
  intro pre n h0 h1 hl hx hv
  refine aI FX (AA (fun hc=> ?_) fun _=>AA (fun hc=> ?_) fun hc=> ?_)
  ·simp at hc
  ·have hc:decide (1<n)=true:=hc;rw[hv];simp only[DQ,D9,hc,cond_true]
  ·have hc:decide (1<n)=false:=hc;rw[DQ] at hv
   refine AA (fun he=> ?_) fun he=> ?_
   ·rw[hv];simp only[D9,hc,cond_false,Df,he,Bool.and_true,cond_true]
   ·have he:(n==0&&Df.Ch)=false:=by rw[he];rfl
    refine AD (ID _) ?_
    rw[BH (by unfold BG at hl;simp only[List.append_nil] at hl;omega) (by unfold BG at hl;simp only[List.append_nil] at hl;omega)]
    rw[hv];simp only[D9,hc,he,cond_false,Ca,List.append_nil,List.length_map];try rfl
 |cons x r ih=>
  intro pre n h0 h1 hl hx hv;have Jx:=hl;simp only[List.length_append,List.length_cons] at Jx;unfold BG at Jx
  have hlen:pre.length<FR:=by unfold FR;omega
  have Jc:IntKind.wrap .i64 (n+1)=n+1:=BH (by omega) (by omega)
  have Pl:x.value.length<=BG:=hx x (by simp)
  have Hx:Dm (pre.length:Int) ((pre++x::r).map Ao).length=true:=Dw (by omega) (by simp;omega)
  refine aI FX (AA (fun _=> ?_) fun hc=> ?_)
  ·refine AD (by rw[Hx];rfl) ⟨x.name,x.value,x.pl,Co _ _ _ _,AA (fun a=> ?_) fun a=> ?_⟩
   ·have e:=Hh (r:=Df) (x:=x) (t:=r) (n:=n) (by simpa[Df] using a)
    refine AD (Er _) ?_;rw[BE hlen]
    have:=ih (pre++[x]) n h0 (by simp;omega) (by simpa using hl) (by simpa using hx) (by rw[hv,e];simp)
    simpa using this
   refine⟨_,rfl,?_⟩;have gd:Df.may.ok x.value=true:=rfl
   refine⟨_,_,Pl,rfl,AA (fun c=>⟨_,_,Pl,rfl,AA (fun d=> ?_) fun d=> ?_⟩) fun c=> ?_⟩
   ·have e:=EX (r:=Df) (x:=x) (t:=r) (n:=n) (by simpa[Df] using a) (by rw[gd,QW c d];rfl)
    rw[hv,e];rfl
   ·have e:=D7 (r:=Df) (x:=x) (t:=r) (n:=n) (by simpa[Df] using a) (by rw[gd,LP d];rfl)
    refine AD (Er _) ?_;rw[BE hlen,Jc]
    have:=ih (pre++[x]) (n+1) (by omega) (by simp;omega) (by simpa using hl) (by simpa using hx) (by rw[hv,e];simp)
    simpa using this
   ·have e:=D7 (r:=Df) (x:=x) (t:=r) (n:=n) (by simpa[Df] using a) (by rw[gd,LQ c];rfl)
    refine AD (Er _) ?_;rw[BE hlen,Jc]
    have:=ih (pre++[x]) (n+1) (by omega) (by simp;omega) (by simpa using hl) (by simpa using hx) (by rw[hv,e];simp)
    simpa using this
  ·simp at hc;omega
theorem Wi (v:Bool)(f:Int)(eL:0<=f)(Je:f<=0):∀(r pre:List Aj) (n:Int),0<=n->n<=(pre.length:Nat)->(pre++r).length<=BG->(∀a∈pre++r,a.value.length<=BG)->v=D9 CA.Ch [] (pre++r) f (DQ CA r n)->
  AF AI 79 (AB Tryz.f79) (AK Tryz.prog Tryz.f79 (.bool v)) [.code [0,1,0,1,1,0,0,1,1,0,0,1,0,1,1],.block 2,.code [1,1,1,0,0,1,1,0,0,1,0,1,1],.block 1,.code [1,1,1,0,0,1,0,1,1],.loop [0,1,0,1,1] 1,.block 0,.code [1,1,1]] .normal
   [(2,true,.ptr 0 0),(5,true,.int .i64 f),(7,true,.ptr 1 0),(8,true,.int .i64 n),(11,true,.sl 3 [[.str [116,101,115,116],.bool true,.fn (.func 110) [] []]] none),(12,true,.int .i64 1),(13,true,.int .i64 0),(18,true,.sl 3 ((pre++r).map Ao) none),(19,true,.int .i64 ((pre++r).length:Nat)),(20,true,.int .i64 (pre.length:Nat))] [.mem 126 [.sl 3 ((pre++r).map Ao) none],.mem 159 [.str [116,101,115,116],.bool true,.fn (.func 110) [] []]]:=by
 intro r
 induction r with
 |nil=>
  intro pre n h0 h1 hl hx hv
  refine Vh FX (AA (fun hc=> ?_) fun _=>AA (fun hc=> ?_) fun hc=> ?_)
  ·simp at hc
  ·have hc:decide (1<n)=true:=hc;rw[hv];simp only[DQ,D9,hc,cond_true]
  ·have hc:decide (1<n)=false:=hc;rw[DQ] at hv
   refine AA (fun he=> ?_) fun he=> ?_
   ·rw[hv];simp only[D9,hc,cond_false,CA,he,Bool.and_true,cond_true]
   ·have he:(n==0&&CA.Ch)=false:=by rw[he];rfl
    refine AD (ID _) ?_
    rw[BH (by unfold BG at hl;simp only[List.append_nil] at hl;omega) (by unfold BG at hl;simp only[List.append_nil] at hl;omega)]
    rw[hv];simp only[D9,hc,he,cond_false,Ca,List.append_nil,List.length_map];try rfl
 |cons x r ih=>
  intro pre n h0 h1 hl hx hv;have Jx:=hl;simp only[List.length_append,List.length_cons] at Jx;unfold BG at Jx
  have hlen:pre.length<FR:=by unfold FR;omega
  have Jc:IntKind.wrap .i64 (n+1)=n+1:=BH (by omega) (by omega)
  have Pl:x.value.length<=BG:=hx x (by simp)
  have Hx:Dm (pre.length:Int) ((pre++x::r).map Ao).length=true:=Dw (by omega) (by simp;omega)
  refine Vh FX (AA (fun _=> ?_) fun hc=> ?_)
  ·refine AD (by rw[Hx];rfl) ⟨x.name,x.value,x.pl,Co _ _ _ _,AA (fun a=> ?_) fun a=> ?_⟩
   ·have e:=Hh (r:=CA) (x:=x) (t:=r) (n:=n) (by simpa[CA] using a)
    refine AD (Er _) ?_;rw[BE hlen]
    have:=ih (pre++[x]) n h0 (by simp;omega) (by simpa using hl) (by simpa using hx) (by rw[hv,e];simp)
    simpa using this
   refine⟨_,rfl,AA (fun b=> ?_) fun b=> ?_⟩
   ·have nb:CA.may.ok x.value=false:=by simpa[CA,Xu.ok] using b
    have e:=EX (r:=CA) (x:=x) (t:=r) (n:=n) (by simpa[CA] using a) (by rw[nb];rfl)
    rw[hv,e];rfl
   ·have gd:CA.may.ok x.value=true:=by have b':=b;rw[Bool.not_eq_false'] at b';exact b'
    refine⟨_,_,Pl,rfl,AA (fun c=>⟨_,_,Pl,rfl,AA (fun d=> ?_) fun d=> ?_⟩) fun c=> ?_⟩
    ·have e:=EX (r:=CA) (x:=x) (t:=r) (n:=n) (by simpa[CA] using a) (by rw[gd,QW c d];rfl)
     rw[hv,e];rfl
    ·have e:=D7 (r:=CA) (x:=x) (t:=r) (n:=n) (by simpa[CA] using a) (by rw[gd,LP d];rfl)
     refine AD (Er _) ?_;rw[BE hlen,Jc]
     have:=ih (pre++[x]) (n+1) (by omega) (by simp;omega) (by simpa using hl) (by simpa using hx) (by rw[hv,e];simp)
     simpa using this
    ·have e:=D7 (r:=CA) (x:=x) (t:=r) (n:=n) (by simpa[CA] using a) (by rw[gd,LQ c];rfl)
     refine AD (Er _) ?_;rw[BE hlen,Jc]
     have:=ih (pre++[x]) (n+1) (by omega) (by simp;omega) (by simpa using hl) (by simpa using hx) (by rw[hv,e];simp)
     simpa using this
  ·simp at hc;omega
theorem Wo (al:List Aj):(al.map Ao).length=al.length:=List.length_map _
theorem c31 :CQ AI 79 Ju:=by
 refine Ax vt fun vs h K ht=> ?_
 obtain⟨k,al,hl,hx,rfl,hk⟩:=ht;refine⟨_,hk,?_⟩;unfold BI
 cases e3:k==3 with
 |true=>
  simp only[cond_true,cond_false];refine rJ FX ?_;rw[Wo]
  have:=Yw (Ca [Cl,CU,Bz] al 0) 0 (by decide) (by decide) al [] 0 (by decide) (by decide) (by simpa using hl) (by simpa using hx) (Di _ _ _ _)
  simpa using this
 |false=>
 simp only[cond_false]
 cases e4:k==4 with
 |true=>
  simp only[cond_true,cond_false];refine rI FX ?_;rw[Wo]
  have:=Yu (Ca [Ck,CI] al 0) 0 (by decide) (by decide) al [] 0 (by decide) (by decide) (by simpa using hl) (by simpa using hx) (Di _ _ _ _)
  simpa using this
 |false=>
 simp only[cond_false]
 cases e6:k==6 with
 |true=>
  simp only[cond_true,cond_false];refine rH FX ?_;rw[Wo]
  have:=Ys (Ca [Df] al 0) 0 (by decide) (by decide) al [] 0 (by decide) (by decide) (by simpa using hl) (by simpa using hx) (Di _ _ _ _)
  simpa using this
 |false=>
 simp only[cond_false]
 cases e11:k==11 with
 |true=>
  simp only[cond_true,cond_false];refine nN FX ?_;rw[Wo]
  have:=Wi (Ca [CA] al 0) 0 (by decide) (by decide) al [] 0 (by decide) (by decide) (by simpa using hl) (by simpa using hx) (Di _ _ _ _)
  simpa using this
 |false=>
 simp only[cond_false];refine u7 FX ?_;rw[Wo];rfl
end Go.Proofs.YtopjpnhgnopbiaaGreatDoor.Tr
end
section
namespace Go.Proofs.YtopjpnhgnopbiaaGreatDoor.Tr
open Go.Ai Go
set_option maxRecDepth 100000
open Go.IntKind (wrap i64 u8)
open Go.Ai.AV (int str sl tup bool agg ptr)
open Go.Ai.Blk (mem grow)
open Go.Ai.Fm (code block loop)
open Go.Ai.XT (normal)
open List (length)
open Prod (fst snd)
open UInt8 (toNat)
open Tryz (prog f26 f52)
variable {N:Nat}{v:AV}{xk xp:Int}{xt:List UInt8}{xa xs:List (List AV)}{d b:Int}{hid:Bool}
theorem vO (hT:AL AI (Ac [(52,Gq N),(79,Ju),(80,HQ),(81,Hr),(82,Kw),(83,SP)]))(H:(fun(A0:List Fm)=>(fun(B0:Fr)=>(fun(C0:Hp)=>Ap (xk==14) (Ap hid (int i64 13=v) (AF AI 52 (AB f52) (AK prog f52 v) A0 normal B0 C0)) (AF AI 52 (AB f52) (AK prog f52 v) A0 normal B0 C0)) [mem 26 [int i64 xk,int i64 xp,str xt,sl 3 xa none,sl 5 xs none],mem 105 [int i64 d,bool hid]]) [(2,true,int i64 b),(3,true,ptr 0 0),(4,true,ptr 1 0)]) [code [1,1,0,0,1],block 0,code [1,1]]):AF AI 52 (AB f52) (AK prog f52 v) ([.code []]) .normal ([(0,true,.agg [.int .i64 xk,.int .i64 xp,.str xt,.sl 3 xa none,.sl 5 xs none]),(1,true,.agg [.int .i64 d,.bool hid]),(2,true,.int .i64 b)]) ([]):=
 uo (pl:=⟨[[1,1,0,0,1],[1,1,1,1,0,0,1],[1,1,1,1,1,1,0,0,1],[1,1,1,1,1,1,1,1,0,0,1],[1,1],[0,1,0,1,1,1,1]],[([0,0,0,1,1,0,0,1,0,1,1,1,1],1,[.int .i64,.int .i64,.str,.sl 3,.sl 5])]⟩) hT H (by kernel_rfl)
theorem vN (hT:AL AI (Ac [(52,Gq N),(79,Ju),(80,HQ),(81,Hr),(82,Kw),(83,SP)]))(H:(fun(A0:List Fm)=>(fun(B0:Fr)=>(fun(C0:Hp)=>Ap (xk !=2) (Ap (decide (d>16)) (int i64 3=v) (AF AI 52 (AB f52) (AK prog f52 v) A0 normal B0 C0)) (AF AI 52 (AB f52) (AK prog f52 v) A0 normal B0 C0)) [mem 26 [int i64 xk,int i64 xp,str xt,sl 3 xa none,sl 5 xs none],mem 105 [int i64 d,bool hid]]) [(2,true,int i64 b),(3,true,ptr 0 0),(4,true,ptr 1 0)]) [code [1,1,1,1,0,0,1],block 0,code [1,1]]):AF AI 52 (AB f52) (AK prog f52 v) ([.code [1,1,0,0,1],.block 0,.code [1,1]]) .normal ([(2,true,.int .i64 b),(3,true,.ptr 0 0),(4,true,.ptr 1 0)]) ([.mem 26 [.int .i64 xk,.int .i64 xp,.str xt,.sl 3 xa none,.sl 5 xs none],.mem 105 [.int .i64 d,.bool hid]]):=
 uo (pl:=⟨[[1,1,1,1,0,0,1],[1,1,1,1,1,1,0,0,1],[1,1,1,1,1,1,1,1,0,0,1],[1,1],[0,1,0,1,1,1,1]],[([0,0,0,1,1,0,0,1,0,1,1,1,1],1,[.int .i64,.int .i64,.str,.sl 3,.sl 5])]⟩) hT H (by kernel_rfl)
theorem vM (hT:AL AI (Ac [(52,Gq N),(79,Ju),(80,HQ),(81,Hr),(82,Kw),(83,SP)]))(H:∃(k1:Int),[int i64 xk]=[int i64 k1]/\∃(k2:Int) (A0:List Aj),length A0<=100000/\(∀(a4:Aj),a4∈A0->length (Aj.value a4)<=100000)/\[agg [sl 3 (AE 0 [] xa) none],sl 3 (AE 0 [] (List.map VE (BI k1))) none]=[agg [sl 3 (List.map Ao A0) none],sl 3 (List.map VE (BI k2)) none]/\Ap (!Ca (BI k2) A0 0) (int i64 12=v) (AF AI 52 (AB f52) (AK prog f52 v) [code [1,1,1,1,1,1,0,0,1],block 0,code [1,1]] normal [(2,true,int i64 b),(3,true,ptr 0 0),(4,true,ptr 1 0)] [mem 26 [int i64 xk,int i64 xp,str xt,sl 3 xa none,sl 5 xs none],mem 105 [int i64 d,bool hid]])):AF AI 52 (AB f52) (AK prog f52 v) ([.code [1,1,1,1,0,0,1],.block 0,.code [1,1]]) .normal ([(2,true,.int .i64 b),(3,true,.ptr 0 0),(4,true,.ptr 1 0)]) ([.mem 26 [.int .i64 xk,.int .i64 xp,.str xt,.sl 3 xa none,.sl 5 xs none],.mem 105 [.int .i64 d,.bool hid]]):=
 uo (pl:=⟨[[1,1,0,0,1],[1,1,1,1,1,1,0,0,1],[1,1,1,1,1,1,1,1,0,0,1],[1,1],[0,1,0,1,1,1,1]],[([0,0,0,1,1,0,0,1,0,1,1,1,1],1,[.int .i64,.int .i64,.str,.sl 3,.sl 5])]⟩) hT H (by kernel_rfl)
theorem vL (hT:AL AI (Ac [(52,Gq N),(79,Ju),(80,HQ),(81,Hr),(82,Kw),(83,SP)]))(H:(fun(B0:Fr)=>(fun(C0:List Fm)=>(fun(D0:Hp)=>∃(n1:Nd) (A0:Bool),length (Nd.text n1)<=100000/\[agg [int i64 xk,int i64 xp,str xt,sl 3 (AE 0 [] xa) none,sl 5 (AE 0 [] xs) none],bool hid]=[agg (Dt n1),bool A0]/\Ap (!D6 (Nd.kind n1) (Nd.text n1) A0) (int i64 4=v) (Ap (xk==2) (Ap (b==2) (int i64 4=v) (AF AI 52 (AB f52) (AK prog f52 v) C0 normal B0 D0)) (AF AI 52 (AB f52) (AK prog f52 v) C0 normal B0 D0))) [mem 26 [int i64 xk,int i64 xp,str xt,sl 3 xa none,sl 5 xs none],mem 105 [int i64 d,bool hid]]) [code [1,1,1,1,1,1,1,1,0,0,1],block 0,code [1,1]]) [(3,true,ptr 0 0),(4,true,ptr 1 0)]):AF AI 52 (AB f52) (AK prog f52 v) ([.code [1,1,1,1,1,1,0,0,1],.block 0,.code [1,1]]) .normal ([(2,true,.int .i64 b),(3,true,.ptr 0 0),(4,true,.ptr 1 0)]) ([.mem 26 [.int .i64 xk,.int .i64 xp,.str xt,.sl 3 xa none,.sl 5 xs none],.mem 105 [.int .i64 d,.bool hid]]):=
 uo (pl:=⟨[[1,1,0,0,1],[1,1,1,1,0,0,1],[1,1,1,1,1,1,1,1,0,0,1],[1,1],[0,1,0,1,1,1,1]],[([0,0,0,1,1,0,0,1,0,1,1,1,1],1,[.int .i64,.int .i64,.str,.sl 3,.sl 5])]⟩) hT H (by kernel_rfl)
theorem vK (hT:AL AI (Ac [(52,Gq N),(79,Ju),(80,HQ),(81,Hr),(82,Kw),(83,SP)]))(H:(fun(A0:Fr)=>(fun(B0:Hp)=>∃(k1:Int),[int i64 xk]=[int i64 k1]/\Ap (F6 k1) (Ap (decide ((↑(length xs):Int)>0)) (int i64 13=v) (Ap (xk==7) (Ap ((↑(length xs):Int) !=2) (int i64 13=v) (Ap (xk==10) (Ap ((↑(length xs):Int)==0) (int i64 13=v) (AF AI 52 (AB f52) (AK prog f52 v) [code [1,1]] normal A0 B0)) (AF AI 52 (AB f52) (AK prog f52 v) [code [1,1]] normal A0 B0))) (Ap (xk==10) (Ap ((↑(length xs):Int)==0) (int i64 13=v) (AF AI 52 (AB f52) (AK prog f52 v) [code [1,1]] normal A0 B0)) (AF AI 52 (AB f52) (AK prog f52 v) [code [1,1]] normal A0 B0)))) (Ap (xk==7) (Ap ((↑(length xs):Int) !=2) (int i64 13=v) (Ap (xk==10) (Ap ((↑(length xs):Int)==0) (int i64 13=v) (AF AI 52 (AB f52) (AK prog f52 v) [code [1,1]] normal A0 B0)) (AF AI 52 (AB f52) (AK prog f52 v) [code [1,1]] normal A0 B0))) (Ap (xk==10) (Ap ((↑(length xs):Int)==0) (int i64 13=v) (AF AI 52 (AB f52) (AK prog f52 v) [code [1,1]] normal A0 B0)) (AF AI 52 (AB f52) (AK prog f52 v) [code [1,1]] normal A0 B0)))) [mem 26 [int i64 xk,int i64 xp,str xt,sl 3 xa none,sl 5 xs none],mem 105 [int i64 d,bool hid]]) [(3,true,ptr 0 0),(4,true,ptr 1 0)]):AF AI 52 (AB f52) (AK prog f52 v) ([.code [1,1,1,1,1,1,1,1,0,0,1],.block 0,.code [1,1]]) .normal ([(3,true,.ptr 0 0),(4,true,.ptr 1 0)]) ([.mem 26 [.int .i64 xk,.int .i64 xp,.str xt,.sl 3 xa none,.sl 5 xs none],.mem 105 [.int .i64 d,.bool hid]]):=
 uo (pl:=⟨[[1,1,0,0,1],[1,1,1,1,0,0,1],[1,1,1,1,1,1,0,0,1],[1,1],[0,1,0,1,1,1,1]],[([0,0,0,1,1,0,0,1,0,1,1,1,1],1,[.int .i64,.int .i64,.str,.sl 3,.sl 5])]⟩) hT H (by kernel_rfl)
theorem vJ (hT:AL AI (Ac [(52,Gq N),(79,Ju),(80,HQ),(81,Hr),(82,Kw),(83,SP)]))(H:(fun(A0:List Fm)=>(fun(B0:List AV)=>(fun(C0:Fr)=>Ap hid (AF AI 52 (AB f52) (AK prog f52 v) A0 normal C0 [mem 26 B0,mem 105 [int i64 d,bool hid],mem 105 [int i64 (wrap i64 (d+1)),bool true]]) (AF AI 52 (AB f52) (AK prog f52 v) A0 normal C0 [mem 26 B0,mem 105 [int i64 d,bool hid],mem 105 [int i64 (wrap i64 (d+1)),bool (xk==14)]])) [(3,true,ptr 0 0),(7,true,ptr 2 0),(8,true,int i64 0),(97,true,sl 5 xs none),(98,true,int i64 (↑(length xs):Int)),(99,true,int i64 0)]) [int i64 xk,int i64 xp,str xt,sl 3 xa none,sl 5 xs none]) [code [0,1,0,1,1,1,1],block 1,code [1,1,1,1,1]]):AF AI 52 (AB f52) (AK prog f52 v) ([.code [1,1]]) .normal ([(3,true,.ptr 0 0),(4,true,.ptr 1 0)]) ([.mem 26 [.int .i64 xk,.int .i64 xp,.str xt,.sl 3 xa none,.sl 5 xs none],.mem 105 [.int .i64 d,.bool hid]]):=
 uo (pl:=⟨[[0,1,0,1,1,1,1]],[([0,0,0,1,1,0,0,1,0,1,1,1,1],1,[.int .i64,.int .i64,.str,.sl 3,.sl 5])]⟩) hT H (by kernel_rfl)
theorem t13 (hT:AL AI (Ac [(52,Gq N)]))(H:Ap (xk !=1) (int i64 13=v) (∃(n1:Nd) (d2:Int) (b3:Int) (ss:Bool),Nd.size n1<N/\Nd.JX n1/\0<=d2/\d2+(↑N:Int)<=1000000/\[agg [int i64 xk,int i64 xp,str xt,sl 3 (AE 0 [] xa) none,sl 5 (AE 0 [] xs) none],agg [int i64 0,bool false],int i64 0]=[agg (Dt n1),agg [int i64 d2,bool ss],int i64 b3]/\int i64 (Nd.Mo n1 d2 ss b3)=v)):AF AI 26 (AB f26) (AK prog f26 v) ([.code []]) .normal ([(0,true,.agg [.int .i64 xk,.int .i64 xp,.str xt,.sl 3 xa none,.sl 5 xs none])]) ([]):=
 uo (pl:=⟨[],[]⟩) hT H (by kernel_rfl)
theorem rY {d2 c i z:Int}{hid2:Bool}(hT:AL AI (Ac [(52,Gq N),(79,Ju),(80,HQ),(81,Hr),(82,Kw),(83,SP)]))(H:Ap (decide (i<z)) (AS (Dm i (length xs)&&true&&true) (∃(z1 z2:Int) (s3:List UInt8) (E0 F0:List (List AV)),CH xs i=[int i64 z1,int i64 z2,str s3,sl 3 E0 none,sl 5 F0 none]/\∃(p6 k7 i8 n9:Int),0<=i8/\i8<n9/\n9<=9223372036854775807/\[int i64 xk,int i64 z1,int i64 i,int i64 (↑(length xs):Int)]=[int i64 p6,int i64 k7,int i64 i8,int i64 n9]/\Ap (!KA p6 k7 i8 n9) (int i64 13=v) (∃(B0:Nd) (C0 D0:Int) (A0:Bool),Nd.size B0<N/\Nd.JX B0/\0<=C0/\C0+(↑N:Int)<=1000000/\[agg [int i64 z1,int i64 z2,str s3,sl 3 (AE 0 [] E0) none,sl 5 (AE 0 [] F0) none],agg [int i64 d2,bool hid2],int i64 c]=[agg (Dt B0),agg [int i64 C0,bool A0],int i64 D0]/\Ap (Nd.Mo B0 C0 A0 D0 !=0) (int i64 (Nd.Mo B0 C0 A0 D0)=v) (AS (AJ 3 xs&&true&&true&&(AJ 3 xa&&true&&(AJ 3 xs&&true&&true)&&true)) (AF AI 52 (AB f52) (AK prog f52 v) [code [0,1,0,1,1,1,1],block 1,code [1,1,1,1,1]] normal [(3,true,ptr 0 0),(7,true,ptr 2 0),(8,true,int i64 z1),(97,true,sl 5 xs none),(98,true,int i64 z),(99,true,int i64 (wrap i64 (i+1)))] [mem 26 [int i64 xk,int i64 xp,str xt,sl 3 xa none,sl 5 xs none],mem 105 [int i64 d,bool hid],mem 105 [int i64 d2,bool hid2]]))))) (int i64 0=v)):AF AI 52 (AB f52) (AK prog f52 v) ([.code [0,1,0,1,1,1,1],.block 1,.code [1,1,1,1,1]]) .normal ([(3,true,.ptr 0 0),(7,true,.ptr 2 0),(8,true,.int .i64 c),(97,true,.sl 5 xs none),(98,true,.int .i64 z),(99,true,.int .i64 i)]) ([.mem 26 [.int .i64 xk,.int .i64 xp,.str xt,.sl 3 xa none,.sl 5 xs none],.mem 105 [.int .i64 d,.bool hid],.mem 105 [.int .i64 d2,.bool hid2]]):=
 Az (pl:=⟨[[0,1,0,1,1,1,1]],[([0,0,0,1,1,0,0,1,0,1,1,1,1],1,[.int .i64,.int .i64,.str,.sl 3,.sl 5])]⟩) hT 100000 (by kernel_rfl) (Ak H (by kernel_rfl))
end Go.Proofs.YtopjpnhgnopbiaaGreatDoor.Tr
end
section
namespace Go.Proofs.YtopjpnhgnopbiaaGreatDoor.Tr
open Go.Ai Go
set_option maxRecDepth 100000
theorem rp :BN AI 52 Tryz.f52:=(by refine⟨?_,?_,?_,?_,?_,?_⟩<;>kernel_rfl)
theorem ny :BN AI 26 Tryz.f26:=(by refine⟨?_,?_,?_,?_,?_,?_⟩<;>kernel_rfl)
theorem MO (l:List Nd):(Ag l).length=l.length:=by rw[FJ];exact List.length_map _
theorem pg (n:Nd)(d:Int)(hid:Bool)(b:Int):n.Mo d hid b=bif Gw n.kind n.text n.attrs n.kids.length d hid b==0 then Io n.kind (n.kids.length:Nat) n.kids 0 (d+1) (hid||n.kind==14) 0 else Gw n.kind n.text n.attrs n.kids.length d hid b:=by
 obtain⟨k,p,t,al,ks⟩:=n;rw[Nd.Mo];rfl
theorem kG (n:Nd):n.JX=(n.text.length<=BG/\n.attrs.length<=BG/\(∀a∈n.attrs,a.value.length<=BG)/\n.kids.length<=BG/\Lu n.kids):=by
 obtain⟨k,p,t,al,ks⟩:=n;rw[Nd.JX];rfl
theorem kM (n:Nat)(h:Hp)(k:Int):AE n h ((BI k).map VE)=(BI k).map VE:=by
 refine As _ _ _ ?_;unfold BI
 cases k==3<;>cases k==4<;>cases k==6<;>cases k==11<;>rfl
theorem qy {N:Nat}(h:CQ AI 52 (Gq N)):AL AI (Ac [(52,Gq N),(79,Ju),(80,HQ),(81,Hr),(82,Kw),(83,SP)]):=
 AY (AH h (AH c31 (AH c32 (AH c33 (AH c34 (AH c35 AM))))))
theorem gj {N:Nat}(hT:AL AI (Ac [(52,Gq N),(79,Ju),(80,HQ),(81,Hr),(82,Kw),(83,SP)]))(xk xp d d2 v:Int)(xt:List UInt8)(al:List Aj)(hid hid2:Bool)(ZO:0<=d2)(Od:d2+N<=1000000):∀(r pre:List Nd) (c:Int),(pre++r).length<=BG->Lu r->CC r<N->v=Io xk ((pre++r).length:Nat) r (pre.length:Nat) d2 hid2 c->
  AF AI 52 (AB Tryz.f52) (AK Tryz.prog Tryz.f52 (.int .i64 v)) [.code [0,1,0,1,1,1,1],.block 1,.code [1,1,1,1,1]] .normal
   [(3,true,.ptr 0 0),(7,true,.ptr 2 0),(8,true,.int .i64 c),(97,true,.sl 5 (Ag (pre++r)) none),(98,true,.int .i64 ((pre++r).length:Nat)),(99,true,.int .i64 (pre.length:Nat))]
   [.mem 26 [.int .i64 xk,.int .i64 xp,.str xt,.sl 3 (al.map Ao) none,.sl 5 (Ag (pre++r)) none],.mem 105 [.int .i64 d,.bool hid],.mem 105 [.int .i64 d2,.bool hid2]]:=by
 intro r
 induction r with
 |nil=>
  intro pre c hl hf hs hv
  refine rY hT (AA (fun hc=> ?_) fun _=> ?_)
  ·simp at hc
  ·rw[hv];rfl
 |cons x r ih=>
  intro pre c hl hf hs hv;obtain⟨Je,Uv⟩:=hf;have Jx:=hl;simp only[List.length_append,List.length_cons] at Jx;unfold BG at Jx
  have hlen:pre.length<FR:=by unfold FR;omega
  have hz:CC (x::r)=x.size+CC r:=rfl
  have Hx:Dm (pre.length:Int) (Ag (pre++x::r)).length=true:=Dw (by omega) (by rw[MO];simp;omega)
  have SI:(AJ 3 (Ag (pre++x::r))&&true&&true&&(AJ 3 (al.map Ao)&&true&&(AJ 3 (Ag (pre++x::r))&&true&&true)&&true))=true:=by rw[HG,FF];rfl
  rw[Io] at hv
  refine rY hT (AA (fun _=> ?_) fun hc=> ?_)
  ·refine AD (by rw[Hx];rfl) ⟨x.kind,x.pl,x.text,x.attrs.map Ao,Ag x.kids,(Hb _ _ _).trans (BL x),xk,x.kind,(pre.length:Nat),((Ag (pre++x::r)).length:Nat),by omega,?_,?_,rfl,?_⟩
   ·rw[MO];simp;omega
   ·rw[MO];simp;omega
   rw[MO]
   refine AA (fun a=> ?_) fun a=> ?_
   ·rw[hv,a];rfl
   ·rw[a,cond_false] at hv
    refine⟨x,d2,c,hid2,by omega,Je,ZO,Od,?_,AA (fun b=> ?_) fun b=> ?_⟩
    ·rw[Bv,Gz,<-BL]
    ·have e:(x.Mo d2 hid2 c==0)=false:=by simpa using b
     rw[hv,e];rfl
    ·have e:(x.Mo d2 hid2 c==0)=true:=by simpa using b
     rw[e,cond_true] at hv;refine AD SI ?_;rw[BE hlen]
     have:=ih (pre++[x]) x.kind (by simpa using hl) Uv (by omega) (by rw[hv];simp)
     simpa using this
  ·simp at hc;omega
theorem zu :∀N,CQ AI 52 (Gq N)
 |0=>by
  refine Ax rp fun vs h K ht=> ?_
  obtain⟨n,d,b,hid,hs,_⟩:=ht;omega
 |N+1=>by
  have hT:=qy (zu N)
  refine Ax rp fun vs h K ht=> ?_
  obtain⟨n,d,b,hid,hs,hf,ZO,Od,rfl,hk⟩:=ht;refine⟨_,hk,?_⟩;have CD:=n.size_eq;rw[kG] at hf;obtain⟨f1,f2,f3,f4,f5⟩:=hf;have ftx:n.text.length<=BG:=f1;rw[pg,BL];have heq:Gw n.kind n.text n.attrs n.kids.length d hid b=Gw n.kind n.text n.attrs n.kids.length d hid b:=rfl
  conv at heq=>rhs;unfold Gw
  generalize Gw n.kind n.text n.attrs n.kids.length d hid b=e at heq⊢;generalize hX:Io n.kind (n.kids.length:Nat) n.kids 0 (d+1) (hid||n.kind==14) 0=X
  have bad:∀z:Int,e=z->(z==0)=false->AV.int .i64 z=AV.int .i64 (bif e==0 then X else e):=by
   intro z h h0;subst h;rw[h0];rfl
  have s5:e=0->AF AI 52 (AB Tryz.f52) (AK Tryz.prog Tryz.f52 (.int .i64 (bif e==0 then X else e))) [.code [1,1]] .normal [(3,true,.ptr 0 0),(4,true,.ptr 1 0)] [.mem 26 [.int .i64 n.kind,.int .i64 n.pl,.str n.text,.sl 3 (n.attrs.map Ao) none,.sl 5 (Ag n.kids) none],.mem 105 [.int .i64 d,.bool hid]]:=by
   intro h0;rw[h0]
   have hw:IntKind.wrap .i64 (d+1)=d+1:=BH (by omega) (by omega)
   refine vJ hT (AA (fun g=> ?_) fun g=> ?_)
   ·rw[hw,MO];rw[g,Bool.true_or] at hX
    exact gj hT n.kind n.pl d (d+1) _ n.text n.attrs hid true (by omega) (by omega) n.kids [] 0 (by simpa using f4) f5 (by omega) (by simpa using hX.symm)
   ·rw[hw,MO];rw[g,Bool.false_or] at hX
    exact gj hT n.kind n.pl d (d+1) _ n.text n.attrs hid (n.kind==14) (by omega) (by omega) n.kids [] 0 (by simpa using f4) f5 (by omega) (by simpa using hX.symm)
  have s4:(e=bif (F6 n.kind&&decide (0<n.kids.length))||(n.kind==7&& !(n.kids.length==2))||(n.kind==10&&n.kids.length==0) then 13 else 0)->AF AI 52 (AB Tryz.f52) (AK Tryz.prog Tryz.f52 (.int .i64 (bif e==0 then X else e))) [.code [1,1,1,1,1,1,1,1,0,0,1],.block 0,.code [1,1]] .normal [(3,true,.ptr 0 0),(4,true,.ptr 1 0)] [.mem 26 [.int .i64 n.kind,.int .i64 n.pl,.str n.text,.sl 3 (n.attrs.map Ao) none,.sl 5 (Ag n.kids) none],.mem 105 [.int .i64 d,.bool hid]]:=by
   intro h0
   have i1:decide ((((Ag n.kids).length:Nat):Int)>0)=decide (0<n.kids.length):=by rw[MO];exact decide_eq_decide.2 (by omega)
   have i2:((((Ag n.kids).length:Nat):Int) !=2)=!(n.kids.length==2):=by rw[MO,Bool.eq_iff_iff];simp;omega
   have i3:((((Ag n.kids).length:Nat):Int)==0)=(n.kids.length==0):=by rw[MO,Bool.eq_iff_iff];simp
   refine vK hT ?_;refine⟨n.kind,rfl,?_⟩;rw[i1,i2,i3];generalize F6 n.kind=p1 at *;generalize decide (0<n.kids.length)=p2 at *;generalize (n.kind==7)=p3 at *;generalize (!(n.kids.length==2))=p4 at *;generalize (n.kind==10)=p5 at *;generalize (n.kids.length==0)=p6 at *
   cases p1<;>cases p2<;>cases p3<;>cases p4<;>cases p5<;>cases p6<;>first|exact bad 13 h0 rfl|exact s5 h0
  have s3:(e=bif !D6 n.kind n.text hid||(n.kind==2&&b==2) then 4 else bif (F6 n.kind&&decide (0<n.kids.length))||(n.kind==7&& !(n.kids.length==2))||(n.kind==10&&n.kids.length==0) then 13 else 0)->AF AI 52 (AB Tryz.f52) (AK Tryz.prog Tryz.f52 (.int .i64 (bif e==0 then X else e))) [.code [1,1,1,1,1,1,0,0,1],.block 0,.code [1,1]] .normal [(2,true,.int .i64 b),(3,true,.ptr 0 0),(4,true,.ptr 1 0)] [.mem 26 [.int .i64 n.kind,.int .i64 n.pl,.str n.text,.sl 3 (n.attrs.map Ao) none,.sl 5 (Ag n.kids) none],.mem 105 [.int .i64 d,.bool hid]]:=by
   intro h0
   refine vL hT ⟨n,hid,ftx,by rw[Bv,Gz,<-BL],?_⟩
   generalize (!D6 n.kind n.text hid)=p1 at *;generalize (n.kind==2)=p2 at *;generalize (b==2)=p3 at *
   cases p1<;>cases p2<;>cases p3<;>first|exact bad 4 h0 rfl|exact s4 h0
  have s2:(e=bif !Ca (BI n.kind) n.attrs 0 then 12 else bif !D6 n.kind n.text hid||(n.kind==2&&b==2) then 4 else bif (F6 n.kind&&decide (0<n.kids.length))||(n.kind==7&& !(n.kids.length==2))||(n.kind==10&&n.kids.length==0) then 13 else 0)->AF AI 52 (AB Tryz.f52) (AK Tryz.prog Tryz.f52 (.int .i64 (bif e==0 then X else e))) [.code [1,1,1,1,0,0,1],.block 0,.code [1,1]] .normal [(2,true,.int .i64 b),(3,true,.ptr 0 0),(4,true,.ptr 1 0)] [.mem 26 [.int .i64 n.kind,.int .i64 n.pl,.str n.text,.sl 3 (n.attrs.map Ao) none,.sl 5 (Ag n.kids) none],.mem 105 [.int .i64 d,.bool hid]]:=by
   intro h0;refine vM hT ⟨n.kind,rfl,n.kind,n.attrs,f2,f3,?_,?_⟩
   ·rw[Bv,kM]
   generalize (!Ca (BI n.kind) n.attrs 0)=p1 at *
   cases p1<;>first|exact bad 12 h0 rfl|exact s3 h0
  have s1:(e=bif !(n.kind==2)&&decide (16<d) then 3 else bif !Ca (BI n.kind) n.attrs 0 then 12 else bif !D6 n.kind n.text hid||(n.kind==2&&b==2) then 4 else bif (F6 n.kind&&decide (0<n.kids.length))||(n.kind==7&& !(n.kids.length==2))||(n.kind==10&&n.kids.length==0) then 13 else 0)->AF AI 52 (AB Tryz.f52) (AK Tryz.prog Tryz.f52 (.int .i64 (bif e==0 then X else e))) [.code [1,1,0,0,1],.block 0,.code [1,1]] .normal [(2,true,.int .i64 b),(3,true,.ptr 0 0),(4,true,.ptr 1 0)] [.mem 26 [.int .i64 n.kind,.int .i64 n.pl,.str n.text,.sl 3 (n.attrs.map Ao) none,.sl 5 (Ag n.kids) none],.mem 105 [.int .i64 d,.bool hid]]:=by
   intro h0
   refine vN hT (AA (fun g=>AA (fun g'=> ?_) fun g'=> ?_) fun g=> ?_)
   ·refine bad 3 ?_ rfl;have e1:(!(n.kind==2))=true:=g;have e2:decide (16<d)=true:=g';rw[h0,e1,e2];rfl
   ·refine s2 ?_;have e2:decide (16<d)=false:=g';rw[h0,e2,Bool.and_false];rfl
   ·refine s2 ?_;have e1:(!(n.kind==2))=false:=g;rw[h0,e1,Bool.false_and];rfl
  refine vO hT (AA (fun g=>AA (fun g'=> ?_) fun g'=> ?_) fun g=> ?_)
  ·refine bad 13 ?_ rfl;rw[heq,g,g'];rfl
  ·refine s1 ?_;rw[heq,g',Bool.and_false];rfl
  ·refine s1 ?_;rw[heq,g,Bool.false_and];rfl
theorem c13 (N:Nat):CQ AI 26 (mI N):=by
 refine Ax ny fun vs h K ht=> ?_
 obtain⟨n,hs,hf,hN,rfl,hk⟩:=ht;refine⟨_,hk,?_⟩;rw[BL];unfold Nd.G7
 refine t13 (AY (AH (zu N) AM)) (AA (fun a=> ?_) fun a=>⟨n,0,0,false,hs,hf,by decide,by omega,by rw[Bv,Gz,<-BL],?_⟩)
 ·have e:(n.kind==1)=false:=by simpa using a
  rw[e];rfl
 ·have e:(n.kind==1)=true:=by simpa using a
  rw[e];rfl
end Go.Proofs.YtopjpnhgnopbiaaGreatDoor.Tr
end
