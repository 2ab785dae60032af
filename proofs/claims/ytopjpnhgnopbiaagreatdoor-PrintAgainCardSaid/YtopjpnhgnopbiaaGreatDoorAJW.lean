/-
  Contracts that name functions of this seat: rules of attributes.
  Runs of the functions of trees, printed by a home tool; each is the kernel's word.
  Which trees are pages: the small functions keep to their contracts.
  Which trees are pages: texts of nodes.
  Which trees are pages: attributes keep to the rules of a kind. Printed by a home tool.
  Which trees are pages: attributes as a whole.
  Which trees are pages: check, and what looks at a page.
-/
import Derived.Test.YtopjpnhgnopbiaaGreatDoorAJG
import Derived.Test.YtopjpnhgnopbiaaGreatDoorAJT
import Derived.Test.YtopjpnhgnopbiaaGreatDoorAJH
set_option linter.unusedVariables false
set_option linter.unusedSimpArgs false
set_option linter.unnecessarySimpa false
section
namespace Go.Proofs.YtopjpnhgnopbiaaGreatDoor.Tr
open Go.Ai Go Go.RowKit
def X9 :Ce:=fun vs h K=>∃s:List UInt8,s.length<=BH/\h=[.mem 9 [.str s],.grow 4 1 9]/\vs=[.sl 1 [[.str [32]],[.str [9]],[.str [10]],[.str [13]]] (some 1),.fn (.func 130) [] [.ptr 0 0]]/\K (.int .i64 (Js (fun b=>An s (Ko++b)) Fk 0)) [.mem 9 [.str s],.grow 4 1 9]
def Ty :Ce:=fun vs h K=>∃s:List UInt8,s.length<=BH/\h=[.mem 9 [.str s],.grow 4 1 9]/\vs=[.sl 1 [[.str [32]],[.str [9]],[.str [10]],[.str [13]]] (some 1),.fn (.func 130) [] [.ptr 0 0]]/\K (.bool (Fk.any fun b=>An s (Ko++b))) [.mem 9 [.str s],.grow 4 1 9]
def vq :Xs->AV
 |.full=>.fn (.func 110) [] []
 |.one l=>.fn (.func 111) [.sl 1 (Go.Ai.encT l) none] []
 |.any=>.fn (.func 112) [] []
def VD (r:K2):List AV:=[.str r.name,.bool r.Ci,vq r.may]
def HL :Ce:=fun vs h K=>∃k:Int,vs=[.int .i64 k]/\K (.sl 3 ((BI k).map VD) none) h
def Jr :Ce:=fun vs h K=>∃(k:Int) (al:List Ak),al.length<=BH/\(∀a∈al,a.value.length<=BH)/\vs=[.agg [.sl 3 (al.map Ao) none],.sl 3 ((BI k).map VD) none]/\K (.bool (Ca (BI k) al 0)) h
end Go.Proofs.YtopjpnhgnopbiaaGreatDoor.Tr
end
section
namespace Go.Proofs.YtopjpnhgnopbiaaGreatDoor.Tr
open Go.Ai Go
set_option maxRecDepth 100000
open Go.IntKind (wrap i64 u8)
open Go.Ai.AV (int str sl tup bool agg ptr)
open Go.Ai.Blk (mem grow)
open Go.Ai.Fm (code block loop)
open Go.Ai.XT (normal)
open List (length)
open Prod (fst snd)
open UInt8 (toNat)
open Tryz (prog f82 f83 f98 f110 f111 f112 f114 f124 f128 f139)
variable {v:AV}{k:Int}{e:List (List AV)}
theorem t34 (hT:AL AI (Ac []))(H:Ap (decide (k>=2)) (bool (decide (k<=6))=v) (bool false=v)):AF AI 82 (AB f82) (AK prog f82 v) ([.code []]) .normal ([(0,true,.int .i64 k)]) ([]):=
 uo (pl:=⟨[],[]⟩) hT H (by kernel_rfl)
theorem eu (hT:AL AI (Ac []))(H:AF AI 124 (AB f124) (AK prog f124 v) [code [0,1,0,1],block 0,code [1,1]] normal [(0,true,sl 1 e none),(1,true,int i64 k),(7,true,int i64 (↑(length e):Int)),(8,true,int i64 0)] []):AF AI 124 (AB f124) (AK prog f124 v) ([.code []]) .normal ([(0,true,.sl 1 e none),(1,true,.int .i64 k)]) ([]):=
 uo (pl:=⟨[[0,1,0,1]],[([0,1,0,0,1,1,0,0,1,0,1],3,[.int .i64])]⟩) hT H (by kernel_rfl)
theorem qk {v:AV}{e:List (List AV)}{i1:Int}{i7:Int}{i8:Int}(hT:AL AI (Ac []))(H:Ap (decide (i8<i7)) (AS (Dk i8 (length e)&&true&&true) (∃(z1:Int),CH e i8=[int i64 z1]/\Ap (i1==z1) (int i64 i8=v) (AF AI 124 (AB f124) (AK prog f124 v) [code [0,1,0,1],block 0,code [1,1]] normal [(0,true,sl 1 e none),(1,true,int i64 i1),(7,true,int i64 i7),(8,true,int i64 (wrap i64 (i8+1)))] []))) (int i64 (-1)=v)):AF AI 124 (AB f124) (AK prog f124 v) ([.code [0,1,0,1],block 0,code [1,1]]) .normal ([(0,true,sl 1 e none),(1,true,int i64 i1),(7,true,int i64 i7),(8,true,int i64 i8)]) ([]):=
 Az (pl:=⟨[[0,1,0,1]],[([0,1,0,0,1,1,0,0,1,0,1],3,[.int .i64])]⟩) hT 100000 (by kernel_rfl) (Aj H (by kernel_rfl))
theorem t69 (hT:AL AI (Ac [(124,rn)]))(H:∃(l1:List Int) (k2:Int),length l1<=9223372036854775807/\[sl 1 (AE 0 [] e) none,int i64 k]=[sl 1 (Nx l1) none,int i64 k2]/\bool (decide (Js (fun(x:Int)↦k2==x) l1 0>=0))=v):AF AI 98 (AB f98) (AK prog f98 v) ([.code []]) .normal ([(0,true,.sl 1 e none),(1,true,.int .i64 k)]) ([]):=
 uo (pl:=⟨[],[]⟩) hT H (by kernel_rfl)
theorem t56 (hT:AL AI (Ac [(98,mN)]))(H:∃(l1:List Int) (k2:Int),length l1<=9223372036854775807/\[sl 1 [[int i64 2],[int i64 3],[int i64 4],[int i64 5],[int i64 6],[int i64 7],[int i64 10],[int i64 13],[int i64 14]] none,int i64 k]=[sl 1 (Nx l1) none,int i64 k2]/\bool (List.any l1 fun(x:Int)↦k2==x)=v):AF AI 114 (AB f114) (AK prog f114 v) ([.code []]) .normal ([(0,true,.int .i64 k)]) ([]):=
 uo (pl:=⟨[],[]⟩) hT H (by kernel_rfl)
theorem uS {k:List UInt8}(hT:AL AI (Ac []))(H:AF AI 139 (AB f139) (AK prog f139 v) [code [0,1,0,1],block 0,code [1,1]] normal [(0,true,sl 1 e none),(1,true,str k),(7,true,int i64 (↑(length e):Int)),(8,true,int i64 0)] []):AF AI 139 (AB f139) (AK prog f139 v) ([.code []]) .normal ([(0,true,.sl 1 e none),(1,true,.str k)]) ([]):=
 uo (pl:=⟨[[0,1,0,1]],[([0,1,0,0,1,1,0,0,1,0,1],3,[.str])]⟩) hT H (by kernel_rfl)
theorem qj {v:AV}{e:List (List AV)}{s1:List UInt8}{i7:Int}{i8:Int}(hT:AL AI (Ac []))(H:Ap (decide (i8<i7)) (AS (Dk i8 (length e)&&true&&true) (∃(Vo:List UInt8),CH e i8=[str Vo]/\Ap (s1==Vo) (int i64 i8=v) (AF AI 139 (AB f139) (AK prog f139 v) [code [0,1,0,1],block 0,code [1,1]] normal [(0,true,sl 1 e none),(1,true,str s1),(7,true,int i64 i7),(8,true,int i64 (wrap i64 (i8+1)))] []))) (int i64 (-1)=v)):AF AI 139 (AB f139) (AK prog f139 v) ([.code [0,1,0,1],block 0,code [1,1]]) .normal ([(0,true,sl 1 e none),(1,true,str s1),(7,true,int i64 i7),(8,true,int i64 i8)]) ([]):=
 Az (pl:=⟨[[0,1,0,1]],[([0,1,0,0,1,1,0,0,1,0,1],3,[.str])]⟩) hT 100000 (by kernel_rfl) (Aj H (by kernel_rfl))
theorem t75 {k:List UInt8}(hT:AL AI (Ac [(139,dC)]))(H:∃(l1:List (List UInt8)) (k2:List UInt8),length l1<=9223372036854775807/\[sl 1 (AE 0 [] e) none,str k]=[sl 1 (encT l1) none,str k2]/\bool (decide (Js (fun(x:List UInt8)↦k2==x) l1 0>=0))=v):AF AI 128 (AB f128) (AK prog f128 v) ([.code []]) .normal ([(0,true,.sl 1 e none),(1,true,.str k)]) ([]):=
 uo (pl:=⟨[],[]⟩) hT H (by kernel_rfl)
theorem t53 {k:List UInt8}(hT:AL AI (Ac [(128,Gs)]))(H:∃(l1:List (List UInt8)) (k2:List UInt8),length l1<=9223372036854775807/\[sl 1 (AE 0 [] e) none,str k]=[sl 1 (encT l1) none,str k2]/\bool (List.any l1 fun(x:List UInt8)↦k2==x)=v):AF AI 111 (AB f111) (AK prog f111 v) ([.code []]) .normal ([(0,true,.sl 1 e none),(1,true,.str k)]) ([]):=
 uo (pl:=⟨[],[]⟩) hT H (by kernel_rfl)
theorem t52 {k:List UInt8}(hT:AL AI (Ac []))(H:(bool !k==[])=v):AF AI 110 (AB f110) (AK prog f110 v) ([.code []]) .normal ([(0,true,.str k)]) ([]):=
 uo (pl:=⟨[],[]⟩) hT H (by kernel_rfl)
theorem t54 {k:List UInt8}(hT:AL AI (Ac []))(H:bool true=v):AF AI 112 (AB f112) (AK prog f112 v) ([.code []]) .normal ([(0,true,.str k)]) ([]):=
 uo (pl:=⟨[],[]⟩) hT H (by kernel_rfl)
theorem t35 {p i n:Int}(hT:AL AI (Ac [(114,XR)]))(H:Ap (p==7) (AS (Dk (min i 1) 2&&true&&true) (∃(z1:Int),CH [[int i64 8],[int i64 9]] (min i 1)=[int i64 z1]/\Ap (k==z1) (bool (decide (i<2))=v) (bool false=v))) (Ap (p==10) (Ap (k==11) (bool true=v) (Ap (k==12) (Ap (decide (i>0)) (bool (i==wrap i64 (n-1))=v) (bool false=v)) (bool false=v))) (∃(k2:Int),[int i64 k]=[int i64 k2]/\bool (KC k2)=v))):AF AI 83 (AB f83) (AK prog f83 v) ([.code []]) .normal ([(0,true,.int .i64 p),(1,true,.int .i64 k),(2,true,.int .i64 i),(3,true,.int .i64 n)]) ([]):=
 uo (pl:=⟨[],[([0,0,1,0,1,0,1],4,[.int .i64])]⟩) hT H (by kernel_rfl)
end Go.Proofs.YtopjpnhgnopbiaaGreatDoor.Tr
end
section
namespace Go.Proofs.YtopjpnhgnopbiaaGreatDoor.Tr
open Go.Ai Go
set_option maxRecDepth 100000
theorem B7 (n:Nat)(h:Hp)(l:List Ak):AE n h (l.map Ao)=l.map Ao:=As _ _ _ (Df l)
theorem Hq (n:Nat)(h:Hp)(l:List Nd):AE n h (Ag l)=Ag l:=As _ _ _ (Ey l)
theorem va :BL AI 82 Tryz.f82:=(by refine⟨?_,?_,?_,?_,?_,?_⟩<;>kernel_rfl)
theorem nV :BL AI 124 Tryz.f124:=(by refine⟨?_,?_,?_,?_,?_,?_⟩<;>kernel_rfl)
theorem nX :BL AI 98 Tryz.f98:=(by refine⟨?_,?_,?_,?_,?_,?_⟩<;>kernel_rfl)
theorem vR :BL AI 114 Tryz.f114:=(by refine⟨?_,?_,?_,?_,?_,?_⟩<;>kernel_rfl)
theorem vM :BL AI 139 Tryz.f139:=(by refine⟨?_,?_,?_,?_,?_,?_⟩<;>kernel_rfl)
theorem vO :BL AI 128 Tryz.f128:=(by refine⟨?_,?_,?_,?_,?_,?_⟩<;>kernel_rfl)
theorem vU :BL AI 111 Tryz.f111:=(by refine⟨?_,?_,?_,?_,?_,?_⟩<;>kernel_rfl)
theorem vV :BL AI 110 Tryz.f110:=(by refine⟨?_,?_,?_,?_,?_,?_⟩<;>kernel_rfl)
theorem vT :BL AI 112 Tryz.f112:=(by refine⟨?_,?_,?_,?_,?_,?_⟩<;>kernel_rfl)
theorem vZ :BL AI 83 Tryz.f83:=(by refine⟨?_,?_,?_,?_,?_,?_⟩<;>kernel_rfl)
theorem cQ (l:List Int):AO.BJ (Nx l)=true:=by
 unfold Nx
 induction l with
 |nil=>rfl
 |cons a r ih=>simp only[List.map_cons,AO.BJ,AO.Ad,AO,ih,Bool.true_and]
theorem E9 (l:List (List UInt8)):AO.BJ (encT l)=true:=by
 unfold encT
 induction l with
 |nil=>rfl
 |cons a r ih=>simp only[List.map_cons,AO.BJ,AO.Ad,AO,ih,Bool.true_and]
theorem j5 (n:Nat)(h:Hp)(l:List Int):AE n h (Nx l)=Nx l:=As _ _ _ (cQ l)
theorem CE (n:Nat)(h:Hp)(l:List (List UInt8)):AE n h (encT l)=encT l:=As _ _ _ (E9 l)
theorem uD :CR AI 53 Be:=by
 refine Fj (by kernel_rfl) (by kernel_rfl) (by kernel_rfl:AI.FM 53=some GC) (by kernel_rfl) fun vs h K ht=> ?_
 obtain⟨s,x,hs,rfl,hk⟩:=ht;refine⟨.bool (An s x),hk,?_⟩
 have e:Nat.blt s.length 4294967281=true:=Nat.ble_eq_true_of_le (by unfold BH at hs;omega)
 simp only[GC,e]
theorem c34 :CR AI 82 Ks:=by
 refine Ax va fun vs h K ht=> ?_
 obtain⟨k,rfl,hk⟩:=ht
 refine⟨_,hk,t34 (AY AM) (AA (fun a=> ?_) fun a=> ?_)⟩
 ·rw[decide_eq_true_eq] at a;unfold Fx
  rw[decide_eq_true (p:=2<=k) (by omega)];rfl
 ·rw[decide_eq_false_iff_not] at a;unfold Fx
  rw[decide_eq_false (p:=2<=k) (by omega)];rfl
theorem c52 :CR AI 110 Hx:=by
 refine Ax vV fun vs h K ht=> ?_
 obtain⟨s,rfl,hk⟩:=ht;exact⟨_,hk,t52 (AY AM) rfl⟩
theorem c54 :CR AI 112 Ms:=by
 refine Ax vT fun vs h K ht=> ?_
 obtain⟨s,rfl,hk⟩:=ht;exact⟨_,hk,t54 (AY AM) rfl⟩
theorem Uj (k v:Int):∀(r pre:List Int),(pre++r).length<=FY->v=Js (fun x=>k==x) r (pre.length:Nat)->
  AF AI 124 (AB Tryz.f124) (AK Tryz.prog Tryz.f124 (.int .i64 v)) [.code [0,1,0,1],.block 0,.code [1,1]] .normal
   [(0,true,.sl 1 (Nx (pre++r)) none),(1,true,.int .i64 k),(7,true,.int .i64 ((pre++r).length:Nat)),(8,true,.int .i64 pre.length)] []:=by
 intro r
 induction r with
 |nil=>
  intro pre hl hk
  refine qk (AY AM) (AA (fun hc=> ?_) fun _=> ?_)
  ·simp at hc
  ·rw[hk];rfl
 |cons x r ih=>
  intro pre hl hk
  have hlen:pre.length<FY:=by simp at hl;omega
  have Hv:Dk (pre.length:Int) (Nx (pre++x::r)).length=true:=Dt (by omega) (by unfold Nx;simp;omega)
  refine qk (AY AM) (AA (fun _=> ?_) fun hc=> ?_)
  ·refine AD (by rw[Hv];rfl) ⟨x,Cp _ _ _ _,AA (fun hq=> ?_) fun hq=> ?_⟩
   ·rw[hk,Js,hq];rfl
   ·rw[BE hlen]
    have:=ih (pre++[x]) (by simpa using hl) (by rw[hk,Js,hq];simp)
    simpa using this
  ·simp at hc;omega
theorem yI :CR AI 124 rn:=by
 refine Ax nV fun vs h K ht=> ?_
 obtain⟨l,k,hl,rfl,hk⟩:=ht;refine⟨_,hk,eu (AY AM) ?_⟩;have:=Uj k _ l [] hl rfl
 have e:(Nx l).length=l.length:=by unfold Nx;simp
 rw[e];exact this
theorem yL :CR AI 98 mN:=by
 refine Ax nX fun vs h K ht=> ?_
 obtain⟨l,k,hl,rfl,hk⟩:=ht
 refine⟨_,hk,t69 (AY (AH yI AM)) ⟨l,k,hl,by rw[j5],?_⟩⟩
 exact congrArg AV.bool (Pe _ l 0 (Int.le_refl _))
theorem c56 :CR AI 114 XR:=by
 refine Ax vR fun vs h K ht=> ?_
 obtain⟨k,rfl,hk⟩:=ht
 exact⟨_,hk,t56 (AY (AH yL AM)) ⟨Yw,k,by decide,rfl,rfl⟩⟩
theorem nv (k:List UInt8)(v:Int):∀(r pre:List (List UInt8)),(pre++r).length<=FY->v=Js (fun x=>k==x) r (pre.length:Nat)->
  AF AI 139 (AB Tryz.f139) (AK Tryz.prog Tryz.f139 (.int .i64 v)) [.code [0,1,0,1],.block 0,.code [1,1]] .normal
   [(0,true,.sl 1 (encT (pre++r)) none),(1,true,.str k),(7,true,.int .i64 ((pre++r).length:Nat)),(8,true,.int .i64 pre.length)] []:=by
 intro r
 induction r with
 |nil=>
  intro pre hl hk
  refine qj (AY AM) (AA (fun hc=> ?_) fun _=> ?_)
  ·simp at hc
  ·rw[hk];rfl
 |cons x r ih=>
  intro pre hl hk
  have hlen:pre.length<FY:=by simp at hl;omega
  have Hv:Dk (pre.length:Int) (encT (pre++x::r)).length=true:=Dt (by omega) (by unfold encT;simp;omega)
  refine qj (AY AM) (AA (fun _=> ?_) fun hc=> ?_)
  ·refine AD (by rw[Hv];rfl) ⟨x,Cp _ _ _ _,AA (fun hq=> ?_) fun hq=> ?_⟩
   ·rw[hk,Js,hq];rfl
   ·rw[BE hlen]
    have:=ih (pre++[x]) (by simpa using hl) (by rw[hk,Js,hq];simp)
    simpa using this
  ·simp at hc;omega
theorem c90 :CR AI 139 dC:=by
 refine Ax vM fun vs h K ht=> ?_
 obtain⟨l,k,hl,rfl,hk⟩:=ht;refine⟨_,hk,uS (AY AM) ?_⟩;have:=nv k _ l [] hl rfl
 have e:(encT l).length=l.length:=by unfold encT;simp
 rw[e];exact this
theorem c75 :CR AI 128 Gs:=by
 refine Ax vO fun vs h K ht=> ?_
 obtain⟨l,k,hl,rfl,hk⟩:=ht
 refine⟨_,hk,t75 (AY (AH c90 AM)) ⟨l,k,hl,by rw[CE],?_⟩⟩
 exact congrArg AV.bool (Pe _ l 0 (Int.le_refl _))
theorem c53 :CR AI 111 Gs:=by
 refine Ax vU fun vs h K ht=> ?_
 obtain⟨l,k,hl,rfl,hk⟩:=ht
 exact⟨_,hk,t53 (AY (AH c75 AM)) ⟨l,k,hl,by rw[CE],rfl⟩⟩
theorem c35 :CR AI 83 SN:=by
 refine Ax vZ fun vs h K ht=> ?_
 obtain⟨p,k,i,n,h0,h1,h2,rfl,hk⟩:=ht
 refine⟨_,hk,t35 (AY (AH c56 AM)) (AA (fun a=> ?_) fun a=> ?_)⟩
 ·unfold J7;rw[a,cond_true]
  refine AD (by rw[Dt (by omega) (by omega)];rfl) ?_
  by_cases hi:i=0
  ·subst hi
   refine⟨8,rfl,AA (fun b=> ?_) fun b=> ?_⟩
   ·rw[if_pos rfl,b];rfl
   ·rw[if_pos rfl,b];rfl
  ·have e:min i 1=1:=by omega
   rw[e]
   refine⟨9,rfl,AA (fun b=> ?_) fun b=> ?_⟩
   ·rw[if_neg hi,b];rfl
   ·rw[if_neg hi,b];rfl
 ·unfold J7;rw[a,cond_false]
  refine AA (fun b=> ?_) fun b=> ?_
  ·rw[b,cond_true]
   refine AA (fun c=>by rw[c];rfl) fun c=> ?_
   rw[c]
   refine AA (fun d=> ?_) fun d=>by rw[d];rfl
   rw[d]
   refine AA (fun e=> ?_) fun e=> ?_
   ·rw[BG (by omega) (by unfold FY at h2;omega),decide_eq_true (p:=0<i) (by simpa using e)];rfl
   ·rw[decide_eq_false (p:=0<i) (by simpa using e)];rfl
  ·rw[b,cond_false];exact⟨k,rfl,rfl⟩
end Go.Proofs.YtopjpnhgnopbiaaGreatDoor.Tr
end
section
namespace Go.Proofs.YtopjpnhgnopbiaaGreatDoor.Tr
open Go.Ai Go
set_option maxRecDepth 100000
open Go.IntKind (wrap i64 u8)
open Go.Ai.AV (int str sl tup bool agg ptr)
open Go.Ai.Blk (mem grow)
open Go.Ai.Fm (code block loop)
open Go.Ai.XT (normal)
open List (length)
open Prod (fst snd)
open UInt8 (toNat)
open Tryz (prog f80 f81 f113 f129 f130 f140)
variable {K:AV->Hp->Prop}{s:List UInt8}{v:AV}
theorem t77 {x:List UInt8}(hT:AL AI (Ac [(53,Be)]))(H:AS (decide (7+length x<=9223372036854775807)) (∃(s1:List UInt8) (x2:List UInt8),length s1<=100000/\[str s,str (60::33::45::45::101::115::105::List.append [] x)]=[str s1,str x2]/\K (bool (An s1 x2)) [mem 9 [str s],grow 4 1 9])):AF AI 130 (AB f130) (AX prog f130 2 K) ([.code []]) .normal ([(0,true,.str x),(1,true,.ptr 0 0)]) ([.mem 9 [.str s],.grow 4 1 9]):=
 uo (pl:=⟨[],[]⟩) hT H (by kernel_rfl)
theorem t91 (hT:AL AI (Ac [(130,lf)]))(H:∃(s1:List UInt8),[str [32]]=[str s1]/\∃(s2 b3:List UInt8),(fun(A0:Hp)=>length s2<=100000/\length b3<=10/\[mem 9 [str s],grow 4 1 9]=A0/\[str s1,ptr 0 0]=[str b3,ptr 0 0]/\Ap (An s2 ([60,33,45,45,101,115,105]++b3)) (K (int i64 0) A0) (∃(s4:List UInt8),[str [9]]=[str s4]/\∃(s5 b6:List UInt8),(fun(B0:Hp)=>length s5<=100000/\length b6<=10/\A0=B0/\[str s4,ptr 0 0]=[str b6,ptr 0 0]/\Ap (An s5 ([60,33,45,45,101,115,105]++b6)) (K (int i64 1) B0) (∃(s7:List UInt8),[str [10]]=[str s7]/\∃(s8 b9:List UInt8),(fun(C0:Hp)=>length s8<=100000/\length b9<=10/\B0=C0/\[str s7,ptr 0 0]=[str b9,ptr 0 0]/\Ap (An s8 ([60,33,45,45,101,115,105]++b9)) (K (int i64 2) C0) (∃(G0:List UInt8),[str [13]]=[str G0]/\∃(D0 E0:List UInt8),(fun(F0:Hp)=>length D0<=100000/\length E0<=10/\C0=F0/\[str G0,ptr 0 0]=[str E0,ptr 0 0]/\Ap (An D0 ([60,33,45,45,101,115,105]++E0)) (K (int i64 3) F0) (K (int i64 (-1)) F0)) [mem 9 [str D0],grow 4 1 9])) [mem 9 [str s8],grow 4 1 9])) [mem 9 [str s5],grow 4 1 9])) [mem 9 [str s2],grow 4 1 9]):AF AI 140 (AB f140) (AX prog f140 2 K) ([.code []]) .normal ([(0,true,.sl 1 [[.str [32]],[.str [9]],[.str [10]],[.str [13]]] (some 1)),(1,true,.fn (.func 130) [] [.ptr 0 0])]) ([.mem 9 [.str s],.grow 4 1 9]):=
 uo (pl:=⟨[],[([0,1,0,0,1,1,0,0,1,0,1],3,[.str])]⟩) hT H (by kernel_rfl)
theorem t76 (hT:AL AI (Ac [(140,X9)]))(H:(fun(A0:List AV)=>∃(s1:List UInt8),length s1<=100000/\[mem 9 [str s],grow 4 1 9]=[mem 9 [str s1],grow 4 1 9]/\A0=A0/\K (bool (decide (Js (fun(b:List UInt8)↦An s1 ([60,33,45,45,101,115,105]++b)) Fk 0>=0))) [mem 9 [str s1],grow 4 1 9]) [sl 1 [[str [32]],[str [9]],[str [10]],[str [13]]] (some 1),AV.fn (Fn.func 130) [] [ptr 0 0]]):AF AI 129 (AB f129) (AX prog f129 2 K) ([.code []]) .normal ([(0,true,.sl 1 [[.str [32]],[.str [9]],[.str [10]],[.str [13]]] (some 1)),(1,true,.fn (.func 130) [] [.ptr 0 0])]) ([.mem 9 [.str s],.grow 4 1 9]):=
 uo (pl:=⟨[],[]⟩) hT H (by kernel_rfl)
theorem t55 (hT:AL AI (Ac [(53,Be),(129,Ty)]))(H:(fun(A0:List AV)=>∃(s1 x2:List UInt8),length s1<=100000/\[str s,str [60,101,115,105,58]]=[str s1,str x2]/\Ap (An s1 x2) (bool true=v) (∃(s3 x4:List UInt8),length s3<=100000/\[str s,str [60,47,101,115,105,58]]=[str s3,str x4]/\Ap (An s3 x4) (bool true=v) (∃(s5:List UInt8),length s5<=100000/\[mem 9 [str s],grow 4 1 9]=[mem 9 [str s5],grow 4 1 9]/\A0=A0/\bool (List.any Fk fun(b:List UInt8)↦An s5 ([60,33,45,45,101,115,105]++b))=v))) [sl 1 [[str [32]],[str [9]],[str [10]],[str [13]]] (some 1),AV.fn (Fn.func 130) [] [ptr 0 0]]):AF AI 113 (AB f113) (AK prog f113 v) ([.code []]) .normal ([(0,true,.str s)]) ([]):=
 uo (pl:=⟨[],[]⟩) hT H (by kernel_rfl)
theorem t33 {xk xp:Int}{xt:List UInt8}{xa xs:List (List AV)}{hid:Bool}(hT:AL AI (Ac [(53,Be),(113,Z9)]))(H:Ap (xk==2) (Ap (!xt==[]) (∃(s1:List UInt8),length s1<=100000/\[str xt]=[str s1]/\Ap (!Hn s1) (Ap hid (∃(s2 x3:List UInt8),length s2<=100000/\[str xt,str [45,45,62]]=[str s2,str x3]/\(bool !An s2 x3)=v) (bool true=v)) (bool false=v)) (bool false=v)) (Ap (xk==4) (∃(s4 x5:List UInt8),length s4<=100000/\[str xt,str [60,47,101,115,105,58,105,110,108,105,110,101]]=[str s4,str x5]/\(bool !An s4 x5)=v) (Ap (xk==5) (∃(s6 x7:List UInt8),length s6<=100000/\[str xt,str [60,47,101,115,105,58,114,101,109,111,118,101]]=[str s6,str x7]/\Ap (!An s6 x7) (∃(s8 x9:List UInt8),length s8<=100000/\[str xt,str [60,101,115,105,58]]=[str s8,str x9]/\(bool !An s8 x9)=v) (bool false=v)) (bool (xt==[])=v)))):AF AI 81 (AB f81) (AK prog f81 v) ([.code []]) .normal ([(0,true,.agg [.int .i64 xk,.int .i64 xp,.str xt,.sl 3 xa none,.sl 5 xs none]),(1,true,.bool hid)]) ([]):=
 uo (pl:=⟨[],[]⟩) hT H (by kernel_rfl)
theorem t32 {k:Int}(hT:AL AI (Ac []))(H:Ap (k==3) (sl 3 [[str [115,114,99],bool true,AV.fn (Fn.func 110) [] []],[str [97,108,116],bool false,AV.fn (Fn.func 110) [] []],[str [111,110,101,114,114,111,114],bool false,AV.fn (Fn.func 111) [sl 1 [[str [99,111,110,116,105,110,117,101]]] none] []]] none=v) (Ap (k==4) (sl 3 [[str [110,97,109,101],bool true,AV.fn (Fn.func 110) [] []],[str [102,101,116,99,104,97,98,108,101],bool false,AV.fn (Fn.func 111) [sl 1 [[str [121,101,115]],[str [110,111]]] none] []]] none=v) (Ap (k==6) (sl 3 [[str [116,101,120,116],bool true,AV.fn (Fn.func 112) [] []]] none=v) (Ap (k==11) (sl 3 [[str [116,101,115,116],bool true,AV.fn (Fn.func 110) [] []]] none=v) (sl 3 [] none=v))))):AF AI 80 (AB f80) (AK prog f80 v) ([.code []]) .normal ([(0,true,.int .i64 k)]) ([]):=
 uo (pl:=⟨[],[]⟩) hT H (by kernel_rfl)
end Go.Proofs.YtopjpnhgnopbiaaGreatDoor.Tr
end
section
namespace Go.Proofs.YtopjpnhgnopbiaaGreatDoor.Tr
open Go.Ai Go
set_option maxRecDepth 100000
theorem vS :BL AI 113 Tryz.f113:=(by refine⟨?_,?_,?_,?_,?_,?_⟩<;>kernel_rfl)
theorem vb :BL AI 81 Tryz.f81:=(by refine⟨?_,?_,?_,?_,?_,?_⟩<;>kernel_rfl)
theorem vc :BL AI 80 Tryz.f80:=(by refine⟨?_,?_,?_,?_,?_,?_⟩<;>kernel_rfl)
theorem w9 :BV AI 130 Tryz.f130:=(by refine⟨?_,?_,?_,?_,?_,?_⟩<;>kernel_rfl)
theorem wy :BV AI 140 Tryz.f140:=(by refine⟨?_,?_,?_,?_,?_,?_⟩<;>kernel_rfl)
theorem xA :BV AI 129 Tryz.f129:=(by refine⟨?_,?_,?_,?_,?_,?_⟩<;>kernel_rfl)
theorem c77 :CR AI 130 lf:=by
 refine BD w9 fun vs h K ht=> ?_
 obtain⟨s,b,hs,hb,rfl,rfl,hk⟩:=ht;refine t77 (AY (AH uD AM)) (AD ?_ ⟨_,_,hs,rfl,hk⟩);rw[decide_eq_true_eq];omega
theorem c91 :CR AI 140 X9:=by
 refine BD wy fun vs h K ht=> ?_
 obtain⟨s,hs,rfl,rfl,hk⟩:=ht;refine t91 (AY (AH c77 AM)) ?_;simp only[Fk,Js] at hk
 refine⟨_,rfl,s,_,hs,by decide,rfl,rfl,AA (fun a=> ?_) fun a=> ?_⟩
 ·have e:An s (Ko++[32])=true:=a;rw[e] at hk;exact hk
 have e:An s (Ko++[32])=false:=a;rw[e] at hk
 refine⟨_,rfl,s,_,hs,by decide,rfl,rfl,AA (fun a=> ?_) fun a=> ?_⟩
 ·have e:An s (Ko++[9])=true:=a;rw[e] at hk;exact hk
 have e:An s (Ko++[9])=false:=a;rw[e] at hk
 refine⟨_,rfl,s,_,hs,by decide,rfl,rfl,AA (fun a=> ?_) fun a=> ?_⟩
 ·have e:An s (Ko++[10])=true:=a;rw[e] at hk;exact hk
 have e:An s (Ko++[10])=false:=a;rw[e] at hk
 refine⟨_,rfl,s,_,hs,by decide,rfl,rfl,AA (fun a=> ?_) fun a=> ?_⟩
 ·have e:An s (Ko++[13])=true:=a;rw[e] at hk;exact hk
 have e:An s (Ko++[13])=false:=a;rw[e] at hk;exact hk
theorem c76 :CR AI 129 Ty:=by
 refine BD xA fun vs h K ht=> ?_
 obtain⟨s,hs,rfl,rfl,hk⟩:=ht;refine t76 (AY (AH c91 AM)) ⟨s,hs,rfl,rfl,?_⟩
 have e:=Pe (fun b=>An s (Ko++b)) Fk 0 (Int.le_refl _)
 rw[<-e] at hk;exact hk
theorem c55 :CR AI 113 Z9:=by
 refine Ax vS fun vs h K ht=> ?_
 obtain⟨s,hs,rfl,hk⟩:=ht
 refine⟨_,hk,t55 (AY (AH uD (AH c76 AM))) ⟨_,_,hs,rfl,AA (fun a=> ?_) fun a=>⟨_,_,hs,rfl,AA (fun b=> ?_) fun b=>⟨_,hs,rfl,rfl,?_⟩⟩⟩⟩
 ·have e:An s XN=true:=a;unfold Hn;rw[e];rfl
 ·have e:An s XN=false:=a;have e':An s pI=true:=b;unfold Hn;rw[e,e'];rfl
 ·have e:An s XN=false:=a;have e':An s pI=false:=b;unfold Hn;rw[e,e'];rfl
theorem c33 :CR AI 81 Hm:=by
 refine Ax vb fun vs h K ht=> ?_
 obtain⟨n,hid,hs,rfl,hk⟩:=ht;refine⟨_,hk,?_⟩;rw[BW];have hT:=AY (AH uD (AH c55 AM));generalize n.text=t at *;generalize n.kind=k at *
 refine t33 hT (AA (fun a=> ?_) fun a=>AA (fun b=> ?_) fun b=>AA (fun c=> ?_) fun c=> ?_)
 ·unfold Dx;rw[a,cond_true]
  refine AA (fun b=>⟨_,hs,rfl,AA (fun c=>AA (fun d=>⟨_,_,hs,rfl,?_⟩) fun d=> ?_) fun c=> ?_⟩) fun b=> ?_
  ·rw[b,c,d];rfl
  ·rw[b,c,d];rfl
  ·rw[b,c];rfl
  ·rw[b];rfl
 ·unfold Dx;rw[a,b];exact⟨_,_,hs,rfl,rfl⟩
 ·unfold Dx;rw[a,b,c]
  refine⟨_,_,hs,rfl,AA (fun d=>⟨_,_,hs,rfl,?_⟩) fun d=> ?_⟩
  ·have e:(!An t cM)=true:=d;simp only[cond_true,cond_false,e];rfl
  ·have e:(!An t cM)=false:=d;simp only[cond_true,cond_false,e];rfl
 ·unfold Dx;rw[a,b,c];rfl
end Go.Proofs.YtopjpnhgnopbiaaGreatDoor.Tr
end
section
namespace Go.Proofs.YtopjpnhgnopbiaaGreatDoor.Tr
open Go.Ai Go
set_option maxRecDepth 100000
open Go.IntKind (wrap i64 u8)
open Go.Ai.AV (int str sl tup bool agg ptr)
open Go.Ai.Blk (mem grow)
open Go.Ai.Fm (code block loop)
open Go.Ai.XT (normal)
open List (length)
open Prod (fst snd)
open UInt8 (toNat)
open Tryz (prog f79)
variable {v:AV}{ea:List (List AV)}{f n z j:Int}
theorem ug (hT:AL AI (Ac [(53,Be),(110,Hx),(111,Gs),(112,Ms)]))(H:bool (0==(↑(length ea):Int))=v):AF AI 79 (AB f79) (AK prog f79 v) ([.code []]) .normal ([(0,true,.agg [.sl 3 ea none]),(1,true,.sl 3 [] none)]) ([]):=
 uo (pl:=⟨[[0,1,0,1,1,0,0,1,1,0,0,1,0,1,1]],[([0,0,0,1,1,0,0,1,0,1,1,0,0,1,1,0,0,1,0,1,1],0,[.str,.str,.int .i64])]⟩) hT H (by kernel_rfl)
theorem qz (hT:AL AI (Ac [(53,Be),(110,Hx),(111,Gs),(112,Ms)]))(H:(fun(A0:List AV)=>AF AI 79 (AB f79) (AK prog f79 v) [code [0,1,0,1,1,0,0,1,1,0,0,1,0,1,1],block 2,code [1,1,1,0,0,1,1,0,0,1,0,1,1],block 1,code [1,1,1,0,0,1,0,1,1],loop [0,1,0,1,1] 1,block 0,code [1,1,1]] normal [(2,true,ptr 0 0),(5,true,int i64 0),(7,true,ptr 1 0),(8,true,int i64 0),(11,true,sl 3 [A0,[str [97,108,116],bool false,AV.fn (Fn.func 110) [] []],[str [111,110,101,114,114,111,114],bool false,AV.fn (Fn.func 111) [sl 1 [[str [99,111,110,116,105,110,117,101]]] none] []]] none),(12,true,int i64 3),(13,true,int i64 0),(18,true,sl 3 ea none),(19,true,int i64 (↑(length ea):Int)),(20,true,int i64 0)] [mem 126 [sl 3 ea none],mem 159 A0]) [str [115,114,99],bool true,AV.fn (Fn.func 110) [] []]):AF AI 79 (AB f79) (AK prog f79 v) ([.code []]) .normal ([(0,true,.agg [.sl 3 ea none]),(1,true,.sl 3 [[.str [115,114,99],.bool true,.fn (.func 110) [] []],[.str [97,108,116],.bool false,.fn (.func 110) [] []],[.str [111,110,101,114,114,111,114],.bool false,.fn (.func 111) [.sl 1 [[.str [99,111,110,116,105,110,117,101]]] none] []]] none)]) ([]):=
 uo (pl:=⟨[[0,1,0,1,1,0,0,1,1,0,0,1,0,1,1]],[([0,0,0,1,1,0,0,1,0,1,1,0,0,1,1,0,0,1,0,1,1],0,[.str,.str,.int .i64])]⟩) hT H (by kernel_rfl)
theorem aH (hT:AL AI (Ac [(53,Be),(110,Hx),(111,Gs),(112,Ms)]))(H:(fun(D0:List AV)=>(fun(E0:List AV)=>(fun(C0:Hp)=>(fun(A0:List Fm)=>(fun(B0:List (List AV))=>Ap (decide (j<z)) (AS (Dk j (length ea)&&true&&true) (∃(s1 s2:List UInt8) (z3:Int),CH ea j=[str s1,str s2,int i64 z3]/\Ap (!s1==[115,114,99]) (AS (AJ 2 ea&&true&&true&&(AJ 2 ea&&true&&true&&true)) (AF AI 79 (AB f79) (AK prog f79 v) A0 normal [(2,true,ptr 0 0),(5,true,int i64 f),(7,true,ptr 1 0),(8,true,int i64 n),(11,true,sl 3 B0 none),(12,true,int i64 3),(13,true,int i64 0),(18,true,sl 3 ea none),(19,true,int i64 z),(20,true,int i64 (wrap i64 (j+1)))] C0)) (∃(s4:List UInt8),[str s2]=[str s4]/\Ap (!!s4==[]) (bool false=v) (∃(s5 x6:List UInt8),length s5<=100000/\[str s2,str [34]]=[str s5,str x6]/\Ap (An s5 x6) (∃(s7 x8:List UInt8),length s7<=100000/\[str s2,str [39]]=[str s7,str x8]/\Ap (An s7 x8) (bool false=v) (AS (AJ 2 ea&&true&&true&&(AJ 2 ea&&true&&true&&true)) (AF AI 79 (AB f79) (AK prog f79 v) A0 normal [(2,true,ptr 0 0),(5,true,int i64 f),(7,true,ptr 1 0),(8,true,int i64 (wrap i64 (n+1))),(11,true,sl 3 B0 none),(12,true,int i64 3),(13,true,int i64 0),(18,true,sl 3 ea none),(19,true,int i64 z),(20,true,int i64 (wrap i64 (j+1)))] C0))) (AS (AJ 2 ea&&true&&true&&(AJ 2 ea&&true&&true&&true)) (AF AI 79 (AB f79) (AK prog f79 v) A0 normal [(2,true,ptr 0 0),(5,true,int i64 f),(7,true,ptr 1 0),(8,true,int i64 (wrap i64 (n+1))),(11,true,sl 3 B0 none),(12,true,int i64 3),(13,true,int i64 0),(18,true,sl 3 ea none),(19,true,int i64 z),(20,true,int i64 (wrap i64 (j+1)))] C0)))))) (Ap (decide (n>1)) (bool false=v) (Ap (n==0) (bool false=v) (AS (AJ 1 ea&&true&&true&&true) (AF AI 79 (AB f79) (AK prog f79 v) A0 normal [(2,true,ptr 0 0),(5,true,int i64 (wrap i64 (f+n))),(7,true,ptr 1 0),(8,true,int i64 0),(11,true,sl 3 B0 none),(12,true,int i64 3),(13,true,int i64 1),(18,true,sl 3 ea none),(19,true,int i64 (↑(length ea):Int)),(20,true,int i64 0)] [mem 126 [sl 3 ea none],mem 159 E0]))))) [D0,E0,[str [111,110,101,114,114,111,114],bool false,AV.fn (Fn.func 111) [sl 1 [[str [99,111,110,116,105,110,117,101]]] none] []]]) [code [0,1,0,1,1,0,0,1,1,0,0,1,0,1,1],block 2,code [1,1,1,0,0,1,1,0,0,1,0,1,1],block 1,code [1,1,1,0,0,1,0,1,1],loop [0,1,0,1,1] 1,block 0,code [1,1,1]]) [mem 126 [sl 3 ea none],mem 159 D0]) [str [97,108,116],bool false,AV.fn (Fn.func 110) [] []]) [str [115,114,99],bool true,AV.fn (Fn.func 110) [] []]):AF AI 79 (AB f79) (AK prog f79 v) ([.code [0,1,0,1,1,0,0,1,1,0,0,1,0,1,1],.block 2,.code [1,1,1,0,0,1,1,0,0,1,0,1,1],.block 1,.code [1,1,1,0,0,1,0,1,1],.loop [0,1,0,1,1] 1,.block 0,.code [1,1,1]]) .normal ([(2,true,.ptr 0 0),(5,true,.int .i64 f),(7,true,.ptr 1 0),(8,true,.int .i64 n),(11,true,.sl 3 [[.str [115,114,99],.bool true,.fn (.func 110) [] []],[.str [97,108,116],.bool false,.fn (.func 110) [] []],[.str [111,110,101,114,114,111,114],.bool false,.fn (.func 111) [.sl 1 [[.str [99,111,110,116,105,110,117,101]]] none] []]] none),(12,true,.int .i64 3),(13,true,.int .i64 0),(18,true,.sl 3 ea none),(19,true,.int .i64 z),(20,true,.int .i64 j)]) ([.mem 126 [.sl 3 ea none],.mem 159 [.str [115,114,99],.bool true,.fn (.func 110) [] []]]):=
 Az (pl:=⟨[[0,1,0,1,1,0,0,1,1,0,0,1,0,1,1]],[([0,0,0,1,1,0,0,1,0,1,1,0,0,1,1,0,0,1,0,1,1],0,[.str,.str,.int .i64])]⟩) hT 100000 (by kernel_rfl) (Aj H (by kernel_rfl))
theorem aG (hT:AL AI (Ac [(53,Be),(110,Hx),(111,Gs),(112,Ms)]))(H:(fun(E0:List AV)=>(fun(C0:Hp)=>(fun(D0:List AV)=>(fun(A0:List Fm)=>(fun(B0:List (List AV))=>Ap (decide (j<z)) (AS (Dk j (length ea)&&true&&true) (∃(s1 s2:List UInt8) (z3:Int),CH ea j=[str s1,str s2,int i64 z3]/\Ap (!s1==[97,108,116]) (AS (AJ 2 ea&&true&&true&&(AJ 2 ea&&true&&true&&true)) (AF AI 79 (AB f79) (AK prog f79 v) A0 normal [(2,true,ptr 0 0),(5,true,int i64 f),(7,true,ptr 1 0),(8,true,int i64 n),(11,true,sl 3 B0 none),(12,true,int i64 3),(13,true,int i64 1),(18,true,sl 3 ea none),(19,true,int i64 z),(20,true,int i64 (wrap i64 (j+1)))] C0)) (∃(s4:List UInt8),[str s2]=[str s4]/\Ap (!!s4==[]) (bool false=v) (∃(s5 x6:List UInt8),length s5<=100000/\[str s2,str [34]]=[str s5,str x6]/\Ap (An s5 x6) (∃(s7 x8:List UInt8),length s7<=100000/\[str s2,str [39]]=[str s7,str x8]/\Ap (An s7 x8) (bool false=v) (AS (AJ 2 ea&&true&&true&&(AJ 2 ea&&true&&true&&true)) (AF AI 79 (AB f79) (AK prog f79 v) A0 normal [(2,true,ptr 0 0),(5,true,int i64 f),(7,true,ptr 1 0),(8,true,int i64 (wrap i64 (n+1))),(11,true,sl 3 B0 none),(12,true,int i64 3),(13,true,int i64 1),(18,true,sl 3 ea none),(19,true,int i64 z),(20,true,int i64 (wrap i64 (j+1)))] C0))) (AS (AJ 2 ea&&true&&true&&(AJ 2 ea&&true&&true&&true)) (AF AI 79 (AB f79) (AK prog f79 v) A0 normal [(2,true,ptr 0 0),(5,true,int i64 f),(7,true,ptr 1 0),(8,true,int i64 (wrap i64 (n+1))),(11,true,sl 3 B0 none),(12,true,int i64 3),(13,true,int i64 1),(18,true,sl 3 ea none),(19,true,int i64 z),(20,true,int i64 (wrap i64 (j+1)))] C0)))))) (Ap (decide (n>1)) (bool false=v) (Ap (n==0) (AS (AJ 1 ea&&true&&true&&true) (AF AI 79 (AB f79) (AK prog f79 v) A0 normal [(2,true,ptr 0 0),(5,true,int i64 (wrap i64 (f+n))),(7,true,ptr 1 0),(8,true,int i64 0),(11,true,sl 3 B0 none),(12,true,int i64 3),(13,true,int i64 2),(18,true,sl 3 ea none),(19,true,int i64 (↑(length ea):Int)),(20,true,int i64 0)] [mem 126 [sl 3 ea none],mem 159 D0])) (AS (AJ 1 ea&&true&&true&&true) (AF AI 79 (AB f79) (AK prog f79 v) A0 normal [(2,true,ptr 0 0),(5,true,int i64 (wrap i64 (f+n))),(7,true,ptr 1 0),(8,true,int i64 0),(11,true,sl 3 B0 none),(12,true,int i64 3),(13,true,int i64 2),(18,true,sl 3 ea none),(19,true,int i64 (↑(length ea):Int)),(20,true,int i64 0)] [mem 126 [sl 3 ea none],mem 159 D0]))))) [[str [115,114,99],bool true,AV.fn (Fn.func 110) [] []],E0,D0]) [code [0,1,0,1,1,0,0,1,1,0,0,1,0,1,1],block 2,code [1,1,1,0,0,1,1,0,0,1,0,1,1],block 1,code [1,1,1,0,0,1,0,1,1],loop [0,1,0,1,1] 1,block 0,code [1,1,1]]) [str [111,110,101,114,114,111,114],bool false,AV.fn (Fn.func 111) [sl 1 [[str [99,111,110,116,105,110,117,101]]] none] []]) [mem 126 [sl 3 ea none],mem 159 E0]) [str [97,108,116],bool false,AV.fn (Fn.func 110) [] []]):AF AI 79 (AB f79) (AK prog f79 v) ([.code [0,1,0,1,1,0,0,1,1,0,0,1,0,1,1],.block 2,.code [1,1,1,0,0,1,1,0,0,1,0,1,1],.block 1,.code [1,1,1,0,0,1,0,1,1],.loop [0,1,0,1,1] 1,.block 0,.code [1,1,1]]) .normal ([(2,true,.ptr 0 0),(5,true,.int .i64 f),(7,true,.ptr 1 0),(8,true,.int .i64 n),(11,true,.sl 3 [[.str [115,114,99],.bool true,.fn (.func 110) [] []],[.str [97,108,116],.bool false,.fn (.func 110) [] []],[.str [111,110,101,114,114,111,114],.bool false,.fn (.func 111) [.sl 1 [[.str [99,111,110,116,105,110,117,101]]] none] []]] none),(12,true,.int .i64 3),(13,true,.int .i64 1),(18,true,.sl 3 ea none),(19,true,.int .i64 z),(20,true,.int .i64 j)]) ([.mem 126 [.sl 3 ea none],.mem 159 [.str [97,108,116],.bool false,.fn (.func 110) [] []]]):=
 Az (pl:=⟨[[0,1,0,1,1,0,0,1,1,0,0,1,0,1,1]],[([0,0,0,1,1,0,0,1,0,1,1,0,0,1,1,0,0,1,0,1,1],0,[.str,.str,.int .i64])]⟩) hT 100000 (by kernel_rfl) (Aj H (by kernel_rfl))
theorem aF (hT:AL AI (Ac [(53,Be),(110,Hx),(111,Gs),(112,Ms)]))(H:(fun(E0:List AV)=>(fun(B0:List AV)=>(fun(C0:List AV)=>(fun(D0:List Fm)=>(fun(A0:List AV)=>Ap (decide (j<z)) (AS (Dk j (length ea)&&true&&true) (∃(s1 s2:List UInt8) (z3:Int),CH ea j=[str s1,str s2,int i64 z3]/\Ap (!s1==[111,110,101,114,114,111,114]) (AS (AJ 2 ea&&true&&true&&(AJ 2 ea&&true&&true&&true)) (AF AI 79 (AB f79) (AK prog f79 v) D0 normal [(2,true,ptr 0 0),(5,true,int i64 f),(7,true,ptr 1 0),(8,true,int i64 n),(11,true,sl 3 [B0,C0,A0] none),(12,true,int i64 3),(13,true,int i64 2),(18,true,sl 3 ea none),(19,true,int i64 z),(20,true,int i64 (wrap i64 (j+1)))] [mem 126 [sl 3 ea none],mem 159 A0])) (∃(l4:List (List UInt8)) (k5:List UInt8),length l4<=9223372036854775807/\[sl 1 [E0] none,str s2]=[sl 1 (encT l4) none,str k5]/\Ap (!List.any l4 fun(x:List UInt8)↦k5==x) (bool false=v) (∃(s6 x7:List UInt8),length s6<=100000/\[str s2,str [34]]=[str s6,str x7]/\Ap (An s6 x7) (∃(s8 x9:List UInt8),length s8<=100000/\[str s2,str [39]]=[str s8,str x9]/\Ap (An s8 x9) (bool false=v) (AS (AJ 2 ea&&true&&true&&(AJ 2 ea&&true&&true&&true)) (AF AI 79 (AB f79) (AK prog f79 v) D0 normal [(2,true,ptr 0 0),(5,true,int i64 f),(7,true,ptr 1 0),(8,true,int i64 (wrap i64 (n+1))),(11,true,sl 3 [B0,C0,A0] none),(12,true,int i64 3),(13,true,int i64 2),(18,true,sl 3 ea none),(19,true,int i64 z),(20,true,int i64 (wrap i64 (j+1)))] [mem 126 [sl 3 ea none],mem 159 A0]))) (AS (AJ 2 ea&&true&&true&&(AJ 2 ea&&true&&true&&true)) (AF AI 79 (AB f79) (AK prog f79 v) D0 normal [(2,true,ptr 0 0),(5,true,int i64 f),(7,true,ptr 1 0),(8,true,int i64 (wrap i64 (n+1))),(11,true,sl 3 [B0,C0,A0] none),(12,true,int i64 3),(13,true,int i64 2),(18,true,sl 3 ea none),(19,true,int i64 z),(20,true,int i64 (wrap i64 (j+1)))] [mem 126 [sl 3 ea none],mem 159 A0])))))) (Ap (decide (n>1)) (bool false=v) (Ap (n==0) (AS (AJ 1 ea&&true&&true&&true) (bool (wrap i64 (f+n)==(↑(length ea):Int))=v)) (AS (AJ 1 ea&&true&&true&&true) (bool (wrap i64 (f+n)==(↑(length ea):Int))=v))))) [str [111,110,101,114,114,111,114],bool false,AV.fn (Fn.func 111) [sl 1 [E0] none] []]) [code [0,1,0,1,1,0,0,1,1,0,0,1,0,1,1],block 2,code [1,1,1,0,0,1,1,0,0,1,0,1,1],block 1,code [1,1,1,0,0,1,0,1,1],loop [0,1,0,1,1] 1,block 0,code [1,1,1]]) [str [97,108,116],bool false,AV.fn (Fn.func 110) [] []]) [str [115,114,99],bool true,AV.fn (Fn.func 110) [] []]) [str [99,111,110,116,105,110,117,101]]):AF AI 79 (AB f79) (AK prog f79 v) ([.code [0,1,0,1,1,0,0,1,1,0,0,1,0,1,1],.block 2,.code [1,1,1,0,0,1,1,0,0,1,0,1,1],.block 1,.code [1,1,1,0,0,1,0,1,1],.loop [0,1,0,1,1] 1,.block 0,.code [1,1,1]]) .normal ([(2,true,.ptr 0 0),(5,true,.int .i64 f),(7,true,.ptr 1 0),(8,true,.int .i64 n),(11,true,.sl 3 [[.str [115,114,99],.bool true,.fn (.func 110) [] []],[.str [97,108,116],.bool false,.fn (.func 110) [] []],[.str [111,110,101,114,114,111,114],.bool false,.fn (.func 111) [.sl 1 [[.str [99,111,110,116,105,110,117,101]]] none] []]] none),(12,true,.int .i64 3),(13,true,.int .i64 2),(18,true,.sl 3 ea none),(19,true,.int .i64 z),(20,true,.int .i64 j)]) ([.mem 126 [.sl 3 ea none],.mem 159 [.str [111,110,101,114,114,111,114],.bool false,.fn (.func 111) [.sl 1 [[.str [99,111,110,116,105,110,117,101]]] none] []]]):=
 Az (pl:=⟨[[0,1,0,1,1,0,0,1,1,0,0,1,0,1,1]],[([0,0,0,1,1,0,0,1,0,1,1,0,0,1,1,0,0,1,0,1,1],0,[.str,.str,.int .i64])]⟩) hT 100000 (by kernel_rfl) (Aj H (by kernel_rfl))
theorem qy (hT:AL AI (Ac [(53,Be),(110,Hx),(111,Gs),(112,Ms)]))(H:(fun(A0:List AV)=>AF AI 79 (AB f79) (AK prog f79 v) [code [0,1,0,1,1,0,0,1,1,0,0,1,0,1,1],block 2,code [1,1,1,0,0,1,1,0,0,1,0,1,1],block 1,code [1,1,1,0,0,1,0,1,1],loop [0,1,0,1,1] 1,block 0,code [1,1,1]] normal [(2,true,ptr 0 0),(5,true,int i64 0),(7,true,ptr 1 0),(8,true,int i64 0),(11,true,sl 3 [A0,[str [102,101,116,99,104,97,98,108,101],bool false,AV.fn (Fn.func 111) [sl 1 [[str [121,101,115]],[str [110,111]]] none] []]] none),(12,true,int i64 2),(13,true,int i64 0),(18,true,sl 3 ea none),(19,true,int i64 (↑(length ea):Int)),(20,true,int i64 0)] [mem 126 [sl 3 ea none],mem 159 A0]) [str [110,97,109,101],bool true,AV.fn (Fn.func 110) [] []]):AF AI 79 (AB f79) (AK prog f79 v) ([.code []]) .normal ([(0,true,.agg [.sl 3 ea none]),(1,true,.sl 3 [[.str [110,97,109,101],.bool true,.fn (.func 110) [] []],[.str [102,101,116,99,104,97,98,108,101],.bool false,.fn (.func 111) [.sl 1 [[.str [121,101,115]],[.str [110,111]]] none] []]] none)]) ([]):=
 uo (pl:=⟨[[0,1,0,1,1,0,0,1,1,0,0,1,0,1,1]],[([0,0,0,1,1,0,0,1,0,1,1,0,0,1,1,0,0,1,0,1,1],0,[.str,.str,.int .i64])]⟩) hT H (by kernel_rfl)
theorem aE (hT:AL AI (Ac [(53,Be),(110,Hx),(111,Gs),(112,Ms)]))(H:(fun(D0:List AV)=>(fun(E0:List AV)=>(fun(C0:Hp)=>(fun(A0:List Fm)=>(fun(B0:List (List AV))=>Ap (decide (j<z)) (AS (Dk j (length ea)&&true&&true) (∃(s1 s2:List UInt8) (z3:Int),CH ea j=[str s1,str s2,int i64 z3]/\Ap (!s1==[110,97,109,101]) (AS (AJ 2 ea&&true&&true&&(AJ 2 ea&&true&&true&&true)) (AF AI 79 (AB f79) (AK prog f79 v) A0 normal [(2,true,ptr 0 0),(5,true,int i64 f),(7,true,ptr 1 0),(8,true,int i64 n),(11,true,sl 3 B0 none),(12,true,int i64 2),(13,true,int i64 0),(18,true,sl 3 ea none),(19,true,int i64 z),(20,true,int i64 (wrap i64 (j+1)))] C0)) (∃(s4:List UInt8),[str s2]=[str s4]/\Ap (!!s4==[]) (bool false=v) (∃(s5 x6:List UInt8),length s5<=100000/\[str s2,str [34]]=[str s5,str x6]/\Ap (An s5 x6) (∃(s7 x8:List UInt8),length s7<=100000/\[str s2,str [39]]=[str s7,str x8]/\Ap (An s7 x8) (bool false=v) (AS (AJ 2 ea&&true&&true&&(AJ 2 ea&&true&&true&&true)) (AF AI 79 (AB f79) (AK prog f79 v) A0 normal [(2,true,ptr 0 0),(5,true,int i64 f),(7,true,ptr 1 0),(8,true,int i64 (wrap i64 (n+1))),(11,true,sl 3 B0 none),(12,true,int i64 2),(13,true,int i64 0),(18,true,sl 3 ea none),(19,true,int i64 z),(20,true,int i64 (wrap i64 (j+1)))] C0))) (AS (AJ 2 ea&&true&&true&&(AJ 2 ea&&true&&true&&true)) (AF AI 79 (AB f79) (AK prog f79 v) A0 normal [(2,true,ptr 0 0),(5,true,int i64 f),(7,true,ptr 1 0),(8,true,int i64 (wrap i64 (n+1))),(11,true,sl 3 B0 none),(12,true,int i64 2),(13,true,int i64 0),(18,true,sl 3 ea none),(19,true,int i64 z),(20,true,int i64 (wrap i64 (j+1)))] C0)))))) (Ap (decide (n>1)) (bool false=v) (Ap (n==0) (bool false=v) (AS (AJ 1 ea&&true&&true&&true) (AF AI 79 (AB f79) (AK prog f79 v) A0 normal [(2,true,ptr 0 0),(5,true,int i64 (wrap i64 (f+n))),(7,true,ptr 1 0),(8,true,int i64 0),(11,true,sl 3 B0 none),(12,true,int i64 2),(13,true,int i64 1),(18,true,sl 3 ea none),(19,true,int i64 (↑(length ea):Int)),(20,true,int i64 0)] [mem 126 [sl 3 ea none],mem 159 E0]))))) [D0,E0]) [code [0,1,0,1,1,0,0,1,1,0,0,1,0,1,1],block 2,code [1,1,1,0,0,1,1,0,0,1,0,1,1],block 1,code [1,1,1,0,0,1,0,1,1],loop [0,1,0,1,1] 1,block 0,code [1,1,1]]) [mem 126 [sl 3 ea none],mem 159 D0]) [str [102,101,116,99,104,97,98,108,101],bool false,AV.fn (Fn.func 111) [sl 1 [[str [121,101,115]],[str [110,111]]] none] []]) [str [110,97,109,101],bool true,AV.fn (Fn.func 110) [] []]):AF AI 79 (AB f79) (AK prog f79 v) ([.code [0,1,0,1,1,0,0,1,1,0,0,1,0,1,1],.block 2,.code [1,1,1,0,0,1,1,0,0,1,0,1,1],.block 1,.code [1,1,1,0,0,1,0,1,1],.loop [0,1,0,1,1] 1,.block 0,.code [1,1,1]]) .normal ([(2,true,.ptr 0 0),(5,true,.int .i64 f),(7,true,.ptr 1 0),(8,true,.int .i64 n),(11,true,.sl 3 [[.str [110,97,109,101],.bool true,.fn (.func 110) [] []],[.str [102,101,116,99,104,97,98,108,101],.bool false,.fn (.func 111) [.sl 1 [[.str [121,101,115]],[.str [110,111]]] none] []]] none),(12,true,.int .i64 2),(13,true,.int .i64 0),(18,true,.sl 3 ea none),(19,true,.int .i64 z),(20,true,.int .i64 j)]) ([.mem 126 [.sl 3 ea none],.mem 159 [.str [110,97,109,101],.bool true,.fn (.func 110) [] []]]):=
 Az (pl:=⟨[[0,1,0,1,1,0,0,1,1,0,0,1,0,1,1]],[([0,0,0,1,1,0,0,1,0,1,1,0,0,1,1,0,0,1,0,1,1],0,[.str,.str,.int .i64])]⟩) hT 100000 (by kernel_rfl) (Aj H (by kernel_rfl))
theorem aD (hT:AL AI (Ac [(53,Be),(110,Hx),(111,Gs),(112,Ms)]))(H:(fun(B0:List AV)=>(fun(C0:List Fm)=>(fun(A0:List AV)=>Ap (decide (j<z)) (AS (Dk j (length ea)&&true&&true) (∃(s1 s2:List UInt8) (z3:Int),CH ea j=[str s1,str s2,int i64 z3]/\Ap (!s1==[102,101,116,99,104,97,98,108,101]) (AS (AJ 2 ea&&true&&true&&(AJ 2 ea&&true&&true&&true)) (AF AI 79 (AB f79) (AK prog f79 v) C0 normal [(2,true,ptr 0 0),(5,true,int i64 f),(7,true,ptr 1 0),(8,true,int i64 n),(11,true,sl 3 [B0,A0] none),(12,true,int i64 2),(13,true,int i64 1),(18,true,sl 3 ea none),(19,true,int i64 z),(20,true,int i64 (wrap i64 (j+1)))] [mem 126 [sl 3 ea none],mem 159 A0])) (∃(l4:List (List UInt8)) (k5:List UInt8),length l4<=9223372036854775807/\[sl 1 [[str [121,101,115]],[str [110,111]]] none,str s2]=[sl 1 (encT l4) none,str k5]/\Ap (!List.any l4 fun(x:List UInt8)↦k5==x) (bool false=v) (∃(s6 x7:List UInt8),length s6<=100000/\[str s2,str [34]]=[str s6,str x7]/\Ap (An s6 x7) (∃(s8 x9:List UInt8),length s8<=100000/\[str s2,str [39]]=[str s8,str x9]/\Ap (An s8 x9) (bool false=v) (AS (AJ 2 ea&&true&&true&&(AJ 2 ea&&true&&true&&true)) (AF AI 79 (AB f79) (AK prog f79 v) C0 normal [(2,true,ptr 0 0),(5,true,int i64 f),(7,true,ptr 1 0),(8,true,int i64 (wrap i64 (n+1))),(11,true,sl 3 [B0,A0] none),(12,true,int i64 2),(13,true,int i64 1),(18,true,sl 3 ea none),(19,true,int i64 z),(20,true,int i64 (wrap i64 (j+1)))] [mem 126 [sl 3 ea none],mem 159 A0]))) (AS (AJ 2 ea&&true&&true&&(AJ 2 ea&&true&&true&&true)) (AF AI 79 (AB f79) (AK prog f79 v) C0 normal [(2,true,ptr 0 0),(5,true,int i64 f),(7,true,ptr 1 0),(8,true,int i64 (wrap i64 (n+1))),(11,true,sl 3 [B0,A0] none),(12,true,int i64 2),(13,true,int i64 1),(18,true,sl 3 ea none),(19,true,int i64 z),(20,true,int i64 (wrap i64 (j+1)))] [mem 126 [sl 3 ea none],mem 159 A0])))))) (Ap (decide (n>1)) (bool false=v) (Ap (n==0) (AS (AJ 1 ea&&true&&true&&true) (bool (wrap i64 (f+n)==(↑(length ea):Int))=v)) (AS (AJ 1 ea&&true&&true&&true) (bool (wrap i64 (f+n)==(↑(length ea):Int))=v))))) [str [102,101,116,99,104,97,98,108,101],bool false,AV.fn (Fn.func 111) [sl 1 [[str [121,101,115]],[str [110,111]]] none] []]) [code [0,1,0,1,1,0,0,1,1,0,0,1,0,1,1],block 2,code [1,1,1,0,0,1,1,0,0,1,0,1,1],block 1,code [1,1,1,0,0,1,0,1,1],loop [0,1,0,1,1] 1,block 0,code [1,1,1]]) [str [110,97,109,101],bool true,AV.fn (Fn.func 110) [] []]):AF AI 79 (AB f79) (AK prog f79 v) ([.code [0,1,0,1,1,0,0,1,1,0,0,1,0,1,1],.block 2,.code [1,1,1,0,0,1,1,0,0,1,0,1,1],.block 1,.code [1,1,1,0,0,1,0,1,1],.loop [0,1,0,1,1] 1,.block 0,.code [1,1,1]]) .normal ([(2,true,.ptr 0 0),(5,true,.int .i64 f),(7,true,.ptr 1 0),(8,true,.int .i64 n),(11,true,.sl 3 [[.str [110,97,109,101],.bool true,.fn (.func 110) [] []],[.str [102,101,116,99,104,97,98,108,101],.bool false,.fn (.func 111) [.sl 1 [[.str [121,101,115]],[.str [110,111]]] none] []]] none),(12,true,.int .i64 2),(13,true,.int .i64 1),(18,true,.sl 3 ea none),(19,true,.int .i64 z),(20,true,.int .i64 j)]) ([.mem 126 [.sl 3 ea none],.mem 159 [.str [102,101,116,99,104,97,98,108,101],.bool false,.fn (.func 111) [.sl 1 [[.str [121,101,115]],[.str [110,111]]] none] []]]):=
 Az (pl:=⟨[[0,1,0,1,1,0,0,1,1,0,0,1,0,1,1]],[([0,0,0,1,1,0,0,1,0,1,1,0,0,1,1,0,0,1,0,1,1],0,[.str,.str,.int .i64])]⟩) hT 100000 (by kernel_rfl) (Aj H (by kernel_rfl))
theorem qx (hT:AL AI (Ac [(53,Be),(110,Hx),(111,Gs),(112,Ms)]))(H:(fun(A0:List AV)=>AF AI 79 (AB f79) (AK prog f79 v) [code [0,1,0,1,1,0,0,1,1,0,0,1,0,1,1],block 2,code [1,1,1,0,0,1,1,0,0,1,0,1,1],block 1,code [1,1,1,0,0,1,0,1,1],loop [0,1,0,1,1] 1,block 0,code [1,1,1]] normal [(2,true,ptr 0 0),(5,true,int i64 0),(7,true,ptr 1 0),(8,true,int i64 0),(11,true,sl 3 [A0] none),(12,true,int i64 1),(13,true,int i64 0),(18,true,sl 3 ea none),(19,true,int i64 (↑(length ea):Int)),(20,true,int i64 0)] [mem 126 [sl 3 ea none],mem 159 A0]) [str [116,101,120,116],bool true,AV.fn (Fn.func 112) [] []]):AF AI 79 (AB f79) (AK prog f79 v) ([.code []]) .normal ([(0,true,.agg [.sl 3 ea none]),(1,true,.sl 3 [[.str [116,101,120,116],.bool true,.fn (.func 112) [] []]] none)]) ([]):=
 uo (pl:=⟨[[0,1,0,1,1,0,0,1,1,0,0,1,0,1,1]],[([0,0,0,1,1,0,0,1,0,1,1,0,0,1,1,0,0,1,0,1,1],0,[.str,.str,.int .i64])]⟩) hT H (by kernel_rfl)
theorem aC (hT:AL AI (Ac [(53,Be),(110,Hx),(111,Gs),(112,Ms)]))(H:(fun(A0:List AV)=>(fun(C0:Fr)=>(fun(B0:List Fm)=>Ap (decide (j<z)) (AS (Dk j (length ea)&&true&&true) (∃(s1 s2:List UInt8) (z3:Int),CH ea j=[str s1,str s2,int i64 z3]/\Ap (!s1==[116,101,120,116]) (AS (AJ 2 ea&&true&&true&&(AJ 2 ea&&true&&true&&true)) (AF AI 79 (AB f79) (AK prog f79 v) B0 normal [(2,true,ptr 0 0),(5,true,int i64 f),(7,true,ptr 1 0),(8,true,int i64 n),(11,true,sl 3 [A0] none),(12,true,int i64 1),(13,true,int i64 0),(18,true,sl 3 ea none),(19,true,int i64 z),(20,true,int i64 (wrap i64 (j+1)))] [mem 126 [sl 3 ea none],mem 159 A0])) (∃(s4:List UInt8),[str s2]=[str s4]/\∃(s5 x6:List UInt8),length s5<=100000/\[str s2,str [34]]=[str s5,str x6]/\Ap (An s5 x6) (∃(s7 x8:List UInt8),length s7<=100000/\[str s2,str [39]]=[str s7,str x8]/\Ap (An s7 x8) (bool false=v) (AS (AJ 2 ea&&true&&true&&(AJ 2 ea&&true&&true&&true)) (AF AI 79 (AB f79) (AK prog f79 v) B0 normal C0 [mem 126 [sl 3 ea none],mem 159 A0]))) (AS (AJ 2 ea&&true&&true&&(AJ 2 ea&&true&&true&&true)) (AF AI 79 (AB f79) (AK prog f79 v) B0 normal C0 [mem 126 [sl 3 ea none],mem 159 A0]))))) (Ap (decide (n>1)) (bool false=v) (Ap (n==0) (bool false=v) (AS (AJ 1 ea&&true&&true&&true) (bool (wrap i64 (f+n)==(↑(length ea):Int))=v))))) [code [0,1,0,1,1,0,0,1,1,0,0,1,0,1,1],block 2,code [1,1,1,0,0,1,1,0,0,1,0,1,1],block 1,code [1,1,1,0,0,1,0,1,1],loop [0,1,0,1,1] 1,block 0,code [1,1,1]]) [(2,true,ptr 0 0),(5,true,int i64 f),(7,true,ptr 1 0),(8,true,int i64 (wrap i64 (n+1))),(11,true,sl 3 [A0] none),(12,true,int i64 1),(13,true,int i64 0),(18,true,sl 3 ea none),(19,true,int i64 z),(20,true,int i64 (wrap i64 (j+1)))]) [str [116,101,120,116],bool true,AV.fn (Fn.func 112) [] []]):AF AI 79 (AB f79) (AK prog f79 v) ([.code [0,1,0,1,1,0,0,1,1,0,0,1,0,1,1],.block 2,.code [1,1,1,0,0,1,1,0,0,1,0,1,1],.block 1,.code [1,1,1,0,0,1,0,1,1],.loop [0,1,0,1,1] 1,.block 0,.code [1,1,1]]) .normal ([(2,true,.ptr 0 0),(5,true,.int .i64 f),(7,true,.ptr 1 0),(8,true,.int .i64 n),(11,true,.sl 3 [[.str [116,101,120,116],.bool true,.fn (.func 112) [] []]] none),(12,true,.int .i64 1),(13,true,.int .i64 0),(18,true,.sl 3 ea none),(19,true,.int .i64 z),(20,true,.int .i64 j)]) ([.mem 126 [.sl 3 ea none],.mem 159 [.str [116,101,120,116],.bool true,.fn (.func 112) [] []]]):=
 Az (pl:=⟨[[0,1,0,1,1,0,0,1,1,0,0,1,0,1,1]],[([0,0,0,1,1,0,0,1,0,1,1,0,0,1,1,0,0,1,0,1,1],0,[.str,.str,.int .i64])]⟩) hT 100000 (by kernel_rfl) (Aj H (by kernel_rfl))
theorem my (hT:AL AI (Ac [(53,Be),(110,Hx),(111,Gs),(112,Ms)]))(H:(fun(A0:List AV)=>AF AI 79 (AB f79) (AK prog f79 v) [code [0,1,0,1,1,0,0,1,1,0,0,1,0,1,1],block 2,code [1,1,1,0,0,1,1,0,0,1,0,1,1],block 1,code [1,1,1,0,0,1,0,1,1],loop [0,1,0,1,1] 1,block 0,code [1,1,1]] normal [(2,true,ptr 0 0),(5,true,int i64 0),(7,true,ptr 1 0),(8,true,int i64 0),(11,true,sl 3 [A0] none),(12,true,int i64 1),(13,true,int i64 0),(18,true,sl 3 ea none),(19,true,int i64 (↑(length ea):Int)),(20,true,int i64 0)] [mem 126 [sl 3 ea none],mem 159 A0]) [str [116,101,115,116],bool true,AV.fn (Fn.func 110) [] []]):AF AI 79 (AB f79) (AK prog f79 v) ([.code []]) .normal ([(0,true,.agg [.sl 3 ea none]),(1,true,.sl 3 [[.str [116,101,115,116],.bool true,.fn (.func 110) [] []]] none)]) ([]):=
 uo (pl:=⟨[[0,1,0,1,1,0,0,1,1,0,0,1,0,1,1]],[([0,0,0,1,1,0,0,1,0,1,1,0,0,1,1,0,0,1,0,1,1],0,[.str,.str,.int .i64])]⟩) hT H (by kernel_rfl)
theorem Vf (hT:AL AI (Ac [(53,Be),(110,Hx),(111,Gs),(112,Ms)]))(H:(fun(A0:List AV)=>(fun(C0:Fr)=>(fun(B0:List Fm)=>Ap (decide (j<z)) (AS (Dk j (length ea)&&true&&true) (∃(s1 s2:List UInt8) (z3:Int),CH ea j=[str s1,str s2,int i64 z3]/\Ap (!s1==[116,101,115,116]) (AS (AJ 2 ea&&true&&true&&(AJ 2 ea&&true&&true&&true)) (AF AI 79 (AB f79) (AK prog f79 v) B0 normal [(2,true,ptr 0 0),(5,true,int i64 f),(7,true,ptr 1 0),(8,true,int i64 n),(11,true,sl 3 [A0] none),(12,true,int i64 1),(13,true,int i64 0),(18,true,sl 3 ea none),(19,true,int i64 z),(20,true,int i64 (wrap i64 (j+1)))] [mem 126 [sl 3 ea none],mem 159 A0])) (∃(s4:List UInt8),[str s2]=[str s4]/\Ap (!!s4==[]) (bool false=v) (∃(s5 x6:List UInt8),length s5<=100000/\[str s2,str [34]]=[str s5,str x6]/\Ap (An s5 x6) (∃(s7 x8:List UInt8),length s7<=100000/\[str s2,str [39]]=[str s7,str x8]/\Ap (An s7 x8) (bool false=v) (AS (AJ 2 ea&&true&&true&&(AJ 2 ea&&true&&true&&true)) (AF AI 79 (AB f79) (AK prog f79 v) B0 normal C0 [mem 126 [sl 3 ea none],mem 159 A0]))) (AS (AJ 2 ea&&true&&true&&(AJ 2 ea&&true&&true&&true)) (AF AI 79 (AB f79) (AK prog f79 v) B0 normal C0 [mem 126 [sl 3 ea none],mem 159 A0])))))) (Ap (decide (n>1)) (bool false=v) (Ap (n==0) (bool false=v) (AS (AJ 1 ea&&true&&true&&true) (bool (wrap i64 (f+n)==(↑(length ea):Int))=v))))) [code [0,1,0,1,1,0,0,1,1,0,0,1,0,1,1],block 2,code [1,1,1,0,0,1,1,0,0,1,0,1,1],block 1,code [1,1,1,0,0,1,0,1,1],loop [0,1,0,1,1] 1,block 0,code [1,1,1]]) [(2,true,ptr 0 0),(5,true,int i64 f),(7,true,ptr 1 0),(8,true,int i64 (wrap i64 (n+1))),(11,true,sl 3 [A0] none),(12,true,int i64 1),(13,true,int i64 0),(18,true,sl 3 ea none),(19,true,int i64 z),(20,true,int i64 (wrap i64 (j+1)))]) [str [116,101,115,116],bool true,AV.fn (Fn.func 110) [] []]):AF AI 79 (AB f79) (AK prog f79 v) ([.code [0,1,0,1,1,0,0,1,1,0,0,1,0,1,1],.block 2,.code [1,1,1,0,0,1,1,0,0,1,0,1,1],.block 1,.code [1,1,1,0,0,1,0,1,1],.loop [0,1,0,1,1] 1,.block 0,.code [1,1,1]]) .normal ([(2,true,.ptr 0 0),(5,true,.int .i64 f),(7,true,.ptr 1 0),(8,true,.int .i64 n),(11,true,.sl 3 [[.str [116,101,115,116],.bool true,.fn (.func 110) [] []]] none),(12,true,.int .i64 1),(13,true,.int .i64 0),(18,true,.sl 3 ea none),(19,true,.int .i64 z),(20,true,.int .i64 j)]) ([.mem 126 [.sl 3 ea none],.mem 159 [.str [116,101,115,116],.bool true,.fn (.func 110) [] []]]):=
 Az (pl:=⟨[[0,1,0,1,1,0,0,1,1,0,0,1,0,1,1]],[([0,0,0,1,1,0,0,1,0,1,1,0,0,1,1,0,0,1,0,1,1],0,[.str,.str,.int .i64])]⟩) hT 100000 (by kernel_rfl) (Aj H (by kernel_rfl))
end Go.Proofs.YtopjpnhgnopbiaaGreatDoor.Tr
end
section
namespace Go.Proofs.YtopjpnhgnopbiaaGreatDoor.Tr
open Go.Ai Go
set_option maxRecDepth 100000
theorem vd :BL AI 79 Tryz.f79:=(by refine⟨?_,?_,?_,?_,?_,?_⟩<;>kernel_rfl)
theorem c32 :CR AI 80 HL:=by
 refine Ax vc fun vs h K ht=> ?_
 obtain⟨k,rfl,hk⟩:=ht;refine⟨_,hk,t32 (AY AM) ?_⟩;unfold BI
 refine AA (fun a=>by rw[a];rfl) fun a=> ?_
 rw[a]
 refine AA (fun b=>by rw[b];rfl) fun b=> ?_
 rw[b]
 refine AA (fun c=>by rw[c];rfl) fun c=> ?_
 rw[c]
 refine AA (fun d=>by rw[d];rfl) fun d=> ?_
 rw[d];rfl
theorem FT :AL AI (Ac [(53,Be),(110,Hx),(111,Gs),(112,Ms)]):=AY (AH uD (AH c52 (AH c53 (AH c54 AM))))
theorem QT {v:List UInt8}(a:An v [34]=true)(b:An v [39]=true):LN v=true:=by unfold LN;rw[a,b];rfl
theorem LM {v:List UInt8}(a:An v [34]=false):LN v=false:=by unfold LN;rw[a];rfl
theorem LL {v:List UInt8}(a:An v [39]=false):LN v=false:=by unfold LN;rw[a,Bool.and_false]
theorem Hc {r:K2}{x:Ak}{t:List Ak}{n:Int}(a:(x.name==r.name)=false):DP r (x::t) n=DP r t n:=by rw[DP,a];rfl
theorem EU {r:K2}{x:Ak}{t:List Ak}{n:Int}(a:(x.name==r.name)=true)(b:(r.may.ok x.value&& !LN x.value)=false):DP r (x::t) n=none:=by rw[DP,a,b];rfl
theorem Dy {r:K2}{x:Ak}{t:List Ak}{n:Int}(a:(x.name==r.name)=true)(b:(r.may.ok x.value&& !LN x.value)=true):DP r (x::t) n=DP r t (n+1):=by rw[DP,a,b];rfl
theorem Em (al:List Ak):(AJ 2 (al.map Ao)&&true&&true&&(AJ 2 (al.map Ao)&&true&&true&&true))=true:=by rw[FC];rfl
theorem IB (al:List Ak):(AJ 1 (al.map Ao)&&true&&true&&true)=true:=by rw[FC];rfl
theorem Qu (v:Bool)(f:Int)(eE:0<=f)(Jb:f<=200000):∀(r pre:List Ak) (n:Int),0<=n->n<=(pre.length:Nat)->(pre++r).length<=BH->(∀a∈pre++r,a.value.length<=BH)->v=D6 Bx.Ci [] (pre++r) f (DP Bx r n)->
  AF AI 79 (AB Tryz.f79) (AK Tryz.prog Tryz.f79 (.bool v)) [.code [0,1,0,1,1,0,0,1,1,0,0,1,0,1,1],.block 2,.code [1,1,1,0,0,1,1,0,0,1,0,1,1],.block 1,.code [1,1,1,0,0,1,0,1,1],.loop [0,1,0,1,1] 1,.block 0,.code [1,1,1]] .normal
   [(2,true,.ptr 0 0),(5,true,.int .i64 f),(7,true,.ptr 1 0),(8,true,.int .i64 n),(11,true,.sl 3 [[.str [115,114,99],.bool true,.fn (.func 110) [] []],[.str [97,108,116],.bool false,.fn (.func 110) [] []],[.str [111,110,101,114,114,111,114],.bool false,.fn (.func 111) [.sl 1 [[.str [99,111,110,116,105,110,117,101]]] none] []]] none),(12,true,.int .i64 3),(13,true,.int .i64 2),(18,true,.sl 3 ((pre++r).map Ao) none),(19,true,.int .i64 ((pre++r).length:Nat)),(20,true,.int .i64 (pre.length:Nat))] [.mem 126 [.sl 3 ((pre++r).map Ao) none],.mem 159 [.str [111,110,101,114,114,111,114],.bool false,.fn (.func 111) [.sl 1 [[.str [99,111,110,116,105,110,117,101]]] none] []]]:=by
 intro r
 induction r with
 |nil=>
  intro pre n h0 h1 hl hx hv
  refine aF FT (AA (fun hc=> ?_) fun _=>AA (fun hc=> ?_) fun hc=> ?_)
  ·simp at hc
  ·have hc:decide (1<n)=true:=hc;rw[hv];simp only[DP,D6,hc,cond_true]
  ·have hc:decide (1<n)=false:=hc;rw[DP] at hv
   have he:(n==0&&Bx.Ci)=false:=by simp[Bx]
   refine AA (fun _=> ?_) fun _=> ?_
   ·refine AD (IB _) ?_
    rw[BG (by unfold BH at hl;simp only[List.append_nil] at hl;omega) (by unfold BH at hl;simp only[List.append_nil] at hl;omega)]
    rw[hv];simp only[D6,hc,he,cond_false,Ca,List.append_nil,List.length_map];try rfl
   ·refine AD (IB _) ?_
    rw[BG (by unfold BH at hl;simp only[List.append_nil] at hl;omega) (by unfold BH at hl;simp only[List.append_nil] at hl;omega)]
    rw[hv];simp only[D6,hc,he,cond_false,Ca,List.append_nil,List.length_map];try rfl
 |cons x r ih=>
  intro pre n h0 h1 hl hx hv;have Ju:=hl;simp only[List.length_append,List.length_cons] at Ju;unfold BH at Ju
  have hlen:pre.length<FY:=by unfold FY;omega
  have JZ:IntKind.wrap .i64 (n+1)=n+1:=BG (by omega) (by omega)
  have Pg:x.value.length<=BH:=hx x (by simp)
  have Hv:Dk (pre.length:Int) ((pre++x::r).map Ao).length=true:=Dt (by omega) (by simp;omega)
  refine aF FT (AA (fun _=> ?_) fun hc=> ?_)
  ·refine AD (by rw[Hv];rfl) ⟨x.name,x.value,x.pl,Cp _ _ _ _,AA (fun a=> ?_) fun a=> ?_⟩
   ·have e:=Hc (r:=Bx) (x:=x) (t:=r) (n:=n) (by simpa[Bx] using a)
    refine AD (Em _) ?_;rw[BE hlen]
    have:=ih (pre++[x]) n h0 (by simp;omega) (by simpa using hl) (by simpa using hx) (by rw[hv,e];simp)
    simpa using this
   refine⟨[[99,111,110,116,105,110,117,101]],x.value,by decide,rfl,AA (fun b=> ?_) fun b=> ?_⟩
   ·have nb:Bx.may.ok x.value=false:=by simpa[Bx,Xs.ok] using b
    have e:=EU (r:=Bx) (x:=x) (t:=r) (n:=n) (by simpa[Bx] using a) (by rw[nb];rfl)
    rw[hv,e];rfl
   ·have gd:Bx.may.ok x.value=true:=by have b':=b;rw[Bool.not_eq_false'] at b';exact b'
    refine⟨_,_,Pg,rfl,AA (fun c=>⟨_,_,Pg,rfl,AA (fun d=> ?_) fun d=> ?_⟩) fun c=> ?_⟩
    ·have e:=EU (r:=Bx) (x:=x) (t:=r) (n:=n) (by simpa[Bx] using a) (by rw[gd,QT c d];rfl)
     rw[hv,e];rfl
    ·have e:=Dy (r:=Bx) (x:=x) (t:=r) (n:=n) (by simpa[Bx] using a) (by rw[gd,LL d];rfl)
     refine AD (Em _) ?_;rw[BE hlen,JZ]
     have:=ih (pre++[x]) (n+1) (by omega) (by simp;omega) (by simpa using hl) (by simpa using hx) (by rw[hv,e];simp)
     simpa using this
    ·have e:=Dy (r:=Bx) (x:=x) (t:=r) (n:=n) (by simpa[Bx] using a) (by rw[gd,LM c];rfl)
     refine AD (Em _) ?_;rw[BE hlen,JZ]
     have:=ih (pre++[x]) (n+1) (by omega) (by simp;omega) (by simpa using hl) (by simpa using hx) (by rw[hv,e];simp)
     simpa using this
  ·simp at hc;omega
theorem Yp (v:Bool)(f:Int)(eE:0<=f)(Jb:f<=100000):∀(r pre:List Ak) (n:Int),0<=n->n<=(pre.length:Nat)->(pre++r).length<=BH->(∀a∈pre++r,a.value.length<=BH)->v=D6 CV.Ci [Bx] (pre++r) f (DP CV r n)->
  AF AI 79 (AB Tryz.f79) (AK Tryz.prog Tryz.f79 (.bool v)) [.code [0,1,0,1,1,0,0,1,1,0,0,1,0,1,1],.block 2,.code [1,1,1,0,0,1,1,0,0,1,0,1,1],.block 1,.code [1,1,1,0,0,1,0,1,1],.loop [0,1,0,1,1] 1,.block 0,.code [1,1,1]] .normal
   [(2,true,.ptr 0 0),(5,true,.int .i64 f),(7,true,.ptr 1 0),(8,true,.int .i64 n),(11,true,.sl 3 [[.str [115,114,99],.bool true,.fn (.func 110) [] []],[.str [97,108,116],.bool false,.fn (.func 110) [] []],[.str [111,110,101,114,114,111,114],.bool false,.fn (.func 111) [.sl 1 [[.str [99,111,110,116,105,110,117,101]]] none] []]] none),(12,true,.int .i64 3),(13,true,.int .i64 1),(18,true,.sl 3 ((pre++r).map Ao) none),(19,true,.int .i64 ((pre++r).length:Nat)),(20,true,.int .i64 (pre.length:Nat))] [.mem 126 [.sl 3 ((pre++r).map Ao) none],.mem 159 [.str [97,108,116],.bool false,.fn (.func 110) [] []]]:=by
 intro r
 induction r with
 |nil=>
  intro pre n h0 h1 hl hx hv
  refine aG FT (AA (fun hc=> ?_) fun _=>AA (fun hc=> ?_) fun hc=> ?_)
  ·simp at hc
  ·have hc:decide (1<n)=true:=hc;rw[hv];simp only[DP,D6,hc,cond_true]
  ·have hc:decide (1<n)=false:=hc;rw[DP] at hv
   have he:(n==0&&CV.Ci)=false:=by simp[CV]
   refine AA (fun _=> ?_) fun _=> ?_
   ·refine AD (IB _) ?_
    rw[BG (by unfold BH at hl;simp only[List.append_nil] at hl;omega) (by unfold BH at hl;simp only[List.append_nil] at hl;omega)]
    have Up:v=D6 Bx.Ci [] (pre++[]) (f+n) (DP Bx (pre++[]) 0):=by
     rw[hv,<-Dg];simp only[D6,hc,he,cond_false]
    have:=Qu v (f+n) (by omega) (by simp only[List.append_nil] at hl;unfold BH at hl;omega) (pre++[]) [] 0 (by decide) (by simp) hl hx Up
    simpa using this
   ·refine AD (IB _) ?_
    rw[BG (by unfold BH at hl;simp only[List.append_nil] at hl;omega) (by unfold BH at hl;simp only[List.append_nil] at hl;omega)]
    have Up:v=D6 Bx.Ci [] (pre++[]) (f+n) (DP Bx (pre++[]) 0):=by
     rw[hv,<-Dg];simp only[D6,hc,he,cond_false]
    have:=Qu v (f+n) (by omega) (by simp only[List.append_nil] at hl;unfold BH at hl;omega) (pre++[]) [] 0 (by decide) (by simp) hl hx Up
    simpa using this
 |cons x r ih=>
  intro pre n h0 h1 hl hx hv;have Ju:=hl;simp only[List.length_append,List.length_cons] at Ju;unfold BH at Ju
  have hlen:pre.length<FY:=by unfold FY;omega
  have JZ:IntKind.wrap .i64 (n+1)=n+1:=BG (by omega) (by omega)
  have Pg:x.value.length<=BH:=hx x (by simp)
  have Hv:Dk (pre.length:Int) ((pre++x::r).map Ao).length=true:=Dt (by omega) (by simp;omega)
  refine aG FT (AA (fun _=> ?_) fun hc=> ?_)
  ·refine AD (by rw[Hv];rfl) ⟨x.name,x.value,x.pl,Cp _ _ _ _,AA (fun a=> ?_) fun a=> ?_⟩
   ·have e:=Hc (r:=CV) (x:=x) (t:=r) (n:=n) (by simpa[CV] using a)
    refine AD (Em _) ?_;rw[BE hlen]
    have:=ih (pre++[x]) n h0 (by simp;omega) (by simpa using hl) (by simpa using hx) (by rw[hv,e];simp)
    simpa using this
   refine⟨_,rfl,AA (fun b=> ?_) fun b=> ?_⟩
   ·have nb:CV.may.ok x.value=false:=by simpa[CV,Xs.ok] using b
    have e:=EU (r:=CV) (x:=x) (t:=r) (n:=n) (by simpa[CV] using a) (by rw[nb];rfl)
    rw[hv,e];rfl
   ·have gd:CV.may.ok x.value=true:=by have b':=b;rw[Bool.not_eq_false'] at b';exact b'
    refine⟨_,_,Pg,rfl,AA (fun c=>⟨_,_,Pg,rfl,AA (fun d=> ?_) fun d=> ?_⟩) fun c=> ?_⟩
    ·have e:=EU (r:=CV) (x:=x) (t:=r) (n:=n) (by simpa[CV] using a) (by rw[gd,QT c d];rfl)
     rw[hv,e];rfl
    ·have e:=Dy (r:=CV) (x:=x) (t:=r) (n:=n) (by simpa[CV] using a) (by rw[gd,LL d];rfl)
     refine AD (Em _) ?_;rw[BE hlen,JZ]
     have:=ih (pre++[x]) (n+1) (by omega) (by simp;omega) (by simpa using hl) (by simpa using hx) (by rw[hv,e];simp)
     simpa using this
    ·have e:=Dy (r:=CV) (x:=x) (t:=r) (n:=n) (by simpa[CV] using a) (by rw[gd,LM c];rfl)
     refine AD (Em _) ?_;rw[BE hlen,JZ]
     have:=ih (pre++[x]) (n+1) (by omega) (by simp;omega) (by simpa using hl) (by simpa using hx) (by rw[hv,e];simp)
     simpa using this
  ·simp at hc;omega
theorem Yq (v:Bool)(f:Int)(eE:0<=f)(Jb:f<=0):∀(r pre:List Ak) (n:Int),0<=n->n<=(pre.length:Nat)->(pre++r).length<=BH->(∀a∈pre++r,a.value.length<=BH)->v=D6 Cm.Ci [CV,Bx] (pre++r) f (DP Cm r n)->
  AF AI 79 (AB Tryz.f79) (AK Tryz.prog Tryz.f79 (.bool v)) [.code [0,1,0,1,1,0,0,1,1,0,0,1,0,1,1],.block 2,.code [1,1,1,0,0,1,1,0,0,1,0,1,1],.block 1,.code [1,1,1,0,0,1,0,1,1],.loop [0,1,0,1,1] 1,.block 0,.code [1,1,1]] .normal
   [(2,true,.ptr 0 0),(5,true,.int .i64 f),(7,true,.ptr 1 0),(8,true,.int .i64 n),(11,true,.sl 3 [[.str [115,114,99],.bool true,.fn (.func 110) [] []],[.str [97,108,116],.bool false,.fn (.func 110) [] []],[.str [111,110,101,114,114,111,114],.bool false,.fn (.func 111) [.sl 1 [[.str [99,111,110,116,105,110,117,101]]] none] []]] none),(12,true,.int .i64 3),(13,true,.int .i64 0),(18,true,.sl 3 ((pre++r).map Ao) none),(19,true,.int .i64 ((pre++r).length:Nat)),(20,true,.int .i64 (pre.length:Nat))] [.mem 126 [.sl 3 ((pre++r).map Ao) none],.mem 159 [.str [115,114,99],.bool true,.fn (.func 110) [] []]]:=by
 intro r
 induction r with
 |nil=>
  intro pre n h0 h1 hl hx hv
  refine aH FT (AA (fun hc=> ?_) fun _=>AA (fun hc=> ?_) fun hc=> ?_)
  ·simp at hc
  ·have hc:decide (1<n)=true:=hc;rw[hv];simp only[DP,D6,hc,cond_true]
  ·have hc:decide (1<n)=false:=hc;rw[DP] at hv
   refine AA (fun he=> ?_) fun he=> ?_
   ·rw[hv];simp only[D6,hc,cond_false,Cm,he,Bool.and_true,cond_true]
   ·have he:(n==0&&Cm.Ci)=false:=by rw[he];rfl
    refine AD (IB _) ?_
    rw[BG (by unfold BH at hl;simp only[List.append_nil] at hl;omega) (by unfold BH at hl;simp only[List.append_nil] at hl;omega)]
    have Up:v=D6 CV.Ci [Bx] (pre++[]) (f+n) (DP CV (pre++[]) 0):=by
     rw[hv,<-Dg];simp only[D6,hc,he,cond_false]
    have:=Yp v (f+n) (by omega) (by simp only[List.append_nil] at hl;unfold BH at hl;omega) (pre++[]) [] 0 (by decide) (by simp) hl hx Up
    simpa using this
 |cons x r ih=>
  intro pre n h0 h1 hl hx hv;have Ju:=hl;simp only[List.length_append,List.length_cons] at Ju;unfold BH at Ju
  have hlen:pre.length<FY:=by unfold FY;omega
  have JZ:IntKind.wrap .i64 (n+1)=n+1:=BG (by omega) (by omega)
  have Pg:x.value.length<=BH:=hx x (by simp)
  have Hv:Dk (pre.length:Int) ((pre++x::r).map Ao).length=true:=Dt (by omega) (by simp;omega)
  refine aH FT (AA (fun _=> ?_) fun hc=> ?_)
  ·refine AD (by rw[Hv];rfl) ⟨x.name,x.value,x.pl,Cp _ _ _ _,AA (fun a=> ?_) fun a=> ?_⟩
   ·have e:=Hc (r:=Cm) (x:=x) (t:=r) (n:=n) (by simpa[Cm] using a)
    refine AD (Em _) ?_;rw[BE hlen]
    have:=ih (pre++[x]) n h0 (by simp;omega) (by simpa using hl) (by simpa using hx) (by rw[hv,e];simp)
    simpa using this
   refine⟨_,rfl,AA (fun b=> ?_) fun b=> ?_⟩
   ·have nb:Cm.may.ok x.value=false:=by simpa[Cm,Xs.ok] using b
    have e:=EU (r:=Cm) (x:=x) (t:=r) (n:=n) (by simpa[Cm] using a) (by rw[nb];rfl)
    rw[hv,e];rfl
   ·have gd:Cm.may.ok x.value=true:=by have b':=b;rw[Bool.not_eq_false'] at b';exact b'
    refine⟨_,_,Pg,rfl,AA (fun c=>⟨_,_,Pg,rfl,AA (fun d=> ?_) fun d=> ?_⟩) fun c=> ?_⟩
    ·have e:=EU (r:=Cm) (x:=x) (t:=r) (n:=n) (by simpa[Cm] using a) (by rw[gd,QT c d];rfl)
     rw[hv,e];rfl
    ·have e:=Dy (r:=Cm) (x:=x) (t:=r) (n:=n) (by simpa[Cm] using a) (by rw[gd,LL d];rfl)
     refine AD (Em _) ?_;rw[BE hlen,JZ]
     have:=ih (pre++[x]) (n+1) (by omega) (by simp;omega) (by simpa using hl) (by simpa using hx) (by rw[hv,e];simp)
     simpa using this
    ·have e:=Dy (r:=Cm) (x:=x) (t:=r) (n:=n) (by simpa[Cm] using a) (by rw[gd,LM c];rfl)
     refine AD (Em _) ?_;rw[BE hlen,JZ]
     have:=ih (pre++[x]) (n+1) (by omega) (by simp;omega) (by simpa using hl) (by simpa using hx) (by rw[hv,e];simp)
     simpa using this
  ·simp at hc;omega
theorem Yn (v:Bool)(f:Int)(eE:0<=f)(Jb:f<=100000):∀(r pre:List Ak) (n:Int),0<=n->n<=(pre.length:Nat)->(pre++r).length<=BH->(∀a∈pre++r,a.value.length<=BH)->v=D6 CI.Ci [] (pre++r) f (DP CI r n)->
  AF AI 79 (AB Tryz.f79) (AK Tryz.prog Tryz.f79 (.bool v)) [.code [0,1,0,1,1,0,0,1,1,0,0,1,0,1,1],.block 2,.code [1,1,1,0,0,1,1,0,0,1,0,1,1],.block 1,.code [1,1,1,0,0,1,0,1,1],.loop [0,1,0,1,1] 1,.block 0,.code [1,1,1]] .normal
   [(2,true,.ptr 0 0),(5,true,.int .i64 f),(7,true,.ptr 1 0),(8,true,.int .i64 n),(11,true,.sl 3 [[.str [110,97,109,101],.bool true,.fn (.func 110) [] []],[.str [102,101,116,99,104,97,98,108,101],.bool false,.fn (.func 111) [.sl 1 [[.str [121,101,115]],[.str [110,111]]] none] []]] none),(12,true,.int .i64 2),(13,true,.int .i64 1),(18,true,.sl 3 ((pre++r).map Ao) none),(19,true,.int .i64 ((pre++r).length:Nat)),(20,true,.int .i64 (pre.length:Nat))] [.mem 126 [.sl 3 ((pre++r).map Ao) none],.mem 159 [.str [102,101,116,99,104,97,98,108,101],.bool false,.fn (.func 111) [.sl 1 [[.str [121,101,115]],[.str [110,111]]] none] []]]:=by
 intro r
 induction r with
 |nil=>
  intro pre n h0 h1 hl hx hv
  refine aD FT (AA (fun hc=> ?_) fun _=>AA (fun hc=> ?_) fun hc=> ?_)
  ·simp at hc
  ·have hc:decide (1<n)=true:=hc;rw[hv];simp only[DP,D6,hc,cond_true]
  ·have hc:decide (1<n)=false:=hc;rw[DP] at hv
   have he:(n==0&&CI.Ci)=false:=by simp[CI]
   refine AA (fun _=> ?_) fun _=> ?_
   ·refine AD (IB _) ?_
    rw[BG (by unfold BH at hl;simp only[List.append_nil] at hl;omega) (by unfold BH at hl;simp only[List.append_nil] at hl;omega)]
    rw[hv];simp only[D6,hc,he,cond_false,Ca,List.append_nil,List.length_map];try rfl
   ·refine AD (IB _) ?_
    rw[BG (by unfold BH at hl;simp only[List.append_nil] at hl;omega) (by unfold BH at hl;simp only[List.append_nil] at hl;omega)]
    rw[hv];simp only[D6,hc,he,cond_false,Ca,List.append_nil,List.length_map];try rfl
 |cons x r ih=>
  intro pre n h0 h1 hl hx hv;have Ju:=hl;simp only[List.length_append,List.length_cons] at Ju;unfold BH at Ju
  have hlen:pre.length<FY:=by unfold FY;omega
  have JZ:IntKind.wrap .i64 (n+1)=n+1:=BG (by omega) (by omega)
  have Pg:x.value.length<=BH:=hx x (by simp)
  have Hv:Dk (pre.length:Int) ((pre++x::r).map Ao).length=true:=Dt (by omega) (by simp;omega)
  refine aD FT (AA (fun _=> ?_) fun hc=> ?_)
  ·refine AD (by rw[Hv];rfl) ⟨x.name,x.value,x.pl,Cp _ _ _ _,AA (fun a=> ?_) fun a=> ?_⟩
   ·have e:=Hc (r:=CI) (x:=x) (t:=r) (n:=n) (by simpa[CI] using a)
    refine AD (Em _) ?_;rw[BE hlen]
    have:=ih (pre++[x]) n h0 (by simp;omega) (by simpa using hl) (by simpa using hx) (by rw[hv,e];simp)
    simpa using this
   refine⟨[[121,101,115],[110,111]],x.value,by decide,rfl,AA (fun b=> ?_) fun b=> ?_⟩
   ·have nb:CI.may.ok x.value=false:=by simpa[CI,Xs.ok] using b
    have e:=EU (r:=CI) (x:=x) (t:=r) (n:=n) (by simpa[CI] using a) (by rw[nb];rfl)
    rw[hv,e];rfl
   ·have gd:CI.may.ok x.value=true:=by have b':=b;rw[Bool.not_eq_false'] at b';exact b'
    refine⟨_,_,Pg,rfl,AA (fun c=>⟨_,_,Pg,rfl,AA (fun d=> ?_) fun d=> ?_⟩) fun c=> ?_⟩
    ·have e:=EU (r:=CI) (x:=x) (t:=r) (n:=n) (by simpa[CI] using a) (by rw[gd,QT c d];rfl)
     rw[hv,e];rfl
    ·have e:=Dy (r:=CI) (x:=x) (t:=r) (n:=n) (by simpa[CI] using a) (by rw[gd,LL d];rfl)
     refine AD (Em _) ?_;rw[BE hlen,JZ]
     have:=ih (pre++[x]) (n+1) (by omega) (by simp;omega) (by simpa using hl) (by simpa using hx) (by rw[hv,e];simp)
     simpa using this
    ·have e:=Dy (r:=CI) (x:=x) (t:=r) (n:=n) (by simpa[CI] using a) (by rw[gd,LM c];rfl)
     refine AD (Em _) ?_;rw[BE hlen,JZ]
     have:=ih (pre++[x]) (n+1) (by omega) (by simp;omega) (by simpa using hl) (by simpa using hx) (by rw[hv,e];simp)
     simpa using this
  ·simp at hc;omega
theorem Yo (v:Bool)(f:Int)(eE:0<=f)(Jb:f<=0):∀(r pre:List Ak) (n:Int),0<=n->n<=(pre.length:Nat)->(pre++r).length<=BH->(∀a∈pre++r,a.value.length<=BH)->v=D6 Cl.Ci [CI] (pre++r) f (DP Cl r n)->
  AF AI 79 (AB Tryz.f79) (AK Tryz.prog Tryz.f79 (.bool v)) [.code [0,1,0,1,1,0,0,1,1,0,0,1,0,1,1],.block 2,.code [1,1,1,0,0,1,1,0,0,1,0,1,1],.block 1,.code [1,1,1,0,0,1,0,1,1],.loop [0,1,0,1,1] 1,.block 0,.code [1,1,1]] .normal
   [(2,true,.ptr 0 0),(5,true,.int .i64 f),(7,true,.ptr 1 0),(8,true,.int .i64 n),(11,true,.sl 3 [[.str [110,97,109,101],.bool true,.fn (.func 110) [] []],[.str [102,101,116,99,104,97,98,108,101],.bool false,.fn (.func 111) [.sl 1 [[.str [121,101,115]],[.str [110,111]]] none] []]] none),(12,true,.int .i64 2),(13,true,.int .i64 0),(18,true,.sl 3 ((pre++r).map Ao) none),(19,true,.int .i64 ((pre++r).length:Nat)),(20,true,.int .i64 (pre.length:Nat))] [.mem 126 [.sl 3 ((pre++r).map Ao) none],.mem 159 [.str [110,97,109,101],.bool true,.fn (.func 110) [] []]]:=by
 intro r
 induction r with
 |nil=>
  intro pre n h0 h1 hl hx hv
  refine aE FT (AA (fun hc=> ?_) fun _=>AA (fun hc=> ?_) fun hc=> ?_)
  ·simp at hc
  ·have hc:decide (1<n)=true:=hc;rw[hv];simp only[DP,D6,hc,cond_true]
  ·have hc:decide (1<n)=false:=hc;rw[DP] at hv
   refine AA (fun he=> ?_) fun he=> ?_
   ·rw[hv];simp only[D6,hc,cond_false,Cl,he,Bool.and_true,cond_true]
   ·have he:(n==0&&Cl.Ci)=false:=by rw[he];rfl
    refine AD (IB _) ?_
    rw[BG (by unfold BH at hl;simp only[List.append_nil] at hl;omega) (by unfold BH at hl;simp only[List.append_nil] at hl;omega)]
    have Up:v=D6 CI.Ci [] (pre++[]) (f+n) (DP CI (pre++[]) 0):=by
     rw[hv,<-Dg];simp only[D6,hc,he,cond_false]
    have:=Yn v (f+n) (by omega) (by simp only[List.append_nil] at hl;unfold BH at hl;omega) (pre++[]) [] 0 (by decide) (by simp) hl hx Up
    simpa using this
 |cons x r ih=>
  intro pre n h0 h1 hl hx hv;have Ju:=hl;simp only[List.length_append,List.length_cons] at Ju;unfold BH at Ju
  have hlen:pre.length<FY:=by unfold FY;omega
  have JZ:IntKind.wrap .i64 (n+1)=n+1:=BG (by omega) (by omega)
  have Pg:x.value.length<=BH:=hx x (by simp)
  have Hv:Dk (pre.length:Int) ((pre++x::r).map Ao).length=true:=Dt (by omega) (by simp;omega)
  refine aE FT (AA (fun _=> ?_) fun hc=> ?_)
  ·refine AD (by rw[Hv];rfl) ⟨x.name,x.value,x.pl,Cp _ _ _ _,AA (fun a=> ?_) fun a=> ?_⟩
   ·have e:=Hc (r:=Cl) (x:=x) (t:=r) (n:=n) (by simpa[Cl] using a)
    refine AD (Em _) ?_;rw[BE hlen]
    have:=ih (pre++[x]) n h0 (by simp;omega) (by simpa using hl) (by simpa using hx) (by rw[hv,e];simp)
    simpa using this
   refine⟨_,rfl,AA (fun b=> ?_) fun b=> ?_⟩
   ·have nb:Cl.may.ok x.value=false:=by simpa[Cl,Xs.ok] using b
    have e:=EU (r:=Cl) (x:=x) (t:=r) (n:=n) (by simpa[Cl] using a) (by rw[nb];rfl)
    rw[hv,e];rfl
   ·have gd:Cl.may.ok x.value=true:=by have b':=b;rw[Bool.not_eq_false'] at b';exact b'
    refine⟨_,_,Pg,rfl,AA (fun c=>⟨_,_,Pg,rfl,AA (fun d=> ?_) fun d=> ?_⟩) fun c=> ?_⟩
    ·have e:=EU (r:=Cl) (x:=x) (t:=r) (n:=n) (by simpa[Cl] using a) (by rw[gd,QT c d];rfl)
     rw[hv,e];rfl
    ·have e:=Dy (r:=Cl) (x:=x) (t:=r) (n:=n) (by simpa[Cl] using a) (by rw[gd,LL d];rfl)
     refine AD (Em _) ?_;rw[BE hlen,JZ]
     have:=ih (pre++[x]) (n+1) (by omega) (by simp;omega) (by simpa using hl) (by simpa using hx) (by rw[hv,e];simp)
     simpa using this
    ·have e:=Dy (r:=Cl) (x:=x) (t:=r) (n:=n) (by simpa[Cl] using a) (by rw[gd,LM c];rfl)
     refine AD (Em _) ?_;rw[BE hlen,JZ]
     have:=ih (pre++[x]) (n+1) (by omega) (by simp;omega) (by simpa using hl) (by simpa using hx) (by rw[hv,e];simp)
     simpa using this
  ·simp at hc;omega
theorem Ym (v:Bool)(f:Int)(eE:0<=f)(Jb:f<=0):∀(r pre:List Ak) (n:Int),0<=n->n<=(pre.length:Nat)->(pre++r).length<=BH->(∀a∈pre++r,a.value.length<=BH)->v=D6 Dd.Ci [] (pre++r) f (DP Dd r n)->
  AF AI 79 (AB Tryz.f79) (AK Tryz.prog Tryz.f79 (.bool v)) [.code [0,1,0,1,1,0,0,1,1,0,0,1,0,1,1],.block 2,.code [1,1,1,0,0,1,1,0,0,1,0,1,1],.block 1,.code [1,1,1,0,0,1,0,1,1],.loop [0,1,0,1,1] 1,.block 0,.code [1,1,1]] .normal
   [(2,true,.ptr 0 0),(5,true,.int .i64 f),(7,true,.ptr 1 0),(8,true,.int .i64 n),(11,true,.sl 3 [[.str [116,101,120,116],.bool true,.fn (.func 112) [] []]] none),(12,true,.int .i64 1),(13,true,.int .i64 0),(18,true,.sl 3 ((pre++r).map Ao) none),(19,true,.int .i64 ((pre++r).length:Nat)),(20,true,.int .i64 (pre.length:Nat))] [.mem 126 [.sl 3 ((pre++r).map Ao) none],.mem 159 [.str [116,101,120,116],.bool true,.fn (.func 112) [] []]]:=by
 intro r
 induction r with
 |nil=>
  intro pre n h0 h1 hl hx hv
  refine aC FT (AA (fun hc=> ?_) fun _=>AA (fun hc=> ?_) fun hc=> ?_)
  ·simp at hc
  ·have hc:decide (1<n)=true:=hc;rw[hv];simp only[DP,D6,hc,cond_true]
  ·have hc:decide (1<n)=false:=hc;rw[DP] at hv
   refine AA (fun he=> ?_) fun he=> ?_
   ·rw[hv];simp only[D6,hc,cond_false,Dd,he,Bool.and_true,cond_true]
   ·have he:(n==0&&Dd.Ci)=false:=by rw[he];rfl
    refine AD (IB _) ?_
    rw[BG (by unfold BH at hl;simp only[List.append_nil] at hl;omega) (by unfold BH at hl;simp only[List.append_nil] at hl;omega)]
    rw[hv];simp only[D6,hc,he,cond_false,Ca,List.append_nil,List.length_map];try rfl
 |cons x r ih=>
  intro pre n h0 h1 hl hx hv;have Ju:=hl;simp only[List.length_append,List.length_cons] at Ju;unfold BH at Ju
  have hlen:pre.length<FY:=by unfold FY;omega
  have JZ:IntKind.wrap .i64 (n+1)=n+1:=BG (by omega) (by omega)
  have Pg:x.value.length<=BH:=hx x (by simp)
  have Hv:Dk (pre.length:Int) ((pre++x::r).map Ao).length=true:=Dt (by omega) (by simp;omega)
  refine aC FT (AA (fun _=> ?_) fun hc=> ?_)
  ·refine AD (by rw[Hv];rfl) ⟨x.name,x.value,x.pl,Cp _ _ _ _,AA (fun a=> ?_) fun a=> ?_⟩
   ·have e:=Hc (r:=Dd) (x:=x) (t:=r) (n:=n) (by simpa[Dd] using a)
    refine AD (Em _) ?_;rw[BE hlen]
    have:=ih (pre++[x]) n h0 (by simp;omega) (by simpa using hl) (by simpa using hx) (by rw[hv,e];simp)
    simpa using this
   refine⟨_,rfl,?_⟩;have gd:Dd.may.ok x.value=true:=rfl
   refine⟨_,_,Pg,rfl,AA (fun c=>⟨_,_,Pg,rfl,AA (fun d=> ?_) fun d=> ?_⟩) fun c=> ?_⟩
   ·have e:=EU (r:=Dd) (x:=x) (t:=r) (n:=n) (by simpa[Dd] using a) (by rw[gd,QT c d];rfl)
    rw[hv,e];rfl
   ·have e:=Dy (r:=Dd) (x:=x) (t:=r) (n:=n) (by simpa[Dd] using a) (by rw[gd,LL d];rfl)
    refine AD (Em _) ?_;rw[BE hlen,JZ]
    have:=ih (pre++[x]) (n+1) (by omega) (by simp;omega) (by simpa using hl) (by simpa using hx) (by rw[hv,e];simp)
    simpa using this
   ·have e:=Dy (r:=Dd) (x:=x) (t:=r) (n:=n) (by simpa[Dd] using a) (by rw[gd,LM c];rfl)
    refine AD (Em _) ?_;rw[BE hlen,JZ]
    have:=ih (pre++[x]) (n+1) (by omega) (by simp;omega) (by simpa using hl) (by simpa using hx) (by rw[hv,e];simp)
    simpa using this
  ·simp at hc;omega
theorem Wg (v:Bool)(f:Int)(eE:0<=f)(Jb:f<=0):∀(r pre:List Ak) (n:Int),0<=n->n<=(pre.length:Nat)->(pre++r).length<=BH->(∀a∈pre++r,a.value.length<=BH)->v=D6 CA.Ci [] (pre++r) f (DP CA r n)->
  AF AI 79 (AB Tryz.f79) (AK Tryz.prog Tryz.f79 (.bool v)) [.code [0,1,0,1,1,0,0,1,1,0,0,1,0,1,1],.block 2,.code [1,1,1,0,0,1,1,0,0,1,0,1,1],.block 1,.code [1,1,1,0,0,1,0,1,1],.loop [0,1,0,1,1] 1,.block 0,.code [1,1,1]] .normal
   [(2,true,.ptr 0 0),(5,true,.int .i64 f),(7,true,.ptr 1 0),(8,true,.int .i64 n),(11,true,.sl 3 [[.str [116,101,115,116],.bool true,.fn (.func 110) [] []]] none),(12,true,.int .i64 1),(13,true,.int .i64 0),(18,true,.sl 3 ((pre++r).map Ao) none),(19,true,.int .i64 ((pre++r).length:Nat)),(20,true,.int .i64 (pre.length:Nat))] [.mem 126 [.sl 3 ((pre++r).map Ao) none],.mem 159 [.str [116,101,115,116],.bool true,.fn (.func 110) [] []]]:=by
 intro r
 induction r with
 |nil=>
  intro pre n h0 h1 hl hx hv
  refine Vf FT (AA (fun hc=> ?_) fun _=>AA (fun hc=> ?_) fun hc=> ?_)
  ·simp at hc
  ·have hc:decide (1<n)=true:=hc;rw[hv];simp only[DP,D6,hc,cond_true]
  ·have hc:decide (1<n)=false:=hc;rw[DP] at hv
   refine AA (fun he=> ?_) fun he=> ?_
   ·rw[hv];simp only[D6,hc,cond_false,CA,he,Bool.and_true,cond_true]
   ·have he:(n==0&&CA.Ci)=false:=by rw[he];rfl
    refine AD (IB _) ?_
    rw[BG (by unfold BH at hl;simp only[List.append_nil] at hl;omega) (by unfold BH at hl;simp only[List.append_nil] at hl;omega)]
    rw[hv];simp only[D6,hc,he,cond_false,Ca,List.append_nil,List.length_map];try rfl
 |cons x r ih=>
  intro pre n h0 h1 hl hx hv;have Ju:=hl;simp only[List.length_append,List.length_cons] at Ju;unfold BH at Ju
  have hlen:pre.length<FY:=by unfold FY;omega
  have JZ:IntKind.wrap .i64 (n+1)=n+1:=BG (by omega) (by omega)
  have Pg:x.value.length<=BH:=hx x (by simp)
  have Hv:Dk (pre.length:Int) ((pre++x::r).map Ao).length=true:=Dt (by omega) (by simp;omega)
  refine Vf FT (AA (fun _=> ?_) fun hc=> ?_)
  ·refine AD (by rw[Hv];rfl) ⟨x.name,x.value,x.pl,Cp _ _ _ _,AA (fun a=> ?_) fun a=> ?_⟩
   ·have e:=Hc (r:=CA) (x:=x) (t:=r) (n:=n) (by simpa[CA] using a)
    refine AD (Em _) ?_;rw[BE hlen]
    have:=ih (pre++[x]) n h0 (by simp;omega) (by simpa using hl) (by simpa using hx) (by rw[hv,e];simp)
    simpa using this
   refine⟨_,rfl,AA (fun b=> ?_) fun b=> ?_⟩
   ·have nb:CA.may.ok x.value=false:=by simpa[CA,Xs.ok] using b
    have e:=EU (r:=CA) (x:=x) (t:=r) (n:=n) (by simpa[CA] using a) (by rw[nb];rfl)
    rw[hv,e];rfl
   ·have gd:CA.may.ok x.value=true:=by have b':=b;rw[Bool.not_eq_false'] at b';exact b'
    refine⟨_,_,Pg,rfl,AA (fun c=>⟨_,_,Pg,rfl,AA (fun d=> ?_) fun d=> ?_⟩) fun c=> ?_⟩
    ·have e:=EU (r:=CA) (x:=x) (t:=r) (n:=n) (by simpa[CA] using a) (by rw[gd,QT c d];rfl)
     rw[hv,e];rfl
    ·have e:=Dy (r:=CA) (x:=x) (t:=r) (n:=n) (by simpa[CA] using a) (by rw[gd,LL d];rfl)
     refine AD (Em _) ?_;rw[BE hlen,JZ]
     have:=ih (pre++[x]) (n+1) (by omega) (by simp;omega) (by simpa using hl) (by simpa using hx) (by rw[hv,e];simp)
     simpa using this
    ·have e:=Dy (r:=CA) (x:=x) (t:=r) (n:=n) (by simpa[CA] using a) (by rw[gd,LM c];rfl)
     refine AD (Em _) ?_;rw[BE hlen,JZ]
     have:=ih (pre++[x]) (n+1) (by omega) (by simp;omega) (by simpa using hl) (by simpa using hx) (by rw[hv,e];simp)
     simpa using this
  ·simp at hc;omega
theorem Wm (al:List Ak):(al.map Ao).length=al.length:=List.length_map _
theorem c31 :CR AI 79 Jr:=by
 refine Ax vd fun vs h K ht=> ?_
 obtain⟨k,al,hl,hx,rfl,hk⟩:=ht;refine⟨_,hk,?_⟩;unfold BI
 cases e3:k==3 with
 |true=>
  simp only[cond_true,cond_false];refine qz FT ?_;rw[Wm]
  have:=Yq (Ca [Cm,CV,Bx] al 0) 0 (by decide) (by decide) al [] 0 (by decide) (by decide) (by simpa using hl) (by simpa using hx) (Dg _ _ _ _)
  simpa using this
 |false=>
 simp only[cond_false]
 cases e4:k==4 with
 |true=>
  simp only[cond_true,cond_false];refine qy FT ?_;rw[Wm]
  have:=Yo (Ca [Cl,CI] al 0) 0 (by decide) (by decide) al [] 0 (by decide) (by decide) (by simpa using hl) (by simpa using hx) (Dg _ _ _ _)
  simpa using this
 |false=>
 simp only[cond_false]
 cases e6:k==6 with
 |true=>
  simp only[cond_true,cond_false];refine qx FT ?_;rw[Wm]
  have:=Ym (Ca [Dd] al 0) 0 (by decide) (by decide) al [] 0 (by decide) (by decide) (by simpa using hl) (by simpa using hx) (Dg _ _ _ _)
  simpa using this
 |false=>
 simp only[cond_false]
 cases e11:k==11 with
 |true=>
  simp only[cond_true,cond_false];refine my FT ?_;rw[Wm]
  have:=Wg (Ca [CA] al 0) 0 (by decide) (by decide) al [] 0 (by decide) (by decide) (by simpa using hl) (by simpa using hx) (Dg _ _ _ _)
  simpa using this
 |false=>
 simp only[cond_false];refine ug FT ?_;rw[Wm];rfl
end Go.Proofs.YtopjpnhgnopbiaaGreatDoor.Tr
end
section
namespace Go.Proofs.YtopjpnhgnopbiaaGreatDoor.Tr
open Go.Ai Go
set_option maxRecDepth 100000
open Go.IntKind (wrap i64 u8)
open Go.Ai.AV (int str sl tup bool agg ptr)
open Go.Ai.Blk (mem grow)
open Go.Ai.Fm (code block loop)
open Go.Ai.XT (normal)
open List (length)
open Prod (fst snd)
open UInt8 (toNat)
open Tryz (prog f26 f52)
variable {N:Nat}{v:AV}{xk xp:Int}{xt:List UInt8}{xa xs:List (List AV)}{d b:Int}{hid:Bool}
theorem u7 (hT:AL AI (Ac [(52,Gm N),(79,Jr),(80,HL),(81,Hm),(82,Ks),(83,SN)]))(H:(fun(A0:List Fm)=>(fun(B0:Fr)=>(fun(C0:Hp)=>Ap (xk==14) (Ap hid (int i64 13=v) (AF AI 52 (AB f52) (AK prog f52 v) A0 normal B0 C0)) (AF AI 52 (AB f52) (AK prog f52 v) A0 normal B0 C0)) [mem 26 [int i64 xk,int i64 xp,str xt,sl 3 xa none,sl 5 xs none],mem 105 [int i64 d,bool hid]]) [(2,true,int i64 b),(3,true,ptr 0 0),(4,true,ptr 1 0)]) [code [1,1,0,0,1],block 0,code [1,1]]):AF AI 52 (AB f52) (AK prog f52 v) ([.code []]) .normal ([(0,true,.agg [.int .i64 xk,.int .i64 xp,.str xt,.sl 3 xa none,.sl 5 xs none]),(1,true,.agg [.int .i64 d,.bool hid]),(2,true,.int .i64 b)]) ([]):=
 uo (pl:=⟨[[1,1,0,0,1],[1,1,1,1,0,0,1],[1,1,1,1,1,1,0,0,1],[1,1,1,1,1,1,1,1,0,0,1],[1,1],[0,1,0,1,1,1,1]],[([0,0,0,1,1,0,0,1,0,1,1,1,1],1,[.int .i64,.int .i64,.str,.sl 3,.sl 5])]⟩) hT H (by kernel_rfl)
theorem u0 (hT:AL AI (Ac [(52,Gm N),(79,Jr),(80,HL),(81,Hm),(82,Ks),(83,SN)]))(H:(fun(A0:List Fm)=>(fun(B0:Fr)=>(fun(C0:Hp)=>Ap (xk !=2) (Ap (decide (d>16)) (int i64 3=v) (AF AI 52 (AB f52) (AK prog f52 v) A0 normal B0 C0)) (AF AI 52 (AB f52) (AK prog f52 v) A0 normal B0 C0)) [mem 26 [int i64 xk,int i64 xp,str xt,sl 3 xa none,sl 5 xs none],mem 105 [int i64 d,bool hid]]) [(2,true,int i64 b),(3,true,ptr 0 0),(4,true,ptr 1 0)]) [code [1,1,1,1,0,0,1],block 0,code [1,1]]):AF AI 52 (AB f52) (AK prog f52 v) ([.code [1,1,0,0,1],.block 0,.code [1,1]]) .normal ([(2,true,.int .i64 b),(3,true,.ptr 0 0),(4,true,.ptr 1 0)]) ([.mem 26 [.int .i64 xk,.int .i64 xp,.str xt,.sl 3 xa none,.sl 5 xs none],.mem 105 [.int .i64 d,.bool hid]]):=
 uo (pl:=⟨[[1,1,1,1,0,0,1],[1,1,1,1,1,1,0,0,1],[1,1,1,1,1,1,1,1,0,0,1],[1,1],[0,1,0,1,1,1,1]],[([0,0,0,1,1,0,0,1,0,1,1,1,1],1,[.int .i64,.int .i64,.str,.sl 3,.sl 5])]⟩) hT H (by kernel_rfl)
theorem uz (hT:AL AI (Ac [(52,Gm N),(79,Jr),(80,HL),(81,Hm),(82,Ks),(83,SN)]))(H:∃(k1:Int),[int i64 xk]=[int i64 k1]/\∃(k2:Int) (A0:List Ak),length A0<=100000/\(∀(a4:Ak),a4∈A0->length (Ak.value a4)<=100000)/\[agg [sl 3 (AE 0 [] xa) none],sl 3 (AE 0 [] (List.map VD (BI k1))) none]=[agg [sl 3 (List.map Ao A0) none],sl 3 (List.map VD (BI k2)) none]/\Ap (!Ca (BI k2) A0 0) (int i64 12=v) (AF AI 52 (AB f52) (AK prog f52 v) [code [1,1,1,1,1,1,0,0,1],block 0,code [1,1]] normal [(2,true,int i64 b),(3,true,ptr 0 0),(4,true,ptr 1 0)] [mem 26 [int i64 xk,int i64 xp,str xt,sl 3 xa none,sl 5 xs none],mem 105 [int i64 d,bool hid]])):AF AI 52 (AB f52) (AK prog f52 v) ([.code [1,1,1,1,0,0,1],.block 0,.code [1,1]]) .normal ([(2,true,.int .i64 b),(3,true,.ptr 0 0),(4,true,.ptr 1 0)]) ([.mem 26 [.int .i64 xk,.int .i64 xp,.str xt,.sl 3 xa none,.sl 5 xs none],.mem 105 [.int .i64 d,.bool hid]]):=
 uo (pl:=⟨[[1,1,0,0,1],[1,1,1,1,1,1,0,0,1],[1,1,1,1,1,1,1,1,0,0,1],[1,1],[0,1,0,1,1,1,1]],[([0,0,0,1,1,0,0,1,0,1,1,1,1],1,[.int .i64,.int .i64,.str,.sl 3,.sl 5])]⟩) hT H (by kernel_rfl)
theorem uy (hT:AL AI (Ac [(52,Gm N),(79,Jr),(80,HL),(81,Hm),(82,Ks),(83,SN)]))(H:(fun(B0:Fr)=>(fun(C0:List Fm)=>(fun(D0:Hp)=>∃(n1:Nd) (A0:Bool),length (Nd.text n1)<=100000/\[agg [int i64 xk,int i64 xp,str xt,sl 3 (AE 0 [] xa) none,sl 5 (AE 0 [] xs) none],bool hid]=[agg (ES n1),bool A0]/\Ap (!Dx (Nd.kind n1) (Nd.text n1) A0) (int i64 4=v) (Ap (xk==2) (Ap (b==2) (int i64 4=v) (AF AI 52 (AB f52) (AK prog f52 v) C0 normal B0 D0)) (AF AI 52 (AB f52) (AK prog f52 v) C0 normal B0 D0))) [mem 26 [int i64 xk,int i64 xp,str xt,sl 3 xa none,sl 5 xs none],mem 105 [int i64 d,bool hid]]) [code [1,1,1,1,1,1,1,1,0,0,1],block 0,code [1,1]]) [(3,true,ptr 0 0),(4,true,ptr 1 0)]):AF AI 52 (AB f52) (AK prog f52 v) ([.code [1,1,1,1,1,1,0,0,1],.block 0,.code [1,1]]) .normal ([(2,true,.int .i64 b),(3,true,.ptr 0 0),(4,true,.ptr 1 0)]) ([.mem 26 [.int .i64 xk,.int .i64 xp,.str xt,.sl 3 xa none,.sl 5 xs none],.mem 105 [.int .i64 d,.bool hid]]):=
 uo (pl:=⟨[[1,1,0,0,1],[1,1,1,1,0,0,1],[1,1,1,1,1,1,1,1,0,0,1],[1,1],[0,1,0,1,1,1,1]],[([0,0,0,1,1,0,0,1,0,1,1,1,1],1,[.int .i64,.int .i64,.str,.sl 3,.sl 5])]⟩) hT H (by kernel_rfl)
theorem ux (hT:AL AI (Ac [(52,Gm N),(79,Jr),(80,HL),(81,Hm),(82,Ks),(83,SN)]))(H:(fun(A0:Fr)=>(fun(B0:Hp)=>∃(k1:Int),[int i64 xk]=[int i64 k1]/\Ap (Fx k1) (Ap (decide ((↑(length xs):Int)>0)) (int i64 13=v) (Ap (xk==7) (Ap ((↑(length xs):Int) !=2) (int i64 13=v) (Ap (xk==10) (Ap ((↑(length xs):Int)==0) (int i64 13=v) (AF AI 52 (AB f52) (AK prog f52 v) [code [1,1]] normal A0 B0)) (AF AI 52 (AB f52) (AK prog f52 v) [code [1,1]] normal A0 B0))) (Ap (xk==10) (Ap ((↑(length xs):Int)==0) (int i64 13=v) (AF AI 52 (AB f52) (AK prog f52 v) [code [1,1]] normal A0 B0)) (AF AI 52 (AB f52) (AK prog f52 v) [code [1,1]] normal A0 B0)))) (Ap (xk==7) (Ap ((↑(length xs):Int) !=2) (int i64 13=v) (Ap (xk==10) (Ap ((↑(length xs):Int)==0) (int i64 13=v) (AF AI 52 (AB f52) (AK prog f52 v) [code [1,1]] normal A0 B0)) (AF AI 52 (AB f52) (AK prog f52 v) [code [1,1]] normal A0 B0))) (Ap (xk==10) (Ap ((↑(length xs):Int)==0) (int i64 13=v) (AF AI 52 (AB f52) (AK prog f52 v) [code [1,1]] normal A0 B0)) (AF AI 52 (AB f52) (AK prog f52 v) [code [1,1]] normal A0 B0)))) [mem 26 [int i64 xk,int i64 xp,str xt,sl 3 xa none,sl 5 xs none],mem 105 [int i64 d,bool hid]]) [(3,true,ptr 0 0),(4,true,ptr 1 0)]):AF AI 52 (AB f52) (AK prog f52 v) ([.code [1,1,1,1,1,1,1,1,0,0,1],.block 0,.code [1,1]]) .normal ([(3,true,.ptr 0 0),(4,true,.ptr 1 0)]) ([.mem 26 [.int .i64 xk,.int .i64 xp,.str xt,.sl 3 xa none,.sl 5 xs none],.mem 105 [.int .i64 d,.bool hid]]):=
 uo (pl:=⟨[[1,1,0,0,1],[1,1,1,1,0,0,1],[1,1,1,1,1,1,0,0,1],[1,1],[0,1,0,1,1,1,1]],[([0,0,0,1,1,0,0,1,0,1,1,1,1],1,[.int .i64,.int .i64,.str,.sl 3,.sl 5])]⟩) hT H (by kernel_rfl)
theorem uw (hT:AL AI (Ac [(52,Gm N),(79,Jr),(80,HL),(81,Hm),(82,Ks),(83,SN)]))(H:(fun(A0:List Fm)=>(fun(B0:List AV)=>(fun(C0:Fr)=>Ap hid (AF AI 52 (AB f52) (AK prog f52 v) A0 normal C0 [mem 26 B0,mem 105 [int i64 d,bool hid],mem 105 [int i64 (wrap i64 (d+1)),bool true]]) (AF AI 52 (AB f52) (AK prog f52 v) A0 normal C0 [mem 26 B0,mem 105 [int i64 d,bool hid],mem 105 [int i64 (wrap i64 (d+1)),bool (xk==14)]])) [(3,true,ptr 0 0),(7,true,ptr 2 0),(8,true,int i64 0),(97,true,sl 5 xs none),(98,true,int i64 (↑(length xs):Int)),(99,true,int i64 0)]) [int i64 xk,int i64 xp,str xt,sl 3 xa none,sl 5 xs none]) [code [0,1,0,1,1,1,1],block 1,code [1,1,1,1,1]]):AF AI 52 (AB f52) (AK prog f52 v) ([.code [1,1]]) .normal ([(3,true,.ptr 0 0),(4,true,.ptr 1 0)]) ([.mem 26 [.int .i64 xk,.int .i64 xp,.str xt,.sl 3 xa none,.sl 5 xs none],.mem 105 [.int .i64 d,.bool hid]]):=
 uo (pl:=⟨[[0,1,0,1,1,1,1]],[([0,0,0,1,1,0,0,1,0,1,1,1,1],1,[.int .i64,.int .i64,.str,.sl 3,.sl 5])]⟩) hT H (by kernel_rfl)
theorem t13 (hT:AL AI (Ac [(52,Gm N)]))(H:Ap (xk !=1) (int i64 13=v) (∃(n1:Nd) (d2:Int) (b3:Int) (sc:Bool),Nd.size n1<N/\Nd.Km n1/\0<=d2/\d2+(↑N:Int)<=1000000/\[agg [int i64 xk,int i64 xp,str xt,sl 3 (AE 0 [] xa) none,sl 5 (AE 0 [] xs) none],agg [int i64 0,bool false],int i64 0]=[agg (ES n1),agg [int i64 d2,bool sc],int i64 b3]/\int i64 (Nd.Mj n1 d2 sc b3)=v)):AF AI 26 (AB f26) (AK prog f26 v) ([.code []]) .normal ([(0,true,.agg [.int .i64 xk,.int .i64 xp,.str xt,.sl 3 xa none,.sl 5 xs none])]) ([]):=
 uo (pl:=⟨[],[]⟩) hT H (by kernel_rfl)
theorem rK {d2 c i z:Int}{hid2:Bool}(hT:AL AI (Ac [(52,Gm N),(79,Jr),(80,HL),(81,Hm),(82,Ks),(83,SN)]))(H:Ap (decide (i<z)) (AS (Dk i (length xs)&&true&&true) (∃(z1 z2:Int) (s3:List UInt8) (E0 F0:List (List AV)),CH xs i=[int i64 z1,int i64 z2,str s3,sl 3 E0 none,sl 5 F0 none]/\∃(p6 k7 i8 n9:Int),0<=i8/\i8<n9/\n9<=9223372036854775807/\[int i64 xk,int i64 z1,int i64 i,int i64 (↑(length xs):Int)]=[int i64 p6,int i64 k7,int i64 i8,int i64 n9]/\Ap (!J7 p6 k7 i8 n9) (int i64 13=v) (∃(B0:Nd) (C0 D0:Int) (A0:Bool),Nd.size B0<N/\Nd.Km B0/\0<=C0/\C0+(↑N:Int)<=1000000/\[agg [int i64 z1,int i64 z2,str s3,sl 3 (AE 0 [] E0) none,sl 5 (AE 0 [] F0) none],agg [int i64 d2,bool hid2],int i64 c]=[agg (ES B0),agg [int i64 C0,bool A0],int i64 D0]/\Ap (Nd.Mj B0 C0 A0 D0 !=0) (int i64 (Nd.Mj B0 C0 A0 D0)=v) (AS (AJ 3 xs&&true&&true&&(AJ 3 xa&&true&&(AJ 3 xs&&true&&true)&&true)) (AF AI 52 (AB f52) (AK prog f52 v) [code [0,1,0,1,1,1,1],block 1,code [1,1,1,1,1]] normal [(3,true,ptr 0 0),(7,true,ptr 2 0),(8,true,int i64 z1),(97,true,sl 5 xs none),(98,true,int i64 z),(99,true,int i64 (wrap i64 (i+1)))] [mem 26 [int i64 xk,int i64 xp,str xt,sl 3 xa none,sl 5 xs none],mem 105 [int i64 d,bool hid],mem 105 [int i64 d2,bool hid2]]))))) (int i64 0=v)):AF AI 52 (AB f52) (AK prog f52 v) ([.code [0,1,0,1,1,1,1],.block 1,.code [1,1,1,1,1]]) .normal ([(3,true,.ptr 0 0),(7,true,.ptr 2 0),(8,true,.int .i64 c),(97,true,.sl 5 xs none),(98,true,.int .i64 z),(99,true,.int .i64 i)]) ([.mem 26 [.int .i64 xk,.int .i64 xp,.str xt,.sl 3 xa none,.sl 5 xs none],.mem 105 [.int .i64 d,.bool hid],.mem 105 [.int .i64 d2,.bool hid2]]):=
 Az (pl:=⟨[[0,1,0,1,1,1,1]],[([0,0,0,1,1,0,0,1,0,1,1,1,1],1,[.int .i64,.int .i64,.str,.sl 3,.sl 5])]⟩) hT 100000 (by kernel_rfl) (Aj H (by kernel_rfl))
end Go.Proofs.YtopjpnhgnopbiaaGreatDoor.Tr
end
section
namespace Go.Proofs.YtopjpnhgnopbiaaGreatDoor.Tr
open Go.Ai Go
set_option maxRecDepth 100000
theorem rX :BL AI 52 Tryz.f52:=(by refine⟨?_,?_,?_,?_,?_,?_⟩<;>kernel_rfl)
theorem nY :BL AI 26 Tryz.f26:=(by refine⟨?_,?_,?_,?_,?_,?_⟩<;>kernel_rfl)
theorem MJ (l:List Nd):(Ag l).length=l.length:=by rw[FG];exact List.length_map _
theorem pP (n:Nd)(d:Int)(hid:Bool)(b:Int):n.Mj d hid b=bif Gt n.kind n.text n.attrs n.kids.length d hid b==0 then Il n.kind (n.kids.length:Nat) n.kids 0 (d+1) (hid||n.kind==14) 0 else Gt n.kind n.text n.attrs n.kids.length d hid b:=by
 obtain⟨k,p,t,al,ks⟩:=n;rw[Nd.Mj];rfl
theorem jy (n:Nd):n.Km=(n.text.length<=BH/\n.attrs.length<=BH/\(∀a∈n.attrs,a.value.length<=BH)/\n.kids.length<=BH/\OG n.kids):=by
 obtain⟨k,p,t,al,ks⟩:=n;rw[Nd.Km];rfl
theorem j4 (n:Nat)(h:Hp)(k:Int):AE n h ((BI k).map VD)=(BI k).map VD:=by
 refine As _ _ _ ?_;unfold BI
 cases k==3<;>cases k==4<;>cases k==6<;>cases k==11<;>rfl
theorem qi {N:Nat}(h:CR AI 52 (Gm N)):AL AI (Ac [(52,Gm N),(79,Jr),(80,HL),(81,Hm),(82,Ks),(83,SN)]):=
 AY (AH h (AH c31 (AH c32 (AH c33 (AH c34 (AH c35 AM))))))
theorem gT {N:Nat}(hT:AL AI (Ac [(52,Gm N),(79,Jr),(80,HL),(81,Hm),(82,Ks),(83,SN)]))(xk xp d d2 v:Int)(xt:List UInt8)(al:List Ak)(hid hid2:Bool)(ZI:0<=d2)(OZ:d2+N<=1000000):∀(r pre:List Nd) (c:Int),(pre++r).length<=BH->OG r->CC r<N->v=Il xk ((pre++r).length:Nat) r (pre.length:Nat) d2 hid2 c->
  AF AI 52 (AB Tryz.f52) (AK Tryz.prog Tryz.f52 (.int .i64 v)) [.code [0,1,0,1,1,1,1],.block 1,.code [1,1,1,1,1]] .normal
   [(3,true,.ptr 0 0),(7,true,.ptr 2 0),(8,true,.int .i64 c),(97,true,.sl 5 (Ag (pre++r)) none),(98,true,.int .i64 ((pre++r).length:Nat)),(99,true,.int .i64 (pre.length:Nat))]
   [.mem 26 [.int .i64 xk,.int .i64 xp,.str xt,.sl 3 (al.map Ao) none,.sl 5 (Ag (pre++r)) none],.mem 105 [.int .i64 d,.bool hid],.mem 105 [.int .i64 d2,.bool hid2]]:=by
 intro r
 induction r with
 |nil=>
  intro pre c hl hf hs hv
  refine rK hT (AA (fun hc=> ?_) fun _=> ?_)
  ·simp at hc
  ·rw[hv];rfl
 |cons x r ih=>
  intro pre c hl hf hs hv;obtain⟨Jb,Uu⟩:=hf;have Ju:=hl;simp only[List.length_append,List.length_cons] at Ju;unfold BH at Ju
  have hlen:pre.length<FY:=by unfold FY;omega
  have hz:CC (x::r)=x.size+CC r:=rfl
  have Hv:Dk (pre.length:Int) (Ag (pre++x::r)).length=true:=Dt (by omega) (by rw[MJ];simp;omega)
  have SG:(AJ 3 (Ag (pre++x::r))&&true&&true&&(AJ 3 (al.map Ao)&&true&&(AJ 3 (Ag (pre++x::r))&&true&&true)&&true))=true:=by rw[HB,FC];rfl
  rw[Il] at hv
  refine rK hT (AA (fun _=> ?_) fun hc=> ?_)
  ·refine AD (by rw[Hv];rfl) ⟨x.kind,x.pl,x.text,x.attrs.map Ao,Ag x.kids,(HW _ _ _).trans (BW x),xk,x.kind,(pre.length:Nat),((Ag (pre++x::r)).length:Nat),by omega,?_,?_,rfl,?_⟩
   ·rw[MJ];simp;omega
   ·rw[MJ];simp;omega
   rw[MJ]
   refine AA (fun a=> ?_) fun a=> ?_
   ·rw[hv,a];rfl
   ·rw[a,cond_false] at hv
    refine⟨x,d2,c,hid2,by omega,Jb,ZI,OZ,?_,AA (fun b=> ?_) fun b=> ?_⟩
    ·rw[B7,Hq,<-BW]
    ·have e:(x.Mj d2 hid2 c==0)=false:=by simpa using b
     rw[hv,e];rfl
    ·have e:(x.Mj d2 hid2 c==0)=true:=by simpa using b
     rw[e,cond_true] at hv;refine AD SG ?_;rw[BE hlen]
     have:=ih (pre++[x]) x.kind (by simpa using hl) Uu (by omega) (by rw[hv];simp)
     simpa using this
  ·simp at hc;omega
theorem zf :∀N,CR AI 52 (Gm N)
 |0=>by
  refine Ax rX fun vs h K ht=> ?_
  obtain⟨n,d,b,hid,hs,_⟩:=ht;omega
 |N+1=>by
  have hT:=qi (zf N)
  refine Ax rX fun vs h K ht=> ?_
  obtain⟨n,d,b,hid,hs,hf,ZI,OZ,rfl,hk⟩:=ht;refine⟨_,hk,?_⟩;have CD:=n.size_eq;rw[jy] at hf;obtain⟨f1,f2,f3,f4,f5⟩:=hf;have ftx:n.text.length<=BH:=f1;rw[pP,BW];have heq:Gt n.kind n.text n.attrs n.kids.length d hid b=Gt n.kind n.text n.attrs n.kids.length d hid b:=rfl
  conv at heq=>rhs;unfold Gt
  generalize Gt n.kind n.text n.attrs n.kids.length d hid b=e at heq⊢;generalize hX:Il n.kind (n.kids.length:Nat) n.kids 0 (d+1) (hid||n.kind==14) 0=X
  have bad:∀z:Int,e=z->(z==0)=false->AV.int .i64 z=AV.int .i64 (bif e==0 then X else e):=by
   intro z h h0;subst h;rw[h0];rfl
  have s5:e=0->AF AI 52 (AB Tryz.f52) (AK Tryz.prog Tryz.f52 (.int .i64 (bif e==0 then X else e))) [.code [1,1]] .normal [(3,true,.ptr 0 0),(4,true,.ptr 1 0)] [.mem 26 [.int .i64 n.kind,.int .i64 n.pl,.str n.text,.sl 3 (n.attrs.map Ao) none,.sl 5 (Ag n.kids) none],.mem 105 [.int .i64 d,.bool hid]]:=by
   intro h0;rw[h0]
   have hw:IntKind.wrap .i64 (d+1)=d+1:=BG (by omega) (by omega)
   refine uw hT (AA (fun g=> ?_) fun g=> ?_)
   ·rw[hw,MJ];rw[g,Bool.true_or] at hX
    exact gT hT n.kind n.pl d (d+1) _ n.text n.attrs hid true (by omega) (by omega) n.kids [] 0 (by simpa using f4) f5 (by omega) (by simpa using hX.symm)
   ·rw[hw,MJ];rw[g,Bool.false_or] at hX
    exact gT hT n.kind n.pl d (d+1) _ n.text n.attrs hid (n.kind==14) (by omega) (by omega) n.kids [] 0 (by simpa using f4) f5 (by omega) (by simpa using hX.symm)
  have s4:(e=bif (Fx n.kind&&decide (0<n.kids.length))||(n.kind==7&& !(n.kids.length==2))||(n.kind==10&&n.kids.length==0) then 13 else 0)->AF AI 52 (AB Tryz.f52) (AK Tryz.prog Tryz.f52 (.int .i64 (bif e==0 then X else e))) [.code [1,1,1,1,1,1,1,1,0,0,1],.block 0,.code [1,1]] .normal [(3,true,.ptr 0 0),(4,true,.ptr 1 0)] [.mem 26 [.int .i64 n.kind,.int .i64 n.pl,.str n.text,.sl 3 (n.attrs.map Ao) none,.sl 5 (Ag n.kids) none],.mem 105 [.int .i64 d,.bool hid]]:=by
   intro h0
   have i1:decide ((((Ag n.kids).length:Nat):Int)>0)=decide (0<n.kids.length):=by rw[MJ];exact decide_eq_decide.2 (by omega)
   have i2:((((Ag n.kids).length:Nat):Int) !=2)=!(n.kids.length==2):=by rw[MJ,Bool.eq_iff_iff];simp;omega
   have i3:((((Ag n.kids).length:Nat):Int)==0)=(n.kids.length==0):=by rw[MJ,Bool.eq_iff_iff];simp
   refine ux hT ?_;refine⟨n.kind,rfl,?_⟩;rw[i1,i2,i3];generalize Fx n.kind=p1 at *;generalize decide (0<n.kids.length)=p2 at *;generalize (n.kind==7)=p3 at *;generalize (!(n.kids.length==2))=p4 at *;generalize (n.kind==10)=p5 at *;generalize (n.kids.length==0)=p6 at *
   cases p1<;>cases p2<;>cases p3<;>cases p4<;>cases p5<;>cases p6<;>first|exact bad 13 h0 rfl|exact s5 h0
  have s3:(e=bif !Dx n.kind n.text hid||(n.kind==2&&b==2) then 4 else bif (Fx n.kind&&decide (0<n.kids.length))||(n.kind==7&& !(n.kids.length==2))||(n.kind==10&&n.kids.length==0) then 13 else 0)->AF AI 52 (AB Tryz.f52) (AK Tryz.prog Tryz.f52 (.int .i64 (bif e==0 then X else e))) [.code [1,1,1,1,1,1,0,0,1],.block 0,.code [1,1]] .normal [(2,true,.int .i64 b),(3,true,.ptr 0 0),(4,true,.ptr 1 0)] [.mem 26 [.int .i64 n.kind,.int .i64 n.pl,.str n.text,.sl 3 (n.attrs.map Ao) none,.sl 5 (Ag n.kids) none],.mem 105 [.int .i64 d,.bool hid]]:=by
   intro h0
   refine uy hT ⟨n,hid,ftx,by rw[B7,Hq,<-BW],?_⟩
   generalize (!Dx n.kind n.text hid)=p1 at *;generalize (n.kind==2)=p2 at *;generalize (b==2)=p3 at *
   cases p1<;>cases p2<;>cases p3<;>first|exact bad 4 h0 rfl|exact s4 h0
  have s2:(e=bif !Ca (BI n.kind) n.attrs 0 then 12 else bif !Dx n.kind n.text hid||(n.kind==2&&b==2) then 4 else bif (Fx n.kind&&decide (0<n.kids.length))||(n.kind==7&& !(n.kids.length==2))||(n.kind==10&&n.kids.length==0) then 13 else 0)->AF AI 52 (AB Tryz.f52) (AK Tryz.prog Tryz.f52 (.int .i64 (bif e==0 then X else e))) [.code [1,1,1,1,0,0,1],.block 0,.code [1,1]] .normal [(2,true,.int .i64 b),(3,true,.ptr 0 0),(4,true,.ptr 1 0)] [.mem 26 [.int .i64 n.kind,.int .i64 n.pl,.str n.text,.sl 3 (n.attrs.map Ao) none,.sl 5 (Ag n.kids) none],.mem 105 [.int .i64 d,.bool hid]]:=by
   intro h0;refine uz hT ⟨n.kind,rfl,n.kind,n.attrs,f2,f3,?_,?_⟩
   ·rw[B7,j4]
   generalize (!Ca (BI n.kind) n.attrs 0)=p1 at *
   cases p1<;>first|exact bad 12 h0 rfl|exact s3 h0
  have s1:(e=bif !(n.kind==2)&&decide (16<d) then 3 else bif !Ca (BI n.kind) n.attrs 0 then 12 else bif !Dx n.kind n.text hid||(n.kind==2&&b==2) then 4 else bif (Fx n.kind&&decide (0<n.kids.length))||(n.kind==7&& !(n.kids.length==2))||(n.kind==10&&n.kids.length==0) then 13 else 0)->AF AI 52 (AB Tryz.f52) (AK Tryz.prog Tryz.f52 (.int .i64 (bif e==0 then X else e))) [.code [1,1,0,0,1],.block 0,.code [1,1]] .normal [(2,true,.int .i64 b),(3,true,.ptr 0 0),(4,true,.ptr 1 0)] [.mem 26 [.int .i64 n.kind,.int .i64 n.pl,.str n.text,.sl 3 (n.attrs.map Ao) none,.sl 5 (Ag n.kids) none],.mem 105 [.int .i64 d,.bool hid]]:=by
   intro h0
   refine u0 hT (AA (fun g=>AA (fun g'=> ?_) fun g'=> ?_) fun g=> ?_)
   ·refine bad 3 ?_ rfl;have e1:(!(n.kind==2))=true:=g;have e2:decide (16<d)=true:=g';rw[h0,e1,e2];rfl
   ·refine s2 ?_;have e2:decide (16<d)=false:=g';rw[h0,e2,Bool.and_false];rfl
   ·refine s2 ?_;have e1:(!(n.kind==2))=false:=g;rw[h0,e1,Bool.false_and];rfl
  refine u7 hT (AA (fun g=>AA (fun g'=> ?_) fun g'=> ?_) fun g=> ?_)
  ·refine bad 13 ?_ rfl;rw[heq,g,g'];rfl
  ·refine s1 ?_;rw[heq,g',Bool.and_false];rfl
  ·refine s1 ?_;rw[heq,g,Bool.false_and];rfl
theorem c13 (N:Nat):CR AI 26 (lr N):=by
 refine Ax nY fun vs h K ht=> ?_
 obtain⟨n,hs,hf,hN,rfl,hk⟩:=ht;refine⟨_,hk,?_⟩;rw[BW];unfold Nd.Hi
 refine t13 (AY (AH (zf N) AM)) (AA (fun a=> ?_) fun a=>⟨n,0,0,false,hs,hf,by decide,by omega,by rw[B7,Hq,<-BW],?_⟩)
 ·have e:(n.kind==1)=false:=by simpa using a
  rw[e];rfl
 ·have e:(n.kind==1)=true:=by simpa using a
  rw[e];rfl
end Go.Proofs.YtopjpnhgnopbiaaGreatDoor.Tr
end
