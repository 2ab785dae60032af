/-
  Runs of the functions of the parser, printed by a home tool; each is the kernel's word.
  Runs of the functions of trees, printed by a home tool; each is the kernel's word.
  What the statements on the parser look at: contracts.
  The statement on the chapter's examples: the function keeps to its contract.
-/
import Derived.Test.YtopjpnhgnopbiaaDoorJG
import Derived.Test.YtopjpnhgnopbiaaDoorJT
import Derived.Test.YtopjpnhgnopbiaaDoorAiMono
set_option linter.unusedVariables false
set_option linter.unusedSimpArgs false
set_option linter.unnecessarySimpa false
section
namespace Go.Proofs.YtopjpnhgnopbiaaDoor
open Go.Ai Go Go.Ai.Sp
set_option maxRecDepth 100000
open Go.IntKind (wrap i64 u8)
open Go.Ai.AV (int str sl tup bool agg ptr)
open Go.Ai.Blk (mem grow)
open Go.Ai.Fm (code block loop)
open Go.Ai.XT (normal)
open List (length)
open Prod (fst snd)
open UInt8 (toNat)
open Tryd (prog f6 f7 f14)
variable {N:Nat}{v:AV}{xk xp:Int}{xt:List UInt8}{xa xs:List (List AV)}{s:List UInt8}
theorem t14 (hT:TabOk cfg3 (ctab [(14,kindsC N)]))(H:(fun(A0:List AV)=>gAnd (rowsB [A0]) (ifP ((↑(length xs):Int)==0) (str [rowV A0]=v) (ToEnd cfg3 14 (bodyOf f14) (RetIs prog f14 v) [code [0,1,0,1,1,1,1],block 0,code [1,1,1,1,1]] normal [(1,true,ptr 0 0),(3,true,str [rowV A0,40]),(4,true,int i64 0)] [mem 28 [int i64 xk,int i64 xp,str xt,sl 3 xa none,sl 5 xs none],grow 1 1 5]))) [int u8 (wrap u8 (wrap i64 (97+Int.tmod xk 26)))]):ToEnd cfg3 14 (bodyOf f14) (RetIs prog f14 v) ([.code []]) .normal ([(0,true,.agg [.int .i64 xk,.int .i64 xp,.str xt,.sl 3 xa none,.sl 5 xs none])]) ([]):=
 uo (pl:=⟨[[0,1,0,1,1,1,1]],[([0,0,1,0,0,1,0,1,1,1,1],4,[.int .i64,.int .i64,.str,.sl 3,.sl 5])]⟩) hT H (by kernel_rfl)
theorem t14a {s3:List UInt8}{i4:Int}{g1:Nat}(hT:TabOk cfg3 (ctab [(14,kindsC N)]))(H:ifP (decide (i4<(↑(length xs):Int))) (gAnd (inR i4 (length xs)&&true&&true) (∃(z1 z2:Int) (B0:List UInt8) (C0 D0:List (List AV)),getE xs i4=[int i64 z1,int i64 z2,str B0,sl 3 C0 none,sl 5 D0 none]∧∃(A0:Nd),Nd.size A0<N∧[agg [int i64 z1,int i64 z2,str B0,sl 3 (stripss 0 [] C0) none,sl 5 (stripss 0 [] D0) none]]=[agg (encN A0)]∧gAnd (decide (length s3+length (kindsN A0)≤9223372036854775807)) (ToEnd cfg3 14 (bodyOf f14) (RetIs prog f14 v) [code [0,1,0,1,1,1,1],block 0,code [1,1,1,1,1]] normal [(1,true,ptr 0 0),(3,true,str (s3++kindsN A0)),(4,true,int i64 (wrap i64 (i4+1)))] [mem 28 [int i64 xk,int i64 xp,str xt,sl 3 xa none,sl 5 xs none],grow g1 1 5]))) (gAnd (decide (length s3+1≤9223372036854775807)) (str (s3++[41])=v))):ToEnd cfg3 14 (bodyOf f14) (RetIs prog f14 v) ([.code [0,1,0,1,1,1,1],block 0,code [1,1,1,1,1]]) .normal ([(1,true,ptr 0 0),(3,true,str s3),(4,true,int i64 i4)]) ([mem 28 [int i64 xk,int i64 xp,str xt,sl 3 xa none,sl 5 xs none],grow g1 1 5]):=
 ends_round (pl:=⟨[[0,1,0,1,1,1,1]],[([0,0,1,0,0,1,0,1,1,1,1],4,[.int .i64,.int .i64,.str,.sl 3,.sl 5])]⟩) hT 100000 (by kernel_rfl) (unr_use H (by kernel_rfl))
theorem t6 (hT:TabOk cfg3 (ctab [(8,parse3C),(14,kindsC 300000)]))(H:∃(s1:List UInt8),[str s]=[str s1]∧ifP (parseA s1 !=0) (str [119,114,111,110,103]=v) (ifP (parseE s1 !=0) (str [119,114,111,110,103]=v) (∃(A0:Nd),Nd.size A0<300000∧[agg [int i64 (Nd.kind (parseN s1)),int i64 (Nd.pl (parseN s1)),str (Nd.text (parseN s1)),sl 3 (stripss 0 [] (List.map encA (Nd.attrs (parseN s1)))) none,sl 5 (stripss 0 [] (encNs (Nd.kids (parseN s1)))) none]]=[agg (encN A0)]∧str (kindsN A0)=v))):ToEnd cfg3 6 (bodyOf f6) (RetIs prog f6 v) ([.code []]) .normal ([(0,true,.str s)]) ([]):=
 uo (pl:=⟨[],[]⟩) hT H (by kernel_rfl)
theorem t7 {i1 i2:Int}(hT:TabOk cfg3 (ctab [(8,parse3C),(10,sameC 1000)]))(H:∃(s1:List UInt8),[str s]=[str s1]∧∃(a2 b3:Nd),Nd.size a2<1000∧Nd.fit a2∧Nd.fit b3∧[agg [int i64 (Nd.kind (parseN s1)),int i64 (Nd.pl (parseN s1)),str (Nd.text (parseN s1)),sl 3 (stripss 0 [] (List.map encA (Nd.attrs (parseN s1)))) none,sl 5 (stripss 0 [] (encNs (Nd.kids (parseN s1)))) none],agg [int i64 0,int i64 0,str [],sl 3 [] none,sl 5 [] none]]=[agg (encN a2),agg (encN b3)]∧ifP (Nd.same a2 b3) (ifP (parseA s1==i1) (bool (parseE s1==i2)=v) (bool false=v)) (bool false=v)):ToEnd cfg3 7 (bodyOf f7) (RetIs prog f7 v) ([.code []]) .normal ([(0,true,.str s),(1,true,.int .i64 i1),(2,true,.int .i64 i2)]) ([]):=
 uo (pl:=⟨[],[]⟩) hT H (by kernel_rfl)
end Go.Proofs.YtopjpnhgnopbiaaDoor
end
section
namespace Go.Proofs.YtopjpnhgnopbiaaDoor.Tr
open Go.Ai Go
set_option maxRecDepth 100000
open Go.IntKind (wrap i64 u8)
open Go.Ai.AV (int str sl tup bool agg ptr)
open Go.Ai.Blk (mem grow)
open Go.Ai.Fm (code block loop)
open Go.Ai.XT (normal)
open List (length)
open Prod (fst snd)
open UInt8 (toNat)
open Tryd (prog f10 f17 f18 f19)
variable {v:AV}{ea eb:List (List AV)}{i16 i17:Int}{N:Nat}
theorem t17a {an av bn bv:List UInt8}{ai bi:Int}(hT:TabOk cfg3 (ctab []))(H:ifP (an==bn) (bool (av==bv)=v) (bool false=v)):ToEnd cfg3 17 (bodyOf f17) (RetIs prog f17 v) ([.code []]) .normal ([(0,true,.agg [.str an,.str av,.int .i64 ai]),(1,true,.agg [.str bn,.str bv,.int .i64 bi])]) ([]):=
 uo (pl:=⟨[],[]⟩) hT H (by kernel_rfl)
theorem t18a (hT:TabOk cfg3 (ctab [(17,alikeC)]))(H:ifP ((↑(length ea):Int) !=(↑(length eb):Int)) (bool false=v) (ToEnd cfg3 18 (bodyOf f18) (RetIs prog f18 v) [code [0,1,0,1,1],block 0,code [1,1,1]] normal [(1,true,sl 3 eb none),(2,true,AV.fn (Fn.func 17) [] []),(15,true,sl 3 ea none),(16,true,int i64 (↑(length ea):Int)),(17,true,int i64 0)] [])):ToEnd cfg3 18 (bodyOf f18) (RetIs prog f18 v) ([.code []]) .normal ([(0,true,.sl 3 ea none),(1,true,.sl 3 eb none),(2,true,.fn (.func 17) [] [])]) ([]):=
 uo (pl:=⟨[[0,1,0,1,1]],[([0,0,0,1,1,0,0,1,0,1,1],1,[.str,.str,.int .i64]),([0,1,0,0,1,1,0,0,1,0,1,1],2,[.str,.str,.int .i64])]⟩) hT H (by kernel_rfl)
theorem t18b (hT:TabOk cfg3 (ctab [(17,alikeC)]))(H:ifP (decide (i17<i16)) (gAnd (inR i17 (length ea)&&true&&true) (∃(s1 s2:List UInt8) (z3:Int),getE ea i17=[str s1,str s2,int i64 z3]∧gAnd (inR i17 (length eb)&&true&&true) (∃(s4 s5:List UInt8) (z6:Int),getE eb i17=[str s4,str s5,int i64 z6]∧∃(a7 b8:Att),[agg [str s1,str s2,int i64 z3],agg [str s4,str s5,int i64 z6]]=[agg [str (Att.name a7),str (Att.value a7),int i64 (Att.pl a7)],agg [str (Att.name b8),str (Att.value b8),int i64 (Att.pl b8)]]∧ifP (!alike a7 b8) (bool false=v) (gAnd (lowVss 0 eb&&true&&(lowVss 0 ea&&true&&true)&&true) (ToEnd cfg3 18 (bodyOf f18) (RetIs prog f18 v) [code [0,1,0,1,1],block 0,code [1,1,1]] normal [(1,true,sl 3 eb none),(2,true,AV.fn (Fn.func 17) [] []),(15,true,sl 3 ea none),(16,true,int i64 i16),(17,true,int i64 (wrap i64 (i17+1)))] []))))) (bool true=v)):ToEnd cfg3 18 (bodyOf f18) (RetIs prog f18 v) ([.code [0,1,0,1,1],block 0,code [1,1,1]]) .normal ([(1,true,sl 3 eb none),(2,true,AV.fn (Fn.func 17) [] []),(15,true,sl 3 ea none),(16,true,int i64 i16),(17,true,int i64 i17)]) ([]):=
 ends_round (pl:=⟨[[0,1,0,1,1]],[([0,0,0,1,1,0,0,1,0,1,1],1,[.str,.str,.int .i64]),([0,1,0,0,1,1,0,0,1,0,1,1],2,[.str,.str,.int .i64])]⟩) hT 100000 (by kernel_rfl) (unr_use H (by kernel_rfl))
theorem t19a (hT:TabOk cfg3 (ctab [(10,sameC N)]))(H:ifP ((↑(length ea):Int) !=(↑(length eb):Int)) (bool false=v) (ToEnd cfg3 19 (bodyOf f19) (RetIs prog f19 v) [code [0,1,0,1,1],block 0,code [1,1,1]] normal [(1,true,sl 5 eb none),(2,true,AV.fn (Fn.func 10) [] []),(15,true,sl 5 ea none),(16,true,int i64 (↑(length ea):Int)),(17,true,int i64 0)] [])):ToEnd cfg3 19 (bodyOf f19) (RetIs prog f19 v) ([.code []]) .normal ([(0,true,.sl 5 ea none),(1,true,.sl 5 eb none),(2,true,.fn (.func 10) [] [])]) ([]):=
 uo (pl:=⟨[[0,1,0,1,1]],[([0,0,0,1,1,0,0,1,0,1,1],1,[.int .i64,.int .i64,.str,.sl 3,.sl 5]),([0,1,0,0,1,1,0,0,1,0,1,1],2,[.int .i64,.int .i64,.str,.sl 3,.sl 5])]⟩) hT H (by kernel_rfl)
theorem t19b (hT:TabOk cfg3 (ctab [(10,sameC N)]))(H:ifP (decide (i17<i16)) (gAnd (inR i17 (length ea)&&true&&true) (∃(z1 z2:Int) (s3:List UInt8) (D0 E0:List (List AV)),getE ea i17=[int i64 z1,int i64 z2,str s3,sl 3 D0 none,sl 5 E0 none]∧gAnd (inR i17 (length eb)&&true&&true) (∃(z6 z7:Int) (s8:List UInt8) (F0 B0:List (List AV)),getE eb i17=[int i64 z6,int i64 z7,str s8,sl 3 F0 none,sl 5 B0 none]∧∃(A0 C0:Nd),Nd.size A0<N∧Nd.fit A0∧Nd.fit C0∧[agg [int i64 z1,int i64 z2,str s3,sl 3 (stripss 0 [] D0) none,sl 5 (stripss 0 [] E0) none],agg [int i64 z6,int i64 z7,str s8,sl 3 (stripss 0 [] F0) none,sl 5 (stripss 0 [] B0) none]]=[agg (encN A0),agg (encN C0)]∧ifP (!Nd.same A0 C0) (bool false=v) (gAnd (lowVss 0 eb&&true&&(lowVss 0 ea&&true&&true)&&true) (ToEnd cfg3 19 (bodyOf f19) (RetIs prog f19 v) [code [0,1,0,1,1],block 0,code [1,1,1]] normal [(1,true,sl 5 eb none),(2,true,AV.fn (Fn.func 10) [] []),(15,true,sl 5 ea none),(16,true,int i64 i16),(17,true,int i64 (wrap i64 (i17+1)))] []))))) (bool true=v)):ToEnd cfg3 19 (bodyOf f19) (RetIs prog f19 v) ([.code [0,1,0,1,1],block 0,code [1,1,1]]) .normal ([(1,true,sl 5 eb none),(2,true,AV.fn (Fn.func 10) [] []),(15,true,sl 5 ea none),(16,true,int i64 i16),(17,true,int i64 i17)]) ([]):=
 ends_round (pl:=⟨[[0,1,0,1,1]],[([0,0,0,1,1,0,0,1,0,1,1],1,[.int .i64,.int .i64,.str,.sl 3,.sl 5]),([0,1,0,0,1,1,0,0,1,0,1,1],2,[.int .i64,.int .i64,.str,.sl 3,.sl 5])]⟩) hT 100000 (by kernel_rfl) (unr_use H (by kernel_rfl))
theorem t10a {xk xp:Int}{xt:List UInt8}{xa xs:List (List AV)}{yk yp:Int}{yt:List UInt8}{ya ys:List (List AV)}(hT:TabOk cfg3 (ctab [(18,alikesC 17),(19,samesC 10 N)]))(H:ifP (xk==yk) (ifP (xt==yt) (∃(C0 D0:List Att),length C0≤9223372036854775807∧length D0≤9223372036854775807∧[sl 3 (stripss 0 [] xa) none,sl 3 (stripss 0 [] ya) none,AV.fn (Fn.func 17) [] []]=[sl 3 (List.map encA C0) none,sl 3 (List.map encA D0) none,AV.fn (Fn.func 17) [] []]∧ifP (alikes C0 D0) (∃(A0 B0:List Nd),sizes A0<N∧fits A0∧fits B0∧length A0≤9223372036854775807∧length B0≤9223372036854775807∧[sl 5 (stripss 0 [] xs) none,sl 5 (stripss 0 [] ys) none,AV.fn (Fn.func 10) [] []]=[sl 5 (encNs A0) none,sl 5 (encNs B0) none,AV.fn (Fn.func 10) [] []]∧bool (sames A0 B0)=v) (bool false=v)) (bool false=v)) (bool false=v)):ToEnd cfg3 10 (bodyOf f10) (RetIs prog f10 v) ([.code []]) .normal ([(0,true,.agg [.int .i64 xk,.int .i64 xp,.str xt,.sl 3 xa none,.sl 5 xs none]),(1,true,.agg [.int .i64 yk,.int .i64 yp,.str yt,.sl 3 ya none,.sl 5 ys none])]) ([]):=
 uo (pl:=⟨[],[]⟩) hT H (by kernel_rfl)
end Go.Proofs.YtopjpnhgnopbiaaDoor.Tr
end
section
namespace Go.Proofs.YtopjpnhgnopbiaaDoor.Tr
open Go.Ai Go
theorem pf10 :pureFn cfg3 10 Tryd.f10:=(by refine⟨?_,?_,?_,?_,?_,?_⟩<;>kernel_rfl)
theorem pf17 :pureFn cfg3 17 Tryd.f17:=(by refine⟨?_,?_,?_,?_,?_,?_⟩<;>kernel_rfl)
theorem pf18 :pureFn cfg3 18 Tryd.f18:=(by refine⟨?_,?_,?_,?_,?_,?_⟩<;>kernel_rfl)
theorem pf19 :pureFn cfg3 19 Tryd.f19:=(by refine⟨?_,?_,?_,?_,?_,?_⟩<;>kernel_rfl)
theorem wrap_succ {n:Nat}(h:n<lim):IntKind.wrap .i64 ((n:Int)+1)=((n+1:Nat):Int):=by
 unfold lim at h;rw[wrap_in]<;>omega
theorem c17 :COk cfg3 17 alikeC:=by
 refine cok_pure pf17 fun vs h K ht=> ?_
 obtain⟨a,b,rfl,hk⟩:=ht;refine⟨_,hk,t17a (ctab_ok ctab_nil) ?_⟩
 refine ifP_intro (fun h1=> ?_) fun h1=> ?_<;>simp[alike,h1]
theorem loop18 (hT:TabOk cfg3 (ctab [(17,alikeC)])):∀(r s pre pre':List Att),pre.length=pre'.length→r.length=s.length→(pre++r).length≤lim→
  ToEnd cfg3 18 (bodyOf Tryd.f18) (RetIs Tryd.prog Tryd.f18 (.bool (alikes r s))) [.code [0,1,0,1,1],.block 0,.code [1,1,1]] .normal
   [(1,true,.sl 3 ((pre'++s).map encA) none),(2,true,.fn (.func 17) [] []),(15,true,.sl 3 ((pre++r).map encA) none),(16,true,.int .i64 ((pre++r).length:Nat)),(17,true,.int .i64 pre.length)] []:=by
 intro r
 induction r with
 |nil=>
  intro s pre pre' hp hr hl
  obtain rfl:s=[]:=by simpa using hr.symm
  refine t18b hT (ifP_intro (fun hc=> ?_) fun _=>rfl)
  simp at hc
 |cons x r ih=>
  intro s pre pre' hp hr hl
  obtain⟨y,s,rfl⟩:∃y s',s=y::s':=by cases s with|nil=>simp at hr|cons y s=>exact⟨y,s,rfl⟩
  have hlen:pre.length<lim:=by simp at hl;omega
  have hin:inR (pre.length:Int) ((pre++x::r).map encA).length=true:=inR_of (by omega) (by simp;omega)
  have hin':inR (pre.length:Int) ((pre'++y::s).map encA).length=true:=by rw[hp];exact inR_of (by omega) (by simp;omega)
  refine t18b hT (ifP_intro (fun _=> ?_) fun hc=> ?_)
  ·refine gAnd_intro (by rw[hin];rfl) ⟨x.name,x.value,x.pl,getE_pre _ _ _ _,gAnd_intro (by rw[hin'];rfl) ⟨y.name,y.value,y.pl,by rw[hp];exact getE_pre _ _ _ _,x,y,rfl,ifP_intro (fun hq=> ?_) fun hq=> ?_⟩⟩
   ·simp only[Bool.not_eq_true'] at hq;simp[alikes,hq]
   ·simp only[Bool.not_eq_false'] at hq
    refine gAnd_intro (by simp only[low_encAs,Bool.and_true]) ?_
    rw[wrap_succ hlen]
    have:=ih s (pre++[x]) (pre'++[y]) (by simpa using hp) (by simpa using hr) (by simpa using hl)
    simpa[alikes,hq] using this
  ·simp at hc;omega
theorem alikes_len :∀{r s:List Att},r.length≠s.length→alikes r s=false
 |[],[],h=>by simp at h
 |[],_::_,_=>rfl
 |_::_,[],_=>rfl
 |a::r,b::s,h=>by simp only[alikes,alikes_len (r:=r) (s:=s) (by simpa using h),Bool.and_false]
theorem c18 :COk cfg3 18 (alikesC 17):=by
 refine cok_pure pf18 fun vs h K ht=> ?_
 obtain⟨al,bl,h1,h2,rfl,hk⟩:=ht;refine⟨_,hk,?_⟩;have hT:=ctab_ok (ctab_cons c17 ctab_nil)
 refine t18a hT (ifP_intro (fun hc=> ?_) fun hc=> ?_)
 ·rw[alikes_len (by(have h:¬(al.length:Int)=bl.length:=by simpa using hc);omega)]
 ·have hc':al.length=bl.length:=by
   have h:(al.length:Int)=bl.length:=by simpa using hc
   omega
  have:=loop18 hT al bl [] [] rfl hc' h1;simpa using this
theorem sames_len :∀{r s:List Nd},r.length≠s.length→sames r s=false
 |[],[],h=>by simp at h
 |[],_::_,_=>rfl
 |_::_,[],_=>rfl
 |a::r,b::s,h=>by simp only[sames,sames_len (r:=r) (s:=s) (by simpa using h),Bool.and_false]
theorem loop19 {N:Nat}(hT:TabOk cfg3 (ctab [(10,sameC N)])):∀(r s pre pre':List Nd),pre.length=pre'.length→r.length=s.length→(pre++r).length≤lim→sizes r<N→fits r→fits s→
  ToEnd cfg3 19 (bodyOf Tryd.f19) (RetIs Tryd.prog Tryd.f19 (.bool (sames r s))) [.code [0,1,0,1,1],.block 0,.code [1,1,1]] .normal
   [(1,true,.sl 5 (encNs (pre'++s)) none),(2,true,.fn (.func 10) [] []),(15,true,.sl 5 (encNs (pre++r)) none),(16,true,.int .i64 ((pre++r).length:Nat)),(17,true,.int .i64 pre.length)] []:=by
 intro r
 induction r with
 |nil=>
  intro s pre pre' hp hr hl hs hf hf'
  obtain rfl:s=[]:=by simpa using hr.symm
  refine t19b hT (ifP_intro (fun hc=> ?_) fun _=>rfl)
  simp at hc
 |cons x r ih=>
  intro s pre pre' hp hr hl hs hf hf'
  obtain⟨y,s,rfl⟩:∃y s',s=y::s':=by cases s with|nil=>simp at hr|cons y s=>exact⟨y,s,rfl⟩
  have hlen:pre.length<lim:=by simp at hl;omega
  have hin:inR (pre.length:Int) (encNs (pre++x::r)).length=true:=by rw[encNs_length];exact inR_of (by omega) (by simp;omega)
  have hin':inR (pre.length:Int) (encNs (pre'++y::s)).length=true:=by rw[hp,encNs_length];exact inR_of (by omega) (by simp;omega)
  rw[sizes] at hs
  refine t19b hT (ifP_intro (fun _=> ?_) fun hc=> ?_)
  ·refine gAnd_intro (by rw[hin];rfl) ⟨x.kind,x.pl,x.text,x.attrs.map encA,encNs x.kids,by rw[getE_encNs,encN_eq],
    gAnd_intro (by rw[hin'];rfl) ⟨y.kind,y.pl,y.text,y.attrs.map encA,encNs y.kids,by rw[hp,getE_encNs,encN_eq],x,y,by omega,hf.1,hf'.1,by simp only[stripss_encAs,stripss_encNs,encN_eq],ifP_intro (fun hq=> ?_) fun hq=> ?_⟩⟩
   ·simp only[Bool.not_eq_true'] at hq;simp[sames,hq]
   ·simp only[Bool.not_eq_false'] at hq
    refine gAnd_intro (by simp only[low_encNs,Bool.and_true]) ?_
    rw[wrap_succ hlen]
    have:=ih s (pre++[x]) (pre'++[y]) (by simpa using hp) (by simpa using hr) (by simpa using hl) (by omega) hf.2 hf'.2
    simpa[sames,hq] using this
  ·simp at hc;omega
theorem c19 {N:Nat}(h21:COk cfg3 10 (sameC N)):COk cfg3 19 (samesC 10 N):=by
 refine cok_pure pf19 fun vs h K ht=> ?_
 obtain⟨al,bl,h0,hf,hf',h1,h2,rfl,hk⟩:=ht;refine⟨_,hk,?_⟩;have hT:=ctab_ok (ctab_cons h21 ctab_nil)
 refine t19a hT (ifP_intro (fun hc=> ?_) fun hc=> ?_)
 ·rw[sames_len (by(have h:¬(al.length:Int)=bl.length:=by simpa[encNs_length] using hc);omega)]
 ·have hc':al.length=bl.length:=by
   have h:(al.length:Int)=bl.length:=by simpa[encNs_length] using hc
   omega
  have:=loop19 hT al bl [] [] rfl hc' h1 h0 hf hf';simpa[encNs_length] using this
theorem c10 :∀N,COk cfg3 10 (sameC N)
 |0=>fun l h K ht=>by obtain⟨nd,l,h,_⟩:=ht;omega
 |N+1=>by
  have hT:=ctab_ok (ctab_cons c18 (ctab_cons (c19 (c10 N)) ctab_nil))
  refine cok_pure pf10 fun vs h K ht=> ?_
  obtain⟨a,b,hs,hf,hf',rfl,hk⟩:=ht;refine⟨_,hk,?_⟩;rw[Nd.fit_eq] at hf hf';rw[Nd.size_eq] at hs;simp only[encN_eq];refine t10a hT ?_;rw[Nd.same_eq]
  refine ifP_intro (fun h1=>ifP_intro (fun h2=>⟨a.attrs,b.attrs,hf.2.1,hf'.2.1,by simp only[stripss_encAs],ifP_intro (fun h3=>⟨a.kids,b.kids,by omega,hf.2.2.2.2,hf'.2.2.2.2,hf.2.2.2.1,hf'.2.2.2.1,by simp only[stripss_encNs],?_⟩) fun h3=> ?_⟩) fun h2=> ?_) fun h1=> ?_
  all_goals simp_all
end Go.Proofs.YtopjpnhgnopbiaaDoor.Tr
end
section
namespace Go.Proofs.YtopjpnhgnopbiaaDoor
open Go.Ai Go Go.Ai.Sp
set_option maxRecDepth 100000
theorem pf14 :pureFn cfg3 14 Tryd.f14:=(by refine⟨?_,?_,?_,?_,?_,?_⟩<;>kernel_rfl)
theorem pf6 :pureFn cfg3 6 Tryd.f6:=(by refine⟨?_,?_,?_,?_,?_,?_⟩<;>kernel_rfl)
theorem pf7 :pureFn cfg3 7 Tryd.f7:=(by refine⟨?_,?_,?_,?_,?_,?_⟩<;>kernel_rfl)
theorem c8p :COk cfg3 8 parse3C:=by
 refine cok_prim (g:=parseP) (by kernel_rfl) (by kernel_rfl) (by kernel_rfl) (by kernel_rfl) fun vs h K ht=> ?_
 obtain⟨s,rfl,hk⟩:=ht;refine⟨outV 3 5 (parseM s),?_,rfl⟩;rw[strip_pure 0 [] _ (pure_outV _).1]
 have:outV 3 5 (parseM s)=.tup [.agg [.int .i64 (parseN s).kind,.int .i64 (parseN s).pl,.str (parseN s).text,.sl 3 ((parseN s).attrs.map Go.Ai.encA) none,.sl 5 (encNs (parseN s).kids) none],.int .i64 (parseA s),.int .i64 (parseE s)]:=by
  rw[←encN_eq];unfold parseN parseA parseE
  cases parseM s with
  |ok n=>rfl
  |error x=>rfl
 rw[this];exact hk
theorem letter_eq (k:Int):rowV [AV.int .u8 (IntKind.wrap .u8 (IntKind.wrap .i64 (97+Int.tmod k 26)))]=UInt8.ofNat (97+k.tmod 26).toNat∧rowsB [[AV.int .u8 (IntKind.wrap .u8 (IntKind.wrap .i64 (97+Int.tmod k 26)))]]=true:=by
 have h1: -26<Int.tmod k 26:=Int.lt_tmod_of_pos k (by omega)
 have h2:Int.tmod k 26<26:=Int.tmod_lt_of_pos k (by omega)
 have w1:IntKind.wrap .i64 (97+Int.tmod k 26)=97+Int.tmod k 26:=by rw[wrap_in]<;>omega
 have w2:IntKind.wrap .u8 (97+Int.tmod k 26)=97+Int.tmod k 26:=by
  have:IntKind.wrap .u8 (97+Int.tmod k 26)=(97+Int.tmod k 26)%256:=rfl
  rw[this,Int.emod_eq_of_lt (by omega) (by omega)]
 rw[w1,w2];refine⟨rfl,?_⟩;simp only[rowsB,List.all_cons,List.all_nil,rowB,cellB,Bool.and_true,Bool.and_eq_true,decide_eq_true_eq];omega
mutual
theorem kinds_len :∀n:Nd,(kindsN n).length≤3*n.size
 |.mk k p t al ks=>by
  have:=kindss_len ks;simp only[kindsN,Nd.size]
  cases ks.isEmpty<;>simp only[cond_true,cond_false,List.length_append,List.length_cons,List.length_nil]<;>omega
theorem kindss_len :∀l:List Nd,(kindsNs l).length≤3*sizes l
 |[]=>Nat.zero_le _
 |n::r=>by
  have h1:=kinds_len n;have h2:=kindss_len r;simp only[kindsNs,sizes,List.length_append];omega
end
theorem loop14 {N:Nat}(hN:N≤1000000)(hT:TabOk cfg3 (ctab [(14,kindsC N)]))(k p:Int)(t:List UInt8)(al:List Go.Ai.Att)(g:Nat){v:AV}:∀(r pre:List Nd) (s:List UInt8),sizes (pre++r)<N→s.length≤1+1+3*sizes pre→AV.str (s++kindsNs r++[41])=v→
  ToEnd cfg3 14 (bodyOf Tryd.f14) (RetIs Tryd.prog Tryd.f14 v) [.code [0,1,0,1,1,1,1],.block 0,.code [1,1,1,1,1]] .normal [(1,true,.ptr 0 0),(3,true,.str s),(4,true,.int .i64 pre.length)] [.mem 28 [.int .i64 k,.int .i64 p,.str t,.sl 3 (al.map Go.Ai.encA) none,.sl 5 (encNs (pre++r)) none],.grow g 1 5]
 |[],pre,s,hz,hs,hv=>by
  rw[List.append_nil] at hz⊢
  refine t14a hT (ifP_intro (fun a=> ?_) fun _=>gAnd_intro (decide_eq_true (by omega)) ?_)
  ·rw[encNs_length] at a;simp at a
  ·simpa[kindsNs] using hv
 |x::r,pre,s,hz,hs,hv=>by
  have hx:x.size≤sizes (pre++x::r):=sizes_mem (by simp)
  have hlen:=sizes_len (pre++x::r);have hk:=kinds_len x;have hz':=hz;rw[sizes_append] at hz';simp only[sizes] at hz'
  refine t14a hT (ifP_intro (fun _=>gAnd_intro ?_ ⟨x.kind,x.pl,x.text,x.attrs.map Go.Ai.encA,encNs x.kids,by rw[getE_encNs,encN_eq],x,by omega,by rw[stripss_encAs,stripss_encNs,encN_eq],gAnd_intro (decide_eq_true (by omega)) ?_⟩) fun a=> ?_)
  ·rw[encNs_length,inR_nat (by simp)];rfl
  ·rw[List.length_append] at hlen
   rw[wrapS (by unfold limS;omega)]
   have:=loop14 hN hT k p t al g (v:=v) r (pre++[x]) (s++kindsN x) (by simpa using hz) (by
    rw[List.length_append,sizes_append]
    simp only[sizes];omega) (by rw[←hv];simp[kindsNs])
   simpa using this
  ·rw[encNs_length] at a;simp at a;omega
theorem c14 :∀N,N≤1000000→COk cfg3 14 (kindsC N)
 |0,_=>by
  refine cok_pure pf14 fun vs h K ht=> ?_
  obtain⟨nd,hn,_⟩:=ht;omega
 |N+1,hN=>by
  have ih:=c14 N (by omega)
  refine cok_pure pf14 fun vs h K ht=> ?_
  obtain⟨⟨k,p,t,al,ks⟩,hn,rfl,hk⟩:=ht;obtain⟨e1,e2⟩:=letter_eq k;have hT:TabOk cfg3 (ctab [(14,kindsC N)]):=ctab_ok (ctab_cons ih ctab_nil);simp only[Nd.size] at hn
  refine⟨_,hk,t14 hT (gAnd_intro e2 (ifP_intro (fun a=> ?_) fun a=> ?_))⟩
  ·rw[encNs_length] at a
   have:ks=[]:=by
    cases ks with
    |nil=>rfl
    |cons=>simp at a;omega
   subst this;rw[e1];rfl
  ·rw[encNs_length] at a
   have:ks.isEmpty=false:=by
    cases ks with
    |nil=>simp at a
    |cons=>rfl
   rw[e1]
   refine loop14 (by omega) hT k p t al 1 ks [] _ (by simpa using(by omega:sizes ks<N)) (by simp) ?_
   simp only[kindsN,this,cond_false]
def toldM (s:List UInt8):List UInt8:=bif parseA s !=0||parseE s !=0 then [119,114,111,110,103] else kindsN (parseN s)
def toldC :Con:=fun vs h K=>∃s:List UInt8,vs=[.str s]∧K (.str (toldM s)) h
theorem c6 :COk cfg3 6 toldC:=by
 refine cok_pure pf6 fun vs h K ht=> ?_
 obtain⟨s,rfl,hk⟩:=ht
 refine⟨_,hk,t6 (ctab_ok (ctab_cons c8p (ctab_cons (c14 300000 (by omega)) ctab_nil))) ⟨s,rfl,ifP_intro (fun a=> ?_) fun a=>ifP_intro (fun b=> ?_) fun b=> ?_⟩⟩
 ·unfold toldM;rw[a];rfl
 ·unfold toldM;rw[a,b];rfl
 ·have:=parseN_size s
  refine⟨parseN s,by omega,by rw[stripss_encAs,stripss_encNs,encN_eq],?_⟩
  unfold toldM;rw[a,b];rfl
def failsM (s:List UInt8)(p e:Int):Bool:=(parseN s).same nd0&&(parseA s==p&&parseE s==e)
def failsC :Con:=fun vs h K=>∃(s:List UInt8) (p e:Int),(parseN s).size<1000∧vs=[.str s,.int .i64 p,.int .i64 e]∧K (.bool (failsM s p e)) h
theorem c7 :COk cfg3 7 failsC:=by
 refine cok_pure pf7 fun vs h K ht=> ?_
 obtain⟨s,p,e,hsz,rfl,hk⟩:=ht
 have hfit:(parseN s).fit:=by
  obtain⟨h1,_,h3⟩:=parseN_small s
  by_cases hs:65536<s.length
  ·rw[h3 hs];exact smN_fit (M:=0) (Nat.zero_le _) nd0 (smN_nd0 0)
  ·exact smN_fit (by unfold lim;omega) _ h1
 refine⟨_,hk,t7 (ctab_ok (ctab_cons c8p (ctab_cons (Tr.c10 1000) ctab_nil))) ⟨s,rfl,parseN s,nd0,hsz,hfit,smN_fit (M:=0) (Nat.zero_le _) nd0 (smN_nd0 0),by rw[stripss_encAs,stripss_encNs,encN_eq];rfl,ifP_intro (fun a=>ifP_intro (fun b=> ?_) fun b=> ?_) fun a=> ?_⟩⟩
 ·unfold failsM;rw[a,b];rfl
 ·unfold failsM;rw[a,b];rfl
 ·unfold failsM;rw[a];rfl
end Go.Proofs.YtopjpnhgnopbiaaDoor
end
section
namespace Go.Proofs.YtopjpnhgnopbiaaDoor
open Go.Ai Go Go.Ai.Sp
set_option maxRecDepth 100000
open Go.IntKind (wrap i64 u8)
open Go.Ai.AV (int str sl tup bool agg ptr)
open Go.Ai.Blk (mem grow)
open Go.Ai.Fm (code block loop)
open Go.Ai.XT (normal)
open List (length)
open Prod (fst snd)
open UInt8 (toNat)
open Tryd (prog f9)
theorem t9 {v:AV}(hT:TabOk cfg3 (ctab [(6,toldC),(7,failsC)]))(H:∃(s1:List UInt8),[str [97,60,101,115,105,58,105,110,99,108,117,100,101,32,115,114,99,61,34,47,98,34,47,62]]=[str s1]∧ifP (toldM s1==[98,40,99,100,41]) (∃(s2:List UInt8) (p3 e4:Int),Nd.size (parseN s2)<1000∧[str [60,101,115,105,58,116,114,121,62,120],int i64 9,int i64 13]=[str s2,int i64 p3,int i64 e4]∧ifP (failsM s2 p3 e4) (∃(s5:List UInt8),[str []]=[str s5]∧bool (toldM s5==[98])=v) (bool false=v)) (bool false=v)):ToEnd cfg3 9 (bodyOf f9) (RetIs prog f9 v) ([.code []]) .normal ([]) ([]):=
 uo (pl:=⟨[],[]⟩) hT H (by kernel_rfl)
end Go.Proofs.YtopjpnhgnopbiaaDoor
end
section
namespace Go.Proofs.YtopjpnhgnopbiaaDoor
open Go.Ai Go Go.Ai.Sp
set_option maxRecDepth 100000
theorem pf9 :pureFn cfg3 9 Tryd.f9:=(by refine⟨?_,?_,?_,?_,?_,?_⟩<;>kernel_rfl)
theorem tab67 :TabOk cfg3 (ctab [(6,toldC),(7,failsC)]):=ctab_ok (ctab_cons c6 (ctab_cons c7 ctab_nil))
theorem ifP_of {b:Bool}{p q:Prop}(h:b=true)(k:p):ifP b p q:=ifP_intro (fun _=>k) fun e=>by rw[h] at e;cases e
theorem size_lt {n:Nd}(h:Nat.blt n.size 1000=true):n.size<1000:=Nat.le_of_ble_eq_true h
theorem c9 :COk cfg3 9 Ex.yesC:=by
 refine cok_pure pf9 fun vs h K ht=> ?_
 obtain⟨hv,hk⟩:=ht
 match vs,hv with
 |[],_=>
  refine⟨_,hk,t9 tab67 ⟨_,rfl,ifP_of (by kernel_rfl) ⟨_,_,_,size_lt (by kernel_rfl),rfl,ifP_of (by kernel_rfl) ⟨_,rfl,?_⟩⟩⟩⟩
  exact congrArg AV.bool (by kernel_rfl)
end Go.Proofs.YtopjpnhgnopbiaaDoor
end
