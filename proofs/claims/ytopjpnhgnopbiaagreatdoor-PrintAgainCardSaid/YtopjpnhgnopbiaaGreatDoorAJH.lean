/-
  Runs of the functions of trees, printed by a home tool; each is the kernel's word.
-/
import Derived.Test.YtopjpnhgnopbiaaGreatDoorAJG
import Derived.Test.YtopjpnhgnopbiaaGreatDoorAJT
set_option linter.unusedVariables false
set_option linter.unusedSimpArgs false
set_option linter.unnecessarySimpa false
section
namespace Go.Proofs.YtopjpnhgnopbiaaGreatDoor.Tr
open Go.Ai Go
set_option maxRecDepth 100000
open Go.IntKind (wrap i64 u8)
open Go.Ai.AV (int str sl tup bool agg ptr)
open Go.Ai.Blk (mem grow)
open Go.Ai.Fm (code block loop)
open Go.Ai.XT (normal)
open List (length)
open Prod (fst snd)
open UInt8 (toNat)
open Tryz (prog f14 f32 f33 f34)
variable {v:AV}{ea eb:List (List AV)}{i16 i17:Int}{N:Nat}
theorem vC {an av bn bv:List UInt8}{ai bi:Int}(hT:AL AI (Ac []))(H:Ap (an==bn) (bool (av==bv)=v) (bool false=v)):AF AI 32 (AB f32) (AK prog f32 v) ([.code []]) .normal ([(0,true,.agg [.str an,.str av,.int .i64 ai]),(1,true,.agg [.str bn,.str bv,.int .i64 bi])]) ([]):=
 uo (pl:=⟨[],[]⟩) hT H (by kernel_rfl)
theorem vB (hT:AL AI (Ac [(32,VS)]))(H:Ap ((↑(length ea):Int) !=(↑(length eb):Int)) (bool false=v) (AF AI 33 (AB f33) (AK prog f33 v) [code [0,1,0,1,1],block 0,code [1,1,1]] normal [(1,true,sl 3 eb none),(2,true,AV.fn (Fn.func 32) [] []),(15,true,sl 3 ea none),(16,true,int i64 (↑(length ea):Int)),(17,true,int i64 0)] [])):AF AI 33 (AB f33) (AK prog f33 v) ([.code []]) .normal ([(0,true,.sl 3 ea none),(1,true,.sl 3 eb none),(2,true,.fn (.func 32) [] [])]) ([]):=
 uo (pl:=⟨[[0,1,0,1,1]],[([0,0,0,1,1,0,0,1,0,1,1],1,[.str,.str,.int .i64]),([0,1,0,0,1,1,0,0,1,0,1,1],2,[.str,.str,.int .i64])]⟩) hT H (by kernel_rfl)
theorem rM (hT:AL AI (Ac [(32,VS)]))(H:Ap (decide (i17<i16)) (AS (Dk i17 (length ea)&&true&&true) (∃(s1 s2:List UInt8) (z3:Int),CH ea i17=[str s1,str s2,int i64 z3]/\AS (Dk i17 (length eb)&&true&&true) (∃(s4 s5:List UInt8) (z6:Int),CH eb i17=[str s4,str s5,int i64 z6]/\∃(a7 b8:Ak),[agg [str s1,str s2,int i64 z3],agg [str s4,str s5,int i64 z6]]=[agg [str (Ak.name a7),str (Ak.value a7),int i64 (Ak.pl a7)],agg [str (Ak.name b8),str (Ak.value b8),int i64 (Ak.pl b8)]]/\Ap (!alike a7 b8) (bool false=v) (AS (AJ 0 eb&&true&&(AJ 0 ea&&true&&true)&&true) (AF AI 33 (AB f33) (AK prog f33 v) [code [0,1,0,1,1],block 0,code [1,1,1]] normal [(1,true,sl 3 eb none),(2,true,AV.fn (Fn.func 32) [] []),(15,true,sl 3 ea none),(16,true,int i64 i16),(17,true,int i64 (wrap i64 (i17+1)))] []))))) (bool true=v)):AF AI 33 (AB f33) (AK prog f33 v) ([.code [0,1,0,1,1],block 0,code [1,1,1]]) .normal ([(1,true,sl 3 eb none),(2,true,AV.fn (Fn.func 32) [] []),(15,true,sl 3 ea none),(16,true,int i64 i16),(17,true,int i64 i17)]) ([]):=
 Az (pl:=⟨[[0,1,0,1,1]],[([0,0,0,1,1,0,0,1,0,1,1],1,[.str,.str,.int .i64]),([0,1,0,0,1,1,0,0,1,0,1,1],2,[.str,.str,.int .i64])]⟩) hT 100000 (by kernel_rfl) (Aj H (by kernel_rfl))
theorem vA (hT:AL AI (Ac [(14,QK N)]))(H:Ap ((↑(length ea):Int) !=(↑(length eb):Int)) (bool false=v) (AF AI 34 (AB f34) (AK prog f34 v) [code [0,1,0,1,1],block 0,code [1,1,1]] normal [(1,true,sl 5 eb none),(2,true,AV.fn (Fn.func 14) [] []),(15,true,sl 5 ea none),(16,true,int i64 (↑(length ea):Int)),(17,true,int i64 0)] [])):AF AI 34 (AB f34) (AK prog f34 v) ([.code []]) .normal ([(0,true,.sl 5 ea none),(1,true,.sl 5 eb none),(2,true,.fn (.func 14) [] [])]) ([]):=
 uo (pl:=⟨[[0,1,0,1,1]],[([0,0,0,1,1,0,0,1,0,1,1],1,[.int .i64,.int .i64,.str,.sl 3,.sl 5]),([0,1,0,0,1,1,0,0,1,0,1,1],2,[.int .i64,.int .i64,.str,.sl 3,.sl 5])]⟩) hT H (by kernel_rfl)
theorem rL (hT:AL AI (Ac [(14,QK N)]))(H:Ap (decide (i17<i16)) (AS (Dk i17 (length ea)&&true&&true) (∃(z1 z2:Int) (s3:List UInt8) (D0 E0:List (List AV)),CH ea i17=[int i64 z1,int i64 z2,str s3,sl 3 D0 none,sl 5 E0 none]/\AS (Dk i17 (length eb)&&true&&true) (∃(z6 z7:Int) (s8:List UInt8) (F0 B0:List (List AV)),CH eb i17=[int i64 z6,int i64 z7,str s8,sl 3 F0 none,sl 5 B0 none]/\∃(A0 C0:Nd),Nd.size A0<N/\Nd.fit A0/\Nd.fit C0/\[agg [int i64 z1,int i64 z2,str s3,sl 3 (AE 0 [] D0) none,sl 5 (AE 0 [] E0) none],agg [int i64 z6,int i64 z7,str s8,sl 3 (AE 0 [] F0) none,sl 5 (AE 0 [] B0) none]]=[agg (ES A0),agg (ES C0)]/\Ap (!Nd.same A0 C0) (bool false=v) (AS (AJ 0 eb&&true&&(AJ 0 ea&&true&&true)&&true) (AF AI 34 (AB f34) (AK prog f34 v) [code [0,1,0,1,1],block 0,code [1,1,1]] normal [(1,true,sl 5 eb none),(2,true,AV.fn (Fn.func 14) [] []),(15,true,sl 5 ea none),(16,true,int i64 i16),(17,true,int i64 (wrap i64 (i17+1)))] []))))) (bool true=v)):AF AI 34 (AB f34) (AK prog f34 v) ([.code [0,1,0,1,1],block 0,code [1,1,1]]) .normal ([(1,true,sl 5 eb none),(2,true,AV.fn (Fn.func 14) [] []),(15,true,sl 5 ea none),(16,true,int i64 i16),(17,true,int i64 i17)]) ([]):=
 Az (pl:=⟨[[0,1,0,1,1]],[([0,0,0,1,1,0,0,1,0,1,1],1,[.int .i64,.int .i64,.str,.sl 3,.sl 5]),([0,1,0,0,1,1,0,0,1,0,1,1],2,[.int .i64,.int .i64,.str,.sl 3,.sl 5])]⟩) hT 100000 (by kernel_rfl) (Aj H (by kernel_rfl))
theorem vF {xk xp:Int}{xt:List UInt8}{xa xs:List (List AV)}{yk yp:Int}{yt:List UInt8}{ya ys:List (List AV)}(hT:AL AI (Ac [(33,bj 32),(34,fL 14 N)]))(H:Ap (xk==yk) (Ap (xt==yt) (∃(C0 D0:List Ak),length C0<=9223372036854775807/\length D0<=9223372036854775807/\[sl 3 (AE 0 [] xa) none,sl 3 (AE 0 [] ya) none,AV.fn (Fn.func 32) [] []]=[sl 3 (List.map Ao C0) none,sl 3 (List.map Ao D0) none,AV.fn (Fn.func 32) [] []]/\Ap (Du C0 D0) (∃(A0 B0:List Nd),CC A0<N/\fits A0/\fits B0/\length A0<=9223372036854775807/\length B0<=9223372036854775807/\[sl 5 (AE 0 [] xs) none,sl 5 (AE 0 [] ys) none,AV.fn (Fn.func 14) [] []]=[sl 5 (Ag A0) none,sl 5 (Ag B0) none,AV.fn (Fn.func 14) [] []]/\bool (Ei A0 B0)=v) (bool false=v)) (bool false=v)) (bool false=v)):AF AI 14 (AB f14) (AK prog f14 v) ([.code []]) .normal ([(0,true,.agg [.int .i64 xk,.int .i64 xp,.str xt,.sl 3 xa none,.sl 5 xs none]),(1,true,.agg [.int .i64 yk,.int .i64 yp,.str yt,.sl 3 ya none,.sl 5 ys none])]) ([]):=
 uo (pl:=⟨[],[]⟩) hT H (by kernel_rfl)
end Go.Proofs.YtopjpnhgnopbiaaGreatDoor.Tr
end
section
namespace Go.Proofs.YtopjpnhgnopbiaaGreatDoor.Tr
open Go.Ai Go
theorem vk :BL AI 14 Tryz.f14:=(by refine⟨?_,?_,?_,?_,?_,?_⟩<;>kernel_rfl)
theorem vh :BL AI 32 Tryz.f32:=(by refine⟨?_,?_,?_,?_,?_,?_⟩<;>kernel_rfl)
theorem vg :BL AI 33 Tryz.f33:=(by refine⟨?_,?_,?_,?_,?_,?_⟩<;>kernel_rfl)
theorem vf :BL AI 34 Tryz.f34:=(by refine⟨?_,?_,?_,?_,?_,?_⟩<;>kernel_rfl)
theorem BE {n:Nat}(h:n<FY):IntKind.wrap .i64 ((n:Int)+1)=((n+1:Nat):Int):=by
 unfold FY at h;rw[BG]<;>omega
theorem X8 (n:Nat)(h:n<=FY):IntKind.wrap .i64 (Int.tdiv (n:Int) 20)=((n/20:Nat):Int):=by
 unfold FY at h
 rw[Int.tdiv_eq_ediv_of_nonneg (by omega),BG]<;>omega
theorem Pq {a b:Int}(h1: -9223372036854775808<=a-b)(h2:a-b<=9223372036854775807):IntKind.wrap .i64 (a-b)=a-b:=BG h1 h2
theorem c17 :CR AI 32 VS:=by
 refine Ax vh fun vs h K ht=> ?_
 obtain⟨a,b,rfl,hk⟩:=ht;refine⟨_,hk,vC (AY AM) ?_⟩
 refine AA (fun h1=> ?_) fun h1=> ?_<;>simp[alike,h1]
theorem nz (hT:AL AI (Ac [(32,VS)])):∀(r s pre NL:List Ak),pre.length=NL.length->r.length=s.length->(pre++r).length<=FY->
  AF AI 33 (AB Tryz.f33) (AK Tryz.prog Tryz.f33 (.bool (Du r s))) [.code [0,1,0,1,1],.block 0,.code [1,1,1]] .normal
   [(1,true,.sl 3 ((NL++s).map Ao) none),(2,true,.fn (.func 32) [] []),(15,true,.sl 3 ((pre++r).map Ao) none),(16,true,.int .i64 ((pre++r).length:Nat)),(17,true,.int .i64 pre.length)] []:=by
 intro r
 induction r with
 |nil=>
  intro s pre NL hp hr hl
  obtain rfl:s=[]:=by simpa using hr.symm
  refine rM hT (AA (fun hc=> ?_) fun _=>rfl)
  simp at hc
 |cons x r ih=>
  intro s pre NL hp hr hl
  obtain⟨y,s,rfl⟩:∃y s',s=y::s':=by cases s with|nil=>simp at hr|cons y s=>exact⟨y,s,rfl⟩
  have hlen:pre.length<FY:=by simp at hl;omega
  have Hv:Dk (pre.length:Int) ((pre++x::r).map Ao).length=true:=Dt (by omega) (by simp;omega)
  have og:Dk (pre.length:Int) ((NL++y::s).map Ao).length=true:=by rw[hp];exact Dt (by omega) (by simp;omega)
  refine rM hT (AA (fun _=> ?_) fun hc=> ?_)
  ·refine AD (by rw[Hv];rfl) ⟨x.name,x.value,x.pl,Cp _ _ _ _,AD (by rw[og];rfl) ⟨y.name,y.value,y.pl,by rw[hp];exact Cp _ _ _ _,x,y,rfl,AA (fun hq=> ?_) fun hq=> ?_⟩⟩
   ·simp only[Bool.not_eq_true'] at hq;simp[Du,hq]
   ·simp only[Bool.not_eq_false'] at hq
    refine AD (by simp only[FC,Bool.and_true]) ?_
    rw[BE hlen]
    have:=ih s (pre++[x]) (NL++[y]) (by simpa using hp) (by simpa using hr) (by simpa using hl)
    simpa[Du,hq] using this
  ·simp at hc;omega
theorem Ru :∀{r s:List Ak},r.length≠s.length->Du r s=false
 |[],[],h=>by simp at h
 |[],_::_,_=>rfl
 |_::_,[],_=>rfl
 |a::r,b::s,h=>by simp only[Du,Ru (r:=r) (s:=s) (by simpa using h),Bool.and_false]
theorem c18 :CR AI 33 (bj 32):=by
 refine Ax vg fun vs h K ht=> ?_
 obtain⟨al,bl,h1,h2,rfl,hk⟩:=ht;refine⟨_,hk,?_⟩;have hT:=AY (AH c17 AM)
 refine vB hT (AA (fun hc=> ?_) fun hc=> ?_)
 ·rw[Ru (by(have h:¬(al.length:Int)=bl.length:=by simpa using hc);omega)]
 ·have jo:al.length=bl.length:=by
   have h:(al.length:Int)=bl.length:=by simpa using hc
   omega
  have:=nz hT al bl [] [] rfl jo h1;simpa using this
theorem Sg :∀{r s:List Nd},r.length≠s.length->Ei r s=false
 |[],[],h=>by simp at h
 |[],_::_,_=>rfl
 |_::_,[],_=>rfl
 |a::r,b::s,h=>by simp only[Ei,Sg (r:=r) (s:=s) (by simpa using h),Bool.and_false]
theorem ny {N:Nat}(hT:AL AI (Ac [(14,QK N)])):∀(r s pre NL:List Nd),pre.length=NL.length->r.length=s.length->(pre++r).length<=FY->CC r<N->fits r->fits s->
  AF AI 34 (AB Tryz.f34) (AK Tryz.prog Tryz.f34 (.bool (Ei r s))) [.code [0,1,0,1,1],.block 0,.code [1,1,1]] .normal
   [(1,true,.sl 5 (Ag (NL++s)) none),(2,true,.fn (.func 14) [] []),(15,true,.sl 5 (Ag (pre++r)) none),(16,true,.int .i64 ((pre++r).length:Nat)),(17,true,.int .i64 pre.length)] []:=by
 intro r
 induction r with
 |nil=>
  intro s pre NL hp hr hl hs hf FO
  obtain rfl:s=[]:=by simpa using hr.symm
  refine rL hT (AA (fun hc=> ?_) fun _=>rfl)
  simp at hc
 |cons x r ih=>
  intro s pre NL hp hr hl hs hf FO
  obtain⟨y,s,rfl⟩:∃y s',s=y::s':=by cases s with|nil=>simp at hr|cons y s=>exact⟨y,s,rfl⟩
  have hlen:pre.length<FY:=by simp at hl;omega
  have Hv:Dk (pre.length:Int) (Ag (pre++x::r)).length=true:=by rw[BK];exact Dt (by omega) (by simp;omega)
  have og:Dk (pre.length:Int) (Ag (NL++y::s)).length=true:=by rw[hp,BK];exact Dt (by omega) (by simp;omega)
  rw[CC] at hs
  refine rL hT (AA (fun _=> ?_) fun hc=> ?_)
  ·refine AD (by rw[Hv];rfl) ⟨x.kind,x.pl,x.text,x.attrs.map Ao,Ag x.kids,by rw[HW,BW],
    AD (by rw[og];rfl) ⟨y.kind,y.pl,y.text,y.attrs.map Ao,Ag y.kids,by rw[hp,HW,BW],x,y,by omega,hf.1,FO.1,by simp only[GP,GO,BW],AA (fun hq=> ?_) fun hq=> ?_⟩⟩
   ·simp only[Bool.not_eq_true'] at hq;simp[Ei,hq]
   ·simp only[Bool.not_eq_false'] at hq
    refine AD (by simp only[HB,Bool.and_true]) ?_
    rw[BE hlen]
    have:=ih s (pre++[x]) (NL++[y]) (by simpa using hp) (by simpa using hr) (by simpa using hl) (by omega) hf.2 FO.2
    simpa[Ei,hq] using this
  ·simp at hc;omega
theorem c19 {N:Nat}(h21:CR AI 14 (QK N)):CR AI 34 (fL 14 N):=by
 refine Ax vf fun vs h K ht=> ?_
 obtain⟨al,bl,h0,hf,FO,h1,h2,rfl,hk⟩:=ht;refine⟨_,hk,?_⟩;have hT:=AY (AH h21 AM)
 refine vA hT (AA (fun hc=> ?_) fun hc=> ?_)
 ·rw[Sg (by(have h:¬(al.length:Int)=bl.length:=by simpa[BK] using hc);omega)]
 ·have jo:al.length=bl.length:=by
   have h:(al.length:Int)=bl.length:=by simpa[BK] using hc
   omega
  have:=ny hT al bl [] [] rfl jo h1 h0 hf FO;simpa[BK] using this
theorem zg :∀N,CR AI 14 (QK N)
 |0=>fun l h K ht=>by obtain⟨nd,l,h,_⟩:=ht;omega
 |N+1=>by
  have hT:=AY (AH c18 (AH (c19 (zg N)) AM))
  refine Ax vk fun vs h K ht=> ?_
  obtain⟨a,b,hs,hf,FO,rfl,hk⟩:=ht;refine⟨_,hk,?_⟩;rw[Nd.im] at hf FO;rw[Nd.size_eq] at hs;simp only[BW];refine vF hT ?_;rw[Nd.aL]
  refine AA (fun h1=>AA (fun h2=>⟨a.attrs,b.attrs,hf.2.1,FO.2.1,by simp only[GP],AA (fun h3=>⟨a.kids,b.kids,by omega,hf.2.2.2.2,FO.2.2.2.2,hf.2.2.2.1,FO.2.2.2.1,by simp only[GO],?_⟩) fun h3=> ?_⟩) fun h2=> ?_) fun h1=> ?_
  all_goals simp_all
end Go.Proofs.YtopjpnhgnopbiaaGreatDoor.Tr
end
