/-
  Pieces of a page's text: bytes, words, lists of names: contracts.
  Pieces of a page's text: the reader's own steps: contracts.
  Pieces of a page's text: what adds a piece, what finds what stands next: contracts.
  Pieces of a page's text: hidden parts, raw texts, tags that close: contracts.
  Pieces of a page's text: an attribute of a tag: contract.
  Pieces of a page's text: a tag that opens: contract.
  Pieces of a page's text: what takes back what was given up; the pieces of a text, whole.
  Pieces of a page's text: the pieces of a text, whole: the function under contract.
-/
import Derived.Test.YtopjpnhgnopbiaaGreatDoorAJB
import Derived.Test.YtopjpnhgnopbiaaGreatDoorAJA
import Derived.Test.YtopjpnhgnopbiaaGreatDoorAJC
import Derived.Test.YtopjpnhgnopbiaaGreatDoorAAiRec
import Derived.WalkKit
import Derived.ProofKit
set_option linter.unusedVariables false
set_option linter.unusedSimpArgs false
set_option linter.unnecessarySimpa false
section
namespace Go.Proofs.YtopjpnhgnopbiaaGreatDoor.Lx
open Go.Ai Go Go.Ai.Ex
set_option maxRecDepth 100000
theorem vN :BL cfg 118 Tryz.f118:=(by refine⟨?_,?_,?_,?_,?_,?_⟩<;>kernel_rfl)
theorem vX :BL cfg 58 Tryz.f58:=(by refine⟨?_,?_,?_,?_,?_,?_⟩<;>kernel_rfl)
theorem vQ :BL cfg 86 Tryz.f86:=(by refine⟨?_,?_,?_,?_,?_,?_⟩<;>kernel_rfl)
theorem vY :BL cfg 55 Tryz.f55:=(by refine⟨?_,?_,?_,?_,?_,?_⟩<;>kernel_rfl)
theorem nW :BL cfg 101 Tryz.f101:=(by refine⟨?_,?_,?_,?_,?_,?_⟩<;>kernel_rfl)
theorem nU :BL cfg 126 Tryz.f126:=(by refine⟨?_,?_,?_,?_,?_,?_⟩<;>kernel_rfl)
theorem LP :AL cfg (Ac []):=AY AM
theorem zW :CR cfg 93 dD:=by
 refine Fj (by kernel_rfl) (by kernel_rfl) (by kernel_rfl:cfg.FM 93=some ME) (by kernel_rfl) fun vs h K ht=> ?_
 obtain⟨s,c,hl,rfl,hk⟩:=ht;have:=c.toNat_lt;refine⟨.int .i64 (Lib.indexByte s c),hk,?_⟩
 have e:(c.toNat:Int).toNat.toUInt8=c:=by simp
 simp only[ME,e]
 rw[decide_eq_true (by omega),decide_eq_true (by omega)];rfl
theorem c74 :CR cfg 84 dC:=by
 refine Fj (by kernel_rfl) (by kernel_rfl) (by kernel_rfl:cfg.FM 84=some Qb) (by kernel_rfl) fun vs h K ht=> ?_
 obtain⟨s,x,hl,rfl,hk⟩:=ht;refine⟨.int .i64 (JY s x 0),hk,?_⟩
 have:Nat.blt s.length 4294967281=true:=Nat.ble_eq_true_of_le (by unfold limE at hl;omega)
 simp only[Qb,this]
theorem c79 :CR cfg 117 U5:=by
 refine Fj (by kernel_rfl) (by kernel_rfl) (by kernel_rfl:cfg.FM 117=some PY) (by kernel_rfl) fun vs h K ht=> ?_
 obtain⟨s,rfl,rfl,hk⟩:=ht
 exact⟨.sl 1 (LQ.map fun n=>[.str n]) none,hk,by kernel_rfl⟩
theorem fI (c:UInt8):OK c=(decide ((c.toNat:Int)>=97)&&decide ((c.toNat:Int)<=122)):=by
 unfold OK
 congr 1
 ·rw[decide_eq_decide];omega
 ·rw[decide_eq_decide];omega
theorem zV :CR cfg 118 Ji:=by
 refine Ax vN fun vs h K ht=> ?_
 obtain⟨c,rfl,hk⟩:=ht
 refine⟨_,hk,t80 LP (AA (fun a=> ?_) fun a=> ?_)⟩
 ·rw[fI,a,Bool.true_and]
 ·rw[fI,a,Bool.false_and]
theorem tR (c:UInt8):decide (Lib.indexByte [32,9,10,13] c>=0)=blB c:=by
 unfold blB;simp only[Lib.indexByte]
 by_cases h1:c=32
 ·subst h1;rfl
 by_cases h2:c=9
 ·subst h2;rfl
 by_cases h3:c=10
 ·subst h3;rfl
 by_cases h4:c=13
 ·subst h4;rfl
 have e1:((32:UInt8)==c)=false:=by simpa using fun h=>h1 h.symm
 have e2:((9:UInt8)==c)=false:=by simpa using fun h=>h2 h.symm
 have e3:((10:UInt8)==c)=false:=by simpa using fun h=>h3 h.symm
 have e4:((13:UInt8)==c)=false:=by simpa using fun h=>h4 h.symm
 simp[h1,h2,h3,h4,e1,e2,e3,e4,Ne.symm h1,Ne.symm h2,Ne.symm h3,Ne.symm h4]
theorem zc :CR cfg 58 N7:=by
 refine Ax vX fun vs h K ht=> ?_
 obtain⟨c,rfl,hk⟩:=ht
 exact⟨_,hk,t39 (AY (AH zW AM)) ⟨_,c,by decide,rfl,by rw[tR]⟩⟩
theorem NK :∀(x s:List UInt8),x.isPrefixOf s=(decide (x.length<=s.length)&&(s.take x.length==x))
 |[],s=>by simp
 |a::x,[]=>by simp
 |a::x,b::s=>by
  have:=NK x s;simp only[List.isPrefixOf_cons_cons,this,List.length_cons,List.take_succ_cons,List.cons_beq_cons]
  rw[show(decide (x.length+1<=s.length+1))=decide (x.length<=s.length) from by simp,show(a==b)=(b==a) from by rw[Bool.eq_iff_iff];simp;exact eq_comm]
  cases (b==a)<;>cases decide (x.length<=s.length)<;>simp
theorem c57 :CR cfg 86 Ex.V5:=by
 refine Ax vQ fun vs h K ht=> ?_
 obtain⟨s,x,rfl,hk⟩:=ht
 refine⟨_,hk,t57 LP (AA (fun a=>AD ?_ ?_) fun a=> ?_)⟩
 ·simp[CL] at a⊢;omega
 ·simp at a
  rw[NK,decide_eq_true (by omega),Bool.true_and]
  simp[Dh]
 ·simp at a
  rw[NK,decide_eq_false (by omega),Bool.false_and]
theorem c36 :CR cfg 55 Ex.V5:=by
 refine Ax vY fun vs h K ht=> ?_
 obtain⟨s,x,rfl,hk⟩:=ht;exact⟨_,hk,t36 (AY (AH c57 AM)) ⟨s,x,rfl,rfl⟩⟩
theorem Eg {n:Nat}(h:n<=2*limE):IntKind.wrap .i64 ((n:Int)+1)=((n+1:Nat):Int):=by
 unfold limE at h;rw[BG]<;>omega
theorem Dq {α:Type}(f:α->List AV)(l:List α){i:Nat}(h:i<l.length):CH (l.map f) (i:Int)=f l[i]:=by
 unfold CH;simp[h]
theorem CF {i n:Nat}(h:i<n):Dk (i:Int) n=true:=by
 unfold Dk
 rw[decide_eq_true (by omega),decide_eq_true (by omega)];rfl
theorem vL (l:List (List UInt8)):AO.BJ (l.map fun n=>[AV.str n])=true:=by
 induction l with
 |nil=>rfl
 |cons a r ih=>simp only[List.map_cons,AO.BJ,AO.Ad,AO,ih,Bool.true_and]
theorem He {α:Type}(p:α->Bool)(l:List α){i:Nat}(h:i<l.length):(l.drop i).any p=(p l[i]||(l.drop (i+1)).any p):=by
 rw[List.drop_eq_getElem_cons h,List.any_cons]
theorem Qs (l:List (List UInt8))(x:List UInt8)(hl:l.length<=limE):∀(n i:Nat),l.length-i=n->i<=l.length->∃z:Int,decide (z>=0)=(l.drop i).any (·==x)/\
  AF cfg 126 (AB Tryz.f126) (AK Tryz.prog Tryz.f126 (.int .i64 z)) [.code [0,1,0,1],.block 0,.code [1,1]] .normal [(0,true,.sl 1 (l.map fun n=>[.str n]) none),(1,true,.str x),(7,true,.int .i64 l.length),(8,true,.int .i64 i)] []
 |0,i,hn,hi=>by
  refine⟨-1,?_,YA LP (AA (fun a=> ?_) fun _=>rfl)⟩
  ·rw[List.drop_of_length_le (by omega)];rfl
  ·simp at a;omega
 |n+1,i,hn,hi=>by
  have BC:i<l.length:=by omega
  by_cases hx:l[i]=x
  ·refine⟨i,?_,YA LP (AA (fun a=>AD ?_ ⟨l[i],Dq _ l BC,AA (fun _=>rfl) fun b=> ?_⟩) fun a=> ?_)⟩
   ·rw[He _ _ BC,decide_eq_true (by omega)];simp[hx]
   ·rw[List.length_map,CF BC];rfl
   ·simp[hx] at b
   ·simp at a;omega
  ·obtain⟨z,hz,hr⟩:=Qs l x hl n (i+1) (by omega) (by omega)
   refine⟨z,?_,YA LP (AA (fun a=>AD ?_ ⟨l[i],Dq _ l BC,AA (fun b=> ?_) fun b=> ?_⟩) fun a=> ?_)⟩
   ·rw[hz,He _ _ BC];simp[hx]
   ·rw[List.length_map,CF BC];rfl
   ·simp at b;exact absurd b.symm hx
   ·rw[Eg (by omega)];exact hr
   ·simp at a;omega
theorem yG :CR cfg 126 gr:=by
 refine Ax nU fun vs h K ht=> ?_
 obtain⟨l,x,rfl,hl,hk⟩:=ht
 obtain⟨z,hz,hr⟩:=Qs l x hl l.length 0 (by omega) (by omega)
 refine⟨_,hk z hz,t88 LP ?_⟩;rw[List.length_map];exact hr
theorem yJ :CR cfg 101 oC:=by
 refine Ax nW fun vs h K ht=> ?_
 obtain⟨l,x,rfl,hl,hk⟩:=ht
 exact⟨_,hk,t72 (AY (AH yG AM)) ⟨l,x,by rw[As 0 [] _ (vL l)],hl,fun z hz=>by rw[hz]⟩⟩
theorem HX (s:List UInt8)(a j:Nat):s.getD (a+j) 0=(s.drop a).getD j 0:=by
 simp[List.getD_eq_getElem?_getD,List.getElem?_drop]
theorem X6 {p:UInt8->Bool}:∀(l:List UInt8) (j:Nat),j<(l.takeWhile p).length->j<l.length/\p (l.getD j 0)=true
 |[],j,h=>by simp at h
 |c::r,j,h=>by
  cases hc:p c with
  |false=>simp[List.takeWhile_cons,hc] at h
  |true=>
   simp only[List.takeWhile_cons,hc,if_true,List.length_cons] at h
   cases j with
   |zero=>exact⟨by simp,by simpa using hc⟩
   |succ j=>
    obtain⟨h1,h2⟩:=X6 (p:=p) r j (by omega)
    exact⟨by simp;omega,by simpa using h2⟩
theorem eL {p:UInt8->Bool}:∀(l:List UInt8),(l.takeWhile p).length<l.length->p (l.getD (l.takeWhile p).length 0)=false
 |[],h=>by simp at h
 |c::r,h=>by
  cases hc:p c with
  |false=>simp[List.takeWhile_cons,hc]
  |true=>
   simp only[List.takeWhile_cons,hc,if_true,List.length_cons] at h⊢
   have:=eL (p:=p) r (by omega)
   simpa using this
theorem Wl {s:List UInt8}{a b:Nat}(h1:a<=b)(h2:b<a+lets s a):b<s.length/\OK (s.getD b 0)=true:=by
 obtain⟨j,rfl⟩:∃j,b=a+j:=⟨b-a,by omega⟩
 unfold lets at h2
 obtain⟨k1,k2⟩:=X6 (p:=OK) (s.drop a) j (by omega)
 rw[List.length_drop] at k1
 exact⟨by omega,by rw[HX];exact k2⟩
theorem ak {s:List UInt8}{a:Nat}(h:a+lets s a<s.length):OK (s.getD (a+lets s a) 0)=false:=by
 rw[HX]
 exact eL (p:=OK) (s.drop a) (by unfold lets at h;rw[List.length_drop];omega)
theorem fj {s:List UInt8}{a b:Nat}(h1:a<=b)(h2:b<past s a):b<s.length/\blB (s.getD b 0)=true:=by
 obtain⟨j,rfl⟩:∃j,b=a+j:=⟨b-a,by omega⟩
 unfold past at h2
 obtain⟨k1,k2⟩:=X6 (p:=blB) (s.drop a) j (by omega)
 rw[List.length_drop] at k1
 exact⟨by omega,by rw[HX];exact k2⟩
theorem kF {s:List UInt8}{a:Nat}(h:past s a<s.length):blB (s.getD (past s a) 0)=false:=by
 unfold past at h⊢;rw[HX]
 exact eL (p:=blB) (s.drop a) (by rw[List.length_drop];omega)
theorem Kh {s:List UInt8}{b:Nat}:[AV.int IntKind.u8 ((s.getD ((b:Int).toNat) 0).toNat:Int)]=[AV.int IntKind.u8 ((s.getD b 0).toNat:Int)]:=by rw[Int.toNat_natCast]
theorem HZ (s:List UInt8){a b:Nat}(h:a<=b)(hb:b<=s.length):Dh s (some (a:Int)) (some (b:Int))=cut s a b/\CL s.length (some (a:Int)) (some (b:Int))=true:=by
 refine⟨?_,?_⟩
 ·simp only[Dh,Int.toNat_natCast,cut];rw[List.drop_take]
 ·simp only[CL]
  rw[decide_eq_true (by omega),decide_eq_true (by omega),decide_eq_true (by omega)];rfl
theorem w8 :BV cfg 116 Tryz.f116:=(by refine⟨?_,?_,?_,?_,?_,?_⟩<;>kernel_rfl)
theorem xG :BV cfg 88 Tryz.f88:=(by refine⟨?_,?_,?_,?_,?_,?_⟩<;>kernel_rfl)
theorem eX :AL cfg (Ac [(118,Ji)]):=AY (AH zV AM)
theorem ee :AL cfg (Ac [(58,N7)]):=AY (AH zc AM)
theorem gP {K:AV->Hp->Prop}{s:List UInt8}{a:Nat}{L:List (List AV)}{hid:Int}(Bk:Am.Ef [] L)(ha:a<=s.length)(hs:s.length<=limE)(hk:K (.str ((s.drop a).take (lets s a))) (hX s ((a+lets s a:Nat):Int) L hid)):
  ∀(n b:Nat),a+lets s a-b=n->a<=b->b<=a+lets s a->AF cfg 116 (AB Tryz.f116) (AX Tryz.prog Tryz.f116 6 K) [.code [0,0,1,1],.block 0,.code [1,1,1]] .normal [(0,true,.ptr 5 0),(3,true,.int .i64 a)] (hX s (b:Nat) L hid)
 |0,b,hn,h1,h2=>by
  have hb:b=a+lets s a:=by omega
  subst hb
  have hle:a+lets s a<=s.length:=by have:=GR s a;omega
  obtain⟨e1,e2⟩:=HZ s (show a<=a+lets s a by omega) hle
  have hL:=fun g=>(Bk 6 g (by simp)).2
  have e3:cut s a (a+lets s a)=(s.drop a).take (lets s a):=Fh;rw[<-e3] at hk
  refine ql eX (AA (fun x=>AD (CF (by simp at x;omega)) ⟨s.getD (a+lets s a) 0,Kh,AA (fun y=> ?_) fun y=>AD e2 ?_⟩) fun x=>AD e2 ?_)
  ·rw[ak (by simp at x;omega)] at y;cases y
  ·rw[e1,hL];exact hk
  ·rw[e1,hL];exact hk
 |n+1,b,hn,h1,h2=>by
  obtain⟨k1,k2⟩:=Wl h1 (show b<a+lets s a by omega)
  refine ql eX (AA (fun x=>AD (CF k1) ⟨s.getD b 0,Kh,AA (fun y=> ?_) fun y=> ?_⟩) fun x=> ?_)
  ·rw[Eg (by omega)]
   exact gP Bk ha hs hk n (b+1) (by omega) (by omega) (by omega)
  ·rw[k2] at y;cases y
  ·simp at x;omega
theorem c78 :CR cfg 116 eH:=by
 refine BD w8 fun vs h K ht=> ?_
 obtain⟨s,a,L,hid,Bk,ha,hs,rfl,rfl,hk⟩:=ht
 exact t78 eX (gP Bk ha hs hk _ a rfl (by omega) (by omega))
theorem gR {K:AV->Hp->Prop}{r:Hp}{s:List UInt8}{a:Nat}{L:List (List AV)}{hid:Int}(Bk:Am.Ef r L)(ha:a<=s.length)(hs:s.length<=limE)(hk:K (.int .i64 ((past s a-a:Nat):Int)) (hX s ((past s a:Nat):Int) L hid++r)):
  ∀(n b:Nat),past s a-b=n->a<=b->b<=past s a->AF cfg 88 (AB Tryz.f88) (AX Tryz.prog Tryz.f88 (hX s (b:Nat) L hid++r).length K) [.code [0,0,1,1],.block 0,.code [1,1,1]] .normal [(0,true,.ptr 5 0),(3,true,.int .i64 a)] (hX s (b:Nat) L hid++r)
 |0,b,hn,h1,h2=>by
  have hb:b=past s a:=by omega
  subst hb;have hle:=Hs ha
  have hN:=fun g=>Bk (hX s ((past s a:Nat):Int) L hid++r).length g (by simp[hX];omega)
  have pD:=fun g=>(hN g).1
  have pC:=fun g=>(hN g).2
  have ew:IntKind.wrap .i64 ((past s a:Int)-(a:Int))=((past s a-a:Nat):Int):=by
   unfold limE at hs
   rw[BG]<;>omega
  have fin:K (.int .i64 (IntKind.wrap .i64 ((past s a:Int)-(a:Int)))) (Blk.grow 0 6 50::Blk.mem 41 [AV.sl 6 [] (some 0)]::Blk.mem 3 [AV.int .i64 0]::Blk.mem 27 [AV.int .i64 0]::Blk.grow (List.length L) 6 50::Blk.mem 89 [AV.str s,AV.int .i64 (past s a:Nat),AV.sl 6 L (some 4),AV.int .i64 hid]::r):=by rw[ew];exact hk
  refine qn ee (AA (fun x=>AD (CF (by simp at x;omega)) ⟨s.getD (past s a) 0,Kh,AA (fun y=> ?_) fun y=> ?_⟩) fun x=> ?_)
  ·rw[kF (by simp at x;omega)] at y;cases y
  ·simp only[List.append_eq,List.nil_append,List.take_length,pD,pC];exact fin
  ·simp only[List.append_eq,List.nil_append,List.take_length,pD,pC];exact fin
 |n+1,b,hn,h1,h2=>by
  obtain⟨k1,k2⟩:=fj h1 (show b<past s a by omega)
  refine qn ee (AA (fun x=>AD (CF k1) ⟨s.getD b 0,Kh,AA (fun y=> ?_) fun y=> ?_⟩) fun x=> ?_)
  ·rw[Eg (by omega)]
   exact gR Bk ha hs hk n (b+1) (by omega) (by omega) (by omega)
  ·rw[k2] at y;cases y
  ·simp at x;omega
theorem c59 :CR cfg 88 rP:=by
 refine BD xG fun vs h K ht=> ?_
 obtain⟨r,s,a,L,hid,Bk,ha,hs,rfl,rfl,hk⟩:=ht
 exact t59 ee (gR Bk ha hs hk _ a rfl (by omega) (Hs ha).1)
theorem tK :CR cfg 88 QG:=by
 intro l h K ht;refine c59 l h K ?_;obtain⟨s,a,L,hid,k,nm,l',Bk,ha,hs,e1,e2,hk⟩:=ht;exact⟨rT k nm (encAs l'),s,a,L,hid,Bk,ha,hs,e1,e2,hk⟩
theorem xF :BV cfg 89 Tryz.f89:=(by refine⟨?_,?_,?_,?_,?_,?_⟩<;>kernel_rfl)
theorem xD :BV cfg 91 Tryz.f91:=(by refine⟨?_,?_,?_,?_,?_,?_⟩<;>kernel_rfl)
theorem xH :BV cfg 87 Tryz.f87:=(by refine⟨?_,?_,?_,?_,?_,?_⟩<;>kernel_rfl)
theorem wz :BV cfg 119 Tryz.f119:=(by refine⟨?_,?_,?_,?_,?_,?_⟩<;>kernel_rfl)
theorem oo :BV cfg 99 Tryz.f99:=(by refine⟨?_,?_,?_,?_,?_,?_⟩<;>kernel_rfl)
theorem oi :BV cfg 125 Tryz.f125:=(by refine⟨?_,?_,?_,?_,?_,?_⟩<;>kernel_rfl)
theorem jX (b:Nat):Nat.blt b 0=false:=rfl
theorem Sb {v:AV}{k:IntKind}{n:Int}(h:strip 0 [] v=.int k n):v=.int k n:=by
 cases v<;>simp_all[strip,jX]
theorem Xg (l:List AV)(p e:Int)(h:B8 cfg 39 l=[.int .i64 p,.int .i64 e]):l=[.int .i64 p,.int .i64 e]:=by
 have hh:((cfg.Cr 39).isSome||cfg.heap 39)=false:=by kernel_rfl
 unfold B8 at h;rw[hh] at h;simp only at h
 cases l with
 |nil=>cases h
 |cons x l=>
  cases l with
  |nil=>simp[AQ] at h
  |cons y l=>
   cases l with
   |cons z l=>simp[AQ] at h
   |nil=>
    simp only[AQ,List.cons.injEq,and_true] at h;rw[Sb h.1,Sb h.2]
theorem lM :Jg cfg Dp 39 Cq:=by
 intro l h K KP ht;obtain⟨p,e,hl,hk⟩:=ht;have Ju:=Xg l p e hl;refine .inr ⟨1,(p,e),h,?_,hk⟩;simp only[OB];refine .inl ⟨?_,trivial⟩;rw[Ju];rfl
theorem uR :B9 cfg Dp (Dr [] [(39,Cq)]):=Fi AM (BU lM FR)
theorem uC :Jg cfg Dp 89 IW:=by
 refine FI xF fun vs h K KP ht=> ?_
 obtain⟨r,s,a,L,hid,tag,Bk,ha,hs,rfl,rfl,h1,h2⟩:=ht
 have hN:=fun g=>Bk (hX s (a:Nat) L hid++r).length g (by simp[hX];omega)
 have pD:=fun g=>(hN g).1
 have pC:=fun g=>(hN g).2
 refine t60 uR (AA (fun x=>⟨tag,14,rfl,?_⟩) fun x=>AD (CF (by simp at x;omega)) ?_)
 ·simp only[List.append_eq,List.nil_append,List.take_length,pD,pC]
  exact h1 (by simp at x;omega)
 ·simp only[List.append_eq,List.nil_append,List.take_length,pD,pC,Int.toNat_natCast]
  exact h2 (by simp at x;omega)
theorem qa :B9 cfg Dp (Dr [] [(39,Cq),(89,IW)]):=Fi AM (BU lM (BU uC FR))
theorem zX :Jg cfg Dp 91 re:=by
 refine FI xD fun vs h K KP ht=> ?_
 obtain⟨r,s,a,L,hid,tag,is,Bk,ha,hs,rfl,rfl,h1,h2,h3⟩:=ht
 have hN:=fun g=>Bk (hX s (a:Nat) L hid++r).length g (by simp[hX];omega)
 have pD:=fun g=>(hN g).1
 have pC:=fun g=>(hN g).2
 refine t62 qa ?_;simp only[List.append_eq,List.nil_append,List.take_length,pD,pC]
 refine⟨r,s,a,L,hid,tag,Bk,ha,hs,rfl,rfl,fun x=>h1 x,fun x=>AA (fun y=>⟨a,12,rfl,?_⟩) fun y=> ?_⟩
 ·exact h2 x (by simpa using y)
 ·rw[Eg (by omega)]
  exact h3 x (by simpa using y)
theorem yM :Jg cfg Dp 91 WT:=by
 intro l h K KP ht;refine zX l h K KP ?_;obtain⟨s,a,L,hid,k,tag,nm,l',is,Bk,ha,hs,e1,e2,hk⟩:=ht;exact⟨rT k nm (encAs l'),s,a,L,hid,tag,is,Bk,ha,hs,e1,e2,hk⟩
theorem yN :Jg cfg Dp 91 WU:=by
 intro l h K KP ht;refine zX l h K KP ?_;obtain⟨s,a,L,hid,k,tag,nm,l',an,av,aa,is,Bk,ha,hs,e1,e2,hk⟩:=ht;exact⟨rA k nm (encAs l') an av aa,s,a,L,hid,tag,is,Bk,ha,hs,e1,e2,hk⟩
theorem qb :B9 cfg Dp (Dr [(116,eH),(117,U5),(101,oC)] [(39,Cq)]):=Fi (AH c78 (AH c79 (AH yJ AM))) (BU lM FR)
theorem zY :Jg cfg Dp 87 Qo:=by
 refine FI xH fun vs h K KP ht=> ?_
 obtain⟨s,a,L,hid,tag,Bk,ha,hs,rfl,rfl,h1,h2⟩:=ht
 have hL:=fun g=>(Bk 6 g (by simp)).2
 refine t58 qb ⟨s,a,L,hid,Bk,ha,hs,rfl,rfl,_,rfl,rfl,LQ,_,rfl,by decide,?_⟩
 simp only[hL]
 refine AA (fun x=>⟨tag,11,rfl,?_⟩) fun x=> ?_
 ·exact h1 (by simpa[CX] using x) _ L hid
 ·exact h2 (by simpa[CX] using x)
theorem Jk (l:List Ak):AO.BJ (encAs l)=true:=by
 unfold encAs
 induction l with
 |nil=>rfl
 |cons a r ih=>simp only[List.map_cons,Ao,AO.BJ,AO.Ad,AO,ih,Bool.true_and]
theorem B7 (n:Nat)(g:Hp)(l:List Ak):AE n g (encAs l)=encAs l:=As _ _ _ (Jk l)
theorem Ue {k:Int}{nm:List UInt8}{es:List (List AV)}{an av:List UInt8}{aa:Int}{L:List (List AV)}(h:Am.Ef (rA k nm es an av aa) L){n:Nat}(hn:11<=n)(g:Hp):AE n g es=es/\AE n g L=L:=by
 obtain⟨h1,h2⟩:=h n g hn;refine⟨?_,h2⟩;simp only[rA,rT,List.cons_append,List.nil_append,List.map_cons,List.cons.injEq] at h1;have:=h1.2.2.1;simp only[AN,AQ,strip,Blk.mem.injEq,List.cons.injEq,AV.sl.injEq] at this;exact this.2.2.2.1.2.1
theorem c81 :CR cfg 119 T8:=by
 refine BD wz fun vs h K ht=> ?_
 obtain⟨s,a,L,hid,k,nm,es,an,av,aa,b,Bk,rfl,rfl,hk⟩:=ht
 have hN:=fun g=>Ue Bk (Nat.le_refl 11) g
 refine t81 LP ?_
 simp only[fun g=>(hN g).1,fun g=>(hN g).2]
 exact hk
theorem eW :AL cfg (Ac [(119,T8)]):=AY (AH c81 AM)
theorem Qt {K:AV->Hp->Prop}{s:List UInt8}{a:Int}{L:List (List AV)}{hid k:Int}{nm:List UInt8}{l:List Ak}{an av:List UInt8}{aa:Int}(Bk:Am.Ef (rA k nm (encAs l) an av aa) L)(hl:l.length<=limE)
  (hk:∀z:Int,decide (z>=0)=(l.any fun b=>an==b.name)->K (.int .i64 z) (ie s a L hid k nm (encAs l) an av aa)):
  ∀(n i:Nat),l.length-i=n->i<=l.length->(l.take i).any (fun b=>an==b.name)=false->AF cfg 125 (AB Tryz.f125) (AX Tryz.prog Tryz.f125 11 K) [.code [0,1,0,1],.block 0,.code [1,1]] .normal [(0,true,.sl 3 (encAs l) (some 6)),(1,true,.fn (.func 119) [] [.ptr 10 0]),(7,true,.int .i64 l.length),(8,true,.int .i64 i)] (ie s a L hid k nm (encAs l) an av aa)
 |0,i,hn,hi,hp=>by
  have hN:=fun g=>Ue Bk (Nat.le_refl 11) g
  refine er eW ?_
  simp only[fun g=>(hN g).1,fun g=>(hN g).2]
  refine AA (fun x=> ?_) fun x=>hk (-1) ?_
  ·simp at x;omega
  ·rw[List.take_of_length_le (by omega)] at hp;rw[hp];rfl
 |n+1,i,hn,hi,hp=>by
  have hN:=fun g=>Ue Bk (Nat.le_refl 11) g
  have BC:i<l.length:=by omega
  refine er eW ?_
  simp only[fun g=>(hN g).1,fun g=>(hN g).2]
  refine AA (fun x=>AD ?_ ⟨l[i].name,l[i].value,l[i].at',Dq _ l BC,s,a,L,hid,k,nm,encAs l,an,av,aa,l[i],Bk,rfl,rfl,AA (fun y=>hk i ?_) fun y=> ?_⟩) fun x=> ?_
  ·rw[show(encAs l).length=l.length by simp[encAs],CF BC];rfl
  ·rw[decide_eq_true (by omega)]
   exact(List.any_eq_true.2 ⟨l[i],List.getElem_mem BC,y⟩).symm
  ·rw[Eg (by omega)]
   refine Qt Bk hl hk n (i+1) (by omega) (by omega) ?_
   rw[List.take_succ_eq_append_getElem BC,List.any_append,hp];simpa using y
  ·simp at x;omega
theorem yH :CR cfg 125 mR:=by
 refine BD oi fun vs h K ht=> ?_
 obtain⟨s,a,L,hid,k,nm,l,an,av,aa,Bk,rfl,hl,rfl,hk⟩:=ht;refine t87 eW ?_
 have:=Qt Bk hl hk _ 0 rfl (by omega) rfl
 rw[show l.length=(encAs l).length by simp[encAs]] at this
 exact this
theorem yK :CR cfg 99 jC:=by
 refine BD oo fun vs h K ht=> ?_
 obtain⟨s,a,L,hid,k,nm,l,an,av,aa,Bk,rfl,hl,rfl,hk⟩:=ht
 have hN:=fun g=>Ue Bk (Nat.le_refl 11) g
 refine t70 (AY (AH yH AM)) ?_
 simp only[fun g=>(hN g).1,fun g=>(hN g).2]
 refine⟨s,a,L,hid,k,nm,l,an,av,aa,Bk,rfl,hl,rfl,fun z hz=> ?_⟩
 rw[hz];exact hk
theorem ot :BV cfg 61 Tryz.f61:=(by refine⟨?_,?_,?_,?_,?_,?_⟩<;>kernel_rfl)
theorem xO :BV cfg 60 Tryz.f60:=(by refine⟨?_,?_,?_,?_,?_,?_⟩<;>kernel_rfl)
theorem xV :BV cfg 38 Tryz.f38:=(by refine⟨?_,?_,?_,?_,?_,?_⟩<;>kernel_rfl)
theorem xW :BV cfg 37 Tryz.f37:=(by refine⟨?_,?_,?_,?_,?_,?_⟩<;>kernel_rfl)
theorem Ho (n:Nat)(g:Hp):∀(a b:List (List AV)),AE n g (a++b)=AE n g a++AE n g b
 |[],b=>rfl
 |x::a,b=>by rw[List.cons_append,AE,AE,Ho n g a b];rfl
theorem nR (l:List Tok):AO.BJ (encTs l)=true:=by
 unfold encTs
 induction l with
 |nil=>rfl
 |cons a r ih=>simp only[List.map_cons,encT,AO.BJ,AO.Ad,AO,ih,Jk,Option.isNone_none,Bool.true_and,Bool.and_true]
theorem CE (n:Nat)(g:Hp)(l:List Tok):AE n g (encTs l)=encTs l:=As _ _ _ (nR l)
theorem yb (l:List Tok):Am.Ef [] (encTs l):=fun n g _=>⟨rfl,CE n g l⟩
theorem vn (l:List Tok):Am.Ef [.grow 0 3 80] (encTs l):=fun n g _=>⟨rfl,CE n g l⟩
theorem lN {n:Nat}(h:9<=n):Nat.blt 6 n=true:=Nat.ble_eq_true_of_le (by omega)
theorem KK {n:Nat}(g:Hp){L:List (List AV)}(hL:AE n g L=L){k fr to:Int}{nm t:List UInt8}{es:List (List AV)}(he:AE n g es=es){id:Nat}(hi:Nat.blt id n=true):
  AE n g (L++[[.int .i64 k,.str nm,.sl 3 es (some id),.str t,.int .i64 fr,.int .i64 to]])=L++[[.int .i64 k,.str nm,.sl 3 es (some id),.str t,.int .i64 fr,.int .i64 to]]:=by
 rw[Ho,hL];simp only[AE,AQ,strip,he,hi,cond_true]
theorem F8 {n:Nat}(g:Hp){L:List (List AV)}(hL:AE n g L=L){k fr to:Int}{nm t:List UInt8}{es:List (List AV)}(he:AE n g es=es){id:Nat}(hi:Nat.blt id n=false):
  AE n g (L++[[.int .i64 k,.str nm,.sl 3 es (some id),.str t,.int .i64 fr,.int .i64 to]])=L++[[.int .i64 k,.str nm,.sl 3 es none,.str t,.int .i64 fr,.int .i64 to]]:=by
 rw[Ho,hL];simp only[AE,AQ,strip,he,hi,cond_false]
theorem CN {α:Type}(L:List α)(x:α):(L++[x]).length=L.length+1:=by simp
theorem M6 {h:Hp}{n:Nat}(e:h[4]?=some (.grow n 6 50)):E7 h n 6 50 (some 4)=true:=by
 simp only[E7,e,Nat.beq_refl,Bool.and_self]
theorem tP :CR cfg 61 Tq:=by
 refine BD ot fun vs h K ht=> ?_
 obtain⟨s,a,fr,L,hid,k,Bk,ha,hs,hf,hl,rfl,rfl,hk⟩:=ht;obtain⟨e1,e2⟩:=HZ s hf ha
 have hL:=fun g=>(Bk 7 g (Nat.le_refl _)).2
 refine ud LP (AD e2 (AD ?_ ?_))
 ·rw[M6 rfl,decide_eq_true (by unfold limE at hl;omega)];rfl
 ·rw[KK _ (hL _) rfl rfl,e1];unfold hG at hk;rw[CN] at hk;exact hk
theorem tO :CR cfg 61 Rv:=by
 refine BD ot fun vs h K ht=> ?_
 obtain⟨s,a,fr,L,hid,k,nm,l,Bk,ha,hs,hf,hl,rfl,rfl,hk⟩:=ht;obtain⟨e1,e2⟩:=HZ s hf ha
 have hL:=fun g=>(Bk 9 g (Nat.le_refl _)).2
 refine ub LP (AD e2 (AD ?_ ?_))
 ·rw[M6 rfl,decide_eq_true (by unfold limE at hl;omega)];rfl
 ·rw[KK _ (hL _) (B7 _ _ _) rfl,e1,B7];unfold PM at hk;rw[CN] at hk;exact hk
theorem yO :CR cfg 61 jg:=by
 refine BD ot fun vs h K ht=> ?_
 obtain⟨s,a,fr,L,hid,k,nm,l,Bk,ha,hs,hf,hl,rfl,rfl,hk⟩:=ht;obtain⟨e1,e2⟩:=HZ s hf ha
 have hL:=fun g=>(Bk 10 g (Nat.le_refl _)).2
 refine uc LP (AD e2 (AD ?_ ?_))
 ·rw[M6 rfl,decide_eq_true (by unfold limE at hl;omega)];rfl
 ·rw[KK _ (hL _) rfl rfl,e1,B7];unfold qM at hk;rw[CN] at hk;exact hk
theorem HG (l m:List Tok):encTs (l++m)=encTs l++encTs m:=by unfold encTs;rw[List.map_append]
theorem HF (l:List Tok):(encTs l).length=l.length:=by simp[encTs]
theorem wrap_add {a b:Nat}(h:a+b<=2*limE):IntKind.wrap .i64 ((a:Int)+(b:Int))=((a+b:Nat):Int):=by
 unfold limE at h;rw[BG]<;>omega
theorem ed :AL cfg (Ac [(61,Tq)]):=AY (AH tP AM)
theorem c41 :CR cfg 60 QH:=by
 refine BD xO fun vs h K ht=> ?_
 obtain⟨s,a,l,hid,ha,hs,hl,rfl,rfl,hk⟩:=ht
 have e3:IntKind.wrap .i64 ((a:Int)+3)=((a+3:Nat):Int):=wrap_add (b:=3) (by omega)
 refine t41 ed ⟨s,a+3,a,encTs l,-1,6,vn l,ha,hs,by omega,by rw[HF];exact Nat.le_trans hl hs,rfl,by rw[e3],?_⟩
 rw[HG] at hk;unfold row;rw[F8 _ (CE _ _ _) rfl rfl,CN];unfold hX at hk
 rw[show encTs [(⟨6,[],[],cut s a (a+3),a,a+3⟩:Tok)]=[row 6 [] [] none (cut s a (a+3)) a ((a+3:Nat):Int)] from rfl,CN] at hk
 exact hk
theorem c24 :CR cfg 38 Py:=by
 refine BD xV fun vs h K ht=> ?_
 obtain⟨s,fr,a,l,hid,hf,ha,hs,hl,rfl,rfl,hk⟩:=ht
 refine t24 ed (AA (fun x=>⟨s,a,fr,encTs l,hid,1,vn l,ha,hs,hf,by rw[HF];exact Nat.le_trans hl hs,rfl,rfl,?_⟩) fun x=> ?_)
 ·have BC:fr<a:=by simp at x;omega
  rw[DU,if_pos BC,HG] at hk;unfold row;rw[F8 _ (CE _ _ _) rfl rfl,CN];unfold hX at hk
  rw[show encTs [(⟨1,[],[],cut s fr a,fr,a⟩:Tok)]=[row 1 [] [] none (cut s fr a) fr a] from rfl,CN] at hk
  exact hk
 ·have BC:¬fr<a:=by simp at x;omega
  rw[DU,if_neg BC,List.append_nil] at hk;rw[CE];exact hk
theorem Rf (s:List UInt8){a:Nat}(h:a<=s.length):Dh s (some (a:Int)) none=s.drop a/\CL s.length (some (a:Int)) none=true:=by
 refine⟨by simp only[Dh,Int.toNat_natCast],?_⟩
 simp only[CL]
 rw[decide_eq_true (by omega),decide_eq_true (by omega)];rfl
theorem qh :AL cfg (Ac [(55,Ex.V5),(58,N7)]):=AY (AH c36 (AH zc AM))
theorem tQ :CR cfg 37 sw:=by
 refine BD xW fun vs h K ht=> ?_
 obtain⟨s,a,l,hid,ha,hs,rfl,rfl,hk⟩:=ht;obtain⟨e1,e2⟩:=Rf s ha;refine t23 qh (AD e2 ?_);rw[e1];simp only[CE]
 have hh:EY s a=(Cf.isPrefixOf (s.drop a)&&(decide (((s.drop a).length:Int)>7)&&blB ((s.drop a).getD 7 0))):=by
  unfold EY has;rw[<-HX,List.length_drop]
  congr 2
  rw[decide_eq_decide];omega
 have tail:EY s a=false->has s Al a=false->has s Ab a=false->∃(s8 x9:List UInt8),[AV.str (s.drop a),AV.str [45,45,62]]=[AV.str s8,AV.str x9]/\Ap (x9.isPrefixOf s8) (Ap (decide (hid>=0)) (K (.fn (.func 60) [.ptr 5 0] []) (hX s a (encTs l) hid)) (K .HO (hX s a (encTs l) hid))) (K .HO (hX s a (encTs l) hid)):=by
  intro h3 h1 h2
  refine⟨s.drop a,BS,rfl,AA (fun x=>AA (fun y=> ?_) fun y=> ?_) fun x=> ?_⟩
  all_goals
   have x':has s BS a=_:=x;simp only[TR,h1,h2,h3,x',Bool.false_eq_true,if_false,Bool.true_and,Bool.false_and] at hk
   first|(rw[if_pos (by simpa using y)] at hk;exact hk)|(rw[if_neg (by simpa using y)] at hk;exact hk)|exact hk
 refine⟨s.drop a,Al,rfl,AA (fun x=> ?_) fun h1=>⟨s.drop a,Ab,rfl,AA (fun x=> ?_) fun h2=>⟨s.drop a,Cf,rfl,AA (fun h3=>AA (fun h4=>AD ?_ ⟨(s.drop a).getD 7 0,rfl,AA (fun h5=> ?_) fun h5=> ?_⟩) fun h4=> ?_) fun h3=> ?_⟩⟩⟩
 ·rw[TR,if_pos (show has s Al a=true from x)] at hk;exact hk
 ·rw[TR,if_neg (by rw[show has s Al a=false from h1];simp),if_pos (show has s Ab a=true from x)] at hk;exact hk
 ·exact CF (i:=7) (by simp at h4⊢;omega)
 ·rw[TR,if_neg (by rw[show has s Al a=false from h1];simp),if_neg (by rw[show has s Ab a=false from h2];simp),if_pos (by rw[hh,h3,h4,h5];rfl)] at hk;exact hk
 ·exact tail (by rw[hh,h3,h4,h5];rfl) h1 h2
 ·exact tail (by rw[hh,h3,h4];rfl) h1 h2
 ·exact tail (by rw[hh,h3];rfl) h1 h2
theorem xP :BV cfg 59 Tryz.f59:=(by refine⟨?_,?_,?_,?_,?_,?_⟩<;>kernel_rfl)
theorem xC :BV cfg 92 Tryz.f92:=(by refine⟨?_,?_,?_,?_,?_,?_⟩<;>kernel_rfl)
theorem xQ :BV cfg 57 Tryz.f57:=(by refine⟨?_,?_,?_,?_,?_,?_⟩<;>kernel_rfl)
theorem qe :B9 cfg Dp (Dr [(61,Tq)] [(39,Cq)]):=Fi (AH tP AM) (BU lM FR)
theorem c40 :Jg cfg Dp 59 RD:=by
 refine FI xP fun vs h K KP ht=> ?_
 obtain⟨s,a,l,hid,ha,hs,hl,rfl,rfl,h1,h2⟩:=ht
 have e3:IntKind.wrap .i64 ((a:Int)+8)=((a+8:Nat):Int):=wrap_add (b:=8) (by omega)
 refine t40 qe (AA (fun x=>⟨a,13,rfl,?_⟩) fun x=>⟨s,a+8,a,encTs l,a,5,vn l,ha,hs,by omega,by rw[HF];exact Nat.le_trans hl hs,rfl,by rw[e3],?_⟩)
 ·rw[CE]
  exact h1 (by simpa using x) _ _ hid
 ·have hk:=h2 (by simp at x;omega)
  rw[HG] at hk;unfold row;rw[F8 _ (CE _ _ _) rfl rfl,CN];unfold hX at hk
  rw[show encTs [(⟨5,[],[],cut s a (a+8),a,a+8⟩:Tok)]=[row 5 [] [] none (cut s a (a+8)) a ((a+8:Nat):Int)] from rfl,CN] at hk
  exact hk
theorem a8 :∀(s x:List UInt8) (i:Nat),JY s x i=match Cx x s with|some n=>((n+i:Nat):Int)|none=> -1
 |[],x,i=>by cases x<;>simp[JY,Cx]
 |c::r,x,i=>by
  rw[JY,Cx]
  cases h:x.isPrefixOf (c::r) with
  |true=>simp
  |false=>
   simp only[Bool.false_eq_true,if_false];rw[a8 r x (i+1)]
   cases Cx x r with
   |none=>rfl
   |some n=>simp only[Option.map_some];congr 1;omega
theorem Wt (s x:List UInt8):JY s x 0=match Cx x s with|some n=>(n:Int)|none=> -1:=by
 rw[a8]
 cases Cx x s<;>rfl
theorem qZ :B9 cfg Dp (Dr [(61,jg),(84,dC)] [(39,Cq)]):=Fi (AH yO (AH c74 AM)) (BU lM FR)
theorem cn {k:Int}{nm:List UInt8}{l:List Ak}{L:List (List AV)}(hL:∀n g,9<=n->AE n g L=L):Am.Ef (rT k nm (encAs l)) L:=fun n g hn=>by
 refine⟨?_,hL n g hn⟩;simp only[rT,List.map_cons,List.map_nil,AN,AQ,strip,B7,lN hn,cond_true]
theorem vm {k:Int}{nm:List UInt8}{l:List Ak}{L:List (List AV)}(hL:∀n g,9<=n->AE n g L=L):Am.Ef (rT k nm (encAs l)++[.grow 0 3 80]) L:=fun n g hn=>by
 simp only[rT,List.cons_append,List.nil_append,List.length_cons,List.length_nil] at hn
 refine⟨?_,hL n g (by omega)⟩
 simp only[rT,List.cons_append,List.nil_append,List.map_cons,List.map_nil,AN,AQ,strip,B7,lN (show 9<=n by omega),cond_true]
theorem zx {k:Int}{nm an av:List UInt8}{aa:Int}{l:List Ak}{L:List (List AV)}(hL:∀n g,9<=n->AE n g L=L):Am.Ef (rA k nm (encAs l) an av aa) L:=fun n g hn=>by
 simp only[rA,rT,List.cons_append,List.nil_append,List.length_cons,List.length_nil] at hn
 refine⟨?_,hL n g (by omega)⟩
 simp only[rA,rT,List.cons_append,List.nil_append,List.map_cons,List.map_nil,AN,AQ,strip,B7,lN (show 9<=n by omega),cond_true]
theorem aU {r:Hp}{k:Int}{nm:List UInt8}{l:List Ak}{L:List (List AV)}(h:Am.Ef (rT k nm (encAs l)) L):∀n g,9<=n->AE n g L=L:=fun n g hn=>(h n g hn).2
theorem Ux {x s:List UInt8}{n:Nat}(h:Cx x s=some n):n+x.length<=s.length:=I9 h
theorem c63 :Jg cfg Dp 92 Vx:=by
 refine FI xC fun vs h K KP ht=> ?_
 obtain⟨s,a,tag,L,hid,k,nm,l,Bk,ha,hs,hl,hn,rfl,rfl,h1,h2⟩:=ht;have hL:=aU (r:=[]) Bk;obtain⟨e1,e2⟩:=Rf s ha
 have si:∀n,Cx (Ab++nm) (s.drop a)=some n->(Cx Al ((s.drop a).take n)=none\/nm≠BP)->∃(s9:List UInt8) (dq SM:Nat) (pg:List (List AV)) (iP td:Int) (kS:List UInt8) (po:List Ak),Am.Ef (rT td kS (encAs po)++[Blk.grow 0 3 80]) pg/\dq<=s9.length/\s9.length<=1000000/\SM<=dq/\pg.length<=1000000/\
   [AV.ptr 5 0,AV.agg [.int .i64 7,AV.str [],AV.sl 3 [] (some 9),AV.str [],.int .i64 0,.int .i64 0],.int .i64 (a:Int)]=[AV.ptr 5 0,AV.agg [.int .i64 7,AV.str [],AV.sl 3 [] (some 9),AV.str [],.int .i64 0,.int .i64 0],.int .i64 (SM:Int)]/\
   qM s ((a+n:Nat):Int) L hid k nm (encAs l)=qM s9 dq pg iP td kS (encAs po)/\K (.tup []) [.grow 0 6 50,.mem 41 [.sl 6 [] (some 0)],.mem 3 [.int .i64 0],.mem 27 [.int .i64 0],.grow (pg++[row 7 [] [] (some 9) (cut s9 SM dq) SM dq]).length 6 50,
    .mem 89 [.str s9,.int .i64 dq,.sl 6 (AE 9 [.grow 0 6 50,.mem 41 [.sl 6 [] (some 0)],.mem 3 [.int .i64 0],.mem 27 [.int .i64 0],.grow (pg++[row 7 [] [] (some 9) (cut s9 SM dq) SM dq]).length 6 50,.mem 89 [.str s9,.int .i64 dq,.sl 6 (pg++[row 7 [] [] (some 9) (cut s9 SM dq) SM dq]) (some 4),.int .i64 iP],
     .grow (encAs po).length 3 80,.grow 0 3 80,.mem 50 [.int .i64 td,.str kS,.sl 3 (encAs po) (some 6),.str [],.int .i64 0,.int .i64 0],.grow 0 3 80] (pg++[row 7 [] [] (some 9) (cut s9 SM dq) SM dq])) (some 4),.int .i64 iP],.grow (encAs po).length 3 80,.grow 0 3 80,.mem 50 [.int .i64 td,.str kS,.sl 3 (encAs po) (some 6),.str [],.int .i64 0,.int .i64 0]]:=by
  intro n hf Ip;have hle:=Ux hf;rw[List.length_drop,List.length_append] at hle
  refine⟨s,a+n,a,L,hid,k,nm,l,vm hL,by omega,hs,by omega,hl,rfl,rfl,?_⟩
  have hk:=(h2 n hf).2 Ip;unfold row;rw[F8 _ (hL 9 _ (Nat.le_refl _)) rfl rfl,CN]
  rw[show(s.drop a).take n=cut s a (a+n) from Fh.symm] at hk
  unfold PM row at hk;rw[CN] at hk;exact hk
 refine t63 qZ (AD e2 (AD (decide_eq_true (by unfold limE at hn;omega)) ⟨s.drop a,Ab++nm,by rw[List.length_drop];unfold limE at hs;omega,by rw[e1];rfl,?_⟩))
 simp only[B7,fun g=>hL 9 g (Nat.le_refl 9)]
 rw[Wt]
 cases hf:Cx (Ab++nm) (s.drop a) with
 |none=>exact AA (fun _=>⟨tag,14,rfl,h1 hf _ _ _⟩) fun x=>by simp at x
 |some n=>
  have hle:=Ux hf;rw[List.length_drop,List.length_append] at hle
  have ew:IntKind.wrap .i64 ((a:Int)+(n:Int))=((a+n:Nat):Int):=wrap_add (by omega)
  refine AA (fun x=>by simp at x;omega) fun _=> ?_
  simp only[ew]
  obtain⟨q1,q2⟩:=HZ s (show a<=a+n by omega) (show a+n<=s.length by omega)
  rw[Fh] at q1
  refine AD q2 ⟨(s.drop a).take n,Al,by rw[List.length_take,List.length_drop];unfold limE at hs;omega,by rw[q1];rfl,?_⟩
  rw[Wt]
  cases hj:Cx Al ((s.drop a).take n) with
  |none=>exact AA (fun x=>by simp at x) fun _=>si n hf (.inl hj)
  |some j=>
   have oY:=Ux hj;rw[List.length_take,List.length_drop] at oY
   have ej:IntKind.wrap .i64 ((a:Int)+(j:Int))=((a+j:Nat):Int):=wrap_add (by omega)
   refine AA (fun _=>AA (fun y=>⟨_,13,rfl,?_⟩) fun y=>si n hf (.inr (by simpa[BP] using y))) fun x=>by simp at x
   rw[ej]
   exact(h2 n hf).1 j hj (by simpa[BP] using y) _ _ _
theorem GV (n:Nat)(g:Hp):∀L:List (List AV),(AE n g L).length=L.length
 |[]=>rfl
 |x::r=>by rw[AE,List.length_cons,List.length_cons,GV n g r]
theorem fl {s:List UInt8}{KP:PX->Hp->Prop}{x:PX}(h:KG [] s KP x)(a:Int)(L:List (List AV))(hid:Int)(g:Hp):KP x [.grow 0 6 50,.mem 41 [.sl 6 [] (some 0)],.mem 3 [.int .i64 0],.mem 27 [.int .i64 0],.grow L.length 6 50,.mem 89 [.str s,.int .i64 a,.sl 6 (AE 6 g L) (some 4),.int .i64 hid]]:=by
 have:=h a (AE 6 g L) hid;unfold hX at this;rw[GV] at this;exact this
theorem ft {s:List UInt8}{KP:PX->Hp->Prop}{x:PX}(h:KG [] s KP x)(a:Int)(L:List (List AV))(hid:Int):KP x [.grow 0 6 50,.mem 41 [.sl 6 [] (some 0)],.mem 3 [.int .i64 0],.mem 27 [.int .i64 0],.grow L.length 6 50,.mem 89 [.str s,.int .i64 a,.sl 6 L (some 4),.int .i64 hid]]:=h a L hid
theorem qf :B9 cfg Dp (Dr [(61,Rv),(88,QG)] [(39,Cq),(87,Qo),(89,IW)]):=Fi (AH tO (AH tK AM)) (BU lM (BU zY (BU uC FR)))
theorem VL {s:List UInt8}{b:Nat}{c:UInt8}:(((s.getD b 0).toNat:Int)==(c.toNat:Int))=(s.getD b 0==c):=by
 rw[Bool.eq_iff_iff];simp only[beq_iff_eq];constructor
 ·intro h
  exact UInt8.toNat_inj.1 (by omega)
 ·intro h;rw[h]
theorem JJ (l:List Tok):∀n g,9<=n->AE n g (encTs l)=encTs l:=fun n g _=>CE n g l
theorem c38 :Jg cfg Dp 57 Mi:=by
 refine FI xQ fun vs h K KP ht=> ?_
 obtain⟨s,a,l,hid,hh,ha,hs,hl,rfl,rfl,h1,h2⟩:=ht
 have h6:a+6<=s.length:=GI hh (by decide)
 have e6:IntKind.wrap .i64 ((a:Int)+6)=((a+6:Nat):Int):=wrap_add (b:=6) (by omega)
 refine t38 qf ⟨s,a+6,encTs l,hid,a,yb l,h6,hs,rfl,by rw[e6],fun hk a7 L8 wq=> ?_,fun hk=> ?_⟩
 ·have:CK s a=.error (a,11):=by unfold CK;rw[if_pos hk]
  exact fl (h1 _ _ this) _ _ _ _
 ·have iH:=GR s (a+6)
  have hb:=Hs (s:=s) (a:=a+6+lets s (a+6)) (by omega)
  refine⟨s,a+6+lets s (a+6),encTs l,hid,4,_,[],cn (l:=[]) (JJ l),by omega,hs,rfl,rfl,?_⟩
  refine⟨rT 4 ((s.drop (a+6)).take (lets s (a+6))) (encAs []),s,past s (a+6+lets s (a+6)),encTs l,hid,a,cn (l:=[]) (JJ l),hb.2,hs,rfl,rfl,fun x=> ?_,fun x=>AA (fun y=>⟨a,11,rfl,?_⟩) fun y=> ?_⟩
  ·have:CK s a=.error (a,14):=by unfold CK;simp only[hk,x,Bool.true_eq_false,if_false];simp
   rw[CE];exact ft (h1 _ _ this) _ _ _
  ·have hy:s.getD (past s (a+6+lets s (a+6))) 0≠62:=by
    have:=VL (s:=s) (b:=past s (a+6+lets s (a+6))) (c:=62);simp only[bne,Bool.not_eq_true'] at y
    rw[show((62:UInt8).toNat:Int)=62 from rfl] at this
    rw[this] at y;simpa using y
   have:CK s a=.error (a,11):=by unfold CK;simp only[hk,Bool.true_eq_false,if_false];rw[if_neg (by omega),if_pos hy]
   rw[CE];exact ft (h1 _ _ this) _ _ _
  ·have hy:s.getD (past s (a+6+lets s (a+6))) 0=62:=by
    have:=VL (s:=s) (b:=past s (a+6+lets s (a+6))) (c:=62);simp only[bne,Bool.not_eq_false'] at y
    rw[show((62:UInt8).toNat:Int)=62 from rfl] at this
    rw[this] at y;simpa using y
   have hc:CK s a=.ok ⟨4,(s.drop (a+6)).take (lets s (a+6)),[],cut s a (past s (a+6+lets s (a+6))+1),a,past s (a+6+lets s (a+6))+1⟩:=by
    unfold CK;simp only[hk,Bool.true_eq_false,if_false];rw[if_neg (by omega),if_neg (by simpa using hy)]
   have RB:=h2 _ hc
   refine⟨s,past s (a+6+lets s (a+6))+1,a,encTs l,hid,4,_,[],cn (l:=[]) (JJ l),by omega,hs,by omega,by rw[HF];exact Nat.le_trans hl hs,rfl,by rw[Eg (by omega)],?_⟩
   rw[HG] at RB;unfold row;rw[F8 _ (CE _ _ _) (B7 _ _ _) rfl,CN];unfold hX at RB
   rw[show ∀t:Tok,encTs [t]=[row t.kind t.name (encAs t.attrs) none t.text t.fr t.to] from fun _=>rfl,CN] at RB
   exact RB
theorem xE :BV cfg 90 Tryz.f90:=(by refine⟨?_,?_,?_,?_,?_,?_⟩<;>kernel_rfl)
theorem az :∀(s:List UInt8) (c:UInt8),Lib.indexByte s c=match Cx [c] s with|some n=>(n:Int)|none=> -1
 |[],c=>rfl
 |b::r,c=>by
  rw[Lib.indexByte,Cx]
  have e:List.isPrefixOf [c] (b::r)=(c==b):=by simp[List.isPrefixOf]
  rw[e,az r c]
  by_cases h:b=c
  ·subst h;simp
  ·have h1:(b==c)=false:=by simpa using h
   have h2:(c==b)=false:=by simpa using fun q=>h q.symm
   rw[h1,h2]
   cases Cx [c] r with
   |none=>rfl
   |some n=>
    simp only[Bool.false_eq_true,if_false,Option.map_some]
    have:((n:Int)== -1)=false:=by simp
    rw[this];simp
theorem ja (s:List UInt8)(a tg:Nat)(l:List Ak){n:Nat}(hn:n=min (lets s a) 16):FJ s a tg l=
  if l.any (fun c=>(s.drop a).take n==c.name)=true then .error (a,12) else
  if s.length<=a+n then .error (tg,14) else
  if n=0\/s.getD (a+n) 0≠61 then .error (a+n,12) else
  if s.length<=a+n+1 then .error (tg,14) else
  if s.getD (a+n+1) 0≠34/\s.getD (a+n+1) 0≠39 then .error (a+n+1,12) else
  match Cx [s.getD (a+n+1) 0] (s.drop (a+n+2)) with
  |none=>.error (tg,14)
  |some k=>.ok (⟨(s.drop a).take n,(s.drop (a+n+2)).take k,a⟩,a+n+2+k+1):=by
 subst hn;rfl
theorem aB :B9 cfg Dp (Dr [(118,Ji),(93,dD),(99,jC)] [(39,Cq),(89,IW),(91,WU)]):=
 Fi (AH zV (AH zW (AH yK AM))) (BU lM (BU uC (BU yN FR)))
theorem Ml {s:List UInt8}{b:Nat}(c:UInt8)(i:Int)(hi:(c.toNat:Int)=i):(((s.getD b 0).toNat:Int)==i)=(s.getD b 0==c):=by rw[<-hi];exact VL
theorem mo {K:AV->Hp->Prop}{KP:PX->Hp->Prop}{s:List UInt8}{a n:Nat}{L:List (List AV)}{hid k:Int}{tg:Nat}{nm:List UInt8}{l:List Ak}(hL:∀n g,9<=n->AE n g L=L)(hs:s.length<=limE)(hl:l.length<=limE)(hn:n=min (lets s a) 16)(ha:a+n<=s.length)
  (h1:∀p e,FJ s a tg l=.error (p,e)->KG (rT k nm (encAs l)) s KP ((p:Int),e)) (h2:∀at' b,FJ s a tg l=.ok (at',b)->K (.agg (Ao at')) (PM s (b:Nat) L hid k nm (encAs l))):
  GN cfg 90 (AB Tryz.f90) (GY Tryz.prog Tryz.f90 Dp 9 K KP) [.code [1,1,1]] .normal [(0,true,.ptr 5 0),(1,true,.int .i64 tg),(2,true,.sl 3 (encAs l) (some 6)),(6,true,.ptr 9 0),(7,true,.int .i64 a)] (xu s ((a+n:Nat):Int) L hid k nm (encAs l)):=by
 obtain⟨e1,e2⟩:=HZ s (show a<=a+n by omega) ha
 rw[Fh] at e1;have hA:=ja s a tg l hn
 have ok:∀(an av:List UInt8) (aa:Int),Am.Ef (rA k nm (encAs l) an av aa) L:=fun an av aa=>zx hL
 have tu:=fun g=>hL 9 g (Nat.le_refl 9)
 refine ua aB (AD e2 ?_);simp only[B7,tu,e1]
 refine⟨s,_,L,hid,k,nm,l,(s.drop a).take n,[],a,ok _ _ _,rfl,hl,rfl,AA (fun x=>⟨a,12,rfl,?_⟩) fun x=> ?_⟩
 ·rw[if_pos x] at hA;exact h1 _ _ hA _ _ _
 rw[if_neg (by rw[x];simp)] at hA
 refine⟨rA k nm (encAs l) _ _ _,s,a+n,L,hid,tg,ok _ _ _,ha,hs,rfl,rfl,fun y=> ?_,fun y=> ?_⟩
 ·rw[if_pos (by omega)] at hA
  exact h1 _ _ hA _ _ _
 rw[if_neg (by omega)] at hA
 rw[Ml 61 61 rfl]
 refine AA (fun z=> ?_) fun z=> ?_
 ·have uI:s.getD (a+n) 0=61:=by simpa using z
  refine⟨s,a+n,L,hid,k,tg,nm,l,(s.drop a).take n,[],a,_,ok _ _ _,ha,hs,rfl,rfl,fun y'=>absurd y' (by omega),fun _ y'=> ?_,fun _ y'=> ?_⟩
  ·have SF:n=0:=by
    have:(s.drop a).take n=[]:=by simpa using y'
    rw[List.take_eq_nil_iff] at this
    rcases this with h|h
    ·exact h
    ·rw[List.drop_eq_nil_iff] at h;omega
   rw[if_pos (.inl SF)] at hA;exact h1 _ _ hA _ _ _
  have SF:¬n=0:=by
   intro h;subst h;simp at y'
  rw[if_neg (fun h=>h.elim SF fun h=>h uI)] at hA
  refine⟨rA k nm (encAs l) _ _ _,s,a+n+1,L,hid,tg,ok _ _ _,by omega,hs,rfl,rfl,fun w=> ?_,fun w=> ?_⟩
  ·rw[if_pos (by omega)] at hA
   simp only[B7,tu];exact h1 _ _ hA _ _ _
  rw[if_neg (by omega)] at hA
  simp only[B7,tu]
  have ex:=Rf s (show a+n+1+1<=s.length by omega)
  have ep:((a+n+1+1:Nat):Int)=((a+n+2:Nat):Int):=rfl
  have fin:∀(hm:¬(s.getD (a+n+1) 0≠34/\s.getD (a+n+1) 0≠39)),(Cx [s.getD (a+n+1) 0] (s.drop (a+n+2))=none->KG (rT k nm (encAs l)) s KP ((tg:Int),14))/\
    (∀j,Cx [s.getD (a+n+1) 0] (s.drop (a+n+2))=some j->K (.agg [.str ((s.drop a).take n),.str ((s.drop (a+n+2)).take j),.int .i64 a]) (PM s ((a+n+2+j+1:Nat):Int) L hid k nm (encAs l))):=by
   intro hm;rw[if_neg hm] at hA
   refine⟨fun hf=> ?_,fun j hf=> ?_⟩
   ·rw[hf] at hA;exact h1 _ _ hA
   ·rw[hf] at hA;exact h2 _ _ hA
  rw[Ml 34 34 rfl,Ml 39 39 rfl]
  refine AA (fun m=> ?_) fun m=> ?_
  all_goals
   refine⟨s,a+n+1,L,hid,k,tg,nm,l,(s.drop a).take n,[],a,_,ok _ _ _,by omega,hs,rfl,rfl,fun y'=>absurd y' (by omega),fun _ m2=> ?_,fun _ m2=> ?_⟩
  ·cases m2
  rotate_left
  ·have:s.getD (a+n+1) 0≠34/\s.getD (a+n+1) 0≠39:=⟨by simpa using m,by simpa using m2⟩
   rw[if_pos this] at hA;exact h1 _ _ hA _ _ _
  all_goals
   try simp only[B7,tu]
   obtain⟨f1,f2⟩:=fin (fun u=>by first|exact u.1 (by simpa using m)|exact u.2 (by simpa using m2))
   refine AD ex.2 ⟨s.drop (a+n+2),s.getD (a+n+1) 0,by rw[List.length_drop];unfold limE at hs;omega,by rw[ex.1],?_⟩
   rw[az]
   cases hf:Cx [s.getD (a+n+1) 0] (s.drop (a+n+2)) with
   |none=>exact AA (fun _=>⟨tg,14,rfl,f1 hf _ _ _⟩) fun q=>by simp at q
   |some j=>
    have hle:=Ux hf;simp only[List.length_drop,List.length_cons,List.length_nil] at hle
    have w1:IntKind.wrap .i64 (((a+n+1+1:Nat):Int)+(j:Int))=((a+n+2+j:Nat):Int):=wrap_add (by omega)
    have w2:IntKind.wrap .i64 ((j:Int)+1)=((j+1:Nat):Int):=Eg (by omega)
    have w3:IntKind.wrap .i64 (((a+n+1+1:Nat):Int)+((j+1:Nat):Int))=((a+n+2+j+1:Nat):Int):=by rw[wrap_add (by omega)];congr 1
    obtain⟨q1,q2⟩:=HZ s (show a+n+2<=a+n+2+j by omega) (show a+n+2+j<=s.length by omega)
    rw[Fh] at q1
    refine AA (fun q=>absurd (of_decide_eq_true q) (Int.not_lt.2 (Int.natCast_nonneg j))) fun _=> ?_
    simp only[w1,w2,w3];refine AD q2 ?_
    rw[show(((a+n+1+1:Nat):Int))=((a+n+2:Nat):Int) from rfl,q1]
    exact f2 j hf
 ·have uI:s.getD (a+n) 0≠61:=by simpa using z
  rw[if_pos (.inr uI)] at hA
  refine⟨s,a+n,L,hid,k,tg,nm,l,(s.drop a).take n,[],a,_,ok _ _ _,ha,hs,rfl,rfl,fun y'=>absurd y' (by omega),fun _ _=>h1 _ _ hA _ _ _,fun _ y'=>by cases y'⟩
theorem gQ {K:AV->Hp->Prop}{KP:PX->Hp->Prop}{s:List UInt8}{a n:Nat}{L:List (List AV)}{hid k:Int}{tg:Nat}{nm:List UInt8}{l:List Ak}(hL:∀n g,9<=n->AE n g L=L)(hs:s.length<=limE)(hl:l.length<=limE)(hn:n=min (lets s a) 16)(ha:a<=s.length)
  (h1:∀p e,FJ s a tg l=.error (p,e)->KG (rT k nm (encAs l)) s KP ((p:Int),e)) (h2:∀at' b,FJ s a tg l=.ok (at',b)->K (.agg (Ao at')) (PM s (b:Nat) L hid k nm (encAs l))):
  ∀(m b:Nat),a+n-b=m->a<=b->b<=a+n->GN cfg 90 (AB Tryz.f90) (GY Tryz.prog Tryz.f90 Dp 9 K KP) [.code [0,0,1,1],.block 0,.code [1,1,1]] .normal [(0,true,.ptr 5 0),(1,true,.int .i64 tg),(2,true,.sl 3 (encAs l) (some 6)),(6,true,.ptr 9 0),(7,true,.int .i64 a)] (xu s (b:Nat) L hid k nm (encAs l))
 |0,b,hm,q1,q2=>by
  have hb:b=a+n:=by omega
  subst hb;have hle:=GR s a
  have oY:a+n<=s.length:=by omega
  have T:=mo hL hs hl hn oY h1 h2
  have sub:((a+n:Nat):Int)-(a:Int)=(n:Int):=by omega
  refine qm aB (AA (fun x=>AD (CF (by simp at x;omega)) ⟨s.getD (a+n) 0,Kh,AA (fun y=>AA (fun z=> ?_) fun z=>T) fun y=>T⟩) fun x=>T)
  exfalso
  rw[sub,BG (by omega) (by unfold limE at hs;omega)] at z
  have hz:n<16:=by simp at z;omega
  have:n=lets s a:=by omega
  rw[this] at y
  rw[ak (by simp at x;omega)] at y
  cases y
 |m+1,b,hm,q1,q2=>by
  obtain⟨k1,k2⟩:=Wl (s:=s) q1 (show b<a+lets s a by omega)
  have sub:(b:Int)-(a:Int)=((b-a:Nat):Int):=by omega
  refine qm aB (AA (fun x=>AD (CF k1) ⟨s.getD b 0,Kh,AA (fun y=>AA (fun z=> ?_) fun z=> ?_) fun y=> ?_⟩) fun x=> ?_)
  ·rw[Eg (by omega)]
   exact gQ hL hs hl hn ha h1 h2 m (b+1) (by omega) (by omega) (by omega)
  ·exfalso
   rw[sub,BG (by omega) (by unfold limE at hs;omega)] at z
   simp at z;omega
  ·rw[k2] at y;cases y
  ·simp at x;omega
theorem c61 :Jg cfg Dp 90 Xb:=by
 refine FI xE fun vs h K KP ht=> ?_
 obtain⟨s,a,L,hid,tag,k,tg,nm,l,Bk,ha,hs,hl,rfl,rfl,rfl,h1,h2⟩:=ht
 exact t61 aB (gQ (aU (r:=[]) Bk) hs hl rfl ha h1 h2 _ a rfl (by omega) (by omega))
theorem xR :BV cfg 56 Tryz.f56:=(by refine⟨?_,?_,?_,?_,?_,?_⟩<;>kernel_rfl)
theorem ef :B9 cfg Dp (Dr [(61,Rv),(88,QG)] [(39,Cq),(87,Qo),(89,IW),(90,Xb),(91,WT),(92,Vx)]):=
 Fi (AH tO (AH tK AM)) (BU lM (BU zY (BU uC (BU c61 (BU yM (BU c63 FR))))))
theorem fS {l0:List Tok}{k fr to:Int}{nm t:List UInt8}{l:List Ak}:∀n g,9<=n->AE n g (encTs l0++[row k nm (encAs l) (some 6) t fr to])=encTs l0++[row k nm (encAs l) (some 6) t fr to]:=fun n g hn=>by
 unfold row;exact KK g (CE _ _ _) (B7 _ _ _) (lN hn)
theorem VC (g:Hp){l0:List Tok}{k fr to:Int}{nm t:List UInt8}{l:List Ak}:AE 6 g (encTs l0++[row k nm (encAs l) (some 6) t fr to])=encTs l0++[row k nm (encAs l) none t fr to]:=by
 unfold row;exact F8 g (CE _ _ _) (B7 _ _ _) rfl
theorem lG (g:Hp){l0:List Tok}{k fr to:Int}{nm t:List UInt8}{l:List Ak}{lg:List UInt8}{f2 o2:Int}:AE 6 g ((encTs l0++[row k nm (encAs l) (some 6) t fr to])++[row 7 [] [] none lg f2 o2])=encTs l0++[row k nm (encAs l) none t fr to]++[row 7 [] [] none lg f2 o2]:=by
 rw[Ho,VC];rfl
theorem UN {s:List UInt8}{KP:PX->Hp->Prop}{x:PX}(h:KG [] s KP x)(a:Int)(L L':List (List AV))(hl:L.length=L'.length)(hid:Int):KP x [.grow 0 6 50,.mem 41 [.sl 6 [] (some 0)],.mem 3 [.int .i64 0],.mem 27 [.int .i64 0],.grow L.length 6 50,.mem 89 [.str s,.int .i64 a,.sl 6 L' (some 4),.int .i64 hid]]:=by
 rw[hl];exact h a L' hid
theorem XP (t:Tok):encTs [t]=[row t.kind t.name (encAs t.attrs) none t.text t.fr t.to]:=rfl
theorem ZL {s:List UInt8}{b:Int}{l0:List Tok}{t:Tok}{hid:Int}:hX s b (encTs (l0++[t])) hid=[.grow 0 6 50,.mem 41 [.sl 6 [] (some 0)],.mem 3 [.int .i64 0],.mem 27 [.int .i64 0],.grow ((encTs l0).length+1) 6 50,.mem 89 [.str s,.int .i64 b,.sl 6 (encTs l0++[row t.kind t.name (encAs t.attrs) none t.text t.fr t.to]) (some 4),.int .i64 hid]]:=by
 rw[HG,XP];unfold hX;rw[CN]
theorem eV {K:AV->Hp->Prop}{KP:PX->Hp->Prop}{s:List UInt8}{a b:Nat}{l0:List Tok}{hid:Int}{nm:List UInt8}{l:List Ak}(hs:s.length<=limE)(dI:l0.length<s.length)(TG:nm.length<=limE)(Xr:a<=b)(hb:b<s.length)(hc:s.getD b 0=62\/s.getD b 0=47)
  (h1:∀p e,(match Da s a nm l b with|.error e=>.error e|.ok t=>IT s t:Except Xu (List Tok))=.error (p,e)->KG [] s KP ((p:Int),e))
  (h2:∀ts,(match Da s a nm l b with|.error e=>.error e|.ok t=>IT s t:Except Xu (List Tok))=.ok ts->K (.tup []) (hX s ((Cs ts (a+1):Nat):Int) (encTs (l0++ts)) hid)):
  GN cfg 56 (AB Tryz.f56) (GY Tryz.prog Tryz.f56 Dp 6 K KP) [.code [1,1,1,1]] .normal [(0,true,.ptr 5 0),(2,true,.int .i64 a),(3,true,.ptr 8 0)] (PM s (b:Nat) (encTs l0) hid 2 nm (encAs l)):=by
 have sa:(encTs l0).length<=1000000:=by rw[HF];unfold limE at hs;omega
 refine ue ef (AD (CF hb) ?_);simp only[Int.toNat_natCast];rw[Ml 47 47 rfl]
 refine AA (fun x=> ?_) fun x=> ?_
 ·have uK:s.getD b 0=47:=by simpa using x
  have wb:IntKind.wrap .i64 ((b:Int)+1)=((b+1:Nat):Int):=Eg (by omega)
  rw[wb]
  refine⟨rT 3 nm (encAs l),s,b+1,encTs l0,hid,a,cn (JJ l0),by omega,hs,rfl,rfl,fun y=> ?_,fun y=>⟨s,b+1,encTs l0,hid,3,a,nm,l,_,cn (JJ l0),by omega,hs,rfl,rfl,fun z=>absurd z (by omega),fun _ z=> ?_,fun _ z=> ?_⟩⟩
  ·have:Da s a nm l b=.error (a,14):=by unfold Da;rw[if_pos uK];simp only;rw[if_pos (by omega)]
   rw[CE]
   exact h1 _ _ (by rw[this]) _ _ _
  ·rw[Ml 62 62 rfl] at z
   have uH:s.getD (b+1) 0≠62:=by simpa using z
   have:Da s a nm l b=.error (b+1,12):=by unfold Da;rw[if_pos uK];simp only;rw[if_neg (by omega),if_pos uH]
   rw[CE]
   exact h1 _ _ (by rw[this]) _ _ _
  ·rw[Ml 62 62 rfl] at z
   have uH:s.getD (b+1) 0=62:=by simpa using z
   have ht:Da s a nm l b=.ok ⟨3,nm,l,cut s a (b+2),a,b+2⟩:=by unfold Da;rw[if_pos uK];simp only;rw[if_neg (by omega),if_neg (by simpa using uH)];rfl
   have hk:=h2 [⟨3,nm,l,cut s a (b+2),a,b+2⟩] (by rw[ht];rfl)
   refine⟨s,b+2,a,encTs l0,hid,3,nm,l,cn (JJ l0),by omega,hs,by omega,sa,rfl,rfl,AA (fun q=>by cases q) fun _=> ?_⟩
   rw[VC,CN];rw[ZL] at hk;exact hk
 ·have uJ:s.getD b 0=62:=hc.resolve_right (by simpa using x)
  refine⟨rT 2 nm (encAs l),s,b,encTs l0,hid,a,cn (JJ l0),by omega,hs,rfl,rfl,fun y=>absurd y (by omega),fun y=>⟨s,b,encTs l0,hid,2,a,nm,l,_,cn (JJ l0),by omega,hs,rfl,rfl,fun z=>absurd z (by omega),fun _ z=> ?_,fun _ z=> ?_⟩⟩
  ·rw[Ml 62 62 rfl,uJ] at z;cases z
  ·have ht:Da s a nm l b=.ok ⟨2,nm,l,cut s a (b+1),a,b+1⟩:=by
    have h47:¬s.getD b 0=47:=by rw[uJ];decide
    unfold Da;simp only[h47,if_false,Nat.add_zero];rw[if_neg (by omega),if_neg (by rw[uJ];simp)];rfl
   rw[ht] at h1 h2;simp only at h1 h2
   refine⟨s,b+1,a,encTs l0,hid,2,nm,l,cn (JJ l0),by omega,hs,by omega,sa,rfl,rfl,AA (fun _=> ?_) fun q=>by cases q⟩
   have raw:∀(hn:nm=BP\/nm=CU),(Cx (Ab++nm) (s.drop (b+1))=none->KG [] s KP ((a:Int),14))/\
     ∀n,Cx (Ab++nm) (s.drop (b+1))=some n->(∀j,Cx Al ((s.drop (b+1)).take n)=some j->nm=BP->KG [] s KP (((b+1+j:Nat):Int),13))/\
      ((Cx Al ((s.drop (b+1)).take n)=none\/nm≠BP)->K (.tup []) (hX s ((b+1+n:Nat):Int) (encTs (l0++[⟨2,nm,l,cut s a (b+1),a,b+1⟩,⟨7,[],[],(s.drop (b+1)).take n,b+1,b+1+n⟩])) hid)):=by
    intro hn
    have e:IT s ⟨2,nm,l,cut s a (b+1),a,b+1⟩=match Cx (Ab++nm) (s.drop (b+1)) with
      |none=>.error (a,14)
      |some n=>match Cx Al ((s.drop (b+1)).take n),decide (nm=BP) with
       |some k,true=>.error (b+1+k,13)
       |_,_=>.ok [⟨2,nm,l,cut s a (b+1),a,b+1⟩,⟨7,[],[],(s.drop (b+1)).take n,b+1,b+1+n⟩]:=by
     unfold IT;rw[if_pos ⟨rfl,hn⟩];rfl
    refine⟨fun hf=>h1 _ _ (by rw[e,hf]),fun n hf=>⟨fun j hj hr=>h1 _ _ (by rw[e,hf];simp only[hj,decide_eq_true hr]),fun Ip=> ?_⟩⟩
    refine h2 [⟨2,nm,l,cut s a (b+1),a,b+1⟩,⟨7,[],[],(s.drop (b+1)).take n,b+1,b+1+n⟩] (by
     rw[e,hf]
     rcases Ip with Ip|Ip
     ·simp only[Ip]
     ·simp only[decide_eq_false Ip]
      cases Cx Al ((s.drop (b+1)).take n)<;>rfl)
   have fin:(nm=BP\/nm=CU)->∃(Vn:List UInt8) (SQ ld:Nat) (pe:List (List AV)) (iO rm:Int) (Qn:List UInt8) (pn:List Ak),Am.Ef (rT rm Qn (encAs pn)) pe/\SQ<=Vn.length/\Vn.length<=1000000/\pe.length<=1000000/\Qn.length<=1000000/\
     [AV.ptr 5 0,AV.str nm,AV.int .i64 (a:Int)]=[AV.ptr 5 0,AV.str Qn,AV.int .i64 (ld:Int)]/\PM s ((b+1:Nat):Int) (encTs l0++[row 2 nm (encAs l) (some 6) (cut s a (b+1)) a ((b+1:Nat):Int)]) hid 2 nm (encAs l)=PM Vn SQ pe iO rm Qn (encAs pn)/\
     (Cx ([60,47,101,115,105,58]++Qn) (List.drop SQ Vn)=none->∀(a40:Int) (uF:List (List AV)) (iM:Int),KP ((ld:Int),14) [.grow 0 6 50,.mem 41 [.sl 6 [] (some 0)],.mem 3 [.int .i64 0],.mem 27 [.int .i64 0],.grow uF.length 6 50,.mem 89 [.str Vn,.int .i64 a40,.sl 6 (AE 6 (hX Vn a40 uF iM++rT rm Qn (encAs pn)) uF) (some 4),.int .i64 iM]])/\
     ∀(cq:Nat),Cx ([60,47,101,115,105,58]++Qn) (List.drop SQ Vn)=some cq->(∀(yd:Nat),Cx [60,101,115,105,58] (List.take cq (List.drop SQ Vn))=some yd->Qn=[114,101,109,111,118,101]->∀(yT:Int) (uE:List (List AV)) (iL:Int),KP (((SQ+yd:Nat):Int),13) [.grow 0 6 50,.mem 41 [.sl 6 [] (some 0)],.mem 3 [.int .i64 0],.mem 27 [.int .i64 0],.grow uE.length 6 50,.mem 89 [.str Vn,.int .i64 yT,.sl 6 (AE 6 (hX Vn yT uE iL++rT rm Qn (encAs pn)) uE) (some 4),.int .i64 iL]])/\
      (Cx [60,101,115,105,58] (List.take cq (List.drop SQ Vn))=none\/Qn≠[114,101,109,111,118,101]->K (.tup []) [.grow 0 6 50,.mem 41 [.sl 6 [] (some 0)],.mem 3 [.int .i64 0],.mem 27 [.int .i64 0],.grow (pe++[row 7 [] [] none (List.take cq (List.drop SQ Vn)) SQ ((SQ+cq:Nat):Int)]).length 6 50,
       .mem 89 [.str Vn,.int .i64 ((SQ+cq:Nat):Int),.sl 6 (AE 6 [.grow 0 6 50,.mem 41 [.sl 6 [] (some 0)],.mem 3 [.int .i64 0],.mem 27 [.int .i64 0],.grow (pe++[row 7 [] [] none (List.take cq (List.drop SQ Vn)) SQ ((SQ+cq:Nat):Int)]).length 6 50,
        .mem 89 [.str Vn,.int .i64 ((SQ+cq:Nat):Int),.sl 6 (pe++[row 7 [] [] none (List.take cq (List.drop SQ Vn)) SQ ((SQ+cq:Nat):Int)]) (some 4),.int .i64 iO],.grow (encAs pn).length 3 80,.grow 0 3 80,.mem 50 [.int .i64 rm,.str Qn,.sl 3 (encAs pn) (some 6),.str [],.int .i64 0,.int .i64 0]]
        (pe++[row 7 [] [] none (List.take cq (List.drop SQ Vn)) SQ ((SQ+cq:Nat):Int)])) (some 4),.int .i64 iO]]):=by
    intro hn;obtain⟨r1,r2⟩:=raw hn
    refine⟨s,b+1,a,_,hid,2,nm,l,cn fS,by omega,hs,by rw[CN,HF];unfold limE at hs;omega,TG,rfl,rfl,fun hf a40 uF iM=>UN (r1 hf) _ _ _ (GV _ _ _).symm _,fun n hf=>⟨fun j hj hr yT uE iL=>UN ((r2 n hf).1 j hj hr) _ _ _ (GV _ _ _).symm _,fun Ip=> ?_⟩⟩
    have hk:=(r2 n hf).2 Ip;rw[lG,CN,CN]
    rw[show l0++[(⟨2,nm,l,cut s a (b+1),a,b+1⟩:Tok),⟨7,[],[],(s.drop (b+1)).take n,b+1,b+1+n⟩]=(l0++[⟨2,nm,l,cut s a (b+1),a,b+1⟩])++[⟨7,[],[],(s.drop (b+1)).take n,b+1,b+1+n⟩] by simp,ZL,HG,XP,CN] at hk
    exact hk
   refine AA (fun q=>fin (.inl (by simpa[BP] using q))) fun q1=>AA (fun q=>fin (.inr (by simpa[CU] using q))) fun q2=> ?_
   have Ip:¬(nm=BP\/nm=CU):=by
    rintro(h|h)
    ·subst h;simp[BP] at q1
    ·subst h;simp[CU] at q2
   have hk:=h2 [⟨2,nm,l,cut s a (b+1),a,b+1⟩] (by unfold IT;rw[if_neg (fun h=>Ip h.2)])
   rw[VC,CN];rw[ZL] at hk;exact hk
theorem dV (l:List Ak)(a:Ak):encAs (l++[a])=encAs l++[Ao a]:=by unfold encAs;rw[List.map_append];rfl
theorem gS {K:AV->Hp->Prop}{KP:PX->Hp->Prop}{s:List UInt8}{a:Nat}{l0:List Tok}{hid:Int}{nm:List UInt8}(hs:s.length<=limE)(dI:l0.length<s.length)(TG:nm.length<=limE):
  ∀(f b:Nat) (l:List Ak),s.length-b<f->a<=b->b<=s.length->l.length<=b->
  (∀p e,(match A8 s a f b l with|.error e=>.error e|.ok (l',b')=>(match Da s a nm l' b' with|.error e=>.error e|.ok t=>IT s t):Except Xu (List Tok))=.error (p,e)->KG [] s KP ((p:Int),e))->
  (∀ts,(match A8 s a f b l with|.error e=>.error e|.ok (l',b')=>(match Da s a nm l' b' with|.error e=>.error e|.ok t=>IT s t):Except Xu (List Tok))=.ok ts->K (.tup []) (hX s ((Cs ts (a+1):Nat):Int) (encTs (l0++ts)) hid))->
  GN cfg 56 (AB Tryz.f56) (GY Tryz.prog Tryz.f56 Dp 6 K KP) [.code [0,0,1,1,1],.block 0,.code [1,1,1,1]] .normal [(0,true,.ptr 5 0),(2,true,.int .i64 a),(3,true,.ptr 8 0)] (PM s (b:Nat) (encTs l0) hid 2 nm (encAs l))
 |0,b,l,hf,_,_,_,_,_=>by omega
 |f+1,b,l,hf,Xr,hb,hl,h1,h2=>by
  obtain⟨p1,p2⟩:=Hs hb
  have ew:(((past s b-b:Nat):Int)==0)=decide (past s b=b):=by
   rw[Bool.eq_iff_iff];simp;omega
  refine uf ef ⟨s,b,encTs l0,hid,2,nm,l,cn (JJ l0),hb,hs,rfl,rfl,rT 2 nm (encAs l),s,past s b,encTs l0,hid,a,cn (JJ l0),p2,hs,rfl,rfl,fun x=> ?_,fun x=> ?_⟩
  ·rw[A8] at h1
   try simp only at h1
   rw[if_pos (by omega)] at h1
   rw[CE];exact h1 _ _ rfl _ _ _
  rw[A8] at h1 h2
  try simp only at h1 h2
  rw[if_neg (by omega)] at h1 h2
  rw[Ml 62 62 rfl,Ml 47 47 rfl,ew]
  refine AA (fun y=> ?_) fun y=>AA (fun z=> ?_) fun z=>AA (fun w=> ?_) fun w=> ?_
  ·have hc:s.getD (past s b) 0=62\/s.getD (past s b) 0=47:=.inl (by simpa using y)
   rw[if_pos hc] at h1 h2
   exact eV hs dI TG (by omega) x hc h1 h2
  ·have hc:s.getD (past s b) 0=62\/s.getD (past s b) 0=47:=.inr (by simpa using z)
   rw[if_pos hc] at h1 h2
   exact eV hs dI TG (by omega) x hc h1 h2
  ·have hc:¬(s.getD (past s b) 0=62\/s.getD (past s b) 0=47):=by
    rintro(h|h)
    ·rw[h] at y;simp at y
    ·rw[h] at z;simp at z
   rw[if_neg hc,if_pos (by simpa using w)] at h1
   refine⟨past s b,12,rfl,?_⟩
   rw[CE,show past s b=b by simpa using w]
   exact h1 _ _ rfl _ _ _
  ·have hc:¬(s.getD (past s b) 0=62\/s.getD (past s b) 0=47):=by
    rintro(h|h)
    ·rw[h] at y;simp at y
    ·rw[h] at z;simp at z
   have hw:¬past s b=b:=by simpa using w
   rw[if_neg hc,if_neg hw] at h1 h2
   refine⟨s,past s b,encTs l0,hid,a,2,a,nm,l,cn (JJ l0),p2,hs,by show l.length<=limE;omega,rfl,rfl,rfl,fun p e he a30 L31 zB=> ?_,fun at' b' he=>⟨rfl,AD ?_ ?_⟩⟩
   ·rw[he] at h1;exact UN (h1 _ _ rfl) _ _ _ (GV _ _ _).symm _
   ·have:(encAs l).length=l.length:=by simp[encAs]
    simp only[E7,List.getElem?_cons_succ,List.getElem?_cons_zero,Nat.beq_refl,Bool.and_self,Bool.true_and,Bool.and_true]
    rw[decide_eq_true (by rw[this];unfold limE at hs;omega)]
   ·obtain⟨q1,q2⟩:=Rq he;rw[he] at h1 h2;simp only at h1 h2
    have:=gS hs dI TG f b' (l++[at']) (by omega) (by omega) q2 (by simp;omega) h1 h2
    rw[dV] at this;unfold PM at this;rw[CN] at this;exact this
theorem c37 :Jg cfg Dp 56 Qf:=by
 refine FI xR fun vs h K KP ht=> ?_
 obtain⟨s,a,l,hid,hh,ha,hs,hl,rfl,rfl,h1,h2⟩:=ht
 have h6:a+5<=s.length:=GI hh (by decide)
 have e6:IntKind.wrap .i64 ((a:Int)+5)=((a+5:Nat):Int):=wrap_add (b:=5) (by omega)
 have iH:=GR s (a+5);unfold MG Gp at h1 h2;simp only at h1 h2
 refine t37 ef ⟨s,a+5,encTs l,hid,a,yb l,h6,hs,rfl,by rw[e6],fun hk a7 L8 wq=> ?_,fun hk=> ?_⟩
 ·rw[if_pos hk] at h1;exact fl (h1 _ _ rfl) _ _ _ _
 ·rw[if_neg (by rw[hk];simp)] at h1 h2
  have hn:lets s (a+5)<=limE:=by omega
  refine gS hs (by omega) (by rw[List.length_take,List.length_drop];omega) (s.length+1) _ [] (by omega) (by omega) (by omega) (by simp) (fun p e he=>h1 p e ?_) fun ts he=>h2 ts ?_
  ·rw[<-he]
   cases A8 s a (s.length+1) (a+5+lets s (a+5)) [] with
   |error e=>rfl
   |ok r=>rfl
  ·rw[<-he]
   cases A8 s a (s.length+1) (a+5+lets s (a+5)) [] with
   |error e=>rfl
   |ok r=>rfl
def qP (x:PX):List PanicEntry:=[{v:=.iface 86 (.agg #[.int .i64 x.1,.int .i64 x.2]),recovered:=false}]
theorem ZV (p e:Int)(w:World):Calls Tryz.prog 39 #[.int .i64 p,.int .i64 e] w fun en w'=>en=.panicked (qP (p,e))/\w'=w:=by
 go_enter Tryz.func39,Tryz.f39
 go_wp
 first|exact⟨rfl,rfl,rfl⟩|exact⟨rfl,rfl⟩
theorem nT {I:World->Prop}{B0:Nat}:lW cfg I B0 qP Dp:=by
 intro k vs x h;unfold Dp at h;split at h
 ·rename_i p e hk;have hk:=Nat.eq_of_beq_eq_true hk;subst hk
  injection h with h
  subst h
  refine⟨⟨Tryz.f39,Tryz.func39,by kernel_rfl,by kernel_rfl⟩,fun E args H hr=> ?_⟩
  obtain⟨a,r,rfl,rfl,b,r2,rfl,rfl,rfl⟩:=hr
  exact(ZV p e E.w).mono fun en w' ⟨h1,h2⟩=>⟨h1,E,h2.symm,Step.refl H,rfl⟩
 ·cases h
theorem eT (a0 a1 a2:Value)(w:World):CallsD Tryz.prog 36 #[a0,a1,a2] .returning w fun en u w'=>(∃v,en=.returned v)/\u=.returning/\w'=w:=by
 refine callsD_of_wpS Tryz.func36 rfl fun c₀ cs hc=> ?_
 simp only[Tryz.f36,List.size_toArray,List.length_cons,List.length_nil,Nat.reduceAdd,Nat.reduceSub,Array.replicate_succ,Array.replicate_zero,List.push_toArray,List.append_toArray,List.nil_append,List.cons_append];refine wpS_seq (wpS_region ?_)
 have hr:recoverD (c₀::cs)=none:=by simp[recoverD,hc]
 simp[wpOpsS,go_sem,hr,List.range,List.range.loop];refine wpS_of_wp ?_
 go_wp
 simp only[bodyPostS];refine⟨trivial,c₀.mode,rfl,.tuple #[],results_none rfl _ _ _,⟨_,rfl⟩,hc,trivial⟩
theorem nN {P:Program}{o:Oper}{Q:Exit->Act->List Frame->World->Prop}{a:Act}{cs Gh:List Frame}{v:Value}{w:World}(hg:o.guard=none){Xe:Array TypeId}(Bo:o.op=.call {callee:=.builtin .recover,args:= #[],argTypes:=Xe})
  (hr:recoverD cs=some (v,Gh)) (h:Q .normal (a.put o.dst v) Gh w):wpOpsS P #[o] Q (List.range (#[o]:Array Oper).size) a cs w:=by
 obtain⟨d,op,ty,pos,after,gd⟩:=o;simp only at hg Bo;subst hg;subst Bo;simp[wpOpsS,go_sem,hr,List.range,List.range.loop];exact h
theorem eU {I:World->Prop}{B0:Nat}(S0:Sound cfg I B0)(p e:Int){h h2:Hp}(Cb:AF cfg 36 (AB Tryz.f36) (fun _ h'=>h'=h2) [.code [1]] .normal [(0,true,.ptr 1 0),(1,true,.ptr 2 0),(2,true,.ptr 3 0),(6,true,.iface 86 (.agg [.int .i64 p,.int .i64 e]))] h):
  Z5 cfg I B0 qP 36 [.ptr 1 0,.ptr 2 0,.ptr 3 0] (p,e) h h2:=by
 intro E vals H hE hr;obtain⟨x,F',h',⟨n0,hx⟩,he,hq⟩:=Cb;have hq:h'=h2:=hq;subst hq
 refine callsD_of_wpS Tryz.func36 rfl fun c₀ cs hc=> ?_
 have Mu:=Mq hr 16;obtain⟨a0,r0,rfl,k0,a1,r1,rfl,k1,a2,r2,rfl,k2,rfl⟩:=hr
 have kj:recoverD (c₀::cs)=some (.iface 86 (.agg #[.int .i64 p,.int .i64 e]),{c₀ with mode:=.panicking [{v:=.iface 86 (.agg #[.int .i64 p,.int .i64 e]),recovered:=true}]}::cs):=by simp[recoverD,hc,qP]
 have Y6:AR E (Av (Dz 0 [.ptr 1 0,.ptr 2 0,.ptr 3 0]) (some 6) (true,.iface 86 (.agg [.int .i64 p,.int .i64 e]))) (({tmps:= #[a0,a1,a2]++Array.replicate (16-(#[a0,a1,a2]:Array Value).size) undef,defers:=[]}:Act).put (some 6) (.iface 86 (.agg #[.int .i64 p,.int .i64 e]))):=
  AR.put Mu (n:=16) (by kernel_rfl) (by simp) (fun _=>⟨_,rfl,_,rfl,_,_,rfl,rfl,rfl,_,_,rfl,rfl,rfl,rfl⟩) (fun h=>by cases h)
 have sQ:AR E [(0,true,.ptr 1 0),(1,true,.ptr 2 0),(2,true,.ptr 3 0),(6,true,.iface 86 (.agg [.int .i64 p,.int .i64 e]))] (({tmps:= #[a0,a1,a2]++Array.replicate (16-(#[a0,a1,a2]:Array Value).size) undef,defers:=[]}:Act).put (some 6) (.iface 86 (.agg #[.int .i64 p,.int .i64 e]))):=by
  refine Y6.eq fun n=> ?_
  simp only[Av,Dz,lk]
  by_cases h6:n=6
  ·subst h6;rfl
  ·have e6:Nat.beq 6 n=false:=by
    cases hb:Nat.beq 6 n with
    |false=>rfl
    |true=>exact absurd (Nat.eq_of_beq_eq_true hb).symm h6
   rw[e6];rfl
 have Jx:=S0.bX 36 Tryz.f36 _ (by kernel_rfl) (by kernel_rfl) (by kernel_rfl) Tryz.func36 rfl
 have oz:Bn cfg.P Tryz.f36.ntmps (cfg.Hk 36) (Aa (AB Tryz.f36) [1])=true:=by
  have h3:Bn cfg.P Tryz.f36.ntmps (cfg.Hk 36) (.seq (Aa (AB Tryz.f36) [0]) (Aa (AB Tryz.f36) [1]))=true:=Jx;simp only[Bn,Bool.and_eq_true] at h3;exact h3.2
 have main:=Rt S0 n0 36 _ _ _ x F' h' _ (hx n0 (Nat.le_refl _)) oz E _ hE H sQ (by rw[show Tryz.f36.ntmps=16 from rfl];simp[Act.put])
 refine wpS_seq (wpS_region (nN rfl rfl kj ?_))
 refine wpS_of_wp (main _ fun E' a' S Hg FO hs hd=> ?_)
 have ZI:a'.defers=[]:=hd.resolve_left (by rw[show cfg.C9 36=false by kernel_rfl];simp)
 have fin:a'.defers=[]/\∃u',({c₀ with mode:=.panicking [{v:=.iface 86 (.agg #[.int .i64 p,.int .i64 e]),recovered:=true}]}:Frame)::cs={c₀ with mode:=u'}::cs/\∃v,(results Tryz.f36 a'.tmps).run Tryz.prog E'.w=.ok v E'.w/\
   ((∃r,(Ending.returned v)=.returned r)/\settle u'=.returning/\∃E2,E2.w=E'.w/\Step cfg.G I B0 E E2/\E2.h=h'):=
  ⟨ZI,_,rfl,.tuple #[],results_none rfl _ _ _,⟨_,rfl⟩,rfl,E',rfl,S,Hg⟩
 cases x with
 |normal=>exact fin
 |ret=>exact fin
 |_=>cases he
end Go.Proofs.YtopjpnhgnopbiaaGreatDoor.Lx
end
section
namespace Go.Ai.Ex
open Go.Ai Go.RowKit
def Jv :Option Nat->Int
 |some h=>h
 |none=> -1
def Wk :Except Xu (List Tok)->AV
 |.ok l=>.tup [.sl 6 (encTs l) none,.int .i64 0,.int .i64 0]
 |.error (p,e)=>.tup [.sl 0 [] none,.int .i64 p,.int .i64 e]
theorem Ut (hid:Option Nat):decide (0<=Jv hid)=hid.isSome:=by
 cases hid with
 |none=>rfl
 |some h=>simp[Jv]
theorem fv {s:List UInt8}{tag:Nat}{t:Tok}(hl:tag+5<=s.length)(h:Gp s tag=.ok t):tag+6<=t.to/\t.to<=s.length:=by
 unfold Gp at h;simp only at h;split at h
 ·cases h
 ·have hn:=GR s (tag+5);split at h
  ·cases h
  ·rename_i l b hb
   obtain⟨q1,q2⟩:=N8 _ _ _ _ _ (by omega) hb
   obtain⟨k1,k2,k3,k4,k5,k6⟩:=SZ h
   exact⟨by omega,k6⟩
def fwd (s:List UInt8)(a:Nat)(ts:List Tok):Prop:=a+ts.length<=Cs ts (a+1)/\a<Cs ts (a+1)/\Cs ts (a+1)<=s.length
theorem cb {s:List UInt8}{a:Nat}{ts:List Tok}(hl:a+5<=s.length)(h:MG s a=.ok ts):fwd s a ts:=by
 unfold MG at h;split at h
 ·cases h
 ·rename_i t ht;obtain⟨q1,q2⟩:=fv hl ht
  rcases PV h with ⟨_,rfl⟩|⟨_,_,n,hf,rfl⟩
  ·simp only[fwd,Cs,List.getLast?_singleton,List.length_singleton];omega
  ·have:=I9 hf;rw[List.length_drop,List.length_append] at this;have e:Cs [t,⟨7,[],[],(s.drop t.to).take n,t.to,t.to+n⟩] (a+1)=t.to+n:=rfl;simp only[fwd,e,List.length_cons,List.length_nil];omega
theorem dY {s:List UInt8}{a:Nat}{t:Tok}(hl:a+6<=s.length)(h:CK s a=.ok t):fwd s a [t]:=by
 obtain⟨_,_,_,_,_,q1,q2⟩:=Kf hl h;have e:Cs [t] (a+1)=t.to:=rfl;simp only[fwd,e,List.length_cons,List.length_nil];omega
def pJ :Option Nat->Except Xu (List Tok)
 |some h=>.error (h,14)
 |none=>.ok []
theorem Nc (s:List UInt8)(f a:Nat)(hid:Option Nat):DR s (f+1) a hid=
  if s.length<=a then pJ hid else
  if spec s a hid.isSome=true then
   match DW s a hid with
   |.error e=>.error e
   |.ok (l,hid2)=>match DR s f (Cs l (a+1)) hid2 with
    |.error e=>.error e
    |.ok r=>.ok (l++r)
  else
   match DR s f (Cj s hid.isSome (s.length-a) a) hid with
   |.error e=>.error e
   |.ok r=>.ok (⟨1,[],[],cut s a (Cj s hid.isSome (s.length-a) a),a,Cj s hid.isSome (s.length-a) a⟩::r):=by
 rw[DR.eq_def]
 cases hid<;>rfl
theorem Nf {s:List UInt8}{fr a:Nat}{hid:Option Nat}{f:Nat}(hfa:fr<=a)(ha:a<=s.length)(Ip:∀j,fr<=j->j<a->spec s j hid.isSome=false)(sJ:a=s.length\/spec s a hid.isSome=true)(hf:s.length-fr<f):
  ∃g,s.length-a<g/\DR s f fr hid=match DR s g a hid with|.error e=>.error e|.ok r=>.ok (DU s fr a++r):=by
 rcases Nat.eq_or_lt_of_le hfa with rfl|BC
 ·refine⟨f,hf,?_⟩
  rw[DU,if_neg (by omega)]
  cases DR s f fr hid<;>rfl
 ·cases f with
  |zero=>omega
  |succ f=>
   refine⟨f,by omega,?_⟩
   have ht:Cj s hid.isSome (s.length-fr) fr=a:=by
    have:=Mz (s:=s) (hid:=hid.isSome) (a-fr) (s.length-fr) fr (fun j hj=>Ip (fr+j) (by omega) (by omega)) (by omega) (by rw[show fr+(a-fr)=a by omega];exact sJ) (by omega)
    rw[this];omega
   have h0:spec s fr hid.isSome=false:=Ip fr (Nat.le_refl _) BC
   rw[Nc,if_neg (by omega),if_neg (by rw[h0];simp)]
   simp only[ht];rw[DU,if_pos BC]
   cases DR s f a hid<;>rfl
theorem Sy {s:List UInt8}{a:Nat}{hid:Option Nat}{g:Nat}(ha:a<s.length)(HT:spec s a hid.isSome=true):DR s (g+1) a hid=match DW s a hid with|.error e=>.error e|.ok (l,hid2)=>(match DR s g (Cs l (a+1)) hid2 with|.error e=>.error e|.ok r=>.ok (l++r)):=by
 rw[Nc,if_neg (by omega),if_pos HT]
end Go.Ai.Ex
namespace Go.Proofs.YtopjpnhgnopbiaaGreatDoor.Lx
open Go.Ai Go Go.Ai.Ex
set_option maxRecDepth 100000
theorem yP :CR cfg 37 RQ:=by
 intro l h K ht;obtain⟨s,a,l',hid,ha,hs,e1,rfl,h0,h1,h2,h3,h4⟩:=ht;refine tQ l _ K ⟨s,a,l',hid,ha,hs,e1,rfl,?_⟩;unfold TR;unfold EZ at h0 h1 h2 h3 h4
 by_cases q1:has s Al a=true
 ·rw[if_pos q1] at h1⊢;exact h1 rfl
 rw[if_neg q1] at h0 h2 h3 h4⊢
 by_cases q2:has s Ab a=true
 ·rw[if_pos q2] at h2⊢;exact h2 rfl
 rw[if_neg q2] at h0 h3 h4⊢
 by_cases q3:EY s a=true
 ·rw[if_pos q3] at h3⊢;exact h3 rfl
 rw[if_neg q3] at h0 h4⊢
 by_cases q4:(has s BS a&&decide (0<=hid))=true
 ·rw[if_pos q4] at h4⊢;exact h4 rfl
 ·rw[if_neg q4] at h0⊢;exact h0 rfl
theorem Ve :B9 cfg Dp (Dr [(37,RQ),(38,Py),(60,QH)] [(39,Cq),(56,Qf),(57,Mi),(59,RD)]):=
 Fi (AH yP (AH c24 (AH c41 AM))) (BU lM (BU c37 (BU c38 (BU c40 FR))))
def Om :List AV:=[.ptr 1 0,.ptr 2 0,.ptr 3 0]
theorem vJ (x:AV)(r:List AV):rd cfg.P 41 (x::r)=some x:=by kernel_rfl
theorem zs (x:AV)(r:List AV):rd cfg.P 3 (x::r)=some x:=by kernel_rfl
theorem vI (x:AV)(r:List AV):rd cfg.P 27 (x::r)=some x:=by kernel_rfl
theorem rQ {F:Fr}(h2:lk F 2=(true,.ptr 1 0))(h3:lk F 3=(true,.ptr 2 0))(h4:lk F 4=(true,.ptr 3 0))(x0:Blk)(x y z:AV)(r:Hp):result cfg.P Tryz.f17 F (x0:: .mem 41 [x]:: .mem 3 [y]:: .mem 27 [z]::r)=some (.tup [x,y,z]):=by
 have e:Tryz.f17.results.toList=[.cell 2 41,.cell 3 3,.cell 4 27]:=rfl;unfold result;rw[e];simp only[LI,QO,h2,h3,h4,List.getElem?_cons_succ,List.getElem?_cons_zero,List.drop_zero,vJ,zs,vI,Option.map_some,Bool.and_self]
section
variable {I:World->Prop}{B0:Nat}
def qE (v:AV):Fr->Hp->Prop:=fun F h=>(lk F dS).2=.C9 [.fn (.func 36) [] Om]/\∃u,result cfg.P Tryz.f17 F h=some u/\stripR 0 h u=v
def pE (I:World->Prop)(B0:Nat)(v:AV):Fr->PX->Hp->Prop:=fun F x h=>(lk F dS).2=.C9 [.fn (.func 36) [] Om]/\∃h2 u,Z5 cfg I B0 qP 36 Om x h h2/\result cfg.P Tryz.f17 F h2=some u/\stripR 0 h2 u=v
theorem kI (S0:Sound cfg I B0){v:AV}{F:Fr}{s:List UInt8}{p e:Int}(hd:(lk F dS).2=.C9 [.fn (.func 36) [] Om])(h2:lk F 2=(true,.ptr 1 0))(h3:lk F 3=(true,.ptr 2 0))(h4:lk F 4=(true,.ptr 3 0))
  (hv:v=.tup [.sl 0 [] none,.int .i64 p,.int .i64 e]) (a:Int) (L:List (List AV)) (hid:Int):pE I B0 v F (p,e) (hX s a L hid):=by
 refine⟨hd,_,_,eU S0 p e (t22 LP rfl),rQ h2 h3 h4 _ _ _ _ _,?_⟩;rw[hv];rfl
theorem Z8 (S0:Sound cfg I B0){v:AV}{s:List UInt8}{fr:Nat}{l:List Tok}{hid:Option Nat}(hs:s.length<=limE)(Mu:fr<=s.length)(hl:l.length<=s.length)(Ip:∀j,fr<=j->j<s.length->spec s j hid.isSome=false){f:Nat}(hf:s.length-fr<f)
  (hv:v=Wk (match DR s f fr hid with|.error e=>.error e|.ok r=>.ok (l++r))):
  GN cfg 17 (AB Tryz.f17) (QP.mk Dp (qE v) (pE I B0 v)) [.code [1,1,1,1,1]] .normal [(2,true,.ptr 1 0),(3,true,.ptr 2 0),(4,true,.ptr 3 0),(5,true,.ptr 5 0),(6,true,.int .i64 fr),(1000000,true,.C9 [.fn (.func 36) [] Om])] (hX s (s.length:Nat) (encTs l) (Jv hid)):=by
 obtain⟨g,hg,e⟩:=Nf (f:=f) Mu (Nat.le_refl _) Ip (.inl rfl) hf
 obtain⟨g,rfl⟩:∃k,g=k+1:=⟨g-1,by omega⟩
 have eg:DR s (g+1) s.length hid=pJ hid:=by
  rw[Nc,if_pos (Nat.le_refl _)]
 rw[e,eg] at hv
 refine vD Ve ⟨s,fr,s.length,l,Jv hid,Mu,Nat.le_refl _,hs,hl,rfl,rfl,AA (fun x=>⟨_,14,rfl,?_⟩) fun x=> ?_⟩
 ·cases hid with
  |none=>simp[Jv] at x
  |some h=>exact kI S0 rfl rfl rfl rfl hv _ _ _
 ·cases hid with
  |some h=>simp[Jv] at x
  |none=>
   simp only[pJ,List.append_nil] at hv;refine⟨rfl,_,rQ rfl rfl rfl _ _ _ _ _,?_⟩;rw[hv];show AV.tup [.sl 6 (AE 0 _ (encTs (l++DU s fr s.length))) none,.int .i64 0,.int .i64 0]=_;rw[CE];rfl
theorem eR (S0:Sound cfg I B0){v:AV}{s:List UInt8}(hs:s.length<=limE):∀(n a fr:Nat) (l:List Tok) (hid:Option Nat) (f:Nat),s.length-a<=n->fr<=a->a<=s.length->l.length<=fr->(∀j,fr<=j->j<a->spec s j hid.isSome=false)->s.length-fr<f->
  v=Wk (match DR s f fr hid with|.error e=>.error e|.ok r=>.ok (l++r))->
  GN cfg 17 (AB Tryz.f17) (QP.mk Dp (qE v) (pE I B0 v)) [.code [0,0,1,1,1,1],.block 0,.code [1,1,1,1,1]] .normal [(0,true,.str s),(2,true,.ptr 1 0),(3,true,.ptr 2 0),(4,true,.ptr 3 0),(5,true,.ptr 5 0),(6,true,.int .i64 fr),(1000000,true,.C9 [.fn (.func 36) [] Om])] (hX s (a:Nat) (encTs l) (Jv hid)):=by
 intro n
 induction n with
 |zero=>
  intro a fr l hid f hn Mu ha hl Ip hf hv
  have:a=s.length:=by omega
  subst this
  refine nE Ve (AA (fun x=>by simp at x) fun x=> ?_)
  exact Z8 S0 hs Mu (by omega) Ip hf hv
 |succ n ih=>
  intro a fr l hid f hn Mu ha hl Ip hf hv
  by_cases zI:a=s.length
  ·subst zI
   refine nE Ve (AA (fun x=>by simp at x) fun x=> ?_)
   exact Z8 S0 hs Mu (by omega) Ip hf hv
  have BC:a<s.length:=by omega
  have Wu:spec s a hid.isSome=decide (EZ s a hid.isSome≠0):=by
   unfold spec EZ
   cases has s Al a<;>cases has s Ab a<;>cases EY s a<;>cases has s BS a<;>cases hid.isSome<;>rfl
  have take:∀(ts:List Tok) (hid2:Option Nat),spec s a hid.isSome=true->DW s a hid=.ok (ts,hid2)->fwd s a ts->
    GN cfg 17 (AB Tryz.f17) (QP.mk Dp (qE v) (pE I B0 v)) [.code [0,0,1,1,1,1],.block 0,.code [1,1,1,1,1]] .normal [(0,true,.str s),(2,true,.ptr 1 0),(3,true,.ptr 2 0),(4,true,.ptr 3 0),(5,true,.ptr 5 0),(6,true,.int .i64 ((Cs ts (a+1):Nat):Int)),(1000000,true,.C9 [.fn (.func 36) [] Om])]
     (hX s ((Cs ts (a+1):Nat):Int) (encTs ((l++DU s fr a)++ts)) (Jv hid2)):=by
   intro ts hid2 HT VW hfw;obtain⟨w1,w2,w3⟩:=hfw;obtain⟨g,hg,e⟩:=Nf (f:=f) Mu ha Ip (.inr HT) hf
   obtain⟨g,rfl⟩:∃k,g=k+1:=⟨g-1,by omega⟩
   rw[Sy BC HT,VW] at e;simp only at e
   have wM:(DU s fr a).length<=a-fr:=by
    unfold DU;split
    ·simp;omega
    ·simp
   refine ih (Cs ts (a+1)) (Cs ts (a+1)) _ hid2 g (by omega) (Nat.le_refl _) w3 ?_ (fun j h1 h2=>by omega) (by omega) ?_
   ·simp only[List.length_append];omega
   ·rw[hv,e]
    cases DR s g (Cs ts (a+1)) hid2 with
    |error e=>rfl
    |ok r=>simp only[List.append_assoc]
  have bad:∀(p:Nat) (e:Int),spec s a hid.isSome=true->DW s a hid=.error (p,e)->v=.tup [.sl 0 [] none,.int .i64 p,.int .i64 e]:=by
   intro p e HT VW;obtain⟨g,hg,eq⟩:=Nf (f:=f) Mu ha Ip (.inr HT) hf
   obtain⟨g,rfl⟩:∃k,g=k+1:=⟨g-1,by omega⟩
   rw[Sy BC HT,VW] at eq;rw[hv,eq];rfl
  have iH:(l++DU s fr a).length<=a:=by
   have wM:(DU s fr a).length<=a-fr:=by
    unfold DU;split
    ·simp;omega
    ·simp
   simp only[List.length_append];omega
  refine nE Ve (AA (fun _=>⟨s,a,l,Jv hid,ha,hs,rfl,rfl,fun q=> ?_,fun q=> ?_,fun q=> ?_,fun q=> ?_,fun q=> ?_⟩) fun x=>by simp at x;omega)
  all_goals rw[Ut] at q
  ·rw[Eg (by omega)]
   refine ih (a+1) fr l hid f (by omega) (by omega) (by omega) hl (fun j h1 h2=> ?_) hf hv
   rcases Nat.lt_or_ge j a with h|h
   ·exact Ip j h1 h
   ·have:j=a:=by omega
    subst this;rw[Wu,q];rfl
  ·have HT:spec s a hid.isSome=true:=by rw[Wu,q];rfl
   have ho:has s Al a=true:=by
    unfold EZ at q
    by_cases h:has s Al a=true
    ·exact h
    ·rw[if_neg h] at q;split at q<;>(try split at q)<;>(try split at q)<;>omega
   have h5:a+5<=s.length:=GI ho (by decide)
   have VW:DW s a hid=match MG s a with|.error e=>.error e|.ok ts=>.ok (ts,hid):=by
    unfold DW MG;rw[if_pos ho]
    cases Gp s a with
    |error e=>rfl
    |ok t=>simp only;cases IT s t<;>rfl
   refine⟨s,fr,a,l,Jv hid,Mu,ha,hs,by omega,rfl,rfl,s,a,_,Jv hid,ho,ha,hs,by omega,rfl,rfl,fun p e he a19 L20 sd=>kI S0 rfl rfl rfl rfl (bad p e HT (by rw[VW,he])) _ _ _,fun ts he=> ?_⟩
   exact take ts hid HT (by rw[VW,he]) (cb h5 he)
  ·have HT:spec s a hid.isSome=true:=by rw[Wu,q];rfl
   have ho:¬has s Al a=true:=fun h=>by unfold EZ at q;rw[if_pos h] at q;cases q
   have hc:has s Ab a=true:=by
    unfold EZ at q;rw[if_neg ho] at q
    by_cases h:has s Ab a=true
    ·exact h
    ·rw[if_neg h] at q;split at q<;>(try split at q)<;>omega
   have h6:a+6<=s.length:=GI hc (by decide)
   have VW:DW s a hid=match CK s a with|.error e=>.error e|.ok t=>.ok ([t],hid):=by
    unfold DW;rw[if_neg ho,if_pos hc]
    cases CK s a<;>rfl
   refine⟨s,fr,a,l,Jv hid,Mu,ha,hs,by omega,rfl,rfl,s,a,_,Jv hid,hc,ha,hs,by omega,rfl,rfl,fun p e he a19 L20 sd=>kI S0 rfl rfl rfl rfl (bad p e HT (by rw[VW,he])) _ _ _,fun t he=> ?_⟩
   exact take [t] hid HT (by rw[VW,he]) (dY h6 he)
  ·have HT:spec s a hid.isSome=true:=by rw[Wu,q];rfl
   have ho:¬has s Al a=true:=fun h=>by unfold EZ at q;rw[if_pos h] at q;cases q
   have hc:¬has s Ab a=true:=fun h=>by unfold EZ at q;rw[if_neg ho,if_pos h] at q;cases q
   have hh:EY s a=true:=by
    unfold EZ at q;rw[if_neg ho,if_neg hc] at q
    by_cases h:EY s a=true
    ·exact h
    ·rw[if_neg h] at q;split at q<;>omega
   have h8:a+8<=s.length:=by
    unfold EY at hh;simp only[Bool.and_eq_true,decide_eq_true_eq] at hh;omega
   have VW:DW s a hid=if hid.isSome=true then .error (a,13) else .ok ([⟨5,[],[],cut s a (a+8),a,a+8⟩],some a):=by
    unfold DW;rw[if_neg ho,if_neg hc,if_pos hh]
   refine⟨s,fr,a,l,Jv hid,Mu,ha,hs,by omega,rfl,rfl,s,a,_,Jv hid,h8,hs,by omega,rfl,rfl,fun hp a53 L54 zA=> ?_,fun hp=> ?_⟩
   ·have:hid.isSome=true:=by rw[<-Ut];simpa using hp
    rw[if_pos this] at VW;exact kI S0 rfl rfl rfl rfl (bad a 13 HT VW) _ _ _
   ·have:¬hid.isSome=true:=by rw[<-Ut];simp;omega
    rw[if_neg this] at VW
    exact take [⟨5,[],[],cut s a (a+8),a,a+8⟩] (some a) HT VW ⟨by show a+1<=a+8;omega,by show a<a+8;omega,h8⟩
  ·have HT:spec s a hid.isSome=true:=by rw[Wu,q];rfl
   have ho:¬has s Al a=true:=fun h=>by unfold EZ at q;rw[if_pos h] at q;cases q
   have hc:¬has s Ab a=true:=fun h=>by unfold EZ at q;rw[if_neg ho,if_pos h] at q;cases q
   have hh:¬EY s a=true:=fun h=>by unfold EZ at q;rw[if_neg ho,if_neg hc,if_pos h] at q;cases q
   have hw:has s BS a=true:=(ND HT ho hc hh).1
   have h3:a+3<=s.length:=GI hw (by decide)
   have ZJ:cut s a (a+3)=BS:=by
    have:=List.prefix_iff_eq_take.1 (List.isPrefixOf_iff_prefix.1 hw);rw[Fh];exact this.symm
   have VW:DW s a hid=.ok ([⟨6,[],[],cut s a (a+3),a,a+3⟩],none):=by
    unfold DW;rw[if_neg ho,if_neg hc,if_neg hh,ZJ]
   refine⟨s,fr,a,l,Jv hid,Mu,ha,hs,by omega,rfl,rfl,s,a,_,Jv hid,h3,hs,by omega,rfl,rfl,?_⟩
   exact take [⟨6,[],[],cut s a (a+3),a,a+3⟩] none HT VW ⟨by show a+1<=a+3;omega,by show a<a+3;omega,h3⟩
theorem X7 (S0:Sound cfg I B0){s:List UInt8}(hs:s.length<=limE):GN cfg 17 (AB Tryz.f17) (rR cfg I B0 qP Dp Tryz.f17 36 Om (Wk (lexM s))) [.code []] .normal (Dz 0 [.str s]++[(dS,true,.C9 [])]) []:=by
 show GN cfg 17 (AB Tryz.f17) (QP.mk Dp (qE (Wk (lexM s))) (pE I B0 (Wk (lexM s)))) [.code []] .normal [(0,true,.str s),(1000000,true,.C9 [])] []
 refine t15 Ve (eR S0 hs s.length 0 0 [] none (s.length+1) (by omega) (by omega) (by omega) (by simp) (fun j _ h=>by omega) (by omega) ?_)
 unfold lexM
 cases DR s (s.length+1) 0 none<;>rfl
def Ys :List AV->Option (Bool×AV)
 |[.str s]=>some (Nat.ble s.length 1000000,Wk (lexM s))
 |_=>none
theorem aj (S0:Sound cfg I B0):Er Tryz.prog cfg.G I B0 17 Ys:=by
 intro vs v hv E args hE hB H hr;unfold Ys at hv;split at hv
 ·rename_i s;simp only[Option.some.injEq,Prod.mk.injEq] at hv;obtain⟨hs,rfl⟩:=hv
  refine cO S0 nT (by kernel_rfl) (by kernel_rfl) (by kernel_rfl) Tryz.func17 (by kernel_rfl) (by kernel_rfl) ⟨Tryz.f36,Tryz.func36,by kernel_rfl,by kernel_rfl⟩ (fun vals w hl=> ?_) rfl (X7 S0 (Nat.le_of_ble_eq_true hs)) H hr
  match vals,hl with
  |[a0,a1,a2],_=>exact eT a0 a1 a2 w
 ·cases hv
end
end Go.Proofs.YtopjpnhgnopbiaaGreatDoor.Lx
end
