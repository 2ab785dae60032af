/-
  Pieces of a page's text: bytes, words, lists of names: contracts.
  Pieces of a page's text: the reader's own steps: contracts.
  Pieces of a page's text: what adds a piece, what finds what stands next: contracts.
  Pieces of a page's text: hidden parts, raw texts, tags that close: contracts.
  Pieces of a page's text: an attribute of a tag: contract.
  Pieces of a page's text: a tag that opens: contract.
  Pieces of a page's text: what takes back what was given up; the pieces of a text, whole.
  Pieces of a page's text: the pieces of a text, whole: the function under contract.
-/
import Derived.Test.YtopjpnhgnopbiaaGreatDoorJB
import Derived.Test.YtopjpnhgnopbiaaGreatDoorJA
import Derived.Test.YtopjpnhgnopbiaaGreatDoorJC
import Derived.Test.YtopjpnhgnopbiaaGreatDoorAiRec
import Derived.WalkKit
import Derived.ProofKit
set_option linter.unusedVariables false
set_option linter.unusedSimpArgs false
set_option linter.unnecessarySimpa false
section
namespace Go.Proofs.YtopjpnhgnopbiaaGreatDoor.Lx
open Go.Ai Go Go.Ai.Ex
set_option maxRecDepth 100000
theorem vc :BN cfg 118 Tryz.f118:=(by refine⟨?_,?_,?_,?_,?_,?_⟩<;>kernel_rfl)
theorem vm :BN cfg 58 Tryz.f58:=(by refine⟨?_,?_,?_,?_,?_,?_⟩<;>kernel_rfl)
theorem vf :BN cfg 86 Tryz.f86:=(by refine⟨?_,?_,?_,?_,?_,?_⟩<;>kernel_rfl)
theorem vn :BN cfg 55 Tryz.f55:=(by refine⟨?_,?_,?_,?_,?_,?_⟩<;>kernel_rfl)
theorem nw :BN cfg 101 Tryz.f101:=(by refine⟨?_,?_,?_,?_,?_,?_⟩<;>kernel_rfl)
theorem nu :BN cfg 126 Tryz.f126:=(by refine⟨?_,?_,?_,?_,?_,?_⟩<;>kernel_rfl)
theorem LU :AL cfg (Ac []):=AY AM
theorem zl :CQ cfg 93 dJ:=by
 refine Fp (by kernel_rfl) (by kernel_rfl) (by kernel_rfl:cfg.FP 93=some MJ) (by kernel_rfl) fun vs h K ht=> ?_
 obtain⟨s,c,hl,rfl,hk⟩:=ht;have:=c.toNat_lt;refine⟨.int .i64 (Lib.indexByte s c),hk,?_⟩
 have e:(c.toNat:Int).toNat.toUInt8=c:=by simp
 simp only[MJ,e]
 rw[decide_eq_true (by omega),decide_eq_true (by omega)];rfl
theorem c74 :CQ cfg 84 dI:=by
 refine Fp (by kernel_rfl) (by kernel_rfl) (by kernel_rfl:cfg.FP 84=some Qe) (by kernel_rfl) fun vs h K ht=> ?_
 obtain⟨s,x,hl,rfl,hk⟩:=ht;refine⟨.int .i64 (Jb s x 0),hk,?_⟩
 have:Nat.blt s.length 4294967281=true:=Nat.ble_eq_true_of_le (by unfold limE at hl;omega)
 simp only[Qe,this]
theorem c79 :CQ cfg 117 U6:=by
 refine Fp (by kernel_rfl) (by kernel_rfl) (by kernel_rfl:cfg.FP 117=some Pc) (by kernel_rfl) fun vs h K ht=> ?_
 obtain⟨s,rfl,rfl,hk⟩:=ht
 exact⟨.sl 1 (LV.map fun n=>[.str n]) none,hk,by kernel_rfl⟩
theorem fR (c:UInt8):ON c=(decide ((c.toNat:Int)>=97)&&decide ((c.toNat:Int)<=122)):=by
 unfold ON
 congr 1
 ·rw[decide_eq_decide];omega
 ·rw[decide_eq_decide];omega
theorem zk :CQ cfg 118 Jl:=by
 refine Ax vc fun vs h K ht=> ?_
 obtain⟨c,rfl,hk⟩:=ht
 refine⟨_,hk,t80 LU (AA (fun a=> ?_) fun a=> ?_)⟩
 ·rw[fR,a,Bool.true_and]
 ·rw[fR,a,Bool.false_and]
theorem tf (c:UInt8):decide (Lib.indexByte [32,9,10,13] c>=0)=blB c:=by
 unfold blB;simp only[Lib.indexByte]
 by_cases h1:c=32
 ·subst h1;rfl
 by_cases h2:c=9
 ·subst h2;rfl
 by_cases h3:c=10
 ·subst h3;rfl
 by_cases h4:c=13
 ·subst h4;rfl
 have e1:((32:UInt8)==c)=false:=by simpa using fun h=>h1 h.symm
 have e2:((9:UInt8)==c)=false:=by simpa using fun h=>h2 h.symm
 have e3:((10:UInt8)==c)=false:=by simpa using fun h=>h3 h.symm
 have e4:((13:UInt8)==c)=false:=by simpa using fun h=>h4 h.symm
 simp[h1,h2,h3,h4,e1,e2,e3,e4,Ne.symm h1,Ne.symm h2,Ne.symm h3,Ne.symm h4]
theorem zr :CQ cfg 58 OB:=by
 refine Ax vm fun vs h K ht=> ?_
 obtain⟨c,rfl,hk⟩:=ht
 exact⟨_,hk,t39 (AY (AH zl AM)) ⟨_,c,by decide,rfl,by rw[tf]⟩⟩
theorem NP :∀(x s:List UInt8),x.isPrefixOf s=(decide (x.length<=s.length)&&(s.take x.length==x))
 |[],s=>by simp
 |a::x,[]=>by simp
 |a::x,b::s=>by
  have:=NP x s;simp only[List.isPrefixOf_cons_cons,this,List.length_cons,List.take_succ_cons,List.cons_beq_cons]
  rw[show(decide (x.length+1<=s.length+1))=decide (x.length<=s.length) from by simp,show(a==b)=(b==a) from by rw[Bool.eq_iff_iff];simp;exact eq_comm]
  cases (b==a)<;>cases decide (x.length<=s.length)<;>simp
theorem c57 :CQ cfg 86 Ex.V7:=by
 refine Ax vf fun vs h K ht=> ?_
 obtain⟨s,x,rfl,hk⟩:=ht
 refine⟨_,hk,t57 LU (AA (fun a=>AD ?_ ?_) fun a=> ?_)⟩
 ·simp[CK] at a⊢;omega
 ·simp at a
  rw[NP,decide_eq_true (by omega),Bool.true_and]
  simp[Dj]
 ·simp at a
  rw[NP,decide_eq_false (by omega),Bool.false_and]
theorem c36 :CQ cfg 55 Ex.V7:=by
 refine Ax vn fun vs h K ht=> ?_
 obtain⟨s,x,rfl,hk⟩:=ht;exact⟨_,hk,t36 (AY (AH c57 AM)) ⟨s,x,rfl,rfl⟩⟩
theorem Ek {n:Nat}(h:n<=2*limE):IntKind.wrap .i64 ((n:Int)+1)=((n+1:Nat):Int):=by
 unfold limE at h;rw[BH]<;>omega
theorem Ds {α:Type}(f:α->List AV)(l:List α){i:Nat}(h:i<l.length):CH (l.map f) (i:Int)=f l[i]:=by
 unfold CH;simp[h]
theorem CF {i n:Nat}(h:i<n):Dm (i:Int) n=true:=by
 unfold Dm
 rw[decide_eq_true (by omega),decide_eq_true (by omega)];rfl
theorem va (l:List (List UInt8)):AP.BJ (l.map fun n=>[AV.str n])=true:=by
 induction l with
 |nil=>rfl
 |cons a r ih=>simp only[List.map_cons,AP.BJ,AP.Ad,AP,ih,Bool.true_and]
theorem Hj {α:Type}(p:α->Bool)(l:List α){i:Nat}(h:i<l.length):(l.drop i).any p=(p l[i]||(l.drop (i+1)).any p):=by
 rw[List.drop_eq_getElem_cons h,List.any_cons]
theorem Qv (l:List (List UInt8))(x:List UInt8)(hl:l.length<=limE):∀(n i:Nat),l.length-i=n->i<=l.length->∃z:Int,decide (z>=0)=(l.drop i).any (·==x)/\
  AF cfg 126 (AB Tryz.f126) (AK Tryz.prog Tryz.f126 (.int .i64 z)) [.code [0,1,0,1],.block 0,.code [1,1]] .normal [(0,true,.sl 1 (l.map fun n=>[.str n]) none),(1,true,.str x),(7,true,.int .i64 l.length),(8,true,.int .i64 i)] []
 |0,i,hn,hi=>by
  refine⟨-1,?_,YG LU (AA (fun a=> ?_) fun _=>rfl)⟩
  ·rw[List.drop_of_length_le (by omega)];rfl
  ·simp at a;omega
 |n+1,i,hn,hi=>by
  have BC:i<l.length:=by omega
  by_cases hx:l[i]=x
  ·refine⟨i,?_,YG LU (AA (fun a=>AD ?_ ⟨l[i],Ds _ l BC,AA (fun _=>rfl) fun b=> ?_⟩) fun a=> ?_)⟩
   ·rw[Hj _ _ BC,decide_eq_true (by omega)];simp[hx]
   ·rw[List.length_map,CF BC];rfl
   ·simp[hx] at b
   ·simp at a;omega
  ·obtain⟨z,hz,hr⟩:=Qv l x hl n (i+1) (by omega) (by omega)
   refine⟨z,?_,YG LU (AA (fun a=>AD ?_ ⟨l[i],Ds _ l BC,AA (fun b=> ?_) fun b=> ?_⟩) fun a=> ?_)⟩
   ·rw[hz,Hj _ _ BC];simp[hx]
   ·rw[List.length_map,CF BC];rfl
   ·simp at b;exact absurd b.symm hx
   ·rw[Ek (by omega)];exact hr
   ·simp at a;omega
theorem yV :CQ cfg 126 iD:=by
 refine Ax nu fun vs h K ht=> ?_
 obtain⟨l,x,rfl,hl,hk⟩:=ht
 obtain⟨z,hz,hr⟩:=Qv l x hl l.length 0 (by omega) (by omega)
 refine⟨_,hk z hz,t88 LU ?_⟩;rw[List.length_map];exact hr
theorem yY :CQ cfg 101 oR:=by
 refine Ax nw fun vs h K ht=> ?_
 obtain⟨l,x,rfl,hl,hk⟩:=ht
 exact⟨_,hk,t72 (AY (AH yV AM)) ⟨l,x,by rw[As 0 [] _ (va l)],hl,fun z hz=>by rw[hz]⟩⟩
theorem Hc (s:List UInt8)(a j:Nat):s.getD (a+j) 0=(s.drop a).getD j 0:=by
 simp[List.getD_eq_getElem?_getD,List.getElem?_drop]
theorem YB {p:UInt8->Bool}:∀(l:List UInt8) (j:Nat),j<(l.takeWhile p).length->j<l.length/\p (l.getD j 0)=true
 |[],j,h=>by simp at h
 |c::r,j,h=>by
  cases hc:p c with
  |false=>simp[List.takeWhile_cons,hc] at h
  |true=>
   simp only[List.takeWhile_cons,hc,if_true,List.length_cons] at h
   cases j with
   |zero=>exact⟨by simp,by simpa using hc⟩
   |succ j=>
    obtain⟨h1,h2⟩:=YB (p:=p) r j (by omega)
    exact⟨by simp;omega,by simpa using h2⟩
theorem eS {p:UInt8->Bool}:∀(l:List UInt8),(l.takeWhile p).length<l.length->p (l.getD (l.takeWhile p).length 0)=false
 |[],h=>by simp at h
 |c::r,h=>by
  cases hc:p c with
  |false=>simp[List.takeWhile_cons,hc]
  |true=>
   simp only[List.takeWhile_cons,hc,if_true,List.length_cons] at h⊢
   have:=eS (p:=p) r (by omega)
   simpa using this
theorem Wn {s:List UInt8}{a b:Nat}(h1:a<=b)(h2:b<a+lets s a):b<s.length/\ON (s.getD b 0)=true:=by
 obtain⟨j,rfl⟩:∃j,b=a+j:=⟨b-a,by omega⟩
 unfold lets at h2
 obtain⟨k1,k2⟩:=YB (p:=ON) (s.drop a) j (by omega)
 rw[List.length_drop] at k1
 exact⟨by omega,by rw[Hc];exact k2⟩
theorem az {s:List UInt8}{a:Nat}(h:a+lets s a<s.length):ON (s.getD (a+lets s a) 0)=false:=by
 rw[Hc]
 exact eS (p:=ON) (s.drop a) (by unfold lets at h;rw[List.length_drop];omega)
theorem fw {s:List UInt8}{a b:Nat}(h1:a<=b)(h2:b<past s a):b<s.length/\blB (s.getD b 0)=true:=by
 obtain⟨j,rfl⟩:∃j,b=a+j:=⟨b-a,by omega⟩
 unfold past at h2
 obtain⟨k1,k2⟩:=YB (p:=blB) (s.drop a) j (by omega)
 rw[List.length_drop] at k1
 exact⟨by omega,by rw[Hc];exact k2⟩
theorem kX {s:List UInt8}{a:Nat}(h:past s a<s.length):blB (s.getD (past s a) 0)=false:=by
 unfold past at h⊢;rw[Hc]
 exact eS (p:=blB) (s.drop a) (by rw[List.length_drop];omega)
theorem Km {s:List UInt8}{b:Nat}:[AV.int IntKind.u8 ((s.getD ((b:Int).toNat) 0).toNat:Int)]=[AV.int IntKind.u8 ((s.getD b 0).toNat:Int)]:=by rw[Int.toNat_natCast]
theorem He (s:List UInt8){a b:Nat}(h:a<=b)(hb:b<=s.length):Dj s (some (a:Int)) (some (b:Int))=cut s a b/\CK s.length (some (a:Int)) (some (b:Int))=true:=by
 refine⟨?_,?_⟩
 ·simp only[Dj,Int.toNat_natCast,cut];rw[List.drop_take]
 ·simp only[CK]
  rw[decide_eq_true (by omega),decide_eq_true (by omega),decide_eq_true (by omega)];rfl
theorem xN :BW cfg 116 Tryz.f116:=(by refine⟨?_,?_,?_,?_,?_,?_⟩<;>kernel_rfl)
theorem xV :BW cfg 88 Tryz.f88:=(by refine⟨?_,?_,?_,?_,?_,?_⟩<;>kernel_rfl)
theorem eu :AL cfg (Ac [(118,Jl)]):=AY (AH zk AM)
theorem fD :AL cfg (Ac [(58,OB)]):=AY (AH zr AM)
theorem gb {K:AV->Hp->Prop}{s:List UInt8}{a:Nat}{L:List (List AV)}{hid:Int}(Bk:Am.Ej [] L)(ha:a<=s.length)(hs:s.length<=limE)(hk:K (.str ((s.drop a).take (lets s a))) (hX s ((a+lets s a:Nat):Int) L hid)):
  ∀(n b:Nat),a+lets s a-b=n->a<=b->b<=a+lets s a->AF cfg 116 (AB Tryz.f116) (AX Tryz.prog Tryz.f116 6 K) [.code [0,0,1,1],.block 0,.code [1,1,1]] .normal [(0,true,.ptr 5 0),(3,true,.int .i64 a)] (hX s (b:Nat) L hid)
 |0,b,hn,h1,h2=>by
  have hb:b=a+lets s a:=by omega
  subst hb
  have hle:a+lets s a<=s.length:=by have:=GW s a;omega
  obtain⟨e1,e2⟩:=He s (show a<=a+lets s a by omega) hle
  have hL:=fun g=>(Bk 6 g (by simp)).2
  have e3:cut s a (a+lets s a)=(s.drop a).take (lets s a):=Fl;rw[<-e3] at hk
  refine q7 eu (AA (fun x=>AD (CF (by simp at x;omega)) ⟨s.getD (a+lets s a) 0,Km,AA (fun y=> ?_) fun y=>AD e2 ?_⟩) fun x=>AD e2 ?_)
  ·rw[az (by simp at x;omega)] at y;cases y
  ·rw[e1,hL];exact hk
  ·rw[e1,hL];exact hk
 |n+1,b,hn,h1,h2=>by
  obtain⟨k1,k2⟩:=Wn h1 (show b<a+lets s a by omega)
  refine q7 eu (AA (fun x=>AD (CF k1) ⟨s.getD b 0,Km,AA (fun y=> ?_) fun y=> ?_⟩) fun x=> ?_)
  ·rw[Ek (by omega)]
   exact gb Bk ha hs hk n (b+1) (by omega) (by omega) (by omega)
  ·rw[k2] at y;cases y
  ·simp at x;omega
theorem c78 :CQ cfg 116 eO:=by
 refine BD xN fun vs h K ht=> ?_
 obtain⟨s,a,L,hid,Bk,ha,hs,rfl,rfl,hk⟩:=ht
 exact t78 eu (gb Bk ha hs hk _ a rfl (by omega) (by omega))
theorem gh {K:AV->Hp->Prop}{r:Hp}{s:List UInt8}{a:Nat}{L:List (List AV)}{hid:Int}(Bk:Am.Ej r L)(ha:a<=s.length)(hs:s.length<=limE)(hk:K (.int .i64 ((past s a-a:Nat):Int)) (hX s ((past s a:Nat):Int) L hid++r)):
  ∀(n b:Nat),past s a-b=n->a<=b->b<=past s a->AF cfg 88 (AB Tryz.f88) (AX Tryz.prog Tryz.f88 (hX s (b:Nat) L hid++r).length K) [.code [0,0,1,1],.block 0,.code [1,1,1]] .normal [(0,true,.ptr 5 0),(3,true,.int .i64 a)] (hX s (b:Nat) L hid++r)
 |0,b,hn,h1,h2=>by
  have hb:b=past s a:=by omega
  subst hb;have hle:=Hv ha
  have hN:=fun g=>Bk (hX s ((past s a:Nat):Int) L hid++r).length g (by simp[hX];omega)
  have pT:=fun g=>(hN g).1
  have pS:=fun g=>(hN g).2
  have ew:IntKind.wrap .i64 ((past s a:Int)-(a:Int))=((past s a-a:Nat):Int):=by
   unfold limE at hs
   rw[BH]<;>omega
  have fin:K (.int .i64 (IntKind.wrap .i64 ((past s a:Int)-(a:Int)))) (Blk.grow 0 6 50::Blk.mem 41 [AV.sl 6 [] (some 0)]::Blk.mem 3 [AV.int .i64 0]::Blk.mem 27 [AV.int .i64 0]::Blk.grow (List.length L) 6 50::Blk.mem 89 [AV.str s,AV.int .i64 (past s a:Nat),AV.sl 6 L (some 4),AV.int .i64 hid]::r):=by rw[ew];exact hk
  refine q9 fD (AA (fun x=>AD (CF (by simp at x;omega)) ⟨s.getD (past s a) 0,Km,AA (fun y=> ?_) fun y=> ?_⟩) fun x=> ?_)
  ·rw[kX (by simp at x;omega)] at y;cases y
  ·simp only[List.append_eq,List.nil_append,List.take_length,pT,pS];exact fin
  ·simp only[List.append_eq,List.nil_append,List.take_length,pT,pS];exact fin
 |n+1,b,hn,h1,h2=>by
  obtain⟨k1,k2⟩:=fw h1 (show b<past s a by omega)
  refine q9 fD (AA (fun x=>AD (CF k1) ⟨s.getD b 0,Km,AA (fun y=> ?_) fun y=> ?_⟩) fun x=> ?_)
  ·rw[Ek (by omega)]
   exact gh Bk ha hs hk n (b+1) (by omega) (by omega) (by omega)
  ·rw[k2] at y;cases y
  ·simp at x;omega
theorem c59 :CQ cfg 88 rh:=by
 refine BD xV fun vs h K ht=> ?_
 obtain⟨r,s,a,L,hid,Bk,ha,hs,rfl,rfl,hk⟩:=ht
 exact t59 fD (gh Bk ha hs hk _ a rfl (by omega) (Hv ha).1)
theorem tY :CQ cfg 88 QJ:=by
 intro l h K ht;refine c59 l h K ?_;obtain⟨s,a,L,hid,k,nm,l',Bk,ha,hs,e1,e2,hk⟩:=ht;exact⟨rT k nm (encAs l'),s,a,L,hid,Bk,ha,hs,e1,e2,hk⟩
theorem xU :BW cfg 89 Tryz.f89:=(by refine⟨?_,?_,?_,?_,?_,?_⟩<;>kernel_rfl)
theorem xS :BW cfg 91 Tryz.f91:=(by refine⟨?_,?_,?_,?_,?_,?_⟩<;>kernel_rfl)
theorem xW :BW cfg 87 Tryz.f87:=(by refine⟨?_,?_,?_,?_,?_,?_⟩<;>kernel_rfl)
theorem xM :BW cfg 119 Tryz.f119:=(by refine⟨?_,?_,?_,?_,?_,?_⟩<;>kernel_rfl)
theorem pD :BW cfg 99 Tryz.f99:=(by refine⟨?_,?_,?_,?_,?_,?_⟩<;>kernel_rfl)
theorem pC :BW cfg 125 Tryz.f125:=(by refine⟨?_,?_,?_,?_,?_,?_⟩<;>kernel_rfl)
theorem jl (b:Nat):Nat.blt b 0=false:=rfl
theorem Sd {v:AV}{k:IntKind}{n:Int}(h:strip 0 [] v=.int k n):v=.int k n:=by
 cases v<;>simp_all[strip,jl]
theorem Xi (l:List AV)(p e:Int)(h:B8 cfg 39 l=[.int .i64 p,.int .i64 e]):l=[.int .i64 p,.int .i64 e]:=by
 have hh:((cfg.Cq 39).isSome||cfg.heap 39)=false:=by kernel_rfl
 unfold B8 at h;rw[hh] at h;simp only at h
 cases l with
 |nil=>cases h
 |cons x l=>
  cases l with
  |nil=>simp[AQ] at h
  |cons y l=>
   cases l with
   |cons z l=>simp[AQ] at h
   |nil=>
    simp only[AQ,List.cons.injEq,and_true] at h;rw[Sd h.1,Sd h.2]
theorem ld :Jj cfg Dr 39 Cp:=by
 intro l h K KP ht;obtain⟨p,e,hl,hk⟩:=ht;have Jx:=Xi l p e hl;refine .inr ⟨1,(p,e),h,?_,hk⟩;simp only[OF];refine .inl ⟨?_,trivial⟩;rw[Jx];rfl
theorem ug :B9 cfg Dr (Du [] [(39,Cp)]):=Fo AM (BV ld FW)
theorem uR :Jj cfg Dr 89 IY:=by
 refine FL xU fun vs h K KP ht=> ?_
 obtain⟨r,s,a,L,hid,tag,Bk,ha,hs,rfl,rfl,h1,h2⟩:=ht
 have hN:=fun g=>Bk (hX s (a:Nat) L hid++r).length g (by simp[hX];omega)
 have pT:=fun g=>(hN g).1
 have pS:=fun g=>(hN g).2
 refine t60 ug (AA (fun x=>⟨tag,14,rfl,?_⟩) fun x=>AD (CF (by simp at x;omega)) ?_)
 ·simp only[List.append_eq,List.nil_append,List.take_length,pT,pS]
  exact h1 (by simp at x;omega)
 ·simp only[List.append_eq,List.nil_append,List.take_length,pT,pS,Int.toNat_natCast]
  exact h2 (by simp at x;omega)
theorem qo :B9 cfg Dr (Du [] [(39,Cp),(89,IY)]):=Fo AM (BV ld (BV uR FW))
theorem zm :Jj cfg Dr 91 rv:=by
 refine FL xS fun vs h K KP ht=> ?_
 obtain⟨r,s,a,L,hid,tag,is,Bk,ha,hs,rfl,rfl,h1,h2,h3⟩:=ht
 have hN:=fun g=>Bk (hX s (a:Nat) L hid++r).length g (by simp[hX];omega)
 have pT:=fun g=>(hN g).1
 have pS:=fun g=>(hN g).2
 refine t62 qo ?_;simp only[List.append_eq,List.nil_append,List.take_length,pT,pS]
 refine⟨r,s,a,L,hid,tag,Bk,ha,hs,rfl,rfl,fun x=>h1 x,fun x=>AA (fun y=>⟨a,12,rfl,?_⟩) fun y=> ?_⟩
 ·exact h2 x (by simpa using y)
 ·rw[Ek (by omega)]
  exact h3 x (by simpa using y)
theorem yc :Jj cfg Dr 91 WW:=by
 intro l h K KP ht;refine zm l h K KP ?_;obtain⟨s,a,L,hid,k,tag,nm,l',is,Bk,ha,hs,e1,e2,hk⟩:=ht;exact⟨rT k nm (encAs l'),s,a,L,hid,tag,is,Bk,ha,hs,e1,e2,hk⟩
theorem yd :Jj cfg Dr 91 WX:=by
 intro l h K KP ht;refine zm l h K KP ?_;obtain⟨s,a,L,hid,k,tag,nm,l',an,av,aa,is,Bk,ha,hs,e1,e2,hk⟩:=ht;exact⟨rA k nm (encAs l') an av aa,s,a,L,hid,tag,is,Bk,ha,hs,e1,e2,hk⟩
theorem qq :B9 cfg Dr (Du [(116,eO),(117,U6),(101,oR)] [(39,Cp)]):=Fo (AH c78 (AH c79 (AH yY AM))) (BV ld FW)
theorem zn :Jj cfg Dr 87 Qr:=by
 refine FL xW fun vs h K KP ht=> ?_
 obtain⟨s,a,L,hid,tag,Bk,ha,hs,rfl,rfl,h1,h2⟩:=ht
 have hL:=fun g=>(Bk 6 g (by simp)).2
 refine t58 qq ⟨s,a,L,hid,Bk,ha,hs,rfl,rfl,_,rfl,rfl,LV,_,rfl,by decide,?_⟩
 simp only[hL]
 refine AA (fun x=>⟨tag,11,rfl,?_⟩) fun x=> ?_
 ·exact h1 (by simpa[CW] using x) _ L hid
 ·exact h2 (by simpa[CW] using x)
theorem Jn (l:List Aj):AP.BJ (encAs l)=true:=by
 unfold encAs
 induction l with
 |nil=>rfl
 |cons a r ih=>simp only[List.map_cons,Ao,AP.BJ,AP.Ad,AP,ih,Bool.true_and]
theorem Bv (n:Nat)(g:Hp)(l:List Aj):AE n g (encAs l)=encAs l:=As _ _ _ (Jn l)
theorem Uf {k:Int}{nm:List UInt8}{es:List (List AV)}{an av:List UInt8}{aa:Int}{L:List (List AV)}(h:Am.Ej (rA k nm es an av aa) L){n:Nat}(hn:11<=n)(g:Hp):AE n g es=es/\AE n g L=L:=by
 obtain⟨h1,h2⟩:=h n g hn;refine⟨?_,h2⟩;simp only[rA,rT,List.cons_append,List.nil_append,List.map_cons,List.cons.injEq] at h1;have:=h1.2.2.1;simp only[AO,AQ,strip,Blk.mem.injEq,List.cons.injEq,AV.sl.injEq] at this;exact this.2.2.2.1.2.1
theorem c81 :CQ cfg 119 T9:=by
 refine BD xM fun vs h K ht=> ?_
 obtain⟨s,a,L,hid,k,nm,es,an,av,aa,b,Bk,rfl,rfl,hk⟩:=ht
 have hN:=fun g=>Uf Bk (Nat.le_refl 11) g
 refine t81 LU ?_
 simp only[fun g=>(hN g).1,fun g=>(hN g).2]
 exact hk
theorem er :AL cfg (Ac [(119,T9)]):=AY (AH c81 AM)
theorem Qw {K:AV->Hp->Prop}{s:List UInt8}{a:Int}{L:List (List AV)}{hid k:Int}{nm:List UInt8}{l:List Aj}{an av:List UInt8}{aa:Int}(Bk:Am.Ej (rA k nm (encAs l) an av aa) L)(hl:l.length<=limE)
  (hk:∀z:Int,decide (z>=0)=(l.any fun b=>an==b.name)->K (.int .i64 z) (jC s a L hid k nm (encAs l) an av aa)):
  ∀(n i:Nat),l.length-i=n->i<=l.length->(l.take i).any (fun b=>an==b.name)=false->AF cfg 125 (AB Tryz.f125) (AX Tryz.prog Tryz.f125 11 K) [.code [0,1,0,1],.block 0,.code [1,1]] .normal [(0,true,.sl 3 (encAs l) (some 6)),(1,true,.fn (.func 119) [] [.ptr 10 0]),(7,true,.int .i64 l.length),(8,true,.int .i64 i)] (jC s a L hid k nm (encAs l) an av aa)
 |0,i,hn,hi,hp=>by
  have hN:=fun g=>Uf Bk (Nat.le_refl 11) g
  refine fH er ?_
  simp only[fun g=>(hN g).1,fun g=>(hN g).2]
  refine AA (fun x=> ?_) fun x=>hk (-1) ?_
  ·simp at x;omega
  ·rw[List.take_of_length_le (by omega)] at hp;rw[hp];rfl
 |n+1,i,hn,hi,hp=>by
  have hN:=fun g=>Uf Bk (Nat.le_refl 11) g
  have BC:i<l.length:=by omega
  refine fH er ?_
  simp only[fun g=>(hN g).1,fun g=>(hN g).2]
  refine AA (fun x=>AD ?_ ⟨l[i].name,l[i].value,l[i].at',Ds _ l BC,s,a,L,hid,k,nm,encAs l,an,av,aa,l[i],Bk,rfl,rfl,AA (fun y=>hk i ?_) fun y=> ?_⟩) fun x=> ?_
  ·rw[show(encAs l).length=l.length by simp[encAs],CF BC];rfl
  ·rw[decide_eq_true (by omega)]
   exact(List.any_eq_true.2 ⟨l[i],List.getElem_mem BC,y⟩).symm
  ·rw[Ek (by omega)]
   refine Qw Bk hl hk n (i+1) (by omega) (by omega) ?_
   rw[List.take_succ_eq_append_getElem BC,List.any_append,hp];simpa using y
  ·simp at x;omega
theorem yW :CQ cfg 125 mj:=by
 refine BD pC fun vs h K ht=> ?_
 obtain⟨s,a,L,hid,k,nm,l,an,av,aa,Bk,rfl,hl,rfl,hk⟩:=ht;refine t87 er ?_
 have:=Qw Bk hl hk _ 0 rfl (by omega) rfl
 rw[show l.length=(encAs l).length by simp[encAs]] at this
 exact this
theorem yZ :CQ cfg 99 jQ:=by
 refine BD pD fun vs h K ht=> ?_
 obtain⟨s,a,L,hid,k,nm,l,an,av,aa,Bk,rfl,hl,rfl,hk⟩:=ht
 have hN:=fun g=>Uf Bk (Nat.le_refl 11) g
 refine t70 (AY (AH yW AM)) ?_
 simp only[fun g=>(hN g).1,fun g=>(hN g).2]
 refine⟨s,a,L,hid,k,nm,l,an,av,aa,Bk,rfl,hl,rfl,fun z hz=> ?_⟩
 rw[hz];exact hk
theorem pG :BW cfg 61 Tryz.f61:=(by refine⟨?_,?_,?_,?_,?_,?_⟩<;>kernel_rfl)
theorem xe :BW cfg 60 Tryz.f60:=(by refine⟨?_,?_,?_,?_,?_,?_⟩<;>kernel_rfl)
theorem xm :BW cfg 38 Tryz.f38:=(by refine⟨?_,?_,?_,?_,?_,?_⟩<;>kernel_rfl)
theorem xn :BW cfg 37 Tryz.f37:=(by refine⟨?_,?_,?_,?_,?_,?_⟩<;>kernel_rfl)
theorem Ht (n:Nat)(g:Hp):∀(a b:List (List AV)),AE n g (a++b)=AE n g a++AE n g b
 |[],b=>rfl
 |x::a,b=>by rw[List.cons_append,AE,AE,Ht n g a b];rfl
theorem nn (l:List Tok):AP.BJ (encTs l)=true:=by
 unfold encTs
 induction l with
 |nil=>rfl
 |cons a r ih=>simp only[List.map_cons,encT,AP.BJ,AP.Ad,AP,ih,Jn,Option.isNone_none,Bool.true_and,Bool.and_true]
theorem CE (n:Nat)(g:Hp)(l:List Tok):AE n g (encTs l)=encTs l:=As _ _ _ (nn l)
theorem yu (l:List Tok):Am.Ej [] (encTs l):=fun n g _=>⟨rfl,CE n g l⟩
theorem wD (l:List Tok):Am.Ej [.grow 0 3 80] (encTs l):=fun n g _=>⟨rfl,CE n g l⟩
theorem lf {n:Nat}(h:9<=n):Nat.blt 6 n=true:=Nat.ble_eq_true_of_le (by omega)
theorem KO {n:Nat}(g:Hp){L:List (List AV)}(hL:AE n g L=L){k fr to:Int}{nm t:List UInt8}{es:List (List AV)}(he:AE n g es=es){id:Nat}(hi:Nat.blt id n=true):
  AE n g (L++[[.int .i64 k,.str nm,.sl 3 es (some id),.str t,.int .i64 fr,.int .i64 to]])=L++[[.int .i64 k,.str nm,.sl 3 es (some id),.str t,.int .i64 fr,.int .i64 to]]:=by
 rw[Ht,hL];simp only[AE,AQ,strip,he,hi,cond_true]
theorem GB {n:Nat}(g:Hp){L:List (List AV)}(hL:AE n g L=L){k fr to:Int}{nm t:List UInt8}{es:List (List AV)}(he:AE n g es=es){id:Nat}(hi:Nat.blt id n=false):
  AE n g (L++[[.int .i64 k,.str nm,.sl 3 es (some id),.str t,.int .i64 fr,.int .i64 to]])=L++[[.int .i64 k,.str nm,.sl 3 es none,.str t,.int .i64 fr,.int .i64 to]]:=by
 rw[Ht,hL];simp only[AE,AQ,strip,he,hi,cond_false]
theorem CM {α:Type}(L:List α)(x:α):(L++[x]).length=L.length+1:=by simp
theorem NB {h:Hp}{n:Nat}(e:h[4]?=some (.grow n 6 50)):FB h n 6 50 (some 4)=true:=by
 simp only[FB,e,Nat.beq_refl,Bool.and_self]
theorem td :CQ cfg 61 Tt:=by
 refine BD pG fun vs h K ht=> ?_
 obtain⟨s,a,fr,L,hid,k,Bk,ha,hs,hf,hl,rfl,rfl,hk⟩:=ht;obtain⟨e1,e2⟩:=He s hf ha
 have hL:=fun g=>(Bk 7 g (Nat.le_refl _)).2
 refine uy LU (AD e2 (AD ?_ ?_))
 ·rw[NB rfl,decide_eq_true (by unfold limE at hl;omega)];rfl
 ·rw[KO _ (hL _) rfl rfl,e1];unfold hG at hk;rw[CM] at hk;exact hk
theorem tc :CQ cfg 61 Rx:=by
 refine BD pG fun vs h K ht=> ?_
 obtain⟨s,a,fr,L,hid,k,nm,l,Bk,ha,hs,hf,hl,rfl,rfl,hk⟩:=ht;obtain⟨e1,e2⟩:=He s hf ha
 have hL:=fun g=>(Bk 9 g (Nat.le_refl _)).2
 refine uw LU (AD e2 (AD ?_ ?_))
 ·rw[NB rfl,decide_eq_true (by unfold limE at hl;omega)];rfl
 ·rw[KO _ (hL _) (Bv _ _ _) rfl,e1,Bv];unfold PR at hk;rw[CM] at hk;exact hk
theorem ye :CQ cfg 61 jx:=by
 refine BD pG fun vs h K ht=> ?_
 obtain⟨s,a,fr,L,hid,k,nm,l,Bk,ha,hs,hf,hl,rfl,rfl,hk⟩:=ht;obtain⟨e1,e2⟩:=He s hf ha
 have hL:=fun g=>(Bk 10 g (Nat.le_refl _)).2
 refine ux LU (AD e2 (AD ?_ ?_))
 ·rw[NB rfl,decide_eq_true (by unfold limE at hl;omega)];rfl
 ·rw[KO _ (hL _) rfl rfl,e1,Bv];unfold qZ at hk;rw[CM] at hk;exact hk
theorem HL (l m:List Tok):encTs (l++m)=encTs l++encTs m:=by unfold encTs;rw[List.map_append]
theorem HK (l:List Tok):(encTs l).length=l.length:=by simp[encTs]
theorem wrap_add {a b:Nat}(h:a+b<=2*limE):IntKind.wrap .i64 ((a:Int)+(b:Int))=((a+b:Nat):Int):=by
 unfold limE at h;rw[BH]<;>omega
theorem fC :AL cfg (Ac [(61,Tt)]):=AY (AH td AM)
theorem c41 :CQ cfg 60 QK:=by
 refine BD xe fun vs h K ht=> ?_
 obtain⟨s,a,l,hid,ha,hs,hl,rfl,rfl,hk⟩:=ht
 have e3:IntKind.wrap .i64 ((a:Int)+3)=((a+3:Nat):Int):=wrap_add (b:=3) (by omega)
 refine t41 fC ⟨s,a+3,a,encTs l,-1,6,wD l,ha,hs,by omega,by rw[HK];exact Nat.le_trans hl hs,rfl,by rw[e3],?_⟩
 rw[HL] at hk;unfold row;rw[GB _ (CE _ _ _) rfl rfl,CM];unfold hX at hk
 rw[show encTs [(⟨6,[],[],cut s a (a+3),a,a+3⟩:Tok)]=[row 6 [] [] none (cut s a (a+3)) a ((a+3:Nat):Int)] from rfl,CM] at hk
 exact hk
theorem c24 :CQ cfg 38 P7:=by
 refine BD xm fun vs h K ht=> ?_
 obtain⟨s,fr,a,l,hid,hf,ha,hs,hl,rfl,rfl,hk⟩:=ht
 refine t24 fC (AA (fun x=>⟨s,a,fr,encTs l,hid,1,wD l,ha,hs,hf,by rw[HK];exact Nat.le_trans hl hs,rfl,rfl,?_⟩) fun x=> ?_)
 ·have BC:fr<a:=by simp at x;omega
  rw[DW,if_pos BC,HL] at hk;unfold row;rw[GB _ (CE _ _ _) rfl rfl,CM];unfold hX at hk
  rw[show encTs [(⟨1,[],[],cut s fr a,fr,a⟩:Tok)]=[row 1 [] [] none (cut s fr a) fr a] from rfl,CM] at hk
  exact hk
 ·have BC:¬fr<a:=by simp at x;omega
  rw[DW,if_neg BC,List.append_nil] at hk;rw[CE];exact hk
theorem Ri (s:List UInt8){a:Nat}(h:a<=s.length):Dj s (some (a:Int)) none=s.drop a/\CK s.length (some (a:Int)) none=true:=by
 refine⟨by simp only[Dj,Int.toNat_natCast],?_⟩
 simp only[CK]
 rw[decide_eq_true (by omega),decide_eq_true (by omega)];rfl
theorem qx :AL cfg (Ac [(55,Ex.V7),(58,OB)]):=AY (AH c36 (AH zr AM))
theorem te :CQ cfg 37 tK:=by
 refine BD xn fun vs h K ht=> ?_
 obtain⟨s,a,l,hid,ha,hs,rfl,rfl,hk⟩:=ht;obtain⟨e1,e2⟩:=Ri s ha;refine t23 qx (AD e2 ?_);rw[e1];simp only[CE]
 have hh:Ec s a=(CX.isPrefixOf (s.drop a)&&(decide (((s.drop a).length:Int)>7)&&blB ((s.drop a).getD 7 0))):=by
  unfold Ec has;rw[<-Hc,List.length_drop]
  congr 2
  rw[decide_eq_decide];omega
 have tail:Ec s a=false->has s Al a=false->has s Aa a=false->∃(s8 x9:List UInt8),[AV.str (s.drop a),AV.str [45,45,62]]=[AV.str s8,AV.str x9]/\Ap (x9.isPrefixOf s8) (Ap (decide (hid>=0)) (K (.fn (.func 60) [.ptr 5 0] []) (hX s a (encTs l) hid)) (K .HT (hX s a (encTs l) hid))) (K .HT (hX s a (encTs l) hid)):=by
  intro h3 h1 h2
  refine⟨s.drop a,BM,rfl,AA (fun x=>AA (fun y=> ?_) fun y=> ?_) fun x=> ?_⟩
  all_goals
   have x':has s BM a=_:=x;simp only[TS,h1,h2,h3,x',Bool.false_eq_true,if_false,Bool.true_and,Bool.false_and] at hk
   first|(rw[if_pos (by simpa using y)] at hk;exact hk)|(rw[if_neg (by simpa using y)] at hk;exact hk)|exact hk
 refine⟨s.drop a,Al,rfl,AA (fun x=> ?_) fun h1=>⟨s.drop a,Aa,rfl,AA (fun x=> ?_) fun h2=>⟨s.drop a,CX,rfl,AA (fun h3=>AA (fun h4=>AD ?_ ⟨(s.drop a).getD 7 0,rfl,AA (fun h5=> ?_) fun h5=> ?_⟩) fun h4=> ?_) fun h3=> ?_⟩⟩⟩
 ·rw[TS,if_pos (show has s Al a=true from x)] at hk;exact hk
 ·rw[TS,if_neg (by rw[show has s Al a=false from h1];simp),if_pos (show has s Aa a=true from x)] at hk;exact hk
 ·exact CF (i:=7) (by simp at h4⊢;omega)
 ·rw[TS,if_neg (by rw[show has s Al a=false from h1];simp),if_neg (by rw[show has s Aa a=false from h2];simp),if_pos (by rw[hh,h3,h4,h5];rfl)] at hk;exact hk
 ·exact tail (by rw[hh,h3,h4,h5];rfl) h1 h2
 ·exact tail (by rw[hh,h3,h4];rfl) h1 h2
 ·exact tail (by rw[hh,h3];rfl) h1 h2
theorem xf :BW cfg 59 Tryz.f59:=(by refine⟨?_,?_,?_,?_,?_,?_⟩<;>kernel_rfl)
theorem xR :BW cfg 92 Tryz.f92:=(by refine⟨?_,?_,?_,?_,?_,?_⟩<;>kernel_rfl)
theorem xg :BW cfg 57 Tryz.f57:=(by refine⟨?_,?_,?_,?_,?_,?_⟩<;>kernel_rfl)
theorem qu :B9 cfg Dr (Du [(61,Tt)] [(39,Cp)]):=Fo (AH td AM) (BV ld FW)
theorem c40 :Jj cfg Dr 59 RF:=by
 refine FL xf fun vs h K KP ht=> ?_
 obtain⟨s,a,l,hid,ha,hs,hl,rfl,rfl,h1,h2⟩:=ht
 have e3:IntKind.wrap .i64 ((a:Int)+8)=((a+8:Nat):Int):=wrap_add (b:=8) (by omega)
 refine t40 qu (AA (fun x=>⟨a,13,rfl,?_⟩) fun x=>⟨s,a+8,a,encTs l,a,5,wD l,ha,hs,by omega,by rw[HK];exact Nat.le_trans hl hs,rfl,by rw[e3],?_⟩)
 ·rw[CE]
  exact h1 (by simpa using x) _ _ hid
 ·have hk:=h2 (by simp at x;omega)
  rw[HL] at hk;unfold row;rw[GB _ (CE _ _ _) rfl rfl,CM];unfold hX at hk
  rw[show encTs [(⟨5,[],[],cut s a (a+8),a,a+8⟩:Tok)]=[row 5 [] [] none (cut s a (a+8)) a ((a+8:Nat):Int)] from rfl,CM] at hk
  exact hk
theorem bF :∀(s x:List UInt8) (i:Nat),Jb s x i=match Cx x s with|some n=>((n+i:Nat):Int)|none=> -1
 |[],x,i=>by cases x<;>simp[Jb,Cx]
 |c::r,x,i=>by
  rw[Jb,Cx]
  cases h:x.isPrefixOf (c::r) with
  |true=>simp
  |false=>
   simp only[Bool.false_eq_true,if_false];rw[bF r x (i+1)]
   cases Cx x r with
   |none=>rfl
   |some n=>simp only[Option.map_some];congr 1;omega
theorem Wv (s x:List UInt8):Jb s x 0=match Cx x s with|some n=>(n:Int)|none=> -1:=by
 rw[bF]
 cases Cx x s<;>rfl
theorem qn :B9 cfg Dr (Du [(61,jx),(84,dI)] [(39,Cp)]):=Fo (AH ye (AH c74 AM)) (BV ld FW)
theorem cw {k:Int}{nm:List UInt8}{l:List Aj}{L:List (List AV)}(hL:∀n g,9<=n->AE n g L=L):Am.Ej (rT k nm (encAs l)) L:=fun n g hn=>by
 refine⟨?_,hL n g hn⟩;simp only[rT,List.map_cons,List.map_nil,AO,AQ,strip,Bv,lf hn,cond_true]
theorem wC {k:Int}{nm:List UInt8}{l:List Aj}{L:List (List AV)}(hL:∀n g,9<=n->AE n g L=L):Am.Ej (rT k nm (encAs l)++[.grow 0 3 80]) L:=fun n g hn=>by
 simp only[rT,List.cons_append,List.nil_append,List.length_cons,List.length_nil] at hn
 refine⟨?_,hL n g (by omega)⟩
 simp only[rT,List.cons_append,List.nil_append,List.map_cons,List.map_nil,AO,AQ,strip,Bv,lf (show 9<=n by omega),cond_true]
theorem okA {k:Int}{nm an av:List UInt8}{aa:Int}{l:List Aj}{L:List (List AV)}(hL:∀n g,9<=n->AE n g L=L):Am.Ej (rA k nm (encAs l) an av aa) L:=fun n g hn=>by
 simp only[rA,rT,List.cons_append,List.nil_append,List.length_cons,List.length_nil] at hn
 refine⟨?_,hL n g (by omega)⟩
 simp only[rA,rT,List.cons_append,List.nil_append,List.map_cons,List.map_nil,AO,AQ,strip,Bv,lf (show 9<=n by omega),cond_true]
theorem ae {r:Hp}{k:Int}{nm:List UInt8}{l:List Aj}{L:List (List AV)}(h:Am.Ej (rT k nm (encAs l)) L):∀n g,9<=n->AE n g L=L:=fun n g hn=>(h n g hn).2
theorem Uy {x s:List UInt8}{n:Nat}(h:Cx x s=some n):n+x.length<=s.length:=JC h
theorem c63 :Jj cfg Dr 92 Vz:=by
 refine FL xR fun vs h K KP ht=> ?_
 obtain⟨s,a,tag,L,hid,k,nm,l,Bk,ha,hs,hl,hn,rfl,rfl,h1,h2⟩:=ht;have hL:=ae (r:=[]) Bk;obtain⟨e1,e2⟩:=Ri s ha
 have tA:∀n,Cx (Aa++nm) (s.drop a)=some n->(Cx Al ((s.drop a).take n)=none\/nm≠BR)->∃(s9:List UInt8) (eA SO:Nat) (qC:List (List AV)) (ie uA:Int) (ko:List UInt8) (qI:List Aj),Am.Ej (rT uA ko (encAs qI)++[Blk.grow 0 3 80]) qC/\eA<=s9.length/\s9.length<=1000000/\SO<=eA/\qC.length<=1000000/\
   [AV.ptr 5 0,AV.agg [.int .i64 7,AV.str [],AV.sl 3 [] (some 9),AV.str [],.int .i64 0,.int .i64 0],.int .i64 (a:Int)]=[AV.ptr 5 0,AV.agg [.int .i64 7,AV.str [],AV.sl 3 [] (some 9),AV.str [],.int .i64 0,.int .i64 0],.int .i64 (SO:Int)]/\
   qZ s ((a+n:Nat):Int) L hid k nm (encAs l)=qZ s9 eA qC ie uA ko (encAs qI)/\K (.tup []) [.grow 0 6 50,.mem 41 [.sl 6 [] (some 0)],.mem 3 [.int .i64 0],.mem 27 [.int .i64 0],.grow (qC++[row 7 [] [] (some 9) (cut s9 SO eA) SO eA]).length 6 50,
    .mem 89 [.str s9,.int .i64 eA,.sl 6 (AE 9 [.grow 0 6 50,.mem 41 [.sl 6 [] (some 0)],.mem 3 [.int .i64 0],.mem 27 [.int .i64 0],.grow (qC++[row 7 [] [] (some 9) (cut s9 SO eA) SO eA]).length 6 50,.mem 89 [.str s9,.int .i64 eA,.sl 6 (qC++[row 7 [] [] (some 9) (cut s9 SO eA) SO eA]) (some 4),.int .i64 ie],
     .grow (encAs qI).length 3 80,.grow 0 3 80,.mem 50 [.int .i64 uA,.str ko,.sl 3 (encAs qI) (some 6),.str [],.int .i64 0,.int .i64 0],.grow 0 3 80] (qC++[row 7 [] [] (some 9) (cut s9 SO eA) SO eA])) (some 4),.int .i64 ie],.grow (encAs qI).length 3 80,.grow 0 3 80,.mem 50 [.int .i64 uA,.str ko,.sl 3 (encAs qI) (some 6),.str [],.int .i64 0,.int .i64 0]]:=by
  intro n hf Is;have hle:=Uy hf;rw[List.length_drop,List.length_append] at hle
  refine⟨s,a+n,a,L,hid,k,nm,l,wC hL,by omega,hs,by omega,hl,rfl,rfl,?_⟩
  have hk:=(h2 n hf).2 Is;unfold row;rw[GB _ (hL 9 _ (Nat.le_refl _)) rfl rfl,CM]
  rw[show(s.drop a).take n=cut s a (a+n) from Fl.symm] at hk
  unfold PR row at hk;rw[CM] at hk;exact hk
 refine t63 qn (AD e2 (AD (decide_eq_true (by unfold limE at hn;omega)) ⟨s.drop a,Aa++nm,by rw[List.length_drop];unfold limE at hs;omega,by rw[e1];rfl,?_⟩))
 simp only[Bv,fun g=>hL 9 g (Nat.le_refl 9)]
 rw[Wv]
 cases hf:Cx (Aa++nm) (s.drop a) with
 |none=>exact AA (fun _=>⟨tag,14,rfl,h1 hf _ _ _⟩) fun x=>by simp at x
 |some n=>
  have hle:=Uy hf;rw[List.length_drop,List.length_append] at hle
  have ew:IntKind.wrap .i64 ((a:Int)+(n:Int))=((a+n:Nat):Int):=wrap_add (by omega)
  refine AA (fun x=>by simp at x;omega) fun _=> ?_
  simp only[ew]
  obtain⟨q1,q2⟩:=He s (show a<=a+n by omega) (show a+n<=s.length by omega)
  rw[Fl] at q1
  refine AD q2 ⟨(s.drop a).take n,Al,by rw[List.length_take,List.length_drop];unfold limE at hs;omega,by rw[q1];rfl,?_⟩
  rw[Wv]
  cases hj:Cx Al ((s.drop a).take n) with
  |none=>exact AA (fun x=>by simp at x) fun _=>tA n hf (.inl hj)
  |some j=>
   have o7:=Uy hj;rw[List.length_take,List.length_drop] at o7
   have ej:IntKind.wrap .i64 ((a:Int)+(j:Int))=((a+j:Nat):Int):=wrap_add (by omega)
   refine AA (fun _=>AA (fun y=>⟨_,13,rfl,?_⟩) fun y=>tA n hf (.inr (by simpa[BR] using y))) fun x=>by simp at x
   rw[ej]
   exact(h2 n hf).1 j hj (by simpa[BR] using y) _ _ _
theorem GY (n:Nat)(g:Hp):∀L:List (List AV),(AE n g L).length=L.length
 |[]=>rfl
 |x::r=>by rw[AE,List.length_cons,List.length_cons,GY n g r]
theorem fy {s:List UInt8}{KP:PX->Hp->Prop}{x:PX}(h:KK [] s KP x)(a:Int)(L:List (List AV))(hid:Int)(g:Hp):KP x [.grow 0 6 50,.mem 41 [.sl 6 [] (some 0)],.mem 3 [.int .i64 0],.mem 27 [.int .i64 0],.grow L.length 6 50,.mem 89 [.str s,.int .i64 a,.sl 6 (AE 6 g L) (some 4),.int .i64 hid]]:=by
 have:=h a (AE 6 g L) hid;unfold hX at this;rw[GY] at this;exact this
theorem gC {s:List UInt8}{KP:PX->Hp->Prop}{x:PX}(h:KK [] s KP x)(a:Int)(L:List (List AV))(hid:Int):KP x [.grow 0 6 50,.mem 41 [.sl 6 [] (some 0)],.mem 3 [.int .i64 0],.mem 27 [.int .i64 0],.grow L.length 6 50,.mem 89 [.str s,.int .i64 a,.sl 6 L (some 4),.int .i64 hid]]:=h a L hid
theorem qv :B9 cfg Dr (Du [(61,Rx),(88,QJ)] [(39,Cp),(87,Qr),(89,IY)]):=Fo (AH tc (AH tY AM)) (BV ld (BV zn (BV uR FW)))
theorem VM {s:List UInt8}{b:Nat}{c:UInt8}:(((s.getD b 0).toNat:Int)==(c.toNat:Int))=(s.getD b 0==c):=by
 rw[Bool.eq_iff_iff];simp only[beq_iff_eq];constructor
 ·intro h
  exact UInt8.toNat_inj.1 (by omega)
 ·intro h;rw[h]
theorem JM (l:List Tok):∀n g,9<=n->AE n g (encTs l)=encTs l:=fun n g _=>CE n g l
theorem c38 :Jj cfg Dr 57 Mn:=by
 refine FL xg fun vs h K KP ht=> ?_
 obtain⟨s,a,l,hid,hh,ha,hs,hl,rfl,rfl,h1,h2⟩:=ht
 have h6:a+6<=s.length:=GM hh (by decide)
 have e6:IntKind.wrap .i64 ((a:Int)+6)=((a+6:Nat):Int):=wrap_add (b:=6) (by omega)
 refine t38 qv ⟨s,a+6,encTs l,hid,a,yu l,h6,hs,rfl,by rw[e6],fun hk a7 L8 xH=> ?_,fun hk=> ?_⟩
 ·have:CJ s a=.error (a,11):=by unfold CJ;rw[if_pos hk]
  exact fy (h1 _ _ this) _ _ _ _
 ·have iW:=GW s (a+6)
  have hb:=Hv (s:=s) (a:=a+6+lets s (a+6)) (by omega)
  refine⟨s,a+6+lets s (a+6),encTs l,hid,4,_,[],cw (l:=[]) (JM l),by omega,hs,rfl,rfl,?_⟩
  refine⟨rT 4 ((s.drop (a+6)).take (lets s (a+6))) (encAs []),s,past s (a+6+lets s (a+6)),encTs l,hid,a,cw (l:=[]) (JM l),hb.2,hs,rfl,rfl,fun x=> ?_,fun x=>AA (fun y=>⟨a,11,rfl,?_⟩) fun y=> ?_⟩
  ·have:CJ s a=.error (a,14):=by unfold CJ;simp only[hk,x,Bool.true_eq_false,if_false];simp
   rw[CE];exact gC (h1 _ _ this) _ _ _
  ·have hy:s.getD (past s (a+6+lets s (a+6))) 0≠62:=by
    have:=VM (s:=s) (b:=past s (a+6+lets s (a+6))) (c:=62);simp only[bne,Bool.not_eq_true'] at y
    rw[show((62:UInt8).toNat:Int)=62 from rfl] at this
    rw[this] at y;simpa using y
   have:CJ s a=.error (a,11):=by unfold CJ;simp only[hk,Bool.true_eq_false,if_false];rw[if_neg (by omega),if_pos hy]
   rw[CE];exact gC (h1 _ _ this) _ _ _
  ·have hy:s.getD (past s (a+6+lets s (a+6))) 0=62:=by
    have:=VM (s:=s) (b:=past s (a+6+lets s (a+6))) (c:=62);simp only[bne,Bool.not_eq_false'] at y
    rw[show((62:UInt8).toNat:Int)=62 from rfl] at this
    rw[this] at y;simpa using y
   have hc:CJ s a=.ok ⟨4,(s.drop (a+6)).take (lets s (a+6)),[],cut s a (past s (a+6+lets s (a+6))+1),a,past s (a+6+lets s (a+6))+1⟩:=by
    unfold CJ;simp only[hk,Bool.true_eq_false,if_false];rw[if_neg (by omega),if_neg (by simpa using hy)]
   have RD:=h2 _ hc
   refine⟨s,past s (a+6+lets s (a+6))+1,a,encTs l,hid,4,_,[],cw (l:=[]) (JM l),by omega,hs,by omega,by rw[HK];exact Nat.le_trans hl hs,rfl,by rw[Ek (by omega)],?_⟩
   rw[HL] at RD;unfold row;rw[GB _ (CE _ _ _) (Bv _ _ _) rfl,CM];unfold hX at RD
   rw[show ∀t:Tok,encTs [t]=[row t.kind t.name (encAs t.attrs) none t.text t.fr t.to] from fun _=>rfl,CM] at RD
   exact RD
theorem xT :BW cfg 90 Tryz.f90:=(by refine⟨?_,?_,?_,?_,?_,?_⟩<;>kernel_rfl)
theorem bD :∀(s:List UInt8) (c:UInt8),Lib.indexByte s c=match Cx [c] s with|some n=>(n:Int)|none=> -1
 |[],c=>rfl
 |b::r,c=>by
  rw[Lib.indexByte,Cx]
  have e:List.isPrefixOf [c] (b::r)=(c==b):=by simp[List.isPrefixOf]
  rw[e,bD r c]
  by_cases h:b=c
  ·subst h;simp
  ·have h1:(b==c)=false:=by simpa using h
   have h2:(c==b)=false:=by simpa using fun q=>h q.symm
   rw[h1,h2]
   cases Cx [c] r with
   |none=>rfl
   |some n=>
    simp only[Bool.false_eq_true,if_false,Option.map_some]
    have:((n:Int)== -1)=false:=by simp
    rw[this];simp
theorem jo (s:List UInt8)(a tg:Nat)(l:List Aj){n:Nat}(hn:n=min (lets s a) 16):FM s a tg l=
  if l.any (fun c=>(s.drop a).take n==c.name)=true then .error (a,12) else
  if s.length<=a+n then .error (tg,14) else
  if n=0\/s.getD (a+n) 0≠61 then .error (a+n,12) else
  if s.length<=a+n+1 then .error (tg,14) else
  if s.getD (a+n+1) 0≠34/\s.getD (a+n+1) 0≠39 then .error (a+n+1,12) else
  match Cx [s.getD (a+n+1) 0] (s.drop (a+n+2)) with
  |none=>.error (tg,14)
  |some k=>.ok (⟨(s.drop a).take n,(s.drop (a+n+2)).take k,a⟩,a+n+2+k+1):=by
 subst hn;rfl
theorem aH :B9 cfg Dr (Du [(118,Jl),(93,dJ),(99,jQ)] [(39,Cp),(89,IY),(91,WX)]):=
 Fo (AH zk (AH zl (AH yZ AM))) (BV ld (BV uR (BV yd FW)))
theorem Mq {s:List UInt8}{b:Nat}(c:UInt8)(i:Int)(hi:(c.toNat:Int)=i):(((s.getD b 0).toNat:Int)==i)=(s.getD b 0==c):=by rw[<-hi];exact VM
theorem nI {K:AV->Hp->Prop}{KP:PX->Hp->Prop}{s:List UInt8}{a n:Nat}{L:List (List AV)}{hid k:Int}{tg:Nat}{nm:List UInt8}{l:List Aj}(hL:∀n g,9<=n->AE n g L=L)(hs:s.length<=limE)(hl:l.length<=limE)(hn:n=min (lets s a) 16)(ha:a+n<=s.length)
  (h1:∀p e,FM s a tg l=.error (p,e)->KK (rT k nm (encAs l)) s KP ((p:Int),e)) (h2:∀at' b,FM s a tg l=.ok (at',b)->K (.agg (Ao at')) (PR s (b:Nat) L hid k nm (encAs l))):
  GR cfg 90 (AB Tryz.f90) (Gb Tryz.prog Tryz.f90 Dr 9 K KP) [.code [1,1,1]] .normal [(0,true,.ptr 5 0),(1,true,.int .i64 tg),(2,true,.sl 3 (encAs l) (some 6)),(6,true,.ptr 9 0),(7,true,.int .i64 a)] (yJ s ((a+n:Nat):Int) L hid k nm (encAs l)):=by
 obtain⟨e1,e2⟩:=He s (show a<=a+n by omega) ha
 rw[Fl] at e1;have hA:=jo s a tg l hn
 have ok:∀(an av:List UInt8) (aa:Int),Am.Ej (rA k nm (encAs l) an av aa) L:=fun an av aa=>okA hL
 have uL:=fun g=>hL 9 g (Nat.le_refl 9)
 refine uv aH (AD e2 ?_);simp only[Bv,uL,e1]
 refine⟨s,_,L,hid,k,nm,l,(s.drop a).take n,[],a,ok _ _ _,rfl,hl,rfl,AA (fun x=>⟨a,12,rfl,?_⟩) fun x=> ?_⟩
 ·rw[if_pos x] at hA;exact h1 _ _ hA _ _ _
 rw[if_neg (by rw[x];simp)] at hA
 refine⟨rA k nm (encAs l) _ _ _,s,a+n,L,hid,tg,ok _ _ _,ha,hs,rfl,rfl,fun y=> ?_,fun y=> ?_⟩
 ·rw[if_pos (by omega)] at hA
  exact h1 _ _ hA _ _ _
 rw[if_neg (by omega)] at hA
 rw[Mq 61 61 rfl]
 refine AA (fun z=> ?_) fun z=> ?_
 ·have uX:s.getD (a+n) 0=61:=by simpa using z
  refine⟨s,a+n,L,hid,k,tg,nm,l,(s.drop a).take n,[],a,_,ok _ _ _,ha,hs,rfl,rfl,fun y'=>absurd y' (by omega),fun _ y'=> ?_,fun _ y'=> ?_⟩
  ·have SH:n=0:=by
    have:(s.drop a).take n=[]:=by simpa using y'
    rw[List.take_eq_nil_iff] at this
    rcases this with h|h
    ·exact h
    ·rw[List.drop_eq_nil_iff] at h;omega
   rw[if_pos (.inl SH)] at hA;exact h1 _ _ hA _ _ _
  have SH:¬n=0:=by
   intro h;subst h;simp at y'
  rw[if_neg (fun h=>h.elim SH fun h=>h uX)] at hA
  refine⟨rA k nm (encAs l) _ _ _,s,a+n+1,L,hid,tg,ok _ _ _,by omega,hs,rfl,rfl,fun w=> ?_,fun w=> ?_⟩
  ·rw[if_pos (by omega)] at hA
   simp only[Bv,uL];exact h1 _ _ hA _ _ _
  rw[if_neg (by omega)] at hA
  simp only[Bv,uL]
  have ex:=Ri s (show a+n+1+1<=s.length by omega)
  have ep:((a+n+1+1:Nat):Int)=((a+n+2:Nat):Int):=rfl
  have fin:∀(hm:¬(s.getD (a+n+1) 0≠34/\s.getD (a+n+1) 0≠39)),(Cx [s.getD (a+n+1) 0] (s.drop (a+n+2))=none->KK (rT k nm (encAs l)) s KP ((tg:Int),14))/\
    (∀j,Cx [s.getD (a+n+1) 0] (s.drop (a+n+2))=some j->K (.agg [.str ((s.drop a).take n),.str ((s.drop (a+n+2)).take j),.int .i64 a]) (PR s ((a+n+2+j+1:Nat):Int) L hid k nm (encAs l))):=by
   intro hm;rw[if_neg hm] at hA
   refine⟨fun hf=> ?_,fun j hf=> ?_⟩
   ·rw[hf] at hA;exact h1 _ _ hA
   ·rw[hf] at hA;exact h2 _ _ hA
  rw[Mq 34 34 rfl,Mq 39 39 rfl]
  refine AA (fun m=> ?_) fun m=> ?_
  all_goals
   refine⟨s,a+n+1,L,hid,k,tg,nm,l,(s.drop a).take n,[],a,_,ok _ _ _,by omega,hs,rfl,rfl,fun y'=>absurd y' (by omega),fun _ m2=> ?_,fun _ m2=> ?_⟩
  ·cases m2
  rotate_left
  ·have:s.getD (a+n+1) 0≠34/\s.getD (a+n+1) 0≠39:=⟨by simpa using m,by simpa using m2⟩
   rw[if_pos this] at hA;exact h1 _ _ hA _ _ _
  all_goals
   try simp only[Bv,uL]
   obtain⟨f1,f2⟩:=fin (fun u=>by first|exact u.1 (by simpa using m)|exact u.2 (by simpa using m2))
   refine AD ex.2 ⟨s.drop (a+n+2),s.getD (a+n+1) 0,by rw[List.length_drop];unfold limE at hs;omega,by rw[ex.1],?_⟩
   rw[bD]
   cases hf:Cx [s.getD (a+n+1) 0] (s.drop (a+n+2)) with
   |none=>exact AA (fun _=>⟨tg,14,rfl,f1 hf _ _ _⟩) fun q=>by simp at q
   |some j=>
    have hle:=Uy hf;simp only[List.length_drop,List.length_cons,List.length_nil] at hle
    have w1:IntKind.wrap .i64 (((a+n+1+1:Nat):Int)+(j:Int))=((a+n+2+j:Nat):Int):=wrap_add (by omega)
    have w2:IntKind.wrap .i64 ((j:Int)+1)=((j+1:Nat):Int):=Ek (by omega)
    have w3:IntKind.wrap .i64 (((a+n+1+1:Nat):Int)+((j+1:Nat):Int))=((a+n+2+j+1:Nat):Int):=by rw[wrap_add (by omega)];congr 1
    obtain⟨q1,q2⟩:=He s (show a+n+2<=a+n+2+j by omega) (show a+n+2+j<=s.length by omega)
    rw[Fl] at q1
    refine AA (fun q=>absurd (of_decide_eq_true q) (Int.not_lt.2 (Int.natCast_nonneg j))) fun _=> ?_
    simp only[w1,w2,w3];refine AD q2 ?_
    rw[show(((a+n+1+1:Nat):Int))=((a+n+2:Nat):Int) from rfl,q1]
    exact f2 j hf
 ·have uX:s.getD (a+n) 0≠61:=by simpa using z
  rw[if_pos (.inr uX)] at hA
  refine⟨s,a+n,L,hid,k,tg,nm,l,(s.drop a).take n,[],a,_,ok _ _ _,ha,hs,rfl,rfl,fun y'=>absurd y' (by omega),fun _ _=>h1 _ _ hA _ _ _,fun _ y'=>by cases y'⟩
theorem gf {K:AV->Hp->Prop}{KP:PX->Hp->Prop}{s:List UInt8}{a n:Nat}{L:List (List AV)}{hid k:Int}{tg:Nat}{nm:List UInt8}{l:List Aj}(hL:∀n g,9<=n->AE n g L=L)(hs:s.length<=limE)(hl:l.length<=limE)(hn:n=min (lets s a) 16)(ha:a<=s.length)
  (h1:∀p e,FM s a tg l=.error (p,e)->KK (rT k nm (encAs l)) s KP ((p:Int),e)) (h2:∀at' b,FM s a tg l=.ok (at',b)->K (.agg (Ao at')) (PR s (b:Nat) L hid k nm (encAs l))):
  ∀(m b:Nat),a+n-b=m->a<=b->b<=a+n->GR cfg 90 (AB Tryz.f90) (Gb Tryz.prog Tryz.f90 Dr 9 K KP) [.code [0,0,1,1],.block 0,.code [1,1,1]] .normal [(0,true,.ptr 5 0),(1,true,.int .i64 tg),(2,true,.sl 3 (encAs l) (some 6)),(6,true,.ptr 9 0),(7,true,.int .i64 a)] (yJ s (b:Nat) L hid k nm (encAs l))
 |0,b,hm,q1,q2=>by
  have hb:b=a+n:=by omega
  subst hb;have hle:=GW s a
  have o7:a+n<=s.length:=by omega
  have T:=nI hL hs hl hn o7 h1 h2
  have sub:((a+n:Nat):Int)-(a:Int)=(n:Int):=by omega
  refine q8 aH (AA (fun x=>AD (CF (by simp at x;omega)) ⟨s.getD (a+n) 0,Km,AA (fun y=>AA (fun z=> ?_) fun z=>T) fun y=>T⟩) fun x=>T)
  exfalso
  rw[sub,BH (by omega) (by unfold limE at hs;omega)] at z
  have hz:n<16:=by simp at z;omega
  have:n=lets s a:=by omega
  rw[this] at y
  rw[az (by simp at x;omega)] at y
  cases y
 |m+1,b,hm,q1,q2=>by
  obtain⟨k1,k2⟩:=Wn (s:=s) q1 (show b<a+lets s a by omega)
  have sub:(b:Int)-(a:Int)=((b-a:Nat):Int):=by omega
  refine q8 aH (AA (fun x=>AD (CF k1) ⟨s.getD b 0,Km,AA (fun y=>AA (fun z=> ?_) fun z=> ?_) fun y=> ?_⟩) fun x=> ?_)
  ·rw[Ek (by omega)]
   exact gf hL hs hl hn ha h1 h2 m (b+1) (by omega) (by omega) (by omega)
  ·exfalso
   rw[sub,BH (by omega) (by unfold limE at hs;omega)] at z
   simp at z;omega
  ·rw[k2] at y;cases y
  ·simp at x;omega
theorem c61 :Jj cfg Dr 90 Xd:=by
 refine FL xT fun vs h K KP ht=> ?_
 obtain⟨s,a,L,hid,tag,k,tg,nm,l,Bk,ha,hs,hl,rfl,rfl,rfl,h1,h2⟩:=ht
 exact t61 aH (gf (ae (r:=[]) Bk) hs hl rfl ha h1 h2 _ a rfl (by omega) (by omega))
theorem xh :BW cfg 56 Tryz.f56:=(by refine⟨?_,?_,?_,?_,?_,?_⟩<;>kernel_rfl)
theorem fF :B9 cfg Dr (Du [(61,Rx),(88,QJ)] [(39,Cp),(87,Qr),(89,IY),(90,Xd),(91,WW),(92,Vz)]):=
 Fo (AH tc (AH tY AM)) (BV ld (BV zn (BV uR (BV c61 (BV yc (BV c63 FW))))))
theorem fc {l0:List Tok}{k fr to:Int}{nm t:List UInt8}{l:List Aj}:∀n g,9<=n->AE n g (encTs l0++[row k nm (encAs l) (some 6) t fr to])=encTs l0++[row k nm (encAs l) (some 6) t fr to]:=fun n g hn=>by
 unfold row;exact KO g (CE _ _ _) (Bv _ _ _) (lf hn)
theorem VD (g:Hp){l0:List Tok}{k fr to:Int}{nm t:List UInt8}{l:List Aj}:AE 6 g (encTs l0++[row k nm (encAs l) (some 6) t fr to])=encTs l0++[row k nm (encAs l) none t fr to]:=by
 unfold row;exact GB g (CE _ _ _) (Bv _ _ _) rfl
theorem lX (g:Hp){l0:List Tok}{k fr to:Int}{nm t:List UInt8}{l:List Aj}{mB:List UInt8}{f2 o2:Int}:AE 6 g ((encTs l0++[row k nm (encAs l) (some 6) t fr to])++[row 7 [] [] none mB f2 o2])=encTs l0++[row k nm (encAs l) none t fr to]++[row 7 [] [] none mB f2 o2]:=by
 rw[Ht,VD];rfl
theorem UO {s:List UInt8}{KP:PX->Hp->Prop}{x:PX}(h:KK [] s KP x)(a:Int)(L L':List (List AV))(hl:L.length=L'.length)(hid:Int):KP x [.grow 0 6 50,.mem 41 [.sl 6 [] (some 0)],.mem 3 [.int .i64 0],.mem 27 [.int .i64 0],.grow L.length 6 50,.mem 89 [.str s,.int .i64 a,.sl 6 L' (some 4),.int .i64 hid]]:=by
 rw[hl];exact h a L' hid
theorem XR (t:Tok):encTs [t]=[row t.kind t.name (encAs t.attrs) none t.text t.fr t.to]:=rfl
theorem ZR {s:List UInt8}{b:Int}{l0:List Tok}{t:Tok}{hid:Int}:hX s b (encTs (l0++[t])) hid=[.grow 0 6 50,.mem 41 [.sl 6 [] (some 0)],.mem 3 [.int .i64 0],.mem 27 [.int .i64 0],.grow ((encTs l0).length+1) 6 50,.mem 89 [.str s,.int .i64 b,.sl 6 (encTs l0++[row t.kind t.name (encAs t.attrs) none t.text t.fr t.to]) (some 4),.int .i64 hid]]:=by
 rw[HL,XR];unfold hX;rw[CM]
theorem eo {K:AV->Hp->Prop}{KP:PX->Hp->Prop}{s:List UInt8}{a b:Nat}{l0:List Tok}{hid:Int}{nm:List UInt8}{l:List Aj}(hs:s.length<=limE)(dP:l0.length<s.length)(TH:nm.length<=limE)(Xt:a<=b)(hb:b<s.length)(hc:s.getD b 0=62\/s.getD b 0=47)
  (h1:∀p e,(match Dc s a nm l b with|.error e=>.error e|.ok t=>IV s t:Except Xw (List Tok))=.error (p,e)->KK [] s KP ((p:Int),e))
  (h2:∀ts,(match Dc s a nm l b with|.error e=>.error e|.ok t=>IV s t:Except Xw (List Tok))=.ok ts->K (.tup []) (hX s ((Cs ts (a+1):Nat):Int) (encTs (l0++ts)) hid)):
  GR cfg 56 (AB Tryz.f56) (Gb Tryz.prog Tryz.f56 Dr 6 K KP) [.code [1,1,1,1]] .normal [(0,true,.ptr 5 0),(2,true,.int .i64 a),(3,true,.ptr 8 0)] (PR s (b:Nat) (encTs l0) hid 2 nm (encAs l)):=by
 have sq:(encTs l0).length<=1000000:=by rw[HK];unfold limE at hs;omega
 refine uz fF (AD (CF hb) ?_);simp only[Int.toNat_natCast];rw[Mq 47 47 rfl]
 refine AA (fun x=> ?_) fun x=> ?_
 ·have uZ:s.getD b 0=47:=by simpa using x
  have wb:IntKind.wrap .i64 ((b:Int)+1)=((b+1:Nat):Int):=Ek (by omega)
  rw[wb]
  refine⟨rT 3 nm (encAs l),s,b+1,encTs l0,hid,a,cw (JM l0),by omega,hs,rfl,rfl,fun y=> ?_,fun y=>⟨s,b+1,encTs l0,hid,3,a,nm,l,_,cw (JM l0),by omega,hs,rfl,rfl,fun z=>absurd z (by omega),fun _ z=> ?_,fun _ z=> ?_⟩⟩
  ·have:Dc s a nm l b=.error (a,14):=by unfold Dc;rw[if_pos uZ];simp only;rw[if_pos (by omega)]
   rw[CE]
   exact h1 _ _ (by rw[this]) _ _ _
  ·rw[Mq 62 62 rfl] at z
   have uW:s.getD (b+1) 0≠62:=by simpa using z
   have:Dc s a nm l b=.error (b+1,12):=by unfold Dc;rw[if_pos uZ];simp only;rw[if_neg (by omega),if_pos uW]
   rw[CE]
   exact h1 _ _ (by rw[this]) _ _ _
  ·rw[Mq 62 62 rfl] at z
   have uW:s.getD (b+1) 0=62:=by simpa using z
   have ht:Dc s a nm l b=.ok ⟨3,nm,l,cut s a (b+2),a,b+2⟩:=by unfold Dc;rw[if_pos uZ];simp only;rw[if_neg (by omega),if_neg (by simpa using uW)];rfl
   have hk:=h2 [⟨3,nm,l,cut s a (b+2),a,b+2⟩] (by rw[ht];rfl)
   refine⟨s,b+2,a,encTs l0,hid,3,nm,l,cw (JM l0),by omega,hs,by omega,sq,rfl,rfl,AA (fun q=>by cases q) fun _=> ?_⟩
   rw[VD,CM];rw[ZR] at hk;exact hk
 ·have uY:s.getD b 0=62:=hc.resolve_right (by simpa using x)
  refine⟨rT 2 nm (encAs l),s,b,encTs l0,hid,a,cw (JM l0),by omega,hs,rfl,rfl,fun y=>absurd y (by omega),fun y=>⟨s,b,encTs l0,hid,2,a,nm,l,_,cw (JM l0),by omega,hs,rfl,rfl,fun z=>absurd z (by omega),fun _ z=> ?_,fun _ z=> ?_⟩⟩
  ·rw[Mq 62 62 rfl,uY] at z;cases z
  ·have ht:Dc s a nm l b=.ok ⟨2,nm,l,cut s a (b+1),a,b+1⟩:=by
    have h47:¬s.getD b 0=47:=by rw[uY];decide
    unfold Dc;simp only[h47,if_false,Nat.add_zero];rw[if_neg (by omega),if_neg (by rw[uY];simp)];rfl
   rw[ht] at h1 h2;simp only at h1 h2
   refine⟨s,b+1,a,encTs l0,hid,2,nm,l,cw (JM l0),by omega,hs,by omega,sq,rfl,rfl,AA (fun _=> ?_) fun q=>by cases q⟩
   have raw:∀(hn:nm=BR\/nm=CT),(Cx (Aa++nm) (s.drop (b+1))=none->KK [] s KP ((a:Int),14))/\
     ∀n,Cx (Aa++nm) (s.drop (b+1))=some n->(∀j,Cx Al ((s.drop (b+1)).take n)=some j->nm=BR->KK [] s KP (((b+1+j:Nat):Int),13))/\
      ((Cx Al ((s.drop (b+1)).take n)=none\/nm≠BR)->K (.tup []) (hX s ((b+1+n:Nat):Int) (encTs (l0++[⟨2,nm,l,cut s a (b+1),a,b+1⟩,⟨7,[],[],(s.drop (b+1)).take n,b+1,b+1+n⟩])) hid)):=by
    intro hn
    have e:IV s ⟨2,nm,l,cut s a (b+1),a,b+1⟩=match Cx (Aa++nm) (s.drop (b+1)) with
      |none=>.error (a,14)
      |some n=>match Cx Al ((s.drop (b+1)).take n),decide (nm=BR) with
       |some k,true=>.error (b+1+k,13)
       |_,_=>.ok [⟨2,nm,l,cut s a (b+1),a,b+1⟩,⟨7,[],[],(s.drop (b+1)).take n,b+1,b+1+n⟩]:=by
     unfold IV;rw[if_pos ⟨rfl,hn⟩];rfl
    refine⟨fun hf=>h1 _ _ (by rw[e,hf]),fun n hf=>⟨fun j hj hr=>h1 _ _ (by rw[e,hf];simp only[hj,decide_eq_true hr]),fun Is=> ?_⟩⟩
    refine h2 [⟨2,nm,l,cut s a (b+1),a,b+1⟩,⟨7,[],[],(s.drop (b+1)).take n,b+1,b+1+n⟩] (by
     rw[e,hf]
     rcases Is with Is|Is
     ·simp only[Is]
     ·simp only[decide_eq_false Is]
      cases Cx Al ((s.drop (b+1)).take n)<;>rfl)
   have fin:(nm=BR\/nm=CT)->∃(Vp:List UInt8) (SS l9:Nat) (qB:List (List AV)) (ic sD:Int) (Qq:List UInt8) (qH:List Aj),Am.Ej (rT sD Qq (encAs qH)) qB/\SS<=Vp.length/\Vp.length<=1000000/\qB.length<=1000000/\Qq.length<=1000000/\
     [AV.ptr 5 0,AV.str nm,AV.int .i64 (a:Int)]=[AV.ptr 5 0,AV.str Qq,AV.int .i64 (l9:Int)]/\PR s ((b+1:Nat):Int) (encTs l0++[row 2 nm (encAs l) (some 6) (cut s a (b+1)) a ((b+1:Nat):Int)]) hid 2 nm (encAs l)=PR Vp SS qB ic sD Qq (encAs qH)/\
     (Cx ([60,47,101,115,105,58]++Qq) (List.drop SS Vp)=none->∀(a40:Int) (uU:List (List AV)) (ib:Int),KP ((l9:Int),14) [.grow 0 6 50,.mem 41 [.sl 6 [] (some 0)],.mem 3 [.int .i64 0],.mem 27 [.int .i64 0],.grow uU.length 6 50,.mem 89 [.str Vp,.int .i64 a40,.sl 6 (AE 6 (hX Vp a40 uU ib++rT sD Qq (encAs qH)) uU) (some 4),.int .i64 ib]])/\
     ∀(dA:Nat),Cx ([60,47,101,115,105,58]++Qq) (List.drop SS Vp)=some dA->(∀(yw:Nat),Cx [60,101,115,105,58] (List.take dA (List.drop SS Vp))=some yw->Qq=[114,101,109,111,118,101]->∀(yj:Int) (uT:List (List AV)) (ia:Int),KP (((SS+yw:Nat):Int),13) [.grow 0 6 50,.mem 41 [.sl 6 [] (some 0)],.mem 3 [.int .i64 0],.mem 27 [.int .i64 0],.grow uT.length 6 50,.mem 89 [.str Vp,.int .i64 yj,.sl 6 (AE 6 (hX Vp yj uT ia++rT sD Qq (encAs qH)) uT) (some 4),.int .i64 ia]])/\
      (Cx [60,101,115,105,58] (List.take dA (List.drop SS Vp))=none\/Qq≠[114,101,109,111,118,101]->K (.tup []) [.grow 0 6 50,.mem 41 [.sl 6 [] (some 0)],.mem 3 [.int .i64 0],.mem 27 [.int .i64 0],.grow (qB++[row 7 [] [] none (List.take dA (List.drop SS Vp)) SS ((SS+dA:Nat):Int)]).length 6 50,
       .mem 89 [.str Vp,.int .i64 ((SS+dA:Nat):Int),.sl 6 (AE 6 [.grow 0 6 50,.mem 41 [.sl 6 [] (some 0)],.mem 3 [.int .i64 0],.mem 27 [.int .i64 0],.grow (qB++[row 7 [] [] none (List.take dA (List.drop SS Vp)) SS ((SS+dA:Nat):Int)]).length 6 50,
        .mem 89 [.str Vp,.int .i64 ((SS+dA:Nat):Int),.sl 6 (qB++[row 7 [] [] none (List.take dA (List.drop SS Vp)) SS ((SS+dA:Nat):Int)]) (some 4),.int .i64 ic],.grow (encAs qH).length 3 80,.grow 0 3 80,.mem 50 [.int .i64 sD,.str Qq,.sl 3 (encAs qH) (some 6),.str [],.int .i64 0,.int .i64 0]]
        (qB++[row 7 [] [] none (List.take dA (List.drop SS Vp)) SS ((SS+dA:Nat):Int)])) (some 4),.int .i64 ic]]):=by
    intro hn;obtain⟨r1,r2⟩:=raw hn
    refine⟨s,b+1,a,_,hid,2,nm,l,cw fc,by omega,hs,by rw[CM,HK];unfold limE at hs;omega,TH,rfl,rfl,fun hf a40 uU ib=>UO (r1 hf) _ _ _ (GY _ _ _).symm _,fun n hf=>⟨fun j hj hr yj uT ia=>UO ((r2 n hf).1 j hj hr) _ _ _ (GY _ _ _).symm _,fun Is=> ?_⟩⟩
    have hk:=(r2 n hf).2 Is;rw[lX,CM,CM]
    rw[show l0++[(⟨2,nm,l,cut s a (b+1),a,b+1⟩:Tok),⟨7,[],[],(s.drop (b+1)).take n,b+1,b+1+n⟩]=(l0++[⟨2,nm,l,cut s a (b+1),a,b+1⟩])++[⟨7,[],[],(s.drop (b+1)).take n,b+1,b+1+n⟩] by simp,ZR,HL,XR,CM] at hk
    exact hk
   refine AA (fun q=>fin (.inl (by simpa[BR] using q))) fun q1=>AA (fun q=>fin (.inr (by simpa[CT] using q))) fun q2=> ?_
   have Is:¬(nm=BR\/nm=CT):=by
    rintro(h|h)
    ·subst h;simp[BR] at q1
    ·subst h;simp[CT] at q2
   have hk:=h2 [⟨2,nm,l,cut s a (b+1),a,b+1⟩] (by unfold IV;rw[if_neg (fun h=>Is h.2)])
   rw[VD,CM];rw[ZR] at hk;exact hk
theorem dc (l:List Aj)(a:Aj):encAs (l++[a])=encAs l++[Ao a]:=by unfold encAs;rw[List.map_append];rfl
theorem gi {K:AV->Hp->Prop}{KP:PX->Hp->Prop}{s:List UInt8}{a:Nat}{l0:List Tok}{hid:Int}{nm:List UInt8}(hs:s.length<=limE)(dP:l0.length<s.length)(TH:nm.length<=limE):
  ∀(f b:Nat) (l:List Aj),s.length-b<f->a<=b->b<=s.length->l.length<=b->
  (∀p e,(match A8 s a f b l with|.error e=>.error e|.ok (l',b')=>(match Dc s a nm l' b' with|.error e=>.error e|.ok t=>IV s t):Except Xw (List Tok))=.error (p,e)->KK [] s KP ((p:Int),e))->
  (∀ts,(match A8 s a f b l with|.error e=>.error e|.ok (l',b')=>(match Dc s a nm l' b' with|.error e=>.error e|.ok t=>IV s t):Except Xw (List Tok))=.ok ts->K (.tup []) (hX s ((Cs ts (a+1):Nat):Int) (encTs (l0++ts)) hid))->
  GR cfg 56 (AB Tryz.f56) (Gb Tryz.prog Tryz.f56 Dr 6 K KP) [.code [0,0,1,1,1],.block 0,.code [1,1,1,1]] .normal [(0,true,.ptr 5 0),(2,true,.int .i64 a),(3,true,.ptr 8 0)] (PR s (b:Nat) (encTs l0) hid 2 nm (encAs l))
 |0,b,l,hf,_,_,_,_,_=>by omega
 |f+1,b,l,hf,Xt,hb,hl,h1,h2=>by
  obtain⟨p1,p2⟩:=Hv hb
  have ew:(((past s b-b:Nat):Int)==0)=decide (past s b=b):=by
   rw[Bool.eq_iff_iff];simp;omega
  refine u0 fF ⟨s,b,encTs l0,hid,2,nm,l,cw (JM l0),hb,hs,rfl,rfl,rT 2 nm (encAs l),s,past s b,encTs l0,hid,a,cw (JM l0),p2,hs,rfl,rfl,fun x=> ?_,fun x=> ?_⟩
  ·rw[A8] at h1
   try simp only at h1
   rw[if_pos (by omega)] at h1
   rw[CE];exact h1 _ _ rfl _ _ _
  rw[A8] at h1 h2
  try simp only at h1 h2
  rw[if_neg (by omega)] at h1 h2
  rw[Mq 62 62 rfl,Mq 47 47 rfl,ew]
  refine AA (fun y=> ?_) fun y=>AA (fun z=> ?_) fun z=>AA (fun w=> ?_) fun w=> ?_
  ·have hc:s.getD (past s b) 0=62\/s.getD (past s b) 0=47:=.inl (by simpa using y)
   rw[if_pos hc] at h1 h2
   exact eo hs dP TH (by omega) x hc h1 h2
  ·have hc:s.getD (past s b) 0=62\/s.getD (past s b) 0=47:=.inr (by simpa using z)
   rw[if_pos hc] at h1 h2
   exact eo hs dP TH (by omega) x hc h1 h2
  ·have hc:¬(s.getD (past s b) 0=62\/s.getD (past s b) 0=47):=by
    rintro(h|h)
    ·rw[h] at y;simp at y
    ·rw[h] at z;simp at z
   rw[if_neg hc,if_pos (by simpa using w)] at h1
   refine⟨past s b,12,rfl,?_⟩
   rw[CE,show past s b=b by simpa using w]
   exact h1 _ _ rfl _ _ _
  ·have hc:¬(s.getD (past s b) 0=62\/s.getD (past s b) 0=47):=by
    rintro(h|h)
    ·rw[h] at y;simp at y
    ·rw[h] at z;simp at z
   have hw:¬past s b=b:=by simpa using w
   rw[if_neg hc,if_neg hw] at h1 h2
   refine⟨s,past s b,encTs l0,hid,a,2,a,nm,l,cw (JM l0),p2,hs,by show l.length<=limE;omega,rfl,rfl,rfl,fun p e he a30 L31 zQ=> ?_,fun at' b' he=>⟨rfl,AD ?_ ?_⟩⟩
   ·rw[he] at h1;exact UO (h1 _ _ rfl) _ _ _ (GY _ _ _).symm _
   ·have:(encAs l).length=l.length:=by simp[encAs]
    simp only[FB,List.getElem?_cons_succ,List.getElem?_cons_zero,Nat.beq_refl,Bool.and_self,Bool.true_and,Bool.and_true]
    rw[decide_eq_true (by rw[this];unfold limE at hs;omega)]
   ·obtain⟨q1,q2⟩:=Rs he;rw[he] at h1 h2;simp only at h1 h2
    have:=gi hs dP TH f b' (l++[at']) (by omega) (by omega) q2 (by simp;omega) h1 h2
    rw[dc] at this;unfold PR at this;rw[CM] at this;exact this
theorem c37 :Jj cfg Dr 56 Qi:=by
 refine FL xh fun vs h K KP ht=> ?_
 obtain⟨s,a,l,hid,hh,ha,hs,hl,rfl,rfl,h1,h2⟩:=ht
 have h6:a+5<=s.length:=GM hh (by decide)
 have e6:IntKind.wrap .i64 ((a:Int)+5)=((a+5:Nat):Int):=wrap_add (b:=5) (by omega)
 have iW:=GW s (a+5);unfold ML Gs at h1 h2;simp only at h1 h2
 refine t37 fF ⟨s,a+5,encTs l,hid,a,yu l,h6,hs,rfl,by rw[e6],fun hk a7 L8 xH=> ?_,fun hk=> ?_⟩
 ·rw[if_pos hk] at h1;exact fy (h1 _ _ rfl) _ _ _ _
 ·rw[if_neg (by rw[hk];simp)] at h1 h2
  have hn:lets s (a+5)<=limE:=by omega
  refine gi hs (by omega) (by rw[List.length_take,List.length_drop];omega) (s.length+1) _ [] (by omega) (by omega) (by omega) (by simp) (fun p e he=>h1 p e ?_) fun ts he=>h2 ts ?_
  ·rw[<-he]
   cases A8 s a (s.length+1) (a+5+lets s (a+5)) [] with
   |error e=>rfl
   |ok r=>rfl
  ·rw[<-he]
   cases A8 s a (s.length+1) (a+5+lets s (a+5)) [] with
   |error e=>rfl
   |ok r=>rfl
def qc (x:PX):List PanicEntry:=[{v:=.iface 86 (.agg #[.int .i64 x.1,.int .i64 x.2]),recovered:=false}]
theorem Zb (p e:Int)(w:World):Calls Tryz.prog 39 #[.int .i64 p,.int .i64 e] w fun en w'=>en=.panicked (qc (p,e))/\w'=w:=by
 go_enter Tryz.func39,Tryz.f39
 go_wp
 first|exact⟨rfl,rfl,rfl⟩|exact⟨rfl,rfl⟩
theorem nr {I:World->Prop}{B0:Nat}:lu cfg I B0 qc Dr:=by
 intro k vs x h;unfold Dr at h;split at h
 ·rename_i p e hk;have hk:=Nat.eq_of_beq_eq_true hk;subst hk
  injection h with h
  subst h
  refine⟨⟨Tryz.f39,Tryz.func39,by kernel_rfl,by kernel_rfl⟩,fun E args H hr=> ?_⟩
  obtain⟨a,r,rfl,rfl,b,r2,rfl,rfl,rfl⟩:=hr
  exact(Zb p e E.w).mono fun en w' ⟨h1,h2⟩=>⟨h1,E,h2.symm,Step.refl H,rfl⟩
 ·cases h
theorem ee (a0 a1 a2:Value)(w:World):CallsD Tryz.prog 36 #[a0,a1,a2] .returning w fun en u w'=>(∃v,en=.returned v)/\u=.returning/\w'=w:=by
 refine callsD_of_wpS Tryz.func36 rfl fun c₀ cs hc=> ?_
 simp only[Tryz.f36,List.size_toArray,List.length_cons,List.length_nil,Nat.reduceAdd,Nat.reduceSub,Array.replicate_succ,Array.replicate_zero,List.push_toArray,List.append_toArray,List.nil_append,List.cons_append];refine wpS_seq (wpS_region ?_)
 have hr:recoverD (c₀::cs)=none:=by simp[recoverD,hc]
 simp[wpOpsS,go_sem,hr,List.range,List.range.loop];refine wpS_of_wp ?_
 go_wp
 simp only[bodyPostS];refine⟨trivial,c₀.mode,rfl,.tuple #[],results_none rfl _ _ _,⟨_,rfl⟩,hc,trivial⟩
theorem ng {P:Program}{o:Oper}{Q:Exit->Act->List Frame->World->Prop}{a:Act}{cs Gk:List Frame}{v:Value}{w:World}(hg:o.guard=none){Xg:Array TypeId}(Bo:o.op=.call {callee:=.builtin .recover,args:= #[],argTypes:=Xg})
  (hr:recoverD cs=some (v,Gk)) (h:Q .normal (a.put o.dst v) Gk w):wpOpsS P #[o] Q (List.range (#[o]:Array Oper).size) a cs w:=by
 obtain⟨d,op,ty,pos,after,gd⟩:=o;simp only at hg Bo;subst hg;subst Bo;simp[wpOpsS,go_sem,hr,List.range,List.range.loop];exact h
theorem ef {I:World->Prop}{B0:Nat}(S0:Sound cfg I B0)(p e:Int){h h2:Hp}(Cb:AF cfg 36 (AB Tryz.f36) (fun _ h'=>h'=h2) [.code [1]] .normal [(0,true,.ptr 1 0),(1,true,.ptr 2 0),(2,true,.ptr 3 0),(6,true,.iface 86 (.agg [.int .i64 p,.int .i64 e]))] h):
  Z9 cfg I B0 qc 36 [.ptr 1 0,.ptr 2 0,.ptr 3 0] (p,e) h h2:=by
 intro E vals H hE hr;obtain⟨x,F',h',⟨n0,hx⟩,he,hq⟩:=Cb;have hq:h'=h2:=hq;subst hq
 refine callsD_of_wpS Tryz.func36 rfl fun c₀ cs hc=> ?_
 have Mz:=Mv hr 16;obtain⟨a0,r0,rfl,k0,a1,r1,rfl,k1,a2,r2,rfl,k2,rfl⟩:=hr
 have lD:recoverD (c₀::cs)=some (.iface 86 (.agg #[.int .i64 p,.int .i64 e]),{c₀ with mode:=.panicking [{v:=.iface 86 (.agg #[.int .i64 p,.int .i64 e]),recovered:=true}]}::cs):=by simp[recoverD,hc,qc]
 have ZC:AR E (Av (D8 0 [.ptr 1 0,.ptr 2 0,.ptr 3 0]) (some 6) (true,.iface 86 (.agg [.int .i64 p,.int .i64 e]))) (({tmps:= #[a0,a1,a2]++Array.replicate (16-(#[a0,a1,a2]:Array Value).size) undef,defers:=[]}:Act).put (some 6) (.iface 86 (.agg #[.int .i64 p,.int .i64 e]))):=
  AR.put Mz (n:=16) (by kernel_rfl) (by simp) (fun _=>⟨_,rfl,_,rfl,_,_,rfl,rfl,rfl,_,_,rfl,rfl,rfl,rfl⟩) (fun h=>by cases h)
 have sd:AR E [(0,true,.ptr 1 0),(1,true,.ptr 2 0),(2,true,.ptr 3 0),(6,true,.iface 86 (.agg [.int .i64 p,.int .i64 e]))] (({tmps:= #[a0,a1,a2]++Array.replicate (16-(#[a0,a1,a2]:Array Value).size) undef,defers:=[]}:Act).put (some 6) (.iface 86 (.agg #[.int .i64 p,.int .i64 e]))):=by
  refine ZC.eq fun n=> ?_
  simp only[Av,D8,lk]
  by_cases h6:n=6
  ·subst h6;rfl
  ·have e6:Nat.beq 6 n=false:=by
    cases hb:Nat.beq 6 n with
    |false=>rfl
    |true=>exact absurd (Nat.eq_of_beq_eq_true hb).symm h6
   rw[e6];rfl
 have J6:=S0.bh 36 Tryz.f36 _ (by kernel_rfl) (by kernel_rfl) (by kernel_rfl) Tryz.func36 rfl
 have pL:Bn cfg.P Tryz.f36.ntmps (cfg.Ho 36) (Ab (AB Tryz.f36) [1])=true:=by
  have h3:Bn cfg.P Tryz.f36.ntmps (cfg.Ho 36) (.seq (Ab (AB Tryz.f36) [0]) (Ab (AB Tryz.f36) [1]))=true:=J6;simp only[Bn,Bool.and_eq_true] at h3;exact h3.2
 have main:=Rv S0 n0 36 _ _ _ x F' h' _ (hx n0 (Nat.le_refl _)) pL E _ hE H sd (by rw[show Tryz.f36.ntmps=16 from rfl];simp[Act.put])
 refine wpS_seq (wpS_region (ng rfl rfl lD ?_))
 refine wpS_of_wp (main _ fun E' a' S Hl FT hs hd=> ?_)
 have ZO:a'.defers=[]:=hd.resolve_left (by rw[show cfg.DA 36=false by kernel_rfl];simp)
 have fin:a'.defers=[]/\∃u',({c₀ with mode:=.panicking [{v:=.iface 86 (.agg #[.int .i64 p,.int .i64 e]),recovered:=true}]}:Frame)::cs={c₀ with mode:=u'}::cs/\∃v,(results Tryz.f36 a'.tmps).run Tryz.prog E'.w=.ok v E'.w/\
   ((∃r,(Ending.returned v)=.returned r)/\settle u'=.returning/\∃E2,E2.w=E'.w/\Step cfg.G I B0 E E2/\E2.h=h'):=
  ⟨ZO,_,rfl,.tuple #[],results_none rfl _ _ _,⟨_,rfl⟩,rfl,E',rfl,S,Hl⟩
 cases x with
 |normal=>exact fin
 |ret=>exact fin
 |_=>cases he
end Go.Proofs.YtopjpnhgnopbiaaGreatDoor.Lx
end
section
namespace Go.Ai.Ex
open Go.Ai Go.RowKit
def Jy :Option Nat->Int
 |some h=>h
 |none=> -1
def Wm :Except Xw (List Tok)->AV
 |.ok l=>.tup [.sl 6 (encTs l) none,.int .i64 0,.int .i64 0]
 |.error (p,e)=>.tup [.sl 0 [] none,.int .i64 p,.int .i64 e]
theorem Uu (hid:Option Nat):decide (0<=Jy hid)=hid.isSome:=by
 cases hid with
 |none=>rfl
 |some h=>simp[Jy]
theorem gF {s:List UInt8}{tag:Nat}{t:Tok}(hl:tag+5<=s.length)(h:Gs s tag=.ok t):tag+6<=t.to/\t.to<=s.length:=by
 unfold Gs at h;simp only at h;split at h
 ·cases h
 ·have hn:=GW s (tag+5);split at h
  ·cases h
  ·rename_i l b hb
   obtain⟨q1,q2⟩:=OC _ _ _ _ _ (by omega) hb
   obtain⟨k1,k2,k3,k4,k5,k6⟩:=Sb h
   exact⟨by omega,k6⟩
def fwd (s:List UInt8)(a:Nat)(ts:List Tok):Prop:=a+ts.length<=Cs ts (a+1)/\a<Cs ts (a+1)/\Cs ts (a+1)<=s.length
theorem cm {s:List UInt8}{a:Nat}{ts:List Tok}(hl:a+5<=s.length)(h:ML s a=.ok ts):fwd s a ts:=by
 unfold ML at h;split at h
 ·cases h
 ·rename_i t ht;obtain⟨q1,q2⟩:=gF hl ht
  rcases Pa h with ⟨_,rfl⟩|⟨_,_,n,hf,rfl⟩
  ·simp only[fwd,Cs,List.getLast?_singleton,List.length_singleton];omega
  ·have:=JC hf;rw[List.length_drop,List.length_append] at this;have e:Cs [t,⟨7,[],[],(s.drop t.to).take n,t.to,t.to+n⟩] (a+1)=t.to+n:=rfl;simp only[fwd,e,List.length_cons,List.length_nil];omega
theorem dh {s:List UInt8}{a:Nat}{t:Tok}(hl:a+6<=s.length)(h:CJ s a=.ok t):fwd s a [t]:=by
 obtain⟨_,_,_,_,_,q1,q2⟩:=Kk hl h;have e:Cs [t] (a+1)=t.to:=rfl;simp only[fwd,e,List.length_cons,List.length_nil];omega
def pY :Option Nat->Except Xw (List Tok)
 |some h=>.error (h,14)
 |none=>.ok []
theorem Ni (s:List UInt8)(f a:Nat)(hid:Option Nat):DS s (f+1) a hid=
  if s.length<=a then pY hid else
  if spec s a hid.isSome=true then
   match DY s a hid with
   |.error e=>.error e
   |.ok (l,hid2)=>match DS s f (Cs l (a+1)) hid2 with
    |.error e=>.error e
    |.ok r=>.ok (l++r)
  else
   match DS s f (Ci s hid.isSome (s.length-a) a) hid with
   |.error e=>.error e
   |.ok r=>.ok (⟨1,[],[],cut s a (Ci s hid.isSome (s.length-a) a),a,Ci s hid.isSome (s.length-a) a⟩::r):=by
 rw[DS.eq_def]
 cases hid<;>rfl
theorem Nj {s:List UInt8}{fr a:Nat}{hid:Option Nat}{f:Nat}(hfa:fr<=a)(ha:a<=s.length)(Is:∀j,fr<=j->j<a->spec s j hid.isSome=false)(sW:a=s.length\/spec s a hid.isSome=true)(hf:s.length-fr<f):
  ∃g,s.length-a<g/\DS s f fr hid=match DS s g a hid with|.error e=>.error e|.ok r=>.ok (DW s fr a++r):=by
 rcases Nat.eq_or_lt_of_le hfa with rfl|BC
 ·refine⟨f,hf,?_⟩
  rw[DW,if_neg (by omega)]
  cases DS s f fr hid<;>rfl
 ·cases f with
  |zero=>omega
  |succ f=>
   refine⟨f,by omega,?_⟩
   have ht:Ci s hid.isSome (s.length-fr) fr=a:=by
    have:=NA (s:=s) (hid:=hid.isSome) (a-fr) (s.length-fr) fr (fun j hj=>Is (fr+j) (by omega) (by omega)) (by omega) (by rw[show fr+(a-fr)=a by omega];exact sW) (by omega)
    rw[this];omega
   have h0:spec s fr hid.isSome=false:=Is fr (Nat.le_refl _) BC
   rw[Ni,if_neg (by omega),if_neg (by rw[h0];simp)]
   simp only[ht];rw[DW,if_pos BC]
   cases DS s f a hid<;>rfl
theorem S7 {s:List UInt8}{a:Nat}{hid:Option Nat}{g:Nat}(ha:a<s.length)(HY:spec s a hid.isSome=true):DS s (g+1) a hid=match DY s a hid with|.error e=>.error e|.ok (l,hid2)=>(match DS s g (Cs l (a+1)) hid2 with|.error e=>.error e|.ok r=>.ok (l++r)):=by
 rw[Ni,if_neg (by omega),if_pos HY]
end Go.Ai.Ex
namespace Go.Proofs.YtopjpnhgnopbiaaGreatDoor.Lx
open Go.Ai Go Go.Ai.Ex
set_option maxRecDepth 100000
theorem yf :CQ cfg 37 RS:=by
 intro l h K ht;obtain⟨s,a,l',hid,ha,hs,e1,rfl,h0,h1,h2,h3,h4⟩:=ht;refine te l _ K ⟨s,a,l',hid,ha,hs,e1,rfl,?_⟩;unfold TS;unfold Ed at h0 h1 h2 h3 h4
 by_cases q1:has s Al a=true
 ·rw[if_pos q1] at h1⊢;exact h1 rfl
 rw[if_neg q1] at h0 h2 h3 h4⊢
 by_cases q2:has s Aa a=true
 ·rw[if_pos q2] at h2⊢;exact h2 rfl
 rw[if_neg q2] at h0 h3 h4⊢
 by_cases q3:Ec s a=true
 ·rw[if_pos q3] at h3⊢;exact h3 rfl
 rw[if_neg q3] at h0 h4⊢
 by_cases q4:(has s BM a&&decide (0<=hid))=true
 ·rw[if_pos q4] at h4⊢;exact h4 rfl
 ·rw[if_neg q4] at h0⊢;exact h0 rfl
theorem Vg :B9 cfg Dr (Du [(37,RS),(38,P7),(60,QK)] [(39,Cp),(56,Qi),(57,Mn),(59,RF)]):=
 Fo (AH yf (AH c24 (AH c41 AM))) (BV ld (BV c37 (BV c38 (BV c40 FW))))
def Ot :List AV:=[.ptr 1 0,.ptr 2 0,.ptr 3 0]
theorem vY (x:AV)(r:List AV):rd cfg.P 41 (x::r)=some x:=by kernel_rfl
theorem rd3 (x:AV)(r:List AV):rd cfg.P 3 (x::r)=some x:=by kernel_rfl
theorem vX (x:AV)(r:List AV):rd cfg.P 27 (x::r)=some x:=by kernel_rfl
theorem ri {F:Fr}(h2:lk F 2=(true,.ptr 1 0))(h3:lk F 3=(true,.ptr 2 0))(h4:lk F 4=(true,.ptr 3 0))(x0:Blk)(x y z:AV)(r:Hp):result cfg.P Tryz.f17 F (x0:: .mem 41 [x]:: .mem 3 [y]:: .mem 27 [z]::r)=some (.tup [x,y,z]):=by
 have e:Tryz.f17.results.toList=[.cell 2 41,.cell 3 3,.cell 4 27]:=rfl;unfold result;rw[e];simp only[LM,QS,h2,h3,h4,List.getElem?_cons_succ,List.getElem?_cons_zero,List.drop_zero,vY,rd3,vX,Option.map_some,Bool.and_self]
section
variable {I:World->Prop}{B0:Nat}
def qE (v:AV):Fr->Hp->Prop:=fun F h=>(lk F dS).2=.DA [.fn (.func 36) [] Ot]/\∃u,result cfg.P Tryz.f17 F h=some u/\stripR 0 h u=v
def pE (I:World->Prop)(B0:Nat)(v:AV):Fr->PX->Hp->Prop:=fun F x h=>(lk F dS).2=.DA [.fn (.func 36) [] Ot]/\∃h2 u,Z9 cfg I B0 qc 36 Ot x h h2/\result cfg.P Tryz.f17 F h2=some u/\stripR 0 h2 u=v
theorem ka (S0:Sound cfg I B0){v:AV}{F:Fr}{s:List UInt8}{p e:Int}(hd:(lk F dS).2=.DA [.fn (.func 36) [] Ot])(h2:lk F 2=(true,.ptr 1 0))(h3:lk F 3=(true,.ptr 2 0))(h4:lk F 4=(true,.ptr 3 0))
  (hv:v=.tup [.sl 0 [] none,.int .i64 p,.int .i64 e]) (a:Int) (L:List (List AV)) (hid:Int):pE I B0 v F (p,e) (hX s a L hid):=by
 refine⟨hd,_,_,ef S0 p e (t22 LU rfl),ri h2 h3 h4 _ _ _ _ _,?_⟩;rw[hv];rfl
theorem aC (S0:Sound cfg I B0){v:AV}{s:List UInt8}{fr:Nat}{l:List Tok}{hid:Option Nat}(hs:s.length<=limE)(Mz:fr<=s.length)(hl:l.length<=s.length)(Is:∀j,fr<=j->j<s.length->spec s j hid.isSome=false){f:Nat}(hf:s.length-fr<f)
  (hv:v=Wm (match DS s f fr hid with|.error e=>.error e|.ok r=>.ok (l++r))):
  GR cfg 17 (AB Tryz.f17) (QP.mk Dr (qE v) (pE I B0 v)) [.code [1,1,1,1,1]] .normal [(2,true,.ptr 1 0),(3,true,.ptr 2 0),(4,true,.ptr 3 0),(5,true,.ptr 5 0),(6,true,.int .i64 fr),(1000000,true,.DA [.fn (.func 36) [] Ot])] (hX s (s.length:Nat) (encTs l) (Jy hid)):=by
 obtain⟨g,hg,e⟩:=Nj (f:=f) Mz (Nat.le_refl _) Is (.inl rfl) hf
 obtain⟨g,rfl⟩:∃k,g=k+1:=⟨g-1,by omega⟩
 have eg:DS s (g+1) s.length hid=pY hid:=by
  rw[Ni,if_pos (Nat.le_refl _)]
 rw[e,eg] at hv
 refine vS Vg ⟨s,fr,s.length,l,Jy hid,Mz,Nat.le_refl _,hs,hl,rfl,rfl,AA (fun x=>⟨_,14,rfl,?_⟩) fun x=> ?_⟩
 ·cases hid with
  |none=>simp[Jy] at x
  |some h=>exact ka S0 rfl rfl rfl rfl hv _ _ _
 ·cases hid with
  |some h=>simp[Jy] at x
  |none=>
   simp only[pY,List.append_nil] at hv;refine⟨rfl,_,ri rfl rfl rfl _ _ _ _ _,?_⟩;rw[hv];show AV.tup [.sl 6 (AE 0 _ (encTs (l++DW s fr s.length))) none,.int .i64 0,.int .i64 0]=_;rw[CE];rfl
theorem eY (S0:Sound cfg I B0){v:AV}{s:List UInt8}(hs:s.length<=limE):∀(n a fr:Nat) (l:List Tok) (hid:Option Nat) (f:Nat),s.length-a<=n->fr<=a->a<=s.length->l.length<=fr->(∀j,fr<=j->j<a->spec s j hid.isSome=false)->s.length-fr<f->
  v=Wm (match DS s f fr hid with|.error e=>.error e|.ok r=>.ok (l++r))->
  GR cfg 17 (AB Tryz.f17) (QP.mk Dr (qE v) (pE I B0 v)) [.code [0,0,1,1,1,1],.block 0,.code [1,1,1,1,1]] .normal [(0,true,.str s),(2,true,.ptr 1 0),(3,true,.ptr 2 0),(4,true,.ptr 3 0),(5,true,.ptr 5 0),(6,true,.int .i64 fr),(1000000,true,.DA [.fn (.func 36) [] Ot])] (hX s (a:Nat) (encTs l) (Jy hid)):=by
 intro n
 induction n with
 |zero=>
  intro a fr l hid f hn Mz ha hl Is hf hv
  have:a=s.length:=by omega
  subst this
  refine nT Vg (AA (fun x=>by simp at x) fun x=> ?_)
  exact aC S0 hs Mz (by omega) Is hf hv
 |succ n ih=>
  intro a fr l hid f hn Mz ha hl Is hf hv
  by_cases zX:a=s.length
  ·subst zX
   refine nT Vg (AA (fun x=>by simp at x) fun x=> ?_)
   exact aC S0 hs Mz (by omega) Is hf hv
  have BC:a<s.length:=by omega
  have Ww:spec s a hid.isSome=decide (Ed s a hid.isSome≠0):=by
   unfold spec Ed
   cases has s Al a<;>cases has s Aa a<;>cases Ec s a<;>cases has s BM a<;>cases hid.isSome<;>rfl
  have take:∀(ts:List Tok) (hid2:Option Nat),spec s a hid.isSome=true->DY s a hid=.ok (ts,hid2)->fwd s a ts->
    GR cfg 17 (AB Tryz.f17) (QP.mk Dr (qE v) (pE I B0 v)) [.code [0,0,1,1,1,1],.block 0,.code [1,1,1,1,1]] .normal [(0,true,.str s),(2,true,.ptr 1 0),(3,true,.ptr 2 0),(4,true,.ptr 3 0),(5,true,.ptr 5 0),(6,true,.int .i64 ((Cs ts (a+1):Nat):Int)),(1000000,true,.DA [.fn (.func 36) [] Ot])]
     (hX s ((Cs ts (a+1):Nat):Int) (encTs ((l++DW s fr a)++ts)) (Jy hid2)):=by
   intro ts hid2 HY VX hfw;obtain⟨w1,w2,w3⟩:=hfw;obtain⟨g,hg,e⟩:=Nj (f:=f) Mz ha Is (.inr HY) hf
   obtain⟨g,rfl⟩:∃k,g=k+1:=⟨g-1,by omega⟩
   rw[S7 BC HY,VX] at e;simp only at e
   have we:(DW s fr a).length<=a-fr:=by
    unfold DW;split
    ·simp;omega
    ·simp
   refine ih (Cs ts (a+1)) (Cs ts (a+1)) _ hid2 g (by omega) (Nat.le_refl _) w3 ?_ (fun j h1 h2=>by omega) (by omega) ?_
   ·simp only[List.length_append];omega
   ·rw[hv,e]
    cases DS s g (Cs ts (a+1)) hid2 with
    |error e=>rfl
    |ok r=>simp only[List.append_assoc]
  have bad:∀(p:Nat) (e:Int),spec s a hid.isSome=true->DY s a hid=.error (p,e)->v=.tup [.sl 0 [] none,.int .i64 p,.int .i64 e]:=by
   intro p e HY VX;obtain⟨g,hg,eq⟩:=Nj (f:=f) Mz ha Is (.inr HY) hf
   obtain⟨g,rfl⟩:∃k,g=k+1:=⟨g-1,by omega⟩
   rw[S7 BC HY,VX] at eq;rw[hv,eq];rfl
  have iW:(l++DW s fr a).length<=a:=by
   have we:(DW s fr a).length<=a-fr:=by
    unfold DW;split
    ·simp;omega
    ·simp
   simp only[List.length_append];omega
  refine nT Vg (AA (fun _=>⟨s,a,l,Jy hid,ha,hs,rfl,rfl,fun q=> ?_,fun q=> ?_,fun q=> ?_,fun q=> ?_,fun q=> ?_⟩) fun x=>by simp at x;omega)
  all_goals rw[Uu] at q
  ·rw[Ek (by omega)]
   refine ih (a+1) fr l hid f (by omega) (by omega) (by omega) hl (fun j h1 h2=> ?_) hf hv
   rcases Nat.lt_or_ge j a with h|h
   ·exact Is j h1 h
   ·have:j=a:=by omega
    subst this;rw[Ww,q];rfl
  ·have HY:spec s a hid.isSome=true:=by rw[Ww,q];rfl
   have ho:has s Al a=true:=by
    unfold Ed at q
    by_cases h:has s Al a=true
    ·exact h
    ·rw[if_neg h] at q;split at q<;>(try split at q)<;>(try split at q)<;>omega
   have h5:a+5<=s.length:=GM ho (by decide)
   have VX:DY s a hid=match ML s a with|.error e=>.error e|.ok ts=>.ok (ts,hid):=by
    unfold DY ML;rw[if_pos ho]
    cases Gs s a with
    |error e=>rfl
    |ok t=>simp only;cases IV s t<;>rfl
   refine⟨s,fr,a,l,Jy hid,Mz,ha,hs,by omega,rfl,rfl,s,a,_,Jy hid,ho,ha,hs,by omega,rfl,rfl,fun p e he a19 L20 su=>ka S0 rfl rfl rfl rfl (bad p e HY (by rw[VX,he])) _ _ _,fun ts he=> ?_⟩
   exact take ts hid HY (by rw[VX,he]) (cm h5 he)
  ·have HY:spec s a hid.isSome=true:=by rw[Ww,q];rfl
   have ho:¬has s Al a=true:=fun h=>by unfold Ed at q;rw[if_pos h] at q;cases q
   have hc:has s Aa a=true:=by
    unfold Ed at q;rw[if_neg ho] at q
    by_cases h:has s Aa a=true
    ·exact h
    ·rw[if_neg h] at q;split at q<;>(try split at q)<;>omega
   have h6:a+6<=s.length:=GM hc (by decide)
   have VX:DY s a hid=match CJ s a with|.error e=>.error e|.ok t=>.ok ([t],hid):=by
    unfold DY;rw[if_neg ho,if_pos hc]
    cases CJ s a<;>rfl
   refine⟨s,fr,a,l,Jy hid,Mz,ha,hs,by omega,rfl,rfl,s,a,_,Jy hid,hc,ha,hs,by omega,rfl,rfl,fun p e he a19 L20 su=>ka S0 rfl rfl rfl rfl (bad p e HY (by rw[VX,he])) _ _ _,fun t he=> ?_⟩
   exact take [t] hid HY (by rw[VX,he]) (dh h6 he)
  ·have HY:spec s a hid.isSome=true:=by rw[Ww,q];rfl
   have ho:¬has s Al a=true:=fun h=>by unfold Ed at q;rw[if_pos h] at q;cases q
   have hc:¬has s Aa a=true:=fun h=>by unfold Ed at q;rw[if_neg ho,if_pos h] at q;cases q
   have hh:Ec s a=true:=by
    unfold Ed at q;rw[if_neg ho,if_neg hc] at q
    by_cases h:Ec s a=true
    ·exact h
    ·rw[if_neg h] at q;split at q<;>omega
   have h8:a+8<=s.length:=by
    unfold Ec at hh;simp only[Bool.and_eq_true,decide_eq_true_eq] at hh;omega
   have VX:DY s a hid=if hid.isSome=true then .error (a,13) else .ok ([⟨5,[],[],cut s a (a+8),a,a+8⟩],some a):=by
    unfold DY;rw[if_neg ho,if_neg hc,if_pos hh]
   refine⟨s,fr,a,l,Jy hid,Mz,ha,hs,by omega,rfl,rfl,s,a,_,Jy hid,h8,hs,by omega,rfl,rfl,fun hp a53 L54 zP=> ?_,fun hp=> ?_⟩
   ·have:hid.isSome=true:=by rw[<-Uu];simpa using hp
    rw[if_pos this] at VX;exact ka S0 rfl rfl rfl rfl (bad a 13 HY VX) _ _ _
   ·have:¬hid.isSome=true:=by rw[<-Uu];simp;omega
    rw[if_neg this] at VX
    exact take [⟨5,[],[],cut s a (a+8),a,a+8⟩] (some a) HY VX ⟨by show a+1<=a+8;omega,by show a<a+8;omega,h8⟩
  ·have HY:spec s a hid.isSome=true:=by rw[Ww,q];rfl
   have ho:¬has s Al a=true:=fun h=>by unfold Ed at q;rw[if_pos h] at q;cases q
   have hc:¬has s Aa a=true:=fun h=>by unfold Ed at q;rw[if_neg ho,if_pos h] at q;cases q
   have hh:¬Ec s a=true:=fun h=>by unfold Ed at q;rw[if_neg ho,if_neg hc,if_pos h] at q;cases q
   have hw:has s BM a=true:=(NJ HY ho hc hh).1
   have h3:a+3<=s.length:=GM hw (by decide)
   have ZP:cut s a (a+3)=BM:=by
    have:=List.prefix_iff_eq_take.1 (List.isPrefixOf_iff_prefix.1 hw);rw[Fl];exact this.symm
   have VX:DY s a hid=.ok ([⟨6,[],[],cut s a (a+3),a,a+3⟩],none):=by
    unfold DY;rw[if_neg ho,if_neg hc,if_neg hh,ZP]
   refine⟨s,fr,a,l,Jy hid,Mz,ha,hs,by omega,rfl,rfl,s,a,_,Jy hid,h3,hs,by omega,rfl,rfl,?_⟩
   exact take [⟨6,[],[],cut s a (a+3),a,a+3⟩] none HY VX ⟨by show a+1<=a+3;omega,by show a<a+3;omega,h3⟩
theorem YD (S0:Sound cfg I B0){s:List UInt8}(hs:s.length<=limE):GR cfg 17 (AB Tryz.f17) (rj cfg I B0 qc Dr Tryz.f17 36 Ot (Wm (lexM s))) [.code []] .normal (D8 0 [.str s]++[(dS,true,.DA [])]) []:=by
 show GR cfg 17 (AB Tryz.f17) (QP.mk Dr (qE (Wm (lexM s))) (pE I B0 (Wm (lexM s)))) [.code []] .normal [(0,true,.str s),(1000000,true,.DA [])] []
 refine t15 Vg (eY S0 hs s.length 0 0 [] none (s.length+1) (by omega) (by omega) (by omega) (by simp) (fun j _ h=>by omega) (by omega) ?_)
 unfold lexM
 cases DS s (s.length+1) 0 none<;>rfl
def Yy :List AV->Option (Bool×AV)
 |[.str s]=>some (Nat.ble s.length 1000000,Wm (lexM s))
 |_=>none
theorem ay (S0:Sound cfg I B0):Ev Tryz.prog cfg.G I B0 17 Yy:=by
 intro vs v hv E args hE hB H hr;unfold Yy at hv;split at hv
 ·rename_i s;simp only[Option.some.injEq,Prod.mk.injEq] at hv;obtain⟨hs,rfl⟩:=hv
  refine cU S0 nr (by kernel_rfl) (by kernel_rfl) (by kernel_rfl) Tryz.func17 (by kernel_rfl) (by kernel_rfl) ⟨Tryz.f36,Tryz.func36,by kernel_rfl,by kernel_rfl⟩ (fun vals w hl=> ?_) rfl (YD S0 (Nat.le_of_ble_eq_true hs)) H hr
  match vals,hl with
  |[a0,a1,a2],_=>exact ee a0 a1 a2 w
 ·cases hv
end
end Go.Proofs.YtopjpnhgnopbiaaGreatDoor.Lx
end
