/-
  Pieces of a page's text: bytes, words, lists of names: contracts.
  Pieces of a page's text: the reader's own steps: contracts.
  Pieces of a page's text: what adds a piece, what finds what stands next: contracts.
  Pieces of a page's text: hidden parts, raw texts, tags that close: contracts.
  Pieces of a page's text: an attribute of a tag: contract.
  Pieces of a page's text: a tag that opens: contract.
  Pieces of a page's text: what takes back what was given up; the pieces of a text, whole.
  Pieces of a page's text: the pieces of a text, whole: the function under contract.
-/
import Derived.Test.YtopjpnhgnopbiaaGreatDoorLJB
import Derived.Test.YtopjpnhgnopbiaaGreatDoorLJA
import Derived.Test.YtopjpnhgnopbiaaGreatDoorLJC
import Derived.Test.YtopjpnhgnopbiaaGreatDoorLAiRec
import Derived.WalkKit
import Derived.ProofKit
set_option linter.unusedVariables false
set_option linter.unusedSimpArgs false
set_option linter.unnecessarySimpa false
section
namespace Go.Proofs.YtopjpnhgnopbiaaGreatDoor.Lx
open Go.Ai Go Go.Ai.Ex
set_option maxRecDepth 100000
theorem rP :BD cfg 118 Tryz.f118:=(by refine⟨?_,?_,?_,?_,?_,?_⟩<;>kernel_rfl)
theorem rj :BD cfg 58 Tryz.f58:=(by refine⟨?_,?_,?_,?_,?_,?_⟩<;>kernel_rfl)
theorem rV :BD cfg 86 Tryz.f86:=(by refine⟨?_,?_,?_,?_,?_,?_⟩<;>kernel_rfl)
theorem rk :BD cfg 55 Tryz.f55:=(by refine⟨?_,?_,?_,?_,?_,?_⟩<;>kernel_rfl)
theorem kB :BD cfg 101 Tryz.f101:=(by refine⟨?_,?_,?_,?_,?_,?_⟩<;>kernel_rfl)
theorem kA :BD cfg 126 Tryz.f126:=(by refine⟨?_,?_,?_,?_,?_,?_⟩<;>kernel_rfl)
theorem KC :AJ cfg (Ae []):=AX AM
theorem vj :CO cfg 93 ZT:=by
 refine Gl (by kernel_rfl) (by kernel_rfl) (by kernel_rfl:cfg.E9 93=some Kq) (by kernel_rfl) fun vs h K ht=> ?_
 obtain⟨s,c,hl,rfl,hk⟩:=ht;have:=c.toNat_lt;refine⟨.int .i64 (Lib.indexByte s c),hk,?_⟩
 have e:(c.toNat:Int).toNat.toUInt8=c:=by simp
 simp only[Kq,e]
 rw[decide_eq_true (by omega),decide_eq_true (by omega)];rfl
theorem yf :CO cfg 84 kQ:=by
 refine Gl (by kernel_rfl) (by kernel_rfl) (by kernel_rfl:cfg.E9 84=some Ob) (by kernel_rfl) fun vs h K ht=> ?_
 obtain⟨s,x,hl,rfl,hk⟩:=ht;refine⟨.int .i64 (IQ s x 0),hk,?_⟩
 have:Nat.blt s.length 4294967281=true:=Nat.ble_eq_true_of_le (by unfold limE at hl;omega)
 simp only[Ob,this]
theorem yd :CO cfg 117 Sf:=by
 refine Gl (by kernel_rfl) (by kernel_rfl) (by kernel_rfl:cfg.E9 117=some Ni) (by kernel_rfl) fun vs h K ht=> ?_
 obtain⟨s,rfl,rfl,hk⟩:=ht
 exact⟨.sl 1 (KD.map fun n=>[.str n]) none,hk,by kernel_rfl⟩
theorem Rj (c:UInt8):Rl c=(decide ((c.toNat:Int)>=97)&&decide ((c.toNat:Int)<=122)):=by
 unfold Rl
 congr 1
 ·rw[decide_eq_decide];omega
 ·rw[decide_eq_decide];omega
theorem vh :CO cfg 118 Fv:=by
 refine Ar rP fun vs h K ht=> ?_
 obtain⟨c,rfl,hk⟩:=ht
 refine⟨_,hk,t80 KC (AA (fun a=> ?_) fun a=> ?_)⟩
 ·rw[Rj,a,Bool.true_and]
 ·rw[Rj,a,Bool.false_and]
theorem pO (c:UInt8):decide (Lib.indexByte [32,9,10,13] c>=0)=blB c:=by
 unfold blB;simp only[Lib.indexByte]
 by_cases h1:c=32
 ·subst h1;rfl
 by_cases h2:c=9
 ·subst h2;rfl
 by_cases h3:c=10
 ·subst h3;rfl
 by_cases h4:c=13
 ·subst h4;rfl
 have e1:((32:UInt8)==c)=false:=by simpa using fun h=>h1 h.symm
 have e2:((9:UInt8)==c)=false:=by simpa using fun h=>h2 h.symm
 have e3:((10:UInt8)==c)=false:=by simpa using fun h=>h3 h.symm
 have e4:((13:UInt8)==c)=false:=by simpa using fun h=>h4 h.symm
 simp[h1,h2,h3,h4,e1,e2,e3,e4,Ne.symm h1,Ne.symm h2,Ne.symm h3,Ne.symm h4]
theorem vo :CO cfg 58 E6:=by
 refine Ar rj fun vs h K ht=> ?_
 obtain⟨c,rfl,hk⟩:=ht
 exact⟨_,hk,t39 (AX (AG vj AM)) ⟨_,c,by decide,rfl,by rw[pO]⟩⟩
theorem JH :∀(x s:List UInt8),x.isPrefixOf s=(decide (x.length<=s.length)&&(s.take x.length==x))
 |[],s=>by simp
 |a::x,[]=>by simp
 |a::x,b::s=>by
  have:=JH x s;simp only[List.isPrefixOf_cons_cons,this,List.length_cons,List.take_succ_cons,List.cons_beq_cons]
  rw[show(decide (x.length+1<=s.length+1))=decide (x.length<=s.length) from by simp,show(a==b)=(b==a) from by rw[Bool.eq_iff_iff];simp;exact eq_comm]
  cases (b==a)<;>cases decide (x.length<=s.length)<;>simp
theorem ym :CO cfg 86 Ex.Th:=by
 refine Ar rV fun vs h K ht=> ?_
 obtain⟨s,x,rfl,hk⟩:=ht
 refine⟨_,hk,t57 KC (AA (fun a=>AF ?_ ?_) fun a=> ?_)⟩
 ·simp[BC] at a⊢;omega
 ·simp at a
  rw[JH,decide_eq_true (by omega),Bool.true_and]
  simp[B6]
 ·simp at a
  rw[JH,decide_eq_false (by omega),Bool.false_and]
theorem yt :CO cfg 55 Ex.Th:=by
 refine Ar rk fun vs h K ht=> ?_
 obtain⟨s,x,rfl,hk⟩:=ht;exact⟨_,hk,t36 (AX (AG ym AM)) ⟨s,x,rfl,rfl⟩⟩
theorem EF {n:Nat}(h:n<=2*limE):IntKind.wrap .i64 ((n:Int)+1)=((n+1:Nat):Int):=by
 unfold limE at h;rw[Bs]<;>omega
theorem CF {α:Type}(f:α->List AV)(l:List α){i:Nat}(h:i<l.length):Bm (l.map f) (i:Int)=f l[i]:=by
 unfold Bm;simp[h]
theorem As {i n:Nat}(h:i<n):Cy (i:Int) n=true:=by
 unfold Cy
 rw[decide_eq_true (by omega),decide_eq_true (by omega)];rfl
theorem rM (l:List (List UInt8)):Aa.BZ (l.map fun n=>[AV.str n])=true:=by
 induction l with
 |nil=>rfl
 |cons a r ih=>simp only[List.map_cons,Aa.BZ,Aa.Ax,Aa,ih,Bool.true_and]
theorem Fs {α:Type}(p:α->Bool)(l:List α){i:Nat}(h:i<l.length):(l.drop i).any p=(p l[i]||(l.drop (i+1)).any p):=by
 rw[List.drop_eq_getElem_cons h,List.any_cons]
theorem Ou (l:List (List UInt8))(x:List UInt8)(hl:l.length<=limE):∀(n i:Nat),l.length-i=n->i<=l.length->∃z:Int,decide (z>=0)=(l.drop i).any (·==x)/\
  AE cfg 126 (AD Tryz.f126) (AO Tryz.prog Tryz.f126 (.int .i64 z)) [.code [0,1,0,1],.block 0,.code [1,1]] .normal [(0,true,.sl 1 (l.map fun n=>[.str n]) none),(1,true,.str x),(7,true,.int .i64 l.length),(8,true,.int .i64 i)] []
 |0,i,hn,hi=>by
  refine⟨-1,?_,Vi KC (AA (fun a=> ?_) fun _=>rfl)⟩
  ·rw[List.drop_of_length_le (by omega)];rfl
  ·simp at a;omega
 |n+1,i,hn,hi=>by
  have Au:i<l.length:=by omega
  by_cases hx:l[i]=x
  ·refine⟨i,?_,Vi KC (AA (fun a=>AF ?_ ⟨l[i],CF _ l Au,AA (fun _=>rfl) fun b=> ?_⟩) fun a=> ?_)⟩
   ·rw[Fs _ _ Au,decide_eq_true (by omega)];simp[hx]
   ·rw[List.length_map,As Au];rfl
   ·simp[hx] at b
   ·simp at a;omega
  ·obtain⟨z,hz,hr⟩:=Ou l x hl n (i+1) (by omega) (by omega)
   refine⟨z,?_,Vi KC (AA (fun a=>AF ?_ ⟨l[i],CF _ l Au,AA (fun b=> ?_) fun b=> ?_⟩) fun a=> ?_)⟩
   ·rw[hz,Fs _ _ Au];simp[hx]
   ·rw[List.length_map,As Au];rfl
   ·simp at b;exact absurd b.symm hx
   ·rw[EF (by omega)];exact hr
   ·simp at a;omega
theorem uS :CO cfg 126 dE:=by
 refine Ar kA fun vs h K ht=> ?_
 obtain⟨l,x,rfl,hl,hk⟩:=ht
 obtain⟨z,hz,hr⟩:=Ou l x hl l.length 0 (by omega) (by omega)
 refine⟨_,hk z hz,t88 KC ?_⟩;rw[List.length_map];exact hr
theorem uV :CO cfg 101 kT:=by
 refine Ar kB fun vs h K ht=> ?_
 obtain⟨l,x,rfl,hl,hk⟩:=ht
 exact⟨_,hk,t72 (AX (AG uS AM)) ⟨l,x,by rw[BA 0 [] _ (rM l)],hl,fun z hz=>by rw[hz]⟩⟩
theorem Gg (s:List UInt8)(a j:Nat):s.getD (a+j) 0=(s.drop a).getD j 0:=by
 simp[List.getD_eq_getElem?_getD,List.getElem?_drop]
theorem Vd {p:UInt8->Bool}:∀(l:List UInt8) (j:Nat),j<(l.takeWhile p).length->j<l.length/\p (l.getD j 0)=true
 |[],j,h=>by simp at h
 |c::r,j,h=>by
  cases hc:p c with
  |false=>simp[List.takeWhile_cons,hc] at h
  |true=>
   simp only[List.takeWhile_cons,hc,if_true,List.length_cons] at h
   cases j with
   |zero=>exact⟨by simp,by simpa using hc⟩
   |succ j=>
    obtain⟨h1,h2⟩:=Vd (p:=p) r j (by omega)
    exact⟨by simp;omega,by simpa using h2⟩
theorem aQ {p:UInt8->Bool}:∀(l:List UInt8),(l.takeWhile p).length<l.length->p (l.getD (l.takeWhile p).length 0)=false
 |[],h=>by simp at h
 |c::r,h=>by
  cases hc:p c with
  |false=>simp[List.takeWhile_cons,hc]
  |true=>
   simp only[List.takeWhile_cons,hc,if_true,List.length_cons] at h⊢
   have:=aQ (p:=p) r (by omega)
   simpa using this
theorem Oy {s:List UInt8}{a b:Nat}(h1:a<=b)(h2:b<a+lets s a):b<s.length/\Rl (s.getD b 0)=true:=by
 obtain⟨j,rfl⟩:∃j,b=a+j:=⟨b-a,by omega⟩
 unfold lets at h2
 obtain⟨k1,k2⟩:=Vd (p:=Rl) (s.drop a) j (by omega)
 rw[List.length_drop] at k1
 exact⟨by omega,by rw[Gg];exact k2⟩
theorem SS {s:List UInt8}{a:Nat}(h:a+lets s a<s.length):Rl (s.getD (a+lets s a) 0)=false:=by
 rw[Gg]
 exact aQ (p:=Rl) (s.drop a) (by unfold lets at h;rw[List.length_drop];omega)
theorem Ti {s:List UInt8}{a b:Nat}(h1:a<=b)(h2:b<past s a):b<s.length/\blB (s.getD b 0)=true:=by
 obtain⟨j,rfl⟩:∃j,b=a+j:=⟨b-a,by omega⟩
 unfold past at h2
 obtain⟨k1,k2⟩:=Vd (p:=blB) (s.drop a) j (by omega)
 rw[List.length_drop] at k1
 exact⟨by omega,by rw[Gg];exact k2⟩
theorem Xf {s:List UInt8}{a:Nat}(h:past s a<s.length):blB (s.getD (past s a) 0)=false:=by
 unfold past at h⊢;rw[Gg]
 exact aQ (p:=blB) (s.drop a) (by rw[List.length_drop];omega)
theorem JX {s:List UInt8}{b:Nat}:[AV.int IntKind.u8 ((s.getD ((b:Int).toNat) 0).toNat:Int)]=[AV.int IntKind.u8 ((s.getD b 0).toNat:Int)]:=by rw[Int.toNat_natCast]
theorem CB (s:List UInt8){a b:Nat}(h:a<=b)(hb:b<=s.length):B6 s (some (a:Int)) (some (b:Int))=cut s a b/\BC s.length (some (a:Int)) (some (b:Int))=true:=by
 refine⟨?_,?_⟩
 ·simp only[B6,Int.toNat_natCast,cut];rw[List.drop_take]
 ·simp only[BC]
  rw[decide_eq_true (by omega),decide_eq_true (by omega),decide_eq_true (by omega)];rfl
theorem tP :Bl cfg 116 Tryz.f116:=(by refine⟨?_,?_,?_,?_,?_,?_⟩<;>kernel_rfl)
theorem tV :Bl cfg 88 Tryz.f88:=(by refine⟨?_,?_,?_,?_,?_,?_⟩<;>kernel_rfl)
theorem ak :AJ cfg (Ae [(118,Fv)]):=AX (AG vh AM)
theorem bA :AJ cfg (Ae [(58,E6)]):=AX (AG vo AM)
theorem cW {K:AV->Hp->Prop}{s:List UInt8}{a:Nat}{L:List (List AV)}{hid:Int}(BF:Ak.EE [] L)(ha:a<=s.length)(hs:s.length<=limE)(hk:K (.str ((s.drop a).take (lets s a))) (hX s ((a+lets s a:Nat):Int) L hid)):
  ∀(n b:Nat),a+lets s a-b=n->a<=b->b<=a+lets s a->AE cfg 116 (AD Tryz.f116) (AR Tryz.prog Tryz.f116 6 K) [.code [0,0,1,1],.block 0,.code [1,1,1]] .normal [(0,true,.ptr 5 0),(3,true,.int .i64 a)] (hX s (b:Nat) L hid)
 |0,b,hn,h1,h2=>by
  have hb:b=a+lets s a:=by omega
  subst hb
  have hle:a+lets s a<=s.length:=by have:=C8 s a;omega
  obtain⟨e1,e2⟩:=CB s (show a<=a+lets s a by omega) hle
  have hL:=fun g=>(BF 6 g (by simp)).2
  have e3:cut s a (a+lets s a)=(s.drop a).take (lets s a):=Ew;rw[<-e3] at hk
  refine bG ak (AA (fun x=>AF (As (by simp at x;omega)) ⟨s.getD (a+lets s a) 0,JX,AA (fun y=> ?_) fun y=>AF e2 ?_⟩) fun x=>AF e2 ?_)
  ·rw[SS (by simp at x;omega)] at y;cases y
  ·rw[e1,hL];exact hk
  ·rw[e1,hL];exact hk
 |n+1,b,hn,h1,h2=>by
  obtain⟨k1,k2⟩:=Oy h1 (show b<a+lets s a by omega)
  refine bG ak (AA (fun x=>AF (As k1) ⟨s.getD b 0,JX,AA (fun y=> ?_) fun y=> ?_⟩) fun x=> ?_)
  ·rw[EF (by omega)]
   exact cW BF ha hs hk n (b+1) (by omega) (by omega) (by omega)
  ·rw[k2] at y;cases y
  ·simp at x;omega
theorem uU :CO cfg 116 aL:=by
 refine BG tP fun vs h K ht=> ?_
 obtain⟨s,a,L,hid,BF,ha,hs,rfl,rfl,hk⟩:=ht
 exact t78 ak (cW BF ha hs hk _ a rfl (by omega) (by omega))
theorem cY {K:AV->Hp->Prop}{r:Hp}{s:List UInt8}{a:Nat}{L:List (List AV)}{hid:Int}(BF:Ak.EE r L)(ha:a<=s.length)(hs:s.length<=limE)(hk:K (.int .i64 ((past s a-a:Nat):Int)) (hX s ((past s a:Nat):Int) L hid++r)):
  ∀(n b:Nat),past s a-b=n->a<=b->b<=past s a->AE cfg 88 (AD Tryz.f88) (AR Tryz.prog Tryz.f88 (hX s (b:Nat) L hid++r).length K) [.code [0,0,1,1],.block 0,.code [1,1,1]] .normal [(0,true,.ptr 5 0),(3,true,.int .i64 a)] (hX s (b:Nat) L hid++r)
 |0,b,hn,h1,h2=>by
  have hb:b=past s a:=by omega
  subst hb;have hle:=EM ha
  have hN:=fun g=>BF (hX s ((past s a:Nat):Int) L hid++r).length g (by simp[hX];omega)
  have lN:=fun g=>(hN g).1
  have lM:=fun g=>(hN g).2
  have ew:IntKind.wrap .i64 ((past s a:Int)-(a:Int))=((past s a-a:Nat):Int):=by
   unfold limE at hs
   rw[Bs]<;>omega
  have fin:K (.int .i64 (IntKind.wrap .i64 ((past s a:Int)-(a:Int)))) (Blk.grow 0 6 50::Blk.mem 41 [AV.sl 6 [] (some 0)]::Blk.mem 3 [AV.int .i64 0]::Blk.mem 27 [AV.int .i64 0]::Blk.grow (List.length L) 6 50::Blk.mem 89 [AV.str s,AV.int .i64 (past s a:Nat),AV.sl 6 L (some 4),AV.int .i64 hid]::r):=by rw[ew];exact hk
  refine mm bA (AA (fun x=>AF (As (by simp at x;omega)) ⟨s.getD (past s a) 0,JX,AA (fun y=> ?_) fun y=> ?_⟩) fun x=> ?_)
  ·rw[Xf (by simp at x;omega)] at y;cases y
  ·simp only[List.append_eq,List.nil_append,List.take_length,lN,lM];exact fin
  ·simp only[List.append_eq,List.nil_append,List.take_length,lN,lM];exact fin
 |n+1,b,hn,h1,h2=>by
  obtain⟨k1,k2⟩:=Ti h1 (show b<past s a by omega)
  refine mm bA (AA (fun x=>AF (As k1) ⟨s.getD b 0,JX,AA (fun y=> ?_) fun y=> ?_⟩) fun x=> ?_)
  ·rw[EF (by omega)]
   exact cY BF ha hs hk n (b+1) (by omega) (by omega) (by omega)
  ·rw[k2] at y;cases y
  ·simp at x;omega
theorem yl :CO cfg 88 nF:=by
 refine BG tV fun vs h K ht=> ?_
 obtain⟨r,s,a,L,hid,BF,ha,hs,rfl,rfl,hk⟩:=ht
 exact t59 bA (cY BF ha hs hk _ a rfl (by omega) (EM ha).1)
theorem pF :CO cfg 88 OK:=by
 intro l h K ht;refine yl l h K ?_;obtain⟨s,a,L,hid,k,nm,l',BF,ha,hs,e1,e2,hk⟩:=ht;exact⟨rT k nm (encAs l'),s,a,L,hid,BF,ha,hs,e1,e2,hk⟩
theorem tU :Bl cfg 89 Tryz.f89:=(by refine⟨?_,?_,?_,?_,?_,?_⟩<;>kernel_rfl)
theorem tS :Bl cfg 91 Tryz.f91:=(by refine⟨?_,?_,?_,?_,?_,?_⟩<;>kernel_rfl)
theorem tW :Bl cfg 87 Tryz.f87:=(by refine⟨?_,?_,?_,?_,?_,?_⟩<;>kernel_rfl)
theorem tO :Bl cfg 119 Tryz.f119:=(by refine⟨?_,?_,?_,?_,?_,?_⟩<;>kernel_rfl)
theorem kz :Bl cfg 99 Tryz.f99:=(by refine⟨?_,?_,?_,?_,?_,?_⟩<;>kernel_rfl)
theorem ky :Bl cfg 125 Tryz.f125:=(by refine⟨?_,?_,?_,?_,?_,?_⟩<;>kernel_rfl)
theorem fG (b:Nat):Nat.blt b 0=false:=rfl
theorem Qb {v:AV}{k:IntKind}{n:Int}(h:strip 0 [] v=.int k n):v=.int k n:=by
 cases v<;>simp_all[strip,fG]
theorem VI (l:List AV)(p e:Int)(h:B7 cfg 39 l=[.int .i64 p,.int .i64 e]):l=[.int .i64 p,.int .i64 e]:=by
 have hh:((cfg.Cz 39).isSome||cfg.heap 39)=false:=by kernel_rfl
 unfold B7 at h;rw[hh] at h;simp only at h
 cases l with
 |nil=>cases h
 |cons x l=>
  cases l with
  |nil=>simp[AQ] at h
  |cons y l=>
   cases l with
   |cons z l=>simp[AQ] at h
   |nil=>
    simp only[AQ,List.cons.injEq,and_true] at h;rw[Qb h.1,Qb h.2]
theorem iM :IX cfg DV 39 Ch:=by
 intro l h K KP ht;obtain⟨p,e,hl,hk⟩:=ht;have Wd:=VI l p e hl;refine .inr ⟨1,(p,e),h,?_,hk⟩;simp only[Mb];refine .inl ⟨?_,trivial⟩;rw[Wd];rfl
theorem qZ :B8 cfg DV (DX [] [(39,Ch)]):=Ey AM (BM iM Ej)
theorem qC :IX cfg DV 89 HP:=by
 refine Ec tU fun vs h K KP ht=> ?_
 obtain⟨r,s,a,L,hid,tag,BF,ha,hs,rfl,rfl,h1,h2⟩:=ht
 have hN:=fun g=>BF (hX s (a:Nat) L hid++r).length g (by simp[hX];omega)
 have lN:=fun g=>(hN g).1
 have lM:=fun g=>(hN g).2
 refine t60 qZ (AA (fun x=>⟨tag,14,rfl,?_⟩) fun x=>AF (As (by simp at x;omega)) ?_)
 ·simp only[List.append_eq,List.nil_append,List.take_length,lN,lM]
  exact h1 (by simp at x;omega)
 ·simp only[List.append_eq,List.nil_append,List.take_length,lN,lM,Int.toNat_natCast]
  exact h2 (by simp at x;omega)
theorem mV :B8 cfg DV (DX [] [(39,Ch),(89,HP)]):=Ey AM (BM iM (BM qC Ej))
theorem vk :IX cfg DV 91 nZ:=by
 refine Ec tS fun vs h K KP ht=> ?_
 obtain⟨r,s,a,L,hid,tag,is,BF,ha,hs,rfl,rfl,h1,h2,h3⟩:=ht
 have hN:=fun g=>BF (hX s (a:Nat) L hid++r).length g (by simp[hX];omega)
 have lN:=fun g=>(hN g).1
 have lM:=fun g=>(hN g).2
 refine t62 mV ?_;simp only[List.append_eq,List.nil_append,List.take_length,lN,lM]
 refine⟨r,s,a,L,hid,tag,BF,ha,hs,rfl,rfl,fun x=>h1 x,fun x=>AA (fun y=>⟨a,12,rfl,?_⟩) fun y=> ?_⟩
 ·exact h2 x (by simpa using y)
 ·rw[EF (by omega)]
  exact h3 x (by simpa using y)
theorem uX :IX cfg DV 91 T9:=by
 intro l h K KP ht;refine vk l h K KP ?_;obtain⟨s,a,L,hid,k,tag,nm,l',is,BF,ha,hs,e1,e2,hk⟩:=ht;exact⟨rT k nm (encAs l'),s,a,L,hid,tag,is,BF,ha,hs,e1,e2,hk⟩
theorem uY :IX cfg DV 91 UA:=by
 intro l h K KP ht;refine vk l h K KP ?_;obtain⟨s,a,L,hid,k,tag,nm,l',an,av,aa,is,BF,ha,hs,e1,e2,hk⟩:=ht;exact⟨rA k nm (encAs l') an av aa,s,a,L,hid,tag,is,BF,ha,hs,e1,e2,hk⟩
theorem mW :B8 cfg DV (DX [(116,aL),(117,Sf),(101,kT)] [(39,Ch)]):=Ey (AG uU (AG yd (AG uV AM))) (BM iM Ej)
theorem vl :IX cfg DV 87 Om:=by
 refine Ec tW fun vs h K KP ht=> ?_
 obtain⟨s,a,L,hid,tag,BF,ha,hs,rfl,rfl,h1,h2⟩:=ht
 have hL:=fun g=>(BF 6 g (by simp)).2
 refine t58 mW ⟨s,a,L,hid,BF,ha,hs,rfl,rfl,_,rfl,rfl,KD,_,rfl,by decide,?_⟩
 simp only[hL]
 refine AA (fun x=>⟨tag,11,rfl,?_⟩) fun x=> ?_
 ·exact h1 (by simpa[Bk] using x) _ L hid
 ·exact h2 (by simpa[Bk] using x)
theorem Ia (l:List A9):Aa.BZ (encAs l)=true:=by
 unfold encAs
 induction l with
 |nil=>rfl
 |cons a r ih=>simp only[List.map_cons,Ao,Aa.BZ,Aa.Ax,Aa,ih,Bool.true_and]
theorem Dc (n:Nat)(g:Hp)(l:List A9):AB n g (encAs l)=encAs l:=BA _ _ _ (Ia l)
theorem SN {k:Int}{nm:List UInt8}{es:List (List AV)}{an av:List UInt8}{aa:Int}{L:List (List AV)}(h:Ak.EE (rA k nm es an av aa) L){n:Nat}(hn:11<=n)(g:Hp):AB n g es=es/\AB n g L=L:=by
 obtain⟨h1,h2⟩:=h n g hn;refine⟨?_,h2⟩;simp only[rA,rT,List.cons_append,List.nil_append,List.map_cons,List.cons.injEq] at h1;have:=h1.2.2.1;simp only[AN,AQ,strip,Blk.mem.injEq,List.cons.injEq,AV.sl.injEq] at this;exact this.2.2.2.1.2.1
theorem yc :CO cfg 119 Rm:=by
 refine BG tO fun vs h K ht=> ?_
 obtain⟨s,a,L,hid,k,nm,es,an,av,aa,b,BF,rfl,rfl,hk⟩:=ht
 have hN:=fun g=>SN BF (Nat.le_refl 11) g
 refine t81 KC ?_
 simp only[fun g=>(hN g).1,fun g=>(hN g).2]
 exact hk
theorem aj :AJ cfg (Ae [(119,Rm)]):=AX (AG yc AM)
theorem Ov {K:AV->Hp->Prop}{s:List UInt8}{a:Int}{L:List (List AV)}{hid k:Int}{nm:List UInt8}{l:List A9}{an av:List UInt8}{aa:Int}(BF:Ak.EE (rA k nm (encAs l) an av aa) L)(hl:l.length<=limE)
  (hk:∀z:Int,decide (z>=0)=(l.any fun b=>an==b.name)->K (.int .i64 z) (dz s a L hid k nm (encAs l) an av aa)):
  ∀(n i:Nat),l.length-i=n->i<=l.length->(l.take i).any (fun b=>an==b.name)=false->AE cfg 125 (AD Tryz.f125) (AR Tryz.prog Tryz.f125 11 K) [.code [0,1,0,1],.block 0,.code [1,1]] .normal [(0,true,.sl 3 (encAs l) (some 6)),(1,true,.fn (.func 119) [] [.ptr 10 0]),(7,true,.int .i64 l.length),(8,true,.int .i64 i)] (dz s a L hid k nm (encAs l) an av aa)
 |0,i,hn,hi,hp=>by
  have hN:=fun g=>SN BF (Nat.le_refl 11) g
  refine bF aj ?_
  simp only[fun g=>(hN g).1,fun g=>(hN g).2]
  refine AA (fun x=> ?_) fun x=>hk (-1) ?_
  ·simp at x;omega
  ·rw[List.take_of_length_le (by omega)] at hp;rw[hp];rfl
 |n+1,i,hn,hi,hp=>by
  have hN:=fun g=>SN BF (Nat.le_refl 11) g
  have Au:i<l.length:=by omega
  refine bF aj ?_
  simp only[fun g=>(hN g).1,fun g=>(hN g).2]
  refine AA (fun x=>AF ?_ ⟨l[i].name,l[i].value,l[i].at',CF _ l Au,s,a,L,hid,k,nm,encAs l,an,av,aa,l[i],BF,rfl,rfl,AA (fun y=>hk i ?_) fun y=> ?_⟩) fun x=> ?_
  ·rw[show(encAs l).length=l.length by simp[encAs],As Au];rfl
  ·rw[decide_eq_true (by omega)]
   exact(List.any_eq_true.2 ⟨l[i],List.getElem_mem Au,y⟩).symm
  ·rw[EF (by omega)]
   refine Ov BF hl hk n (i+1) (by omega) (by omega) ?_
   rw[List.take_succ_eq_append_getElem Au,List.any_append,hp];simpa using y
  ·simp at x;omega
theorem uT :CO cfg 125 jY:=by
 refine BG ky fun vs h K ht=> ?_
 obtain⟨s,a,L,hid,k,nm,l,an,av,aa,BF,rfl,hl,rfl,hk⟩:=ht;refine t87 aj ?_
 have:=Ov BF hl hk _ 0 rfl (by omega) rfl
 rw[show l.length=(encAs l).length by simp[encAs]] at this
 exact this
theorem uW :CO cfg 99 eQ:=by
 refine BG kz fun vs h K ht=> ?_
 obtain⟨s,a,L,hid,k,nm,l,an,av,aa,BF,rfl,hl,rfl,hk⟩:=ht
 have hN:=fun g=>SN BF (Nat.le_refl 11) g
 refine t70 (AX (AG uT AM)) ?_
 simp only[fun g=>(hN g).1,fun g=>(hN g).2]
 refine⟨s,a,L,hid,k,nm,l,an,av,aa,BF,rfl,hl,rfl,fun z hz=> ?_⟩
 rw[hz];exact hk
theorem lB :Bl cfg 61 Tryz.f61:=(by refine⟨?_,?_,?_,?_,?_,?_⟩<;>kernel_rfl)
theorem tc :Bl cfg 60 Tryz.f60:=(by refine⟨?_,?_,?_,?_,?_,?_⟩<;>kernel_rfl)
theorem tp :Bl cfg 38 Tryz.f38:=(by refine⟨?_,?_,?_,?_,?_,?_⟩<;>kernel_rfl)
theorem tq :Bl cfg 37 Tryz.f37:=(by refine⟨?_,?_,?_,?_,?_,?_⟩<;>kernel_rfl)
theorem Cb (n:Nat)(g:Hp):∀(a b:List (List AV)),AB n g (a++b)=AB n g a++AB n g b
 |[],b=>rfl
 |x::a,b=>by rw[List.cons_append,AB,AB,Cb n g a b];rfl
theorem j6 (l:List Tok):Aa.BZ (encTs l)=true:=by
 unfold encTs
 induction l with
 |nil=>rfl
 |cons a r ih=>simp only[List.map_cons,encT,Aa.BZ,Aa.Ax,Aa,ih,Ia,Option.isNone_none,Bool.true_and,Bool.and_true]
theorem CX (n:Nat)(g:Hp)(l:List Tok):AB n g (encTs l)=encTs l:=BA _ _ _ (j6 l)
theorem uw (l:List Tok):Ak.EE [] (encTs l):=fun n g _=>⟨rfl,CX n g l⟩
theorem sE (l:List Tok):Ak.EE [.grow 0 3 80] (encTs l):=fun n g _=>⟨rfl,CX n g l⟩
theorem iO {n:Nat}(h:9<=n):Nat.blt 6 n=true:=Nat.ble_eq_true_of_le (by omega)
theorem JC {n:Nat}(g:Hp){L:List (List AV)}(hL:AB n g L=L){k fr to:Int}{nm t:List UInt8}{es:List (List AV)}(he:AB n g es=es){id:Nat}(hi:Nat.blt id n=true):
  AB n g (L++[[.int .i64 k,.str nm,.sl 3 es (some id),.str t,.int .i64 fr,.int .i64 to]])=L++[[.int .i64 k,.str nm,.sl 3 es (some id),.str t,.int .i64 fr,.int .i64 to]]:=by
 rw[Cb,hL];simp only[AB,AQ,strip,he,hi,cond_true]
theorem FH {n:Nat}(g:Hp){L:List (List AV)}(hL:AB n g L=L){k fr to:Int}{nm t:List UInt8}{es:List (List AV)}(he:AB n g es=es){id:Nat}(hi:Nat.blt id n=false):
  AB n g (L++[[.int .i64 k,.str nm,.sl 3 es (some id),.str t,.int .i64 fr,.int .i64 to]])=L++[[.int .i64 k,.str nm,.sl 3 es none,.str t,.int .i64 fr,.int .i64 to]]:=by
 rw[Cb,hL];simp only[AB,AQ,strip,he,hi,cond_false]
theorem CJ {α:Type}(L:List α)(x:α):(L++[x]).length=L.length+1:=by simp
theorem Vh {h:Hp}{n:Nat}(e:h[4]?=some (.grow n 6 50)):Bf h n 6 50 (some 4)=true:=by
 simp only[Bf,e,Nat.beq_refl,Bool.and_self]
theorem pL :CO cfg 61 RY:=by
 refine BG lB fun vs h K ht=> ?_
 obtain⟨s,a,fr,L,hid,k,BF,ha,hs,hf,hl,rfl,rfl,hk⟩:=ht;obtain⟨e1,e2⟩:=CB s hf ha
 have hL:=fun g=>(BF 7 g (Nat.le_refl _)).2
 refine qu KC (AF e2 (AF ?_ ?_))
 ·rw[Vh rfl,decide_eq_true (by unfold limE at hl;omega)];rfl
 ·rw[JC _ (hL _) rfl rfl,e1];unfold hG at hk;rw[CJ] at hk;exact hk
theorem pK :CO cfg 61 Pw:=by
 refine BG lB fun vs h K ht=> ?_
 obtain⟨s,a,fr,L,hid,k,nm,l,BF,ha,hs,hf,hl,rfl,rfl,hk⟩:=ht;obtain⟨e1,e2⟩:=CB s hf ha
 have hL:=fun g=>(BF 9 g (Nat.le_refl _)).2
 refine qq KC (AF e2 (AF ?_ ?_))
 ·rw[Vh rfl,decide_eq_true (by unfold limE at hl;omega)];rfl
 ·rw[JC _ (hL _) (Dc _ _ _) rfl,e1,Dc];unfold NZ at hk;rw[CJ] at hk;exact hk
theorem uZ :CO cfg 61 fS:=by
 refine BG lB fun vs h K ht=> ?_
 obtain⟨s,a,fr,L,hid,k,nm,l,BF,ha,hs,hf,hl,rfl,rfl,hk⟩:=ht;obtain⟨e1,e2⟩:=CB s hf ha
 have hL:=fun g=>(BF 10 g (Nat.le_refl _)).2
 refine qt KC (AF e2 (AF ?_ ?_))
 ·rw[Vh rfl,decide_eq_true (by unfold limE at hl;omega)];rfl
 ·rw[JC _ (hL _) rfl rfl,e1,Dc];unfold mJ at hk;rw[CJ] at hk;exact hk
theorem GN (l m:List Tok):encTs (l++m)=encTs l++encTs m:=by unfold encTs;rw[List.map_append]
theorem GM (l:List Tok):(encTs l).length=l.length:=by simp[encTs]
theorem wrap_add {a b:Nat}(h:a+b<=2*limE):IntKind.wrap .i64 ((a:Int)+(b:Int))=((a+b:Nat):Int):=by
 unfold limE at h;rw[Bs]<;>omega
theorem az :AJ cfg (Ae [(61,RY)]):=AX (AG pL AM)
theorem yo :CO cfg 60 OL:=by
 refine BG tc fun vs h K ht=> ?_
 obtain⟨s,a,l,hid,ha,hs,hl,rfl,rfl,hk⟩:=ht
 have e3:IntKind.wrap .i64 ((a:Int)+3)=((a+3:Nat):Int):=wrap_add (b:=3) (by omega)
 refine t41 az ⟨s,a+3,a,encTs l,-1,6,sE l,ha,hs,by omega,by rw[GM];exact Nat.le_trans hl hs,rfl,by rw[e3],?_⟩
 rw[GN] at hk;unfold row;rw[FH _ (CX _ _ _) rfl rfl,CJ];unfold hX at hk
 rw[show encTs [(⟨6,[],[],cut s a (a+3),a,a+3⟩:Tok)]=[row 6 [] [] none (cut s a (a+3)) a ((a+3:Nat):Int)] from rfl,CJ] at hk
 exact hk
theorem yy :CO cfg 38 OB:=by
 refine BG tp fun vs h K ht=> ?_
 obtain⟨s,fr,a,l,hid,hf,ha,hs,hl,rfl,rfl,hk⟩:=ht
 refine t24 az (AA (fun x=>⟨s,a,fr,encTs l,hid,1,sE l,ha,hs,hf,by rw[GM];exact Nat.le_trans hl hs,rfl,rfl,?_⟩) fun x=> ?_)
 ·have Au:fr<a:=by simp at x;omega
  rw[DI,if_pos Au,GN] at hk;unfold row;rw[FH _ (CX _ _ _) rfl rfl,CJ];unfold hX at hk
  rw[show encTs [(⟨1,[],[],cut s fr a,fr,a⟩:Tok)]=[row 1 [] [] none (cut s fr a) fr a] from rfl,CJ] at hk
  exact hk
 ·have Au:¬fr<a:=by simp at x;omega
  rw[DI,if_neg Au,List.append_nil] at hk;rw[CX];exact hk
theorem Pj (s:List UInt8){a:Nat}(h:a<=s.length):B6 s (some (a:Int)) none=s.drop a/\BC s.length (some (a:Int)) none=true:=by
 refine⟨by simp only[B6,Int.toNat_natCast],?_⟩
 simp only[BC]
 rw[decide_eq_true (by omega),decide_eq_true (by omega)];rfl
theorem mf :AJ cfg (Ae [(55,Ex.Th),(58,E6)]):=AX (AG yt (AG vo AM))
theorem yz :CO cfg 37 oy:=by
 refine BG tq fun vs h K ht=> ?_
 obtain⟨s,a,l,hid,ha,hs,rfl,rfl,hk⟩:=ht;obtain⟨e1,e2⟩:=Pj s ha;refine t23 mf (AF e2 ?_);rw[e1];simp only[CX]
 have hh:C6 s a=(ET.isPrefixOf (s.drop a)&&(decide (((s.drop a).length:Int)>7)&&blB ((s.drop a).getD 7 0))):=by
  unfold C6 has;rw[<-Gg,List.length_drop]
  congr 2
  rw[decide_eq_decide];omega
 have tail:C6 s a=false->has s Al a=false->has s Af a=false->∃(s8 x9:List UInt8),[AV.str (s.drop a),AV.str [45,45,62]]=[AV.str s8,AV.str x9]/\Ad (x9.isPrefixOf s8) (Ad (decide (hid>=0)) (K (.fn (.func 60) [.ptr 5 0] []) (hX s a (encTs l) hid)) (K .GX (hX s a (encTs l) hid))) (K .GX (hX s a (encTs l) hid)):=by
  intro h3 h1 h2
  refine⟨s.drop a,Bq,rfl,AA (fun x=>AA (fun y=> ?_) fun y=> ?_) fun x=> ?_⟩
  all_goals
   have x':has s Bq a=_:=x;simp only[RB,h1,h2,h3,x',Bool.false_eq_true,if_false,Bool.true_and,Bool.false_and] at hk
   first|(rw[if_pos (by simpa using y)] at hk;exact hk)|(rw[if_neg (by simpa using y)] at hk;exact hk)|exact hk
 refine⟨s.drop a,Al,rfl,AA (fun x=> ?_) fun h1=>⟨s.drop a,Af,rfl,AA (fun x=> ?_) fun h2=>⟨s.drop a,ET,rfl,AA (fun h3=>AA (fun h4=>AF ?_ ⟨(s.drop a).getD 7 0,rfl,AA (fun h5=> ?_) fun h5=> ?_⟩) fun h4=> ?_) fun h3=> ?_⟩⟩⟩
 ·rw[RB,if_pos (show has s Al a=true from x)] at hk;exact hk
 ·rw[RB,if_neg (by rw[show has s Al a=false from h1];simp),if_pos (show has s Af a=true from x)] at hk;exact hk
 ·exact As (i:=7) (by simp at h4⊢;omega)
 ·rw[RB,if_neg (by rw[show has s Al a=false from h1];simp),if_neg (by rw[show has s Af a=false from h2];simp),if_pos (by rw[hh,h3,h4,h5];rfl)] at hk;exact hk
 ·exact tail (by rw[hh,h3,h4,h5];rfl) h1 h2
 ·exact tail (by rw[hh,h3,h4];rfl) h1 h2
 ·exact tail (by rw[hh,h3];rfl) h1 h2
theorem td :Bl cfg 59 Tryz.f59:=(by refine⟨?_,?_,?_,?_,?_,?_⟩<;>kernel_rfl)
theorem tR :Bl cfg 92 Tryz.f92:=(by refine⟨?_,?_,?_,?_,?_,?_⟩<;>kernel_rfl)
theorem te :Bl cfg 57 Tryz.f57:=(by refine⟨?_,?_,?_,?_,?_,?_⟩<;>kernel_rfl)
theorem mY :B8 cfg DV (DX [(61,RY)] [(39,Ch)]):=Ey (AG pL AM) (BM iM Ej)
theorem yp :IX cfg DV 59 PG:=by
 refine Ec td fun vs h K KP ht=> ?_
 obtain⟨s,a,l,hid,ha,hs,hl,rfl,rfl,h1,h2⟩:=ht
 have e3:IntKind.wrap .i64 ((a:Int)+8)=((a+8:Nat):Int):=wrap_add (b:=8) (by omega)
 refine t40 mY (AA (fun x=>⟨a,13,rfl,?_⟩) fun x=>⟨s,a+8,a,encTs l,a,5,sE l,ha,hs,by omega,by rw[GM];exact Nat.le_trans hl hs,rfl,by rw[e3],?_⟩)
 ·rw[CX]
  exact h1 (by simpa using x) _ _ hid
 ·have hk:=h2 (by simp at x;omega)
  rw[GN] at hk;unfold row;rw[FH _ (CX _ _ _) rfl rfl,CJ];unfold hX at hk
  rw[show encTs [(⟨5,[],[],cut s a (a+8),a,a+8⟩:Tok)]=[row 5 [] [] none (cut s a (a+8)) a ((a+8:Nat):Int)] from rfl,CJ] at hk
  exact hk
theorem X6 :∀(s x:List UInt8) (i:Nat),IQ s x i=match CY x s with|some n=>((n+i:Nat):Int)|none=> -1
 |[],x,i=>by cases x<;>simp[IQ,CY]
 |c::r,x,i=>by
  rw[IQ,CY]
  cases h:x.isPrefixOf (c::r) with
  |true=>simp
  |false=>
   simp only[Bool.false_eq_true,if_false];rw[X6 r x (i+1)]
   cases CY x r with
   |none=>rfl
   |some n=>simp only[Option.map_some];congr 1;omega
theorem UW (s x:List UInt8):IQ s x 0=match CY x s with|some n=>(n:Int)|none=> -1:=by
 rw[X6]
 cases CY x s<;>rfl
theorem mU :B8 cfg DV (DX [(61,fS),(84,kQ)] [(39,Ch)]):=Ey (AG uZ (AG yf AM)) (BM iM Ej)
theorem ZJ {k:Int}{nm:List UInt8}{l:List A9}{L:List (List AV)}(hL:∀n g,9<=n->AB n g L=L):Ak.EE (rT k nm (encAs l)) L:=fun n g hn=>by
 refine⟨?_,hL n g hn⟩;simp only[rT,List.map_cons,List.map_nil,AN,AQ,strip,Dc,iO hn,cond_true]
theorem sD {k:Int}{nm:List UInt8}{l:List A9}{L:List (List AV)}(hL:∀n g,9<=n->AB n g L=L):Ak.EE (rT k nm (encAs l)++[.grow 0 3 80]) L:=fun n g hn=>by
 simp only[rT,List.cons_append,List.nil_append,List.length_cons,List.length_nil] at hn
 refine⟨?_,hL n g (by omega)⟩
 simp only[rT,List.cons_append,List.nil_append,List.map_cons,List.map_nil,AN,AQ,strip,Dc,iO (show 9<=n by omega),cond_true]
theorem wH {k:Int}{nm an av:List UInt8}{aa:Int}{l:List A9}{L:List (List AV)}(hL:∀n g,9<=n->AB n g L=L):Ak.EE (rA k nm (encAs l) an av aa) L:=fun n g hn=>by
 simp only[rA,rT,List.cons_append,List.nil_append,List.length_cons,List.length_nil] at hn
 refine⟨?_,hL n g (by omega)⟩
 simp only[rA,rT,List.cons_append,List.nil_append,List.map_cons,List.map_nil,AN,AQ,strip,Dc,iO (show 9<=n by omega),cond_true]
theorem Xj {r:Hp}{k:Int}{nm:List UInt8}{l:List A9}{L:List (List AV)}(h:Ak.EE (rT k nm (encAs l)) L):∀n g,9<=n->AB n g L=L:=fun n g hn=>(h n g hn).2
theorem Sc {x s:List UInt8}{n:Nat}(h:CY x s=some n):n+x.length<=s.length:=HF h
theorem yj :IX cfg DV 92 Tf:=by
 refine Ec tR fun vs h K KP ht=> ?_
 obtain⟨s,a,tag,L,hid,k,nm,l,BF,ha,hs,hl,hn,rfl,rfl,h1,h2⟩:=ht;have hL:=Xj (r:=[]) BF;obtain⟨e1,e2⟩:=Pj s ha
 have oW:∀n,CY (Af++nm) (s.drop a)=some n->(CY Al ((s.drop a).take n)=none\/nm≠BE)->∃(s9:List UInt8) (Zx QL:Nat) (ln:List (List AV)) (di pe:Int) (gV:List UInt8) (lx:List A9),Ak.EE (rT pe gV (encAs lx)++[Blk.grow 0 3 80]) ln/\Zx<=s9.length/\s9.length<=1000000/\QL<=Zx/\ln.length<=1000000/\
   [AV.ptr 5 0,AV.agg [.int .i64 7,AV.str [],AV.sl 3 [] (some 9),AV.str [],.int .i64 0,.int .i64 0],.int .i64 (a:Int)]=[AV.ptr 5 0,AV.agg [.int .i64 7,AV.str [],AV.sl 3 [] (some 9),AV.str [],.int .i64 0,.int .i64 0],.int .i64 (QL:Int)]/\
   mJ s ((a+n:Nat):Int) L hid k nm (encAs l)=mJ s9 Zx ln di pe gV (encAs lx)/\K (.tup []) [.grow 0 6 50,.mem 41 [.sl 6 [] (some 0)],.mem 3 [.int .i64 0],.mem 27 [.int .i64 0],.grow (ln++[row 7 [] [] (some 9) (cut s9 QL Zx) QL Zx]).length 6 50,
    .mem 89 [.str s9,.int .i64 Zx,.sl 6 (AB 9 [.grow 0 6 50,.mem 41 [.sl 6 [] (some 0)],.mem 3 [.int .i64 0],.mem 27 [.int .i64 0],.grow (ln++[row 7 [] [] (some 9) (cut s9 QL Zx) QL Zx]).length 6 50,.mem 89 [.str s9,.int .i64 Zx,.sl 6 (ln++[row 7 [] [] (some 9) (cut s9 QL Zx) QL Zx]) (some 4),.int .i64 di],
     .grow (encAs lx).length 3 80,.grow 0 3 80,.mem 50 [.int .i64 pe,.str gV,.sl 3 (encAs lx) (some 6),.str [],.int .i64 0,.int .i64 0],.grow 0 3 80] (ln++[row 7 [] [] (some 9) (cut s9 QL Zx) QL Zx])) (some 4),.int .i64 di],.grow (encAs lx).length 3 80,.grow 0 3 80,.mem 50 [.int .i64 pe,.str gV,.sl 3 (encAs lx) (some 6),.str [],.int .i64 0,.int .i64 0]]:=by
  intro n hf K1;have hle:=Sc hf;rw[List.length_drop,List.length_append] at hle
  refine⟨s,a+n,a,L,hid,k,nm,l,sD hL,by omega,hs,by omega,hl,rfl,rfl,?_⟩
  have hk:=(h2 n hf).2 K1;unfold row;rw[FH _ (hL 9 _ (Nat.le_refl _)) rfl rfl,CJ]
  rw[show(s.drop a).take n=cut s a (a+n) from Ew.symm] at hk
  unfold NZ row at hk;rw[CJ] at hk;exact hk
 refine t63 mU (AF e2 (AF (decide_eq_true (by unfold limE at hn;omega)) ⟨s.drop a,Af++nm,by rw[List.length_drop];unfold limE at hs;omega,by rw[e1];rfl,?_⟩))
 simp only[Dc,fun g=>hL 9 g (Nat.le_refl 9)]
 rw[UW]
 cases hf:CY (Af++nm) (s.drop a) with
 |none=>exact AA (fun _=>⟨tag,14,rfl,h1 hf _ _ _⟩) fun x=>by simp at x
 |some n=>
  have hle:=Sc hf;rw[List.length_drop,List.length_append] at hle
  have ew:IntKind.wrap .i64 ((a:Int)+(n:Int))=((a+n:Nat):Int):=wrap_add (by omega)
  refine AA (fun x=>by simp at x;omega) fun _=> ?_
  simp only[ew]
  obtain⟨q1,q2⟩:=CB s (show a<=a+n by omega) (show a+n<=s.length by omega)
  rw[Ew] at q1
  refine AF q2 ⟨(s.drop a).take n,Al,by rw[List.length_take,List.length_drop];unfold limE at hs;omega,by rw[q1];rfl,?_⟩
  rw[UW]
  cases hj:CY Al ((s.drop a).take n) with
  |none=>exact AA (fun x=>by simp at x) fun _=>oW n hf (.inl hj)
  |some j=>
   have kt:=Sc hj;rw[List.length_take,List.length_drop] at kt
   have ej:IntKind.wrap .i64 ((a:Int)+(j:Int))=((a+j:Nat):Int):=wrap_add (by omega)
   refine AA (fun _=>AA (fun y=>⟨_,13,rfl,?_⟩) fun y=>oW n hf (.inr (by simpa[BE] using y))) fun x=>by simp at x
   rw[ej]
   exact(h2 n hf).1 j hj (by simpa[BE] using y) _ _ _
theorem Fa (n:Nat)(g:Hp):∀L:List (List AV),(AB n g L).length=L.length
 |[]=>rfl
 |x::r=>by rw[AB,List.length_cons,List.length_cons,Fa n g r]
theorem bw {s:List UInt8}{KP:PX->Hp->Prop}{x:PX}(h:I8 [] s KP x)(a:Int)(L:List (List AV))(hid:Int)(g:Hp):KP x [.grow 0 6 50,.mem 41 [.sl 6 [] (some 0)],.mem 3 [.int .i64 0],.mem 27 [.int .i64 0],.grow L.length 6 50,.mem 89 [.str s,.int .i64 a,.sl 6 (AB 6 g L) (some 4),.int .i64 hid]]:=by
 have:=h a (AB 6 g L) hid;unfold hX at this;rw[Fa] at this;exact this
theorem cB {s:List UInt8}{KP:PX->Hp->Prop}{x:PX}(h:I8 [] s KP x)(a:Int)(L:List (List AV))(hid:Int):KP x [.grow 0 6 50,.mem 41 [.sl 6 [] (some 0)],.mem 3 [.int .i64 0],.mem 27 [.int .i64 0],.grow L.length 6 50,.mem 89 [.str s,.int .i64 a,.sl 6 L (some 4),.int .i64 hid]]:=h a L hid
theorem mZ :B8 cfg DV (DX [(61,Pw),(88,OK)] [(39,Ch),(87,Om),(89,HP)]):=Ey (AG pK (AG pF AM)) (BM iM (BM vl (BM qC Ej)))
theorem Sw {s:List UInt8}{b:Nat}{c:UInt8}:(((s.getD b 0).toNat:Int)==(c.toNat:Int))=(s.getD b 0==c):=by
 rw[Bool.eq_iff_iff];simp only[beq_iff_eq];constructor
 ·intro h
  exact UInt8.toNat_inj.1 (by omega)
 ·intro h;rw[h]
theorem IC (l:List Tok):∀n g,9<=n->AB n g (encTs l)=encTs l:=fun n g _=>CX n g l
theorem yq :IX cfg DV 57 LN:=by
 refine Ec te fun vs h K KP ht=> ?_
 obtain⟨s,a,l,hid,hh,ha,hs,hl,rfl,rfl,h1,h2⟩:=ht
 have h6:a+6<=s.length:=DD hh (by decide)
 have e6:IntKind.wrap .i64 ((a:Int)+6)=((a+6:Nat):Int):=wrap_add (b:=6) (by omega)
 refine t38 mZ ⟨s,a+6,encTs l,hid,a,uw l,h6,hs,rfl,by rw[e6],fun hk a7 L8 tJ=> ?_,fun hk=> ?_⟩
 ·have:BW s a=.error (a,11):=by unfold BW;rw[if_pos hk]
  exact bw (h1 _ _ this) _ _ _ _
 ·have dZ:=C8 s (a+6)
  have hb:=EM (s:=s) (a:=a+6+lets s (a+6)) (by omega)
  refine⟨s,a+6+lets s (a+6),encTs l,hid,4,_,[],ZJ (l:=[]) (IC l),by omega,hs,rfl,rfl,?_⟩
  refine⟨rT 4 ((s.drop (a+6)).take (lets s (a+6))) (encAs []),s,past s (a+6+lets s (a+6)),encTs l,hid,a,ZJ (l:=[]) (IC l),hb.2,hs,rfl,rfl,fun x=> ?_,fun x=>AA (fun y=>⟨a,11,rfl,?_⟩) fun y=> ?_⟩
  ·have:BW s a=.error (a,14):=by unfold BW;simp only[hk,x,Bool.true_eq_false,if_false];simp
   rw[CX];exact cB (h1 _ _ this) _ _ _
  ·have hy:s.getD (past s (a+6+lets s (a+6))) 0≠62:=by
    have:=Sw (s:=s) (b:=past s (a+6+lets s (a+6))) (c:=62);simp only[bne,Bool.not_eq_true'] at y
    rw[show((62:UInt8).toNat:Int)=62 from rfl] at this
    rw[this] at y;simpa using y
   have:BW s a=.error (a,11):=by unfold BW;simp only[hk,Bool.true_eq_false,if_false];rw[if_neg (by omega),if_pos hy]
   rw[CX];exact cB (h1 _ _ this) _ _ _
  ·have hy:s.getD (past s (a+6+lets s (a+6))) 0=62:=by
    have:=Sw (s:=s) (b:=past s (a+6+lets s (a+6))) (c:=62);simp only[bne,Bool.not_eq_false'] at y
    rw[show((62:UInt8).toNat:Int)=62 from rfl] at this
    rw[this] at y;simpa using y
   have hc:BW s a=.ok ⟨4,(s.drop (a+6)).take (lets s (a+6)),[],cut s a (past s (a+6+lets s (a+6))+1),a,past s (a+6+lets s (a+6))+1⟩:=by
    unfold BW;simp only[hk,Bool.true_eq_false,if_false];rw[if_neg (by omega),if_neg (by simpa using hy)]
   have YG:=h2 _ hc
   refine⟨s,past s (a+6+lets s (a+6))+1,a,encTs l,hid,4,_,[],ZJ (l:=[]) (IC l),by omega,hs,by omega,by rw[GM];exact Nat.le_trans hl hs,rfl,by rw[EF (by omega)],?_⟩
   rw[GN] at YG;unfold row;rw[FH _ (CX _ _ _) (Dc _ _ _) rfl,CJ];unfold hX at YG
   rw[show ∀t:Tok,encTs [t]=[row t.kind t.name (encAs t.attrs) none t.text t.fr t.to] from fun _=>rfl,CJ] at YG
   exact YG
theorem tT :Bl cfg 90 Tryz.f90:=(by refine⟨?_,?_,?_,?_,?_,?_⟩<;>kernel_rfl)
theorem Xz :∀(s:List UInt8) (c:UInt8),Lib.indexByte s c=match CY [c] s with|some n=>(n:Int)|none=> -1
 |[],c=>rfl
 |b::r,c=>by
  rw[Lib.indexByte,CY]
  have e:List.isPrefixOf [c] (b::r)=(c==b):=by simp[List.isPrefixOf]
  rw[e,Xz r c]
  by_cases h:b=c
  ·subst h;simp
  ·have h1:(b==c)=false:=by simpa using h
   have h2:(c==b)=false:=by simpa using fun q=>h q.symm
   rw[h1,h2]
   cases CY [c] r with
   |none=>rfl
   |some n=>
    simp only[Bool.false_eq_true,if_false,Option.map_some]
    have:((n:Int)== -1)=false:=by simp
    rw[this];simp
theorem Fq (s:List UInt8)(a tg:Nat)(l:List A9){n:Nat}(hn:n=min (lets s a) 16):DG s a tg l=
  if l.any (fun c=>(s.drop a).take n==c.name)=true then .error (a,12) else
  if s.length<=a+n then .error (tg,14) else
  if n=0\/s.getD (a+n) 0≠61 then .error (a+n,12) else
  if s.length<=a+n+1 then .error (tg,14) else
  if s.getD (a+n+1) 0≠34/\s.getD (a+n+1) 0≠39 then .error (a+n+1,12) else
  match CY [s.getD (a+n+1) 0] (s.drop (a+n+2)) with
  |none=>.error (tg,14)
  |some k=>.ok (⟨(s.drop a).take n,(s.drop (a+n+2)).take k,a⟩,a+n+2+k+1):=by
 subst hn;rfl
theorem XX :B8 cfg DV (DX [(118,Fv),(93,ZT),(99,eQ)] [(39,Ch),(89,HP),(91,UA)]):=
 Ey (AG vh (AG vj (AG uW AM))) (BM iM (BM qC (BM uY Ej)))
theorem LQ {s:List UInt8}{b:Nat}(c:UInt8)(i:Int)(hi:(c.toNat:Int)=i):(((s.getD b 0).toNat:Int)==i)=(s.getD b 0==c):=by rw[<-hi];exact Sw
theorem ji {K:AV->Hp->Prop}{KP:PX->Hp->Prop}{s:List UInt8}{a n:Nat}{L:List (List AV)}{hid k:Int}{tg:Nat}{nm:List UInt8}{l:List A9}(hL:∀n g,9<=n->AB n g L=L)(hs:s.length<=limE)(hl:l.length<=limE)(hn:n=min (lets s a) 16)(ha:a+n<=s.length)
  (h1:∀p e,DG s a tg l=.error (p,e)->I8 (rT k nm (encAs l)) s KP ((p:Int),e)) (h2:∀at' b,DG s a tg l=.ok (at',b)->K (.agg (Ao at')) (NZ s (b:Nat) L hid k nm (encAs l))):
  FW cfg 90 (AD Tryz.f90) (Fc Tryz.prog Tryz.f90 DV 9 K KP) [.code [1,1,1]] .normal [(0,true,.ptr 5 0),(1,true,.int .i64 tg),(2,true,.sl 3 (encAs l) (some 6)),(6,true,.ptr 9 0),(7,true,.int .i64 a)] (uH s ((a+n:Nat):Int) L hid k nm (encAs l)):=by
 obtain⟨e1,e2⟩:=CB s (show a<=a+n by omega) ha
 rw[Ew] at e1;have hA:=Fq s a tg l hn
 have ok:∀(an av:List UInt8) (aa:Int),Ak.EE (rA k nm (encAs l) an av aa) L:=fun an av aa=>wH hL
 have pt:=fun g=>hL 9 g (Nat.le_refl 9)
 refine qk XX (AF e2 ?_);simp only[Dc,pt,e1]
 refine⟨s,_,L,hid,k,nm,l,(s.drop a).take n,[],a,ok _ _ _,rfl,hl,rfl,AA (fun x=>⟨a,12,rfl,?_⟩) fun x=> ?_⟩
 ·rw[if_pos x] at hA;exact h1 _ _ hA _ _ _
 rw[if_neg (by rw[x];simp)] at hA
 refine⟨rA k nm (encAs l) _ _ _,s,a+n,L,hid,tg,ok _ _ _,ha,hs,rfl,rfl,fun y=> ?_,fun y=> ?_⟩
 ·rw[if_pos (by omega)] at hA
  exact h1 _ _ hA _ _ _
 rw[if_neg (by omega)] at hA
 rw[LQ 61 61 rfl]
 refine AA (fun z=> ?_) fun z=> ?_
 ·have qM:s.getD (a+n) 0=61:=by simpa using z
  refine⟨s,a+n,L,hid,k,tg,nm,l,(s.drop a).take n,[],a,_,ok _ _ _,ha,hs,rfl,rfl,fun y'=>absurd y' (by omega),fun _ y'=> ?_,fun _ y'=> ?_⟩
  ·have QG:n=0:=by
    have:(s.drop a).take n=[]:=by simpa using y'
    rw[List.take_eq_nil_iff] at this
    rcases this with h|h
    ·exact h
    ·rw[List.drop_eq_nil_iff] at h;omega
   rw[if_pos (.inl QG)] at hA;exact h1 _ _ hA _ _ _
  have QG:¬n=0:=by
   intro h;subst h;simp at y'
  rw[if_neg (fun h=>h.elim QG fun h=>h qM)] at hA
  refine⟨rA k nm (encAs l) _ _ _,s,a+n+1,L,hid,tg,ok _ _ _,by omega,hs,rfl,rfl,fun w=> ?_,fun w=> ?_⟩
  ·rw[if_pos (by omega)] at hA
   simp only[Dc,pt];exact h1 _ _ hA _ _ _
  rw[if_neg (by omega)] at hA
  simp only[Dc,pt]
  have ex:=Pj s (show a+n+1+1<=s.length by omega)
  have ep:((a+n+1+1:Nat):Int)=((a+n+2:Nat):Int):=rfl
  have fin:∀(hm:¬(s.getD (a+n+1) 0≠34/\s.getD (a+n+1) 0≠39)),(CY [s.getD (a+n+1) 0] (s.drop (a+n+2))=none->I8 (rT k nm (encAs l)) s KP ((tg:Int),14))/\
    (∀j,CY [s.getD (a+n+1) 0] (s.drop (a+n+2))=some j->K (.agg [.str ((s.drop a).take n),.str ((s.drop (a+n+2)).take j),.int .i64 a]) (NZ s ((a+n+2+j+1:Nat):Int) L hid k nm (encAs l))):=by
   intro hm;rw[if_neg hm] at hA
   refine⟨fun hf=> ?_,fun j hf=> ?_⟩
   ·rw[hf] at hA;exact h1 _ _ hA
   ·rw[hf] at hA;exact h2 _ _ hA
  rw[LQ 34 34 rfl,LQ 39 39 rfl]
  refine AA (fun m=> ?_) fun m=> ?_
  all_goals
   refine⟨s,a+n+1,L,hid,k,tg,nm,l,(s.drop a).take n,[],a,_,ok _ _ _,by omega,hs,rfl,rfl,fun y'=>absurd y' (by omega),fun _ m2=> ?_,fun _ m2=> ?_⟩
  ·cases m2
  rotate_left
  ·have:s.getD (a+n+1) 0≠34/\s.getD (a+n+1) 0≠39:=⟨by simpa using m,by simpa using m2⟩
   rw[if_pos this] at hA;exact h1 _ _ hA _ _ _
  all_goals
   try simp only[Dc,pt]
   obtain⟨f1,f2⟩:=fin (fun u=>by first|exact u.1 (by simpa using m)|exact u.2 (by simpa using m2))
   refine AF ex.2 ⟨s.drop (a+n+2),s.getD (a+n+1) 0,by rw[List.length_drop];unfold limE at hs;omega,by rw[ex.1],?_⟩
   rw[Xz]
   cases hf:CY [s.getD (a+n+1) 0] (s.drop (a+n+2)) with
   |none=>exact AA (fun _=>⟨tg,14,rfl,f1 hf _ _ _⟩) fun q=>by simp at q
   |some j=>
    have hle:=Sc hf;simp only[List.length_drop,List.length_cons,List.length_nil] at hle
    have w1:IntKind.wrap .i64 (((a+n+1+1:Nat):Int)+(j:Int))=((a+n+2+j:Nat):Int):=wrap_add (by omega)
    have w2:IntKind.wrap .i64 ((j:Int)+1)=((j+1:Nat):Int):=EF (by omega)
    have w3:IntKind.wrap .i64 (((a+n+1+1:Nat):Int)+((j+1:Nat):Int))=((a+n+2+j+1:Nat):Int):=by rw[wrap_add (by omega)];congr 1
    obtain⟨q1,q2⟩:=CB s (show a+n+2<=a+n+2+j by omega) (show a+n+2+j<=s.length by omega)
    rw[Ew] at q1
    refine AA (fun q=>absurd (of_decide_eq_true q) (Int.not_lt.2 (Int.natCast_nonneg j))) fun _=> ?_
    simp only[w1,w2,w3];refine AF q2 ?_
    rw[show(((a+n+1+1:Nat):Int))=((a+n+2:Nat):Int) from rfl,q1]
    exact f2 j hf
 ·have qM:s.getD (a+n) 0≠61:=by simpa using z
  rw[if_pos (.inr qM)] at hA
  refine⟨s,a+n,L,hid,k,tg,nm,l,(s.drop a).take n,[],a,_,ok _ _ _,ha,hs,rfl,rfl,fun y'=>absurd y' (by omega),fun _ _=>h1 _ _ hA _ _ _,fun _ y'=>by cases y'⟩
theorem cX {K:AV->Hp->Prop}{KP:PX->Hp->Prop}{s:List UInt8}{a n:Nat}{L:List (List AV)}{hid k:Int}{tg:Nat}{nm:List UInt8}{l:List A9}(hL:∀n g,9<=n->AB n g L=L)(hs:s.length<=limE)(hl:l.length<=limE)(hn:n=min (lets s a) 16)(ha:a<=s.length)
  (h1:∀p e,DG s a tg l=.error (p,e)->I8 (rT k nm (encAs l)) s KP ((p:Int),e)) (h2:∀at' b,DG s a tg l=.ok (at',b)->K (.agg (Ao at')) (NZ s (b:Nat) L hid k nm (encAs l))):
  ∀(m b:Nat),a+n-b=m->a<=b->b<=a+n->FW cfg 90 (AD Tryz.f90) (Fc Tryz.prog Tryz.f90 DV 9 K KP) [.code [0,0,1,1],.block 0,.code [1,1,1]] .normal [(0,true,.ptr 5 0),(1,true,.int .i64 tg),(2,true,.sl 3 (encAs l) (some 6)),(6,true,.ptr 9 0),(7,true,.int .i64 a)] (uH s (b:Nat) L hid k nm (encAs l))
 |0,b,hm,q1,q2=>by
  have hb:b=a+n:=by omega
  subst hb;have hle:=C8 s a
  have kt:a+n<=s.length:=by omega
  have T:=ji hL hs hl hn kt h1 h2
  have sub:((a+n:Nat):Int)-(a:Int)=(n:Int):=by omega
  refine ml XX (AA (fun x=>AF (As (by simp at x;omega)) ⟨s.getD (a+n) 0,JX,AA (fun y=>AA (fun z=> ?_) fun z=>T) fun y=>T⟩) fun x=>T)
  exfalso
  rw[sub,Bs (by omega) (by unfold limE at hs;omega)] at z
  have hz:n<16:=by simp at z;omega
  have:n=lets s a:=by omega
  rw[this] at y
  rw[SS (by simp at x;omega)] at y
  cases y
 |m+1,b,hm,q1,q2=>by
  obtain⟨k1,k2⟩:=Oy (s:=s) q1 (show b<a+lets s a by omega)
  have sub:(b:Int)-(a:Int)=((b-a:Nat):Int):=by omega
  refine ml XX (AA (fun x=>AF (As k1) ⟨s.getD b 0,JX,AA (fun y=>AA (fun z=> ?_) fun z=> ?_) fun y=> ?_⟩) fun x=> ?_)
  ·rw[EF (by omega)]
   exact cX hL hs hl hn ha h1 h2 m (b+1) (by omega) (by omega) (by omega)
  ·exfalso
   rw[sub,Bs (by omega) (by unfold limE at hs;omega)] at z
   simp at z;omega
  ·rw[k2] at y;cases y
  ·simp at x;omega
theorem yk :IX cfg DV 90 VE:=by
 refine Ec tT fun vs h K KP ht=> ?_
 obtain⟨s,a,L,hid,tag,k,tg,nm,l,BF,ha,hs,hl,rfl,rfl,rfl,h1,h2⟩:=ht
 exact t61 XX (cX (Xj (r:=[]) BF) hs hl rfl ha h1 h2 _ a rfl (by omega) (by omega))
theorem tf :Bl cfg 56 Tryz.f56:=(by refine⟨?_,?_,?_,?_,?_,?_⟩<;>kernel_rfl)
theorem bB :B8 cfg DV (DX [(61,Pw),(88,OK)] [(39,Ch),(87,Om),(89,HP),(90,VE),(91,T9),(92,Tf)]):=
 Ey (AG pK (AG pF AM)) (BM iM (BM vl (BM qC (BM yk (BM uX (BM yj Ej))))))
theorem bX {l0:List Tok}{k fr to:Int}{nm t:List UInt8}{l:List A9}:∀n g,9<=n->AB n g (encTs l0++[row k nm (encAs l) (some 6) t fr to])=encTs l0++[row k nm (encAs l) (some 6) t fr to]:=fun n g hn=>by
 unfold row;exact JC g (CX _ _ _) (Dc _ _ _) (iO hn)
theorem Sn (g:Hp){l0:List Tok}{k fr to:Int}{nm t:List UInt8}{l:List A9}:AB 6 g (encTs l0++[row k nm (encAs l) (some 6) t fr to])=encTs l0++[row k nm (encAs l) none t fr to]:=by
 unfold row;exact FH g (CX _ _ _) (Dc _ _ _) rfl
theorem iG (g:Hp){l0:List Tok}{k fr to:Int}{nm t:List UInt8}{l:List A9}{ig:List UInt8}{f2 o2:Int}:AB 6 g ((encTs l0++[row k nm (encAs l) (some 6) t fr to])++[row 7 [] [] none ig f2 o2])=encTs l0++[row k nm (encAs l) none t fr to]++[row 7 [] [] none ig f2 o2]:=by
 rw[Cb,Sn];rfl
theorem R6 {s:List UInt8}{KP:PX->Hp->Prop}{x:PX}(h:I8 [] s KP x)(a:Int)(L L':List (List AV))(hl:L.length=L'.length)(hid:Int):KP x [.grow 0 6 50,.mem 41 [.sl 6 [] (some 0)],.mem 3 [.int .i64 0],.mem 27 [.int .i64 0],.grow L.length 6 50,.mem 89 [.str s,.int .i64 a,.sl 6 L' (some 4),.int .i64 hid]]:=by
 rw[hl];exact h a L' hid
theorem Uy (t:Tok):encTs [t]=[row t.kind t.name (encAs t.attrs) none t.text t.fr t.to]:=rfl
theorem Wl {s:List UInt8}{b:Int}{l0:List Tok}{t:Tok}{hid:Int}:hX s b (encTs (l0++[t])) hid=[.grow 0 6 50,.mem 41 [.sl 6 [] (some 0)],.mem 3 [.int .i64 0],.mem 27 [.int .i64 0],.grow ((encTs l0).length+1) 6 50,.mem 89 [.str s,.int .i64 b,.sl 6 (encTs l0++[row t.kind t.name (encAs t.attrs) none t.text t.fr t.to]) (some 4),.int .i64 hid]]:=by
 rw[GN,Uy];unfold hX;rw[CJ]
theorem ai {K:AV->Hp->Prop}{KP:PX->Hp->Prop}{s:List UInt8}{a b:Nat}{l0:List Tok}{hid:Int}{nm:List UInt8}{l:List A9}(hs:s.length<=limE)(ZY:l0.length<s.length)(VP:nm.length<=limE)(Q6:a<=b)(hb:b<s.length)(hc:s.getD b 0=62\/s.getD b 0=47)
  (h1:∀p e,(match CW s a nm l b with|.error e=>.error e|.ok t=>Fg s t:Except TG (List Tok))=.error (p,e)->I8 [] s KP ((p:Int),e))
  (h2:∀ts,(match CW s a nm l b with|.error e=>.error e|.ok t=>Fg s t:Except TG (List Tok))=.ok ts->K (.tup []) (hX s ((Bd ts (a+1):Nat):Int) (encTs (l0++ts)) hid)):
  FW cfg 56 (AD Tryz.f56) (Fc Tryz.prog Tryz.f56 DV 6 K KP) [.code [1,1,1,1]] .normal [(0,true,.ptr 5 0),(2,true,.int .i64 a),(3,true,.ptr 8 0)] (NZ s (b:Nat) (encTs l0) hid 2 nm (encAs l)):=by
 have oN:(encTs l0).length<=1000000:=by rw[GM];unfold limE at hs;omega
 refine qv bB (AF (As hb) ?_);simp only[Int.toNat_natCast];rw[LQ 47 47 rfl]
 refine AA (fun x=> ?_) fun x=> ?_
 ·have qO:s.getD b 0=47:=by simpa using x
  have wb:IntKind.wrap .i64 ((b:Int)+1)=((b+1:Nat):Int):=EF (by omega)
  rw[wb]
  refine⟨rT 3 nm (encAs l),s,b+1,encTs l0,hid,a,ZJ (IC l0),by omega,hs,rfl,rfl,fun y=> ?_,fun y=>⟨s,b+1,encTs l0,hid,3,a,nm,l,_,ZJ (IC l0),by omega,hs,rfl,rfl,fun z=>absurd z (by omega),fun _ z=> ?_,fun _ z=> ?_⟩⟩
  ·have:CW s a nm l b=.error (a,14):=by unfold CW;rw[if_pos qO];simp only;rw[if_pos (by omega)]
   rw[CX]
   exact h1 _ _ (by rw[this]) _ _ _
  ·rw[LQ 62 62 rfl] at z
   have qL:s.getD (b+1) 0≠62:=by simpa using z
   have:CW s a nm l b=.error (b+1,12):=by unfold CW;rw[if_pos qO];simp only;rw[if_neg (by omega),if_pos qL]
   rw[CX]
   exact h1 _ _ (by rw[this]) _ _ _
  ·rw[LQ 62 62 rfl] at z
   have qL:s.getD (b+1) 0=62:=by simpa using z
   have ht:CW s a nm l b=.ok ⟨3,nm,l,cut s a (b+2),a,b+2⟩:=by unfold CW;rw[if_pos qO];simp only;rw[if_neg (by omega),if_neg (by simpa using qL)];rfl
   have hk:=h2 [⟨3,nm,l,cut s a (b+2),a,b+2⟩] (by rw[ht];rfl)
   refine⟨s,b+2,a,encTs l0,hid,3,nm,l,ZJ (IC l0),by omega,hs,by omega,oN,rfl,rfl,AA (fun q=>by cases q) fun _=> ?_⟩
   rw[Sn,CJ];rw[Wl] at hk;exact hk
 ·have qN:s.getD b 0=62:=hc.resolve_right (by simpa using x)
  refine⟨rT 2 nm (encAs l),s,b,encTs l0,hid,a,ZJ (IC l0),by omega,hs,rfl,rfl,fun y=>absurd y (by omega),fun y=>⟨s,b,encTs l0,hid,2,a,nm,l,_,ZJ (IC l0),by omega,hs,rfl,rfl,fun z=>absurd z (by omega),fun _ z=> ?_,fun _ z=> ?_⟩⟩
  ·rw[LQ 62 62 rfl,qN] at z;cases z
  ·have ht:CW s a nm l b=.ok ⟨2,nm,l,cut s a (b+1),a,b+1⟩:=by
    have yJ:¬s.getD b 0=47:=by rw[qN];decide
    unfold CW;simp only[yJ,if_false,Nat.add_zero];rw[if_neg (by omega),if_neg (by rw[qN];simp)];rfl
   rw[ht] at h1 h2;simp only at h1 h2
   refine⟨s,b+1,a,encTs l0,hid,2,nm,l,ZJ (IC l0),by omega,hs,by omega,oN,rfl,rfl,AA (fun _=> ?_) fun q=>by cases q⟩
   have raw:∀(hn:nm=BE\/nm=Cp),(CY (Af++nm) (s.drop (b+1))=none->I8 [] s KP ((a:Int),14))/\
     ∀n,CY (Af++nm) (s.drop (b+1))=some n->(∀j,CY Al ((s.drop (b+1)).take n)=some j->nm=BE->I8 [] s KP (((b+1+j:Nat):Int),13))/\
      ((CY Al ((s.drop (b+1)).take n)=none\/nm≠BE)->K (.tup []) (hX s ((b+1+n:Nat):Int) (encTs (l0++[⟨2,nm,l,cut s a (b+1),a,b+1⟩,⟨7,[],[],(s.drop (b+1)).take n,b+1,b+1+n⟩])) hid)):=by
    intro hn
    have e:Fg s ⟨2,nm,l,cut s a (b+1),a,b+1⟩=match CY (Af++nm) (s.drop (b+1)) with
      |none=>.error (a,14)
      |some n=>match CY Al ((s.drop (b+1)).take n),decide (nm=BE) with
       |some k,true=>.error (b+1+k,13)
       |_,_=>.ok [⟨2,nm,l,cut s a (b+1),a,b+1⟩,⟨7,[],[],(s.drop (b+1)).take n,b+1,b+1+n⟩]:=by
     unfold Fg;rw[if_pos ⟨rfl,hn⟩];rfl
    refine⟨fun hf=>h1 _ _ (by rw[e,hf]),fun n hf=>⟨fun j hj hr=>h1 _ _ (by rw[e,hf];simp only[hj,decide_eq_true hr]),fun K1=> ?_⟩⟩
    refine h2 [⟨2,nm,l,cut s a (b+1),a,b+1⟩,⟨7,[],[],(s.drop (b+1)).take n,b+1,b+1+n⟩] (by
     rw[e,hf]
     rcases K1 with K1|K1
     ·simp only[K1]
     ·simp only[decide_eq_false K1]
      cases CY Al ((s.drop (b+1)).take n)<;>rfl)
   have fin:(nm=BE\/nm=Cp)->∃(TW:List UInt8) (QN ic:Nat) (ll:List (List AV)) (dh nj:Int) (Ok:List UInt8) (lv:List A9),Ak.EE (rT nj Ok (encAs lv)) ll/\QN<=TW.length/\TW.length<=1000000/\ll.length<=1000000/\Ok.length<=1000000/\
     [AV.ptr 5 0,AV.str nm,AV.int .i64 (a:Int)]=[AV.ptr 5 0,AV.str Ok,AV.int .i64 (ic:Int)]/\NZ s ((b+1:Nat):Int) (encTs l0++[row 2 nm (encAs l) (some 6) (cut s a (b+1)) a ((b+1:Nat):Int)]) hid 2 nm (encAs l)=NZ TW QN ll dh nj Ok (encAs lv)/\
     (CY ([60,47,101,115,105,58]++Ok) (List.drop QN TW)=none->∀(a40:Int) (qJ:List (List AV)) (df:Int),KP ((ic:Int),14) [.grow 0 6 50,.mem 41 [.sl 6 [] (some 0)],.mem 3 [.int .i64 0],.mem 27 [.int .i64 0],.grow qJ.length 6 50,.mem 89 [.str TW,.int .i64 a40,.sl 6 (AB 6 (hX TW a40 qJ df++rT nj Ok (encAs lv)) qJ) (some 4),.int .i64 df]])/\
     ∀(ZL:Nat),CY ([60,47,101,115,105,58]++Ok) (List.drop QN TW)=some ZL->(∀(uy:Nat),CY [60,101,115,105,58] (List.take ZL (List.drop QN TW))=some uy->Ok=[114,101,109,111,118,101]->∀(ui:Int) (qI:List (List AV)) (de:Int),KP (((QN+uy:Nat):Int),13) [.grow 0 6 50,.mem 41 [.sl 6 [] (some 0)],.mem 3 [.int .i64 0],.mem 27 [.int .i64 0],.grow qI.length 6 50,.mem 89 [.str TW,.int .i64 ui,.sl 6 (AB 6 (hX TW ui qI de++rT nj Ok (encAs lv)) qI) (some 4),.int .i64 de]])/\
      (CY [60,101,115,105,58] (List.take ZL (List.drop QN TW))=none\/Ok≠[114,101,109,111,118,101]->K (.tup []) [.grow 0 6 50,.mem 41 [.sl 6 [] (some 0)],.mem 3 [.int .i64 0],.mem 27 [.int .i64 0],.grow (ll++[row 7 [] [] none (List.take ZL (List.drop QN TW)) QN ((QN+ZL:Nat):Int)]).length 6 50,
       .mem 89 [.str TW,.int .i64 ((QN+ZL:Nat):Int),.sl 6 (AB 6 [.grow 0 6 50,.mem 41 [.sl 6 [] (some 0)],.mem 3 [.int .i64 0],.mem 27 [.int .i64 0],.grow (ll++[row 7 [] [] none (List.take ZL (List.drop QN TW)) QN ((QN+ZL:Nat):Int)]).length 6 50,
        .mem 89 [.str TW,.int .i64 ((QN+ZL:Nat):Int),.sl 6 (ll++[row 7 [] [] none (List.take ZL (List.drop QN TW)) QN ((QN+ZL:Nat):Int)]) (some 4),.int .i64 dh],.grow (encAs lv).length 3 80,.grow 0 3 80,.mem 50 [.int .i64 nj,.str Ok,.sl 3 (encAs lv) (some 6),.str [],.int .i64 0,.int .i64 0]]
        (ll++[row 7 [] [] none (List.take ZL (List.drop QN TW)) QN ((QN+ZL:Nat):Int)])) (some 4),.int .i64 dh]]):=by
    intro hn;obtain⟨r1,r2⟩:=raw hn
    refine⟨s,b+1,a,_,hid,2,nm,l,ZJ bX,by omega,hs,by rw[CJ,GM];unfold limE at hs;omega,VP,rfl,rfl,fun hf a40 qJ df=>R6 (r1 hf) _ _ _ (Fa _ _ _).symm _,fun n hf=>⟨fun j hj hr ui qI de=>R6 ((r2 n hf).1 j hj hr) _ _ _ (Fa _ _ _).symm _,fun K1=> ?_⟩⟩
    have hk:=(r2 n hf).2 K1;rw[iG,CJ,CJ]
    rw[show l0++[(⟨2,nm,l,cut s a (b+1),a,b+1⟩:Tok),⟨7,[],[],(s.drop (b+1)).take n,b+1,b+1+n⟩]=(l0++[⟨2,nm,l,cut s a (b+1),a,b+1⟩])++[⟨7,[],[],(s.drop (b+1)).take n,b+1,b+1+n⟩] by simp,Wl,GN,Uy,CJ] at hk
    exact hk
   refine AA (fun q=>fin (.inl (by simpa[BE] using q))) fun q1=>AA (fun q=>fin (.inr (by simpa[Cp] using q))) fun q2=> ?_
   have K1:¬(nm=BE\/nm=Cp):=by
    rintro(h|h)
    ·subst h;simp[BE] at q1
    ·subst h;simp[Cp] at q2
   have hk:=h2 [⟨2,nm,l,cut s a (b+1),a,b+1⟩] (by unfold Fg;rw[if_neg (fun h=>K1 h.2)])
   rw[Sn,CJ];rw[Wl] at hk;exact hk
theorem Zj (l:List A9)(a:A9):encAs (l++[a])=encAs l++[Ao a]:=by unfold encAs;rw[List.map_append];rfl
theorem cd {K:AV->Hp->Prop}{KP:PX->Hp->Prop}{s:List UInt8}{a:Nat}{l0:List Tok}{hid:Int}{nm:List UInt8}(hs:s.length<=limE)(ZY:l0.length<s.length)(VP:nm.length<=limE):
  ∀(f b:Nat) (l:List A9),s.length-b<f->a<=b->b<=s.length->l.length<=b->
  (∀p e,(match A8 s a f b l with|.error e=>.error e|.ok (l',b')=>(match CW s a nm l' b' with|.error e=>.error e|.ok t=>Fg s t):Except TG (List Tok))=.error (p,e)->I8 [] s KP ((p:Int),e))->
  (∀ts,(match A8 s a f b l with|.error e=>.error e|.ok (l',b')=>(match CW s a nm l' b' with|.error e=>.error e|.ok t=>Fg s t):Except TG (List Tok))=.ok ts->K (.tup []) (hX s ((Bd ts (a+1):Nat):Int) (encTs (l0++ts)) hid))->
  FW cfg 56 (AD Tryz.f56) (Fc Tryz.prog Tryz.f56 DV 6 K KP) [.code [0,0,1,1,1],.block 0,.code [1,1,1,1]] .normal [(0,true,.ptr 5 0),(2,true,.int .i64 a),(3,true,.ptr 8 0)] (NZ s (b:Nat) (encTs l0) hid 2 nm (encAs l))
 |0,b,l,hf,_,_,_,_,_=>by omega
 |f+1,b,l,hf,Q6,hb,hl,h1,h2=>by
  obtain⟨p1,p2⟩:=EM hb
  have ew:(((past s b-b:Nat):Int)==0)=decide (past s b=b):=by
   rw[Bool.eq_iff_iff];simp;omega
  refine qw bB ⟨s,b,encTs l0,hid,2,nm,l,ZJ (IC l0),hb,hs,rfl,rfl,rT 2 nm (encAs l),s,past s b,encTs l0,hid,a,ZJ (IC l0),p2,hs,rfl,rfl,fun x=> ?_,fun x=> ?_⟩
  ·rw[A8] at h1
   try simp only at h1
   rw[if_pos (by omega)] at h1
   rw[CX];exact h1 _ _ rfl _ _ _
  rw[A8] at h1 h2
  try simp only at h1 h2
  rw[if_neg (by omega)] at h1 h2
  rw[LQ 62 62 rfl,LQ 47 47 rfl,ew]
  refine AA (fun y=> ?_) fun y=>AA (fun z=> ?_) fun z=>AA (fun w=> ?_) fun w=> ?_
  ·have hc:s.getD (past s b) 0=62\/s.getD (past s b) 0=47:=.inl (by simpa using y)
   rw[if_pos hc] at h1 h2
   exact ai hs ZY VP (by omega) x hc h1 h2
  ·have hc:s.getD (past s b) 0=62\/s.getD (past s b) 0=47:=.inr (by simpa using z)
   rw[if_pos hc] at h1 h2
   exact ai hs ZY VP (by omega) x hc h1 h2
  ·have hc:¬(s.getD (past s b) 0=62\/s.getD (past s b) 0=47):=by
    rintro(h|h)
    ·rw[h] at y;simp at y
    ·rw[h] at z;simp at z
   rw[if_neg hc,if_pos (by simpa using w)] at h1
   refine⟨past s b,12,rfl,?_⟩
   rw[CX,show past s b=b by simpa using w]
   exact h1 _ _ rfl _ _ _
  ·have hc:¬(s.getD (past s b) 0=62\/s.getD (past s b) 0=47):=by
    rintro(h|h)
    ·rw[h] at y;simp at y
    ·rw[h] at z;simp at z
   have hw:¬past s b=b:=by simpa using w
   rw[if_neg hc,if_neg hw] at h1 h2
   refine⟨s,past s b,encTs l0,hid,a,2,a,nm,l,ZJ (IC l0),p2,hs,by show l.length<=limE;omega,rfl,rfl,rfl,fun p e he zU zY vQ=> ?_,fun at' b' he=>⟨rfl,AF ?_ ?_⟩⟩
   ·rw[he] at h1;exact R6 (h1 _ _ rfl) _ _ _ (Fa _ _ _).symm _
   ·have:(encAs l).length=l.length:=by simp[encAs]
    simp only[Bf,List.getElem?_cons_succ,List.getElem?_cons_zero,Nat.beq_refl,Bool.and_self,Bool.true_and,Bool.and_true]
    rw[decide_eq_true (by rw[this];unfold limE at hs;omega)]
   ·obtain⟨q1,q2⟩:=LU he;rw[he] at h1 h2;simp only at h1 h2
    have:=cd hs ZY VP f b' (l++[at']) (by omega) (by omega) q2 (by simp;omega) h1 h2
    rw[Zj] at this;unfold NZ at this;rw[CJ] at this;exact this
theorem yr :IX cfg DV 56 Oe:=by
 refine Ec tf fun vs h K KP ht=> ?_
 obtain⟨s,a,l,hid,hh,ha,hs,hl,rfl,rfl,h1,h2⟩:=ht
 have h6:a+5<=s.length:=DD hh (by decide)
 have e6:IntKind.wrap .i64 ((a:Int)+5)=((a+5:Nat):Int):=wrap_add (b:=5) (by omega)
 have dZ:=C8 s (a+5);unfold Kt Di at h1 h2;simp only at h1 h2
 refine t37 bB ⟨s,a+5,encTs l,hid,a,uw l,h6,hs,rfl,by rw[e6],fun hk a7 L8 tJ=> ?_,fun hk=> ?_⟩
 ·rw[if_pos hk] at h1;exact bw (h1 _ _ rfl) _ _ _ _
 ·rw[if_neg (by rw[hk];simp)] at h1 h2
  have hn:lets s (a+5)<=limE:=by omega
  refine cd hs (by omega) (by rw[List.length_take,List.length_drop];omega) (s.length+1) _ [] (by omega) (by omega) (by omega) (by simp) (fun p e he=>h1 p e ?_) fun ts he=>h2 ts ?_
  ·rw[<-he]
   cases A8 s a (s.length+1) (a+5+lets s (a+5)) [] with
   |error e=>rfl
   |ok r=>rfl
  ·rw[<-he]
   cases A8 s a (s.length+1) (a+5+lets s (a+5)) [] with
   |error e=>rfl
   |ok r=>rfl
def mL (x:PX):List PanicEntry:=[{v:=.iface 86 (.agg #[.int .i64 x.1,.int .i64 x.2]),recovered:=false}]
theorem Wx (p e:Int)(w:World):Calls Tryz.prog 39 #[.int .i64 p,.int .i64 e] w fun en w'=>en=.panicked (mL (p,e))/\w'=w:=by
 go_enter Tryz.func39,Tryz.f39
 go_wp
 first|exact⟨rfl,rfl,rfl⟩|exact⟨rfl,rfl⟩
theorem j9 {I:World->Prop}{B0:Nat}:iV cfg I B0 mL DV:=by
 intro k vs x h;unfold DV at h;split at h
 ·rename_i p e hk;have hk:=Nat.eq_of_beq_eq_true hk;subst hk
  injection h with h
  subst h
  refine⟨⟨Tryz.f39,Tryz.func39,by kernel_rfl,by kernel_rfl⟩,fun E args H hr=> ?_⟩
  obtain⟨a,r,rfl,rfl,b,r2,rfl,rfl,rfl⟩:=hr
  exact(Wx p e E.w).mono fun en w' ⟨h1,h2⟩=>⟨h1,E,h2.symm,Step.refl H,rfl⟩
 ·cases h
theorem af (a0 a1 a2:Value)(w:World):CallsD Tryz.prog 36 #[a0,a1,a2] .returning w fun en u w'=>(∃v,en=.returned v)/\u=.returning/\w'=w:=by
 refine callsD_of_wpS Tryz.func36 rfl fun c₀ cs hc=> ?_
 simp only[Tryz.f36,List.size_toArray,List.length_cons,List.length_nil,Nat.reduceAdd,Nat.reduceSub,Array.replicate_succ,Array.replicate_zero,List.push_toArray,List.append_toArray,List.nil_append,List.cons_append];refine wpS_seq (wpS_region ?_)
 have hr:recoverD (c₀::cs)=none:=by simp[recoverD,hc]
 simp[wpOpsS,go_sem,hr,List.range,List.range.loop];refine wpS_of_wp ?_
 go_wp
 simp only[bodyPostS];refine⟨trivial,c₀.mode,rfl,.tuple #[],results_none rfl _ _ _,⟨_,rfl⟩,hc,trivial⟩
theorem j4 {P:Program}{o:Oper}{Q:Exit->Act->List Frame->World->Prop}{a:Act}{cs Fw:List Frame}{v:Value}{w:World}(hg:o.guard=none){CG:Array TypeId}(Bc:o.op=.call {callee:=.builtin .recover,args:= #[],argTypes:=CG})
  (hr:recoverD cs=some (v,Fw)) (h:Q .normal (a.put o.dst v) Fw w):wpOpsS P #[o] Q (List.range (#[o]:Array Oper).size) a cs w:=by
 obtain⟨d,op,ty,pos,after,gd⟩:=o;simp only at hg Bc;subst hg;subst Bc;simp[wpOpsS,go_sem,hr,List.range,List.range.loop];exact h
theorem ag {I:World->Prop}{B0:Nat}(S0:Sound cfg I B0)(p e:Int){h h2:Hp}(CU:AE cfg 36 (AD Tryz.f36) (fun _ h'=>h'=h2) [.code [1]] .normal [(0,true,.ptr 1 0),(1,true,.ptr 2 0),(2,true,.ptr 3 0),(6,true,.iface 86 (.agg [.int .i64 p,.int .i64 e]))] h):
  XO cfg I B0 mL 36 [.ptr 1 0,.ptr 2 0,.ptr 3 0] (p,e) h h2:=by
 intro E vals H hE hr;obtain⟨x,F',h',⟨n0,hx⟩,he,hq⟩:=CU;have hq:h'=h2:=hq;subst hq
 refine callsD_of_wpS Tryz.func36 rfl fun c₀ cs hc=> ?_
 have KX:=LV hr 16;obtain⟨a0,r0,rfl,k0,a1,r1,rfl,k1,a2,r2,rfl,k2,rfl⟩:=hr
 have gk:recoverD (c₀::cs)=some (.iface 86 (.agg #[.int .i64 p,.int .i64 e]),{c₀ with mode:=.panicking [{v:=.iface 86 (.agg #[.int .i64 p,.int .i64 e]),recovered:=true}]}::cs):=by simp[recoverD,hc,mL]
 have WZ:AP E (Aq (DZ 0 [.ptr 1 0,.ptr 2 0,.ptr 3 0]) (some 6) (true,.iface 86 (.agg [.int .i64 p,.int .i64 e]))) (({tmps:= #[a0,a1,a2]++Array.replicate (16-(#[a0,a1,a2]:Array Value).size) undef,defers:=[]}:Act).put (some 6) (.iface 86 (.agg #[.int .i64 p,.int .i64 e]))):=
  AP.put KX (n:=16) (by kernel_rfl) (by simp) (fun _=>⟨_,rfl,_,rfl,_,_,rfl,rfl,rfl,_,_,rfl,rfl,rfl,rfl⟩) (fun h=>by cases h)
 have oG:AP E [(0,true,.ptr 1 0),(1,true,.ptr 2 0),(2,true,.ptr 3 0),(6,true,.iface 86 (.agg [.int .i64 p,.int .i64 e]))] (({tmps:= #[a0,a1,a2]++Array.replicate (16-(#[a0,a1,a2]:Array Value).size) undef,defers:=[]}:Act).put (some 6) (.iface 86 (.agg #[.int .i64 p,.int .i64 e]))):=by
  refine WZ.eq fun n=> ?_
  simp only[Aq,DZ,lk]
  by_cases h6:n=6
  ·subst h6;rfl
  ·have e6:Nat.beq 6 n=false:=by
    cases hb:Nat.beq 6 n with
    |false=>rfl
    |true=>exact absurd (Nat.eq_of_beq_eq_true hb).symm h6
   rw[e6];rfl
 have Ip:=S0.YT 36 Tryz.f36 _ (by kernel_rfl) (by kernel_rfl) (by kernel_rfl) Tryz.func36 rfl
 have lE:Bj cfg.P Tryz.f36.ntmps (cfg.Gt 36) (Ac (AD Tryz.f36) [1])=true:=by
  have h3:Bj cfg.P Tryz.f36.ntmps (cfg.Gt 36) (.seq (Ac (AD Tryz.f36) [0]) (Ac (AD Tryz.f36) [1]))=true:=Ip;simp only[Bj,Bool.and_eq_true] at h3;exact h3.2
 have main:=Pv S0 n0 36 _ _ _ x F' h' _ (hx n0 (Nat.le_refl _)) lE E _ hE H oG (by rw[show Tryz.f36.ntmps=16 from rfl];simp[Act.put])
 refine wpS_seq (wpS_region (j4 rfl rfl gk ?_))
 refine wpS_of_wp (main _ fun E' a' S Gr F9 hs hd=> ?_)
 have aG:a'.defers=[]:=hd.resolve_left (by rw[show cfg.Cs 36=false by kernel_rfl];simp)
 have fin:a'.defers=[]/\∃u',({c₀ with mode:=.panicking [{v:=.iface 86 (.agg #[.int .i64 p,.int .i64 e]),recovered:=true}]}:Frame)::cs={c₀ with mode:=u'}::cs/\∃v,(results Tryz.f36 a'.tmps).run Tryz.prog E'.w=.ok v E'.w/\
   ((∃r,(Ending.returned v)=.returned r)/\settle u'=.returning/\∃E2,E2.w=E'.w/\Step cfg.G I B0 E E2/\E2.h=h'):=
  ⟨aG,_,rfl,.tuple #[],results_none rfl _ _ _,⟨_,rfl⟩,rfl,E',rfl,S,Gr⟩
 cases x with
 |normal=>exact fin
 |ret=>exact fin
 |_=>cases he
end Go.Proofs.YtopjpnhgnopbiaaGreatDoor.Lx
end
section
namespace Go.Ai.Ex
open Go.Ai Go.RowKit
def Gd :Option Nat->Int
 |some h=>h
 |none=> -1
def UQ :Except TG (List Tok)->AV
 |.ok l=>.tup [.sl 6 (encTs l) none,.int .i64 0,.int .i64 0]
 |.error (p,e)=>.tup [.sl 0 [] none,.int .i64 p,.int .i64 e]
theorem SY (hid:Option Nat):decide (0<=Gd hid)=hid.isSome:=by
 cases hid with
 |none=>rfl
 |some h=>simp[Gd]
theorem cC {s:List UInt8}{tag:Nat}{t:Tok}(hl:tag+5<=s.length)(h:Di s tag=.ok t):tag+6<=t.to/\t.to<=s.length:=by
 unfold Di at h;simp only at h;split at h
 ·cases h
 ·have hn:=C8 s (tag+5);split at h
  ·cases h
  ·rename_i l b hb
   obtain⟨q1,q2⟩:=MY _ _ _ _ _ (by omega) hb
   obtain⟨k1,k2,k3,k4,k5,k6⟩:=QY h
   exact⟨by omega,k6⟩
def fwd (s:List UInt8)(a:Nat)(ts:List Tok):Prop:=a+ts.length<=Bd ts (a+1)/\a<Bd ts (a+1)/\Bd ts (a+1)<=s.length
theorem ZC {s:List UInt8}{a:Nat}{ts:List Tok}(hl:a+5<=s.length)(h:Kt s a=.ok ts):fwd s a ts:=by
 unfold Kt at h;split at h
 ·cases h
 ·rename_i t ht;obtain⟨q1,q2⟩:=cC hl ht
  rcases Km h with ⟨_,rfl⟩|⟨_,_,n,hf,rfl⟩
  ·simp only[fwd,Bd,List.getLast?_singleton,List.length_singleton];omega
  ·have:=HF hf;rw[List.length_drop,List.length_append] at this;have e:Bd [t,⟨7,[],[],(s.drop t.to).take n,t.to,t.to+n⟩] (a+1)=t.to+n:=rfl;simp only[fwd,e,List.length_cons,List.length_nil];omega
theorem Zm {s:List UInt8}{a:Nat}{t:Tok}(hl:a+6<=s.length)(h:BW s a=.ok t):fwd s a [t]:=by
 obtain⟨_,_,_,_,_,q1,q2⟩:=GO hl h;have e:Bd [t] (a+1)=t.to:=rfl;simp only[fwd,e,List.length_cons,List.length_nil];omega
def lR :Option Nat->Except TG (List Tok)
 |some h=>.error (h,14)
 |none=>.ok []
theorem MF (s:List UInt8)(f a:Nat)(hid:Option Nat):Ce s (f+1) a hid=
  if s.length<=a then lR hid else
  if spec s a hid.isSome=true then
   match CH s a hid with
   |.error e=>.error e
   |.ok (l,Eg)=>match Ce s f (Bd l (a+1)) Eg with
    |.error e=>.error e
    |.ok r=>.ok (l++r)
  else
   match Ce s f (BN s hid.isSome (s.length-a) a) hid with
   |.error e=>.error e
   |.ok r=>.ok (⟨1,[],[],cut s a (BN s hid.isSome (s.length-a) a),a,BN s hid.isSome (s.length-a) a⟩::r):=by
 rw[Ce.eq_def]
 cases hid<;>rfl
theorem MG {s:List UInt8}{fr a:Nat}{hid:Option Nat}{f:Nat}(xh:fr<=a)(ha:a<=s.length)(K1:∀j,fr<=j->j<a->spec s j hid.isSome=false)(oB:a=s.length\/spec s a hid.isSome=true)(hf:s.length-fr<f):
  ∃g,s.length-a<g/\Ce s f fr hid=match Ce s g a hid with|.error e=>.error e|.ok r=>.ok (DI s fr a++r):=by
 rcases Nat.eq_or_lt_of_le xh with rfl|Au
 ·refine⟨f,hf,?_⟩
  rw[DI,if_neg (by omega)]
  cases Ce s f fr hid<;>rfl
 ·cases f with
  |zero=>omega
  |succ f=>
   refine⟨f,by omega,?_⟩
   have ht:BN s hid.isSome (s.length-fr) fr=a:=by
    have:=QX (s:=s) (hid:=hid.isSome) (a-fr) (s.length-fr) fr (fun j hj=>K1 (fr+j) (by omega) (by omega)) (by omega) (by rw[show fr+(a-fr)=a by omega];exact oB) (by omega)
    rw[this];omega
   have h0:spec s fr hid.isSome=false:=K1 fr (Nat.le_refl _) Au
   rw[MF,if_neg (by omega),if_neg (by rw[h0];simp)]
   simp only[ht];rw[DI,if_pos Au]
   cases Ce s f a hid<;>rfl
theorem Qp {s:List UInt8}{a:Nat}{hid:Option Nat}{g:Nat}(ha:a<s.length)(D9:spec s a hid.isSome=true):Ce s (g+1) a hid=match CH s a hid with|.error e=>.error e|.ok (l,Eg)=>(match Ce s g (Bd l (a+1)) Eg with|.error e=>.error e|.ok r=>.ok (l++r)):=by
 rw[MF,if_neg (by omega),if_pos D9]
end Go.Ai.Ex
namespace Go.Proofs.YtopjpnhgnopbiaaGreatDoor.Lx
open Go.Ai Go Go.Ai.Ex
set_option maxRecDepth 100000
theorem ua :CO cfg 37 PS:=by
 intro l h K ht;obtain⟨s,a,l',hid,ha,hs,e1,rfl,h0,h1,h2,h3,h4⟩:=ht;refine yz l _ K ⟨s,a,l',hid,ha,hs,e1,rfl,?_⟩;unfold RB;unfold EA at h0 h1 h2 h3 h4
 by_cases q1:has s Al a=true
 ·rw[if_pos q1] at h1⊢;exact h1 rfl
 rw[if_neg q1] at h0 h2 h3 h4⊢
 by_cases q2:has s Af a=true
 ·rw[if_pos q2] at h2⊢;exact h2 rfl
 rw[if_neg q2] at h0 h3 h4⊢
 by_cases q3:C6 s a=true
 ·rw[if_pos q3] at h3⊢;exact h3 rfl
 rw[if_neg q3] at h0 h4⊢
 by_cases q4:(has s Bq a&&decide (0<=hid))=true
 ·rw[if_pos q4] at h4⊢;exact h4 rfl
 ·rw[if_neg q4] at h0⊢;exact h0 rfl
theorem TN :B8 cfg DV (DX [(37,PS),(38,OB),(60,OL)] [(39,Ch),(56,Oe),(57,LN),(59,PG)]):=
 Ey (AG ua (AG yy (AG yo AM))) (BM iM (BM yr (BM yq (BM yp Ej))))
def NG :List AV:=[.ptr 1 0,.ptr 2 0,.ptr 3 0]
theorem rJ (x:AV)(r:List AV):rd cfg.P 41 (x::r)=some x:=by kernel_rfl
theorem wA (x:AV)(r:List AV):rd cfg.P 3 (x::r)=some x:=by kernel_rfl
theorem rI (x:AV)(r:List AV):rd cfg.P 27 (x::r)=some x:=by kernel_rfl
theorem nK {F:Fr}(h2:lk F 2=(true,.ptr 1 0))(h3:lk F 3=(true,.ptr 2 0))(h4:lk F 4=(true,.ptr 3 0))(x0:Blk)(x y z:AV)(r:Hp):result cfg.P Tryz.f17 F (x0:: .mem 41 [x]:: .mem 3 [y]:: .mem 27 [z]::r)=some (.tup [x,y,z]):=by
 have e:Tryz.f17.results.toList=[.cell 2 41,.cell 3 3,.cell 4 27]:=rfl;unfold result;rw[e];simp only[J8,OP,h2,h3,h4,List.getElem?_cons_succ,List.getElem?_cons_zero,List.drop_zero,rJ,wA,rI,Option.map_some,Bool.and_self]
section
variable {I:World->Prop}{B0:Nat}
def qE (v:AV):Fr->Hp->Prop:=fun F h=>(lk F dS).2=.Cs [.fn (.func 36) [] NG]/\∃u,result cfg.P Tryz.f17 F h=some u/\stripR 0 h u=v
def pE (I:World->Prop)(B0:Nat)(v:AV):Fr->PX->Hp->Prop:=fun F x h=>(lk F dS).2=.Cs [.fn (.func 36) [] NG]/\∃h2 u,XO cfg I B0 mL 36 NG x h h2/\result cfg.P Tryz.f17 F h2=some u/\stripR 0 h2 u=v
theorem gJ (S0:Sound cfg I B0){v:AV}{F:Fr}{s:List UInt8}{p e:Int}(hd:(lk F dS).2=.Cs [.fn (.func 36) [] NG])(h2:lk F 2=(true,.ptr 1 0))(h3:lk F 3=(true,.ptr 2 0))(h4:lk F 4=(true,.ptr 3 0))
  (hv:v=.tup [.sl 0 [] none,.int .i64 p,.int .i64 e]) (a:Int) (L:List (List AV)) (hid:Int):pE I B0 v F (p,e) (hX s a L hid):=by
 refine⟨hd,_,_,ag S0 p e (t22 KC rfl),nK h2 h3 h4 _ _ _ _ _,?_⟩;rw[hv];rfl
theorem XS (S0:Sound cfg I B0){v:AV}{s:List UInt8}{fr:Nat}{l:List Tok}{hid:Option Nat}(hs:s.length<=limE)(KX:fr<=s.length)(hl:l.length<=s.length)(K1:∀j,fr<=j->j<s.length->spec s j hid.isSome=false){f:Nat}(hf:s.length-fr<f)
  (hv:v=UQ (match Ce s f fr hid with|.error e=>.error e|.ok r=>.ok (l++r))):
  FW cfg 17 (AD Tryz.f17) (QP.mk DV (qE v) (pE I B0 v)) [.code [1,1,1,1,1]] .normal [(2,true,.ptr 1 0),(3,true,.ptr 2 0),(4,true,.ptr 3 0),(5,true,.ptr 5 0),(6,true,.int .i64 fr),(1000000,true,.Cs [.fn (.func 36) [] NG])] (hX s (s.length:Nat) (encTs l) (Gd hid)):=by
 obtain⟨g,hg,e⟩:=MG (f:=f) KX (Nat.le_refl _) K1 (.inl rfl) hf
 obtain⟨g,rfl⟩:∃k,g=k+1:=⟨g-1,by omega⟩
 have eg:Ce s (g+1) s.length hid=lR hid:=by
  rw[MF,if_pos (Nat.le_refl _)]
 rw[e,eg] at hv
 refine rE TN ⟨s,fr,s.length,l,Gd hid,KX,Nat.le_refl _,hs,hl,rfl,rfl,AA (fun x=>⟨_,14,rfl,?_⟩) fun x=> ?_⟩
 ·cases hid with
  |none=>simp[Gd] at x
  |some h=>exact gJ S0 rfl rfl rfl rfl hv _ _ _
 ·cases hid with
  |some h=>simp[Gd] at x
  |none=>
   simp only[lR,List.append_nil] at hv;refine⟨rfl,_,nK rfl rfl rfl _ _ _ _ _,?_⟩;rw[hv];show AV.tup [.sl 6 (AB 0 _ (encTs (l++DI s fr s.length))) none,.int .i64 0,.int .i64 0]=_;rw[CX];rfl
theorem aY (S0:Sound cfg I B0){v:AV}{s:List UInt8}(hs:s.length<=limE):∀(n a fr:Nat) (l:List Tok) (hid:Option Nat) (f:Nat),s.length-a<=n->fr<=a->a<=s.length->l.length<=fr->(∀j,fr<=j->j<a->spec s j hid.isSome=false)->s.length-fr<f->
  v=UQ (match Ce s f fr hid with|.error e=>.error e|.ok r=>.ok (l++r))->
  FW cfg 17 (AD Tryz.f17) (QP.mk DV (qE v) (pE I B0 v)) [.code [0,0,1,1,1,1],.block 0,.code [1,1,1,1,1]] .normal [(0,true,.str s),(2,true,.ptr 1 0),(3,true,.ptr 2 0),(4,true,.ptr 3 0),(5,true,.ptr 5 0),(6,true,.int .i64 fr),(1000000,true,.Cs [.fn (.func 36) [] NG])] (hX s (a:Nat) (encTs l) (Gd hid)):=by
 intro n
 induction n with
 |zero=>
  intro a fr l hid f hn KX ha hl K1 hf hv
  have:a=s.length:=by omega
  subst this
  refine jq TN (AA (fun x=>by simp at x) fun x=> ?_)
  exact XS S0 hs KX (by omega) K1 hf hv
 |succ n ih=>
  intro a fr l hid f hn KX ha hl K1 hf hv
  by_cases vY:a=s.length
  ·subst vY
   refine jq TN (AA (fun x=>by simp at x) fun x=> ?_)
   exact XS S0 hs KX (by omega) K1 hf hv
  have Au:a<s.length:=by omega
  have UX:spec s a hid.isSome=decide (EA s a hid.isSome≠0):=by
   unfold spec EA
   cases has s Al a<;>cases has s Af a<;>cases C6 s a<;>cases has s Bq a<;>cases hid.isSome<;>rfl
  have take:∀(ts:List Tok) (Eg:Option Nat),spec s a hid.isSome=true->CH s a hid=.ok (ts,Eg)->fwd s a ts->
    FW cfg 17 (AD Tryz.f17) (QP.mk DV (qE v) (pE I B0 v)) [.code [0,0,1,1,1,1],.block 0,.code [1,1,1,1,1]] .normal [(0,true,.str s),(2,true,.ptr 1 0),(3,true,.ptr 2 0),(4,true,.ptr 3 0),(5,true,.ptr 5 0),(6,true,.int .i64 ((Bd ts (a+1):Nat):Int)),(1000000,true,.Cs [.fn (.func 36) [] NG])]
     (hX s ((Bd ts (a+1):Nat):Int) (encTs ((l++DI s fr a)++ts)) (Gd Eg)):=by
   intro ts Eg D9 TD xe;obtain⟨w1,w2,w3⟩:=xe;obtain⟨g,hg,e⟩:=MG (f:=f) KX ha K1 (.inr D9) hf
   obtain⟨g,rfl⟩:∃k,g=k+1:=⟨g-1,by omega⟩
   rw[Qp Au D9,TD] at e;simp only at e
   have wc:(DI s fr a).length<=a-fr:=by
    unfold DI;split
    ·simp;omega
    ·simp
   refine ih (Bd ts (a+1)) (Bd ts (a+1)) _ Eg g (by omega) (Nat.le_refl _) w3 ?_ (fun j h1 h2=>by omega) (by omega) ?_
   ·simp only[List.length_append];omega
   ·rw[hv,e]
    cases Ce s g (Bd ts (a+1)) Eg with
    |error e=>rfl
    |ok r=>simp only[List.append_assoc]
  have bad:∀(p:Nat) (e:Int),spec s a hid.isSome=true->CH s a hid=.error (p,e)->v=.tup [.sl 0 [] none,.int .i64 p,.int .i64 e]:=by
   intro p e D9 TD;obtain⟨g,hg,eq⟩:=MG (f:=f) KX ha K1 (.inr D9) hf
   obtain⟨g,rfl⟩:∃k,g=k+1:=⟨g-1,by omega⟩
   rw[Qp Au D9,TD] at eq;rw[hv,eq];rfl
  have dZ:(l++DI s fr a).length<=a:=by
   have wc:(DI s fr a).length<=a-fr:=by
    unfold DI;split
    ·simp;omega
    ·simp
   simp only[List.length_append];omega
  refine jq TN (AA (fun _=>⟨s,a,l,Gd hid,ha,hs,rfl,rfl,fun q=> ?_,fun q=> ?_,fun q=> ?_,fun q=> ?_,fun q=> ?_⟩) fun x=>by simp at x;omega)
  all_goals rw[SY] at q
  ·rw[EF (by omega)]
   refine ih (a+1) fr l hid f (by omega) (by omega) (by omega) hl (fun j h1 h2=> ?_) hf hv
   rcases Nat.lt_or_ge j a with h|h
   ·exact K1 j h1 h
   ·have:j=a:=by omega
    subst this;rw[UX,q];rfl
  ·have D9:spec s a hid.isSome=true:=by rw[UX,q];rfl
   have ho:has s Al a=true:=by
    unfold EA at q
    by_cases h:has s Al a=true
    ·exact h
    ·rw[if_neg h] at q;split at q<;>(try split at q)<;>(try split at q)<;>omega
   have h5:a+5<=s.length:=DD ho (by decide)
   have TD:CH s a hid=match Kt s a with|.error e=>.error e|.ok ts=>.ok (ts,hid):=by
    unfold CH Kt;rw[if_pos ho]
    cases Di s a with
    |error e=>rfl
    |ok t=>simp only;cases Fg s t<;>rfl
   refine⟨s,fr,a,l,Gd hid,KX,ha,hs,by omega,rfl,rfl,s,a,_,Gd hid,ho,ha,hs,by omega,rfl,rfl,fun p e he zC zD oR=>gJ S0 rfl rfl rfl rfl (bad p e D9 (by rw[TD,he])) _ _ _,fun ts he=> ?_⟩
   exact take ts hid D9 (by rw[TD,he]) (ZC h5 he)
  ·have D9:spec s a hid.isSome=true:=by rw[UX,q];rfl
   have ho:¬has s Al a=true:=fun h=>by unfold EA at q;rw[if_pos h] at q;cases q
   have hc:has s Af a=true:=by
    unfold EA at q;rw[if_neg ho] at q
    by_cases h:has s Af a=true
    ·exact h
    ·rw[if_neg h] at q;split at q<;>(try split at q)<;>omega
   have h6:a+6<=s.length:=DD hc (by decide)
   have TD:CH s a hid=match BW s a with|.error e=>.error e|.ok t=>.ok ([t],hid):=by
    unfold CH;rw[if_neg ho,if_pos hc]
    cases BW s a<;>rfl
   refine⟨s,fr,a,l,Gd hid,KX,ha,hs,by omega,rfl,rfl,s,a,_,Gd hid,hc,ha,hs,by omega,rfl,rfl,fun p e he zC zD oR=>gJ S0 rfl rfl rfl rfl (bad p e D9 (by rw[TD,he])) _ _ _,fun t he=> ?_⟩
   exact take [t] hid D9 (by rw[TD,he]) (Zm h6 he)
  ·have D9:spec s a hid.isSome=true:=by rw[UX,q];rfl
   have ho:¬has s Al a=true:=fun h=>by unfold EA at q;rw[if_pos h] at q;cases q
   have hc:¬has s Af a=true:=fun h=>by unfold EA at q;rw[if_neg ho,if_pos h] at q;cases q
   have hh:C6 s a=true:=by
    unfold EA at q;rw[if_neg ho,if_neg hc] at q
    by_cases h:C6 s a=true
    ·exact h
    ·rw[if_neg h] at q;split at q<;>omega
   have h8:a+8<=s.length:=by
    unfold C6 at hh;simp only[Bool.and_eq_true,decide_eq_true_eq] at hh;omega
   have TD:CH s a hid=if hid.isSome=true then .error (a,13) else .ok ([⟨5,[],[],cut s a (a+8),a,a+8⟩],some a):=by
    unfold CH;rw[if_neg ho,if_neg hc,if_pos hh]
   refine⟨s,fr,a,l,Gd hid,KX,ha,hs,by omega,rfl,rfl,s,a,_,Gd hid,h8,hs,by omega,rfl,rfl,fun hp a53 zX vP=> ?_,fun hp=> ?_⟩
   ·have:hid.isSome=true:=by rw[<-SY];simpa using hp
    rw[if_pos this] at TD;exact gJ S0 rfl rfl rfl rfl (bad a 13 D9 TD) _ _ _
   ·have:¬hid.isSome=true:=by rw[<-SY];simp;omega
    rw[if_neg this] at TD
    exact take [⟨5,[],[],cut s a (a+8),a,a+8⟩] (some a) D9 TD ⟨by show a+1<=a+8;omega,by show a<a+8;omega,h8⟩
  ·have D9:spec s a hid.isSome=true:=by rw[UX,q];rfl
   have ho:¬has s Al a=true:=fun h=>by unfold EA at q;rw[if_pos h] at q;cases q
   have hc:¬has s Af a=true:=fun h=>by unfold EA at q;rw[if_neg ho,if_pos h] at q;cases q
   have hh:¬C6 s a=true:=fun h=>by unfold EA at q;rw[if_neg ho,if_neg hc,if_pos h] at q;cases q
   have hw:has s Bq a=true:=(Li D9 ho hc hh).1
   have h3:a+3<=s.length:=DD hw (by decide)
   have MO:cut s a (a+3)=Bq:=by
    have:=List.prefix_iff_eq_take.1 (List.isPrefixOf_iff_prefix.1 hw);rw[Ew];exact this.symm
   have TD:CH s a hid=.ok ([⟨6,[],[],cut s a (a+3),a,a+3⟩],none):=by
    unfold CH;rw[if_neg ho,if_neg hc,if_neg hh,MO]
   refine⟨s,fr,a,l,Gd hid,KX,ha,hs,by omega,rfl,rfl,s,a,_,Gd hid,h3,hs,by omega,rfl,rfl,?_⟩
   exact take [⟨6,[],[],cut s a (a+3),a,a+3⟩] none D9 TD ⟨by show a+1<=a+3;omega,by show a<a+3;omega,h3⟩
theorem Vf (S0:Sound cfg I B0){s:List UInt8}(hs:s.length<=limE):FW cfg 17 (AD Tryz.f17) (nL cfg I B0 mL DV Tryz.f17 36 NG (UQ (lexM s))) [.code []] .normal (DZ 0 [.str s]++[(dS,true,.Cs [])]) []:=by
 show FW cfg 17 (AD Tryz.f17) (QP.mk DV (qE (UQ (lexM s))) (pE I B0 (UQ (lexM s)))) [.code []] .normal [(0,true,.str s),(1000000,true,.Cs [])] []
 refine t15 TN (aY S0 hs s.length 0 0 [] none (s.length+1) (by omega) (by omega) (by omega) (by simp) (fun j _ h=>by omega) (by omega) ?_)
 unfold lexM
 cases Ce s (s.length+1) 0 none<;>rfl
def WR :List AV->Option (Bool×AV)
 |[.str s]=>some (Nat.ble s.length 1000000,UQ (lexM s))
 |_=>none
theorem Xx (S0:Sound cfg I B0):EL Tryz.prog cfg.G I B0 17 WR:=by
 intro vs v hv E args hE hB H hr;unfold WR at hv;split at hv
 ·rename_i s;simp only[Option.some.injEq,Prod.mk.injEq] at hv;obtain⟨hs,rfl⟩:=hv
  refine Yw S0 j9 (by kernel_rfl) (by kernel_rfl) (by kernel_rfl) Tryz.func17 (by kernel_rfl) (by kernel_rfl) ⟨Tryz.f36,Tryz.func36,by kernel_rfl,by kernel_rfl⟩ (fun vals w hl=> ?_) rfl (Vf S0 (Nat.le_of_ble_eq_true hs)) H hr
  match vals,hl with
  |[a0,a1,a2],_=>exact af a0 a1 a2 w
 ·cases hv
end
end Go.Proofs.YtopjpnhgnopbiaaGreatDoor.Lx
end
