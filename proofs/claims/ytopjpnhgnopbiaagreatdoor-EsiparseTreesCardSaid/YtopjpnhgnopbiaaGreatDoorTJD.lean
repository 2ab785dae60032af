/-
  Pieces of a page's text: bytes, words, lists of names: contracts.
  Pieces of a page's text: the reader's own steps: contracts.
  Pieces of a page's text: what adds a piece, what finds what stands next: contracts.
  Pieces of a page's text: hidden parts, raw texts, tags that close: contracts.
  Pieces of a page's text: an attribute of a tag: contract.
  Pieces of a page's text: a tag that opens: contract.
  Pieces of a page's text: what takes back what was given up; the pieces of a text, whole.
  Pieces of a page's text: the pieces of a text, whole: the function under contract.
-/
import Derived.Test.YtopjpnhgnopbiaaGreatDoorTJB
import Derived.Test.YtopjpnhgnopbiaaGreatDoorTJA
import Derived.Test.YtopjpnhgnopbiaaGreatDoorTJC
import Derived.Test.YtopjpnhgnopbiaaGreatDoorTAiRec
import Derived.WalkKit
import Derived.ProofKit
set_option linter.unusedVariables false
set_option linter.unusedSimpArgs false
set_option linter.unnecessarySimpa false
section
namespace Go.Proofs.YtopjpnhgnopbiaaGreatDoor.Lx
open Go.Ai Go Go.Ai.Ex
set_option maxRecDepth 100000
theorem rD :BE cfg 118 Tryz.f118:=(by refine⟨?_,?_,?_,?_,?_,?_⟩<;>kernel_rfl)
theorem rU :BE cfg 58 Tryz.f58:=(by refine⟨?_,?_,?_,?_,?_,?_⟩<;>kernel_rfl)
theorem rI :BE cfg 86 Tryz.f86:=(by refine⟨?_,?_,?_,?_,?_,?_⟩<;>kernel_rfl)
theorem rV :BE cfg 55 Tryz.f55:=(by refine⟨?_,?_,?_,?_,?_,?_⟩<;>kernel_rfl)
theorem jz :BE cfg 101 Tryz.f101:=(by refine⟨?_,?_,?_,?_,?_,?_⟩<;>kernel_rfl)
theorem jy :BE cfg 126 Tryz.f126:=(by refine⟨?_,?_,?_,?_,?_,?_⟩<;>kernel_rfl)
theorem J7 :AK cfg (Af []):=AX AN
theorem vV :CP cfg 93 ZQ:=by
 refine Gj (by kernel_rfl) (by kernel_rfl) (by kernel_rfl:cfg.E7 93=some Ko) (by kernel_rfl) fun vs h K ht=> ?_
 obtain⟨s,c,hl,rfl,hk⟩:=ht;have:=c.toNat_lt;refine⟨.int .i64 (Lib.indexByte s c),hk,?_⟩
 have e:(c.toNat:Int).toNat.toUInt8=c:=by simp
 simp only[Ko,e]
 rw[decide_eq_true (by omega),decide_eq_true (by omega)];rfl
theorem yO :CP cfg 84 kF:=by
 refine Gj (by kernel_rfl) (by kernel_rfl) (by kernel_rfl:cfg.E7 84=some OV) (by kernel_rfl) fun vs h K ht=> ?_
 obtain⟨s,x,hl,rfl,hk⟩:=ht;refine⟨.int .i64 (IL s x 0),hk,?_⟩
 have:Nat.blt s.length 4294967281=true:=Nat.ble_eq_true_of_le (by unfold limE at hl;omega)
 simp only[OV,this]
theorem yM :CP cfg 117 Sa:=by
 refine Gj (by kernel_rfl) (by kernel_rfl) (by kernel_rfl:cfg.E7 117=some Na) (by kernel_rfl) fun vs h K ht=> ?_
 obtain⟨s,rfl,rfl,hk⟩:=ht
 exact⟨.sl 1 (J8.map fun n=>[.str n]) none,hk,by kernel_rfl⟩
theorem Rd (c:UInt8):Rf c=(decide ((c.toNat:Int)>=97)&&decide ((c.toNat:Int)<=122)):=by
 unfold Rf
 congr 1
 ·rw[decide_eq_decide];omega
 ·rw[decide_eq_decide];omega
theorem vS :CP cfg 118 Ft:=by
 refine Ar rD fun vs h K ht=> ?_
 obtain⟨c,rfl,hk⟩:=ht
 refine⟨_,hk,t80 J7 (AA (fun a=> ?_) fun a=> ?_)⟩
 ·rw[Rd,a,Bool.true_and]
 ·rw[Rd,a,Bool.false_and]
theorem pA (c:UInt8):decide (Lib.indexByte [32,9,10,13] c>=0)=blB c:=by
 unfold blB;simp only[Lib.indexByte]
 by_cases h1:c=32
 ·subst h1;rfl
 by_cases h2:c=9
 ·subst h2;rfl
 by_cases h3:c=10
 ·subst h3;rfl
 by_cases h4:c=13
 ·subst h4;rfl
 have e1:((32:UInt8)==c)=false:=by simpa using fun h=>h1 h.symm
 have e2:((9:UInt8)==c)=false:=by simpa using fun h=>h2 h.symm
 have e3:((10:UInt8)==c)=false:=by simpa using fun h=>h3 h.symm
 have e4:((13:UInt8)==c)=false:=by simpa using fun h=>h4 h.symm
 simp[h1,h2,h3,h4,e1,e2,e3,e4,Ne.symm h1,Ne.symm h2,Ne.symm h3,Ne.symm h4]
theorem va :CP cfg 58 Ey:=by
 refine Ar rU fun vs h K ht=> ?_
 obtain⟨c,rfl,hk⟩:=ht
 exact⟨_,hk,t39 (AX (AG vV AN)) ⟨_,c,by decide,rfl,by rw[pA]⟩⟩
theorem JE :∀(x s:List UInt8),x.isPrefixOf s=(decide (x.length<=s.length)&&(s.take x.length==x))
 |[],s=>by simp
 |a::x,[]=>by simp
 |a::x,b::s=>by
  have:=JE x s;simp only[List.isPrefixOf_cons_cons,this,List.length_cons,List.take_succ_cons,List.cons_beq_cons]
  rw[show(decide (x.length+1<=s.length+1))=decide (x.length<=s.length) from by simp,show(a==b)=(b==a) from by rw[Bool.eq_iff_iff];simp;exact eq_comm]
  cases (b==a)<;>cases decide (x.length<=s.length)<;>simp
theorem yV :CP cfg 86 Ex.Tb:=by
 refine Ar rI fun vs h K ht=> ?_
 obtain⟨s,x,rfl,hk⟩:=ht
 refine⟨_,hk,t57 J7 (AA (fun a=>AF ?_ ?_) fun a=> ?_)⟩
 ·simp[BB] at a⊢;omega
 ·simp at a
  rw[JE,decide_eq_true (by omega),Bool.true_and]
  simp[B6]
 ·simp at a
  rw[JE,decide_eq_false (by omega),Bool.false_and]
theorem yb :CP cfg 55 Ex.Tb:=by
 refine Ar rV fun vs h K ht=> ?_
 obtain⟨s,x,rfl,hk⟩:=ht;exact⟨_,hk,t36 (AX (AG yV AN)) ⟨s,x,rfl,rfl⟩⟩
theorem EE {n:Nat}(h:n<=2*limE):IntKind.wrap .i64 ((n:Int)+1)=((n+1:Nat):Int):=by
 unfold limE at h;rw[Bx]<;>omega
theorem CF {α:Type}(f:α->List AV)(l:List α){i:Nat}(h:i<l.length):Bm (l.map f) (i:Int)=f l[i]:=by
 unfold Bm;simp[h]
theorem Au {i n:Nat}(h:i<n):C7 (i:Int) n=true:=by
 unfold C7
 rw[decide_eq_true (by omega),decide_eq_true (by omega)];rfl
theorem q8 (l:List (List UInt8)):AZ.BX (l.map fun n=>[AV.str n])=true:=by
 induction l with
 |nil=>rfl
 |cons a r ih=>simp only[List.map_cons,AZ.BX,AZ.Aw,AZ,ih,Bool.true_and]
theorem Fp {α:Type}(p:α->Bool)(l:List α){i:Nat}(h:i<l.length):(l.drop i).any p=(p l[i]||(l.drop (i+1)).any p):=by
 rw[List.drop_eq_getElem_cons h,List.any_cons]
theorem Om (l:List (List UInt8))(x:List UInt8)(hl:l.length<=limE):∀(n i:Nat),l.length-i=n->i<=l.length->∃z:Int,decide (z>=0)=(l.drop i).any (·==x)/\
  AE cfg 126 (AD Tryz.f126) (AR Tryz.prog Tryz.f126 (.int .i64 z)) [.code [0,1,0,1],.block 0,.code [1,1]] .normal [(0,true,.sl 1 (l.map fun n=>[.str n]) none),(1,true,.str x),(7,true,.int .i64 l.length),(8,true,.int .i64 i)] []
 |0,i,hn,hi=>by
  refine⟨-1,?_,Vb J7 (AA (fun a=> ?_) fun _=>rfl)⟩
  ·rw[List.drop_of_length_le (by omega)];rfl
  ·simp at a;omega
 |n+1,i,hn,hi=>by
  have As:i<l.length:=by omega
  by_cases hx:l[i]=x
  ·refine⟨i,?_,Vb J7 (AA (fun a=>AF ?_ ⟨l[i],CF _ l As,AA (fun _=>rfl) fun b=> ?_⟩) fun a=> ?_)⟩
   ·rw[Fp _ _ As,decide_eq_true (by omega)];simp[hx]
   ·rw[List.length_map,Au As];rfl
   ·simp[hx] at b
   ·simp at a;omega
  ·obtain⟨z,hz,hr⟩:=Om l x hl n (i+1) (by omega) (by omega)
   refine⟨z,?_,Vb J7 (AA (fun a=>AF ?_ ⟨l[i],CF _ l As,AA (fun b=> ?_) fun b=> ?_⟩) fun a=> ?_)⟩
   ·rw[hz,Fp _ _ As];simp[hx]
   ·rw[List.length_map,Au As];rfl
   ·simp at b;exact absurd b.symm hx
   ·rw[EE (by omega)];exact hr
   ·simp at a;omega
theorem uF :CP cfg 126 cw:=by
 refine Ar jy fun vs h K ht=> ?_
 obtain⟨l,x,rfl,hl,hk⟩:=ht
 obtain⟨z,hz,hr⟩:=Om l x hl l.length 0 (by omega) (by omega)
 refine⟨_,hk z hz,t88 J7 ?_⟩;rw[List.length_map];exact hr
theorem uI :CP cfg 101 kI:=by
 refine Ar jz fun vs h K ht=> ?_
 obtain⟨l,x,rfl,hl,hk⟩:=ht
 exact⟨_,hk,t72 (AX (AG uF AN)) ⟨l,x,by rw[A9 0 [] _ (q8 l)],hl,fun z hz=>by rw[hz]⟩⟩
theorem Ge (s:List UInt8)(a j:Nat):s.getD (a+j) 0=(s.drop a).getD j 0:=by
 simp[List.getD_eq_getElem?_getD,List.getElem?_drop]
theorem VX {p:UInt8->Bool}:∀(l:List UInt8) (j:Nat),j<(l.takeWhile p).length->j<l.length/\p (l.getD j 0)=true
 |[],j,h=>by simp at h
 |c::r,j,h=>by
  cases hc:p c with
  |false=>simp[List.takeWhile_cons,hc] at h
  |true=>
   simp only[List.takeWhile_cons,hc,if_true,List.length_cons] at h
   cases j with
   |zero=>exact⟨by simp,by simpa using hc⟩
   |succ j=>
    obtain⟨h1,h2⟩:=VX (p:=p) r j (by omega)
    exact⟨by simp;omega,by simpa using h2⟩
theorem aJ {p:UInt8->Bool}:∀(l:List UInt8),(l.takeWhile p).length<l.length->p (l.getD (l.takeWhile p).length 0)=false
 |[],h=>by simp at h
 |c::r,h=>by
  cases hc:p c with
  |false=>simp[List.takeWhile_cons,hc]
  |true=>
   simp only[List.takeWhile_cons,hc,if_true,List.length_cons] at h⊢
   have:=aJ (p:=p) r (by omega)
   simpa using this
theorem Ot {s:List UInt8}{a b:Nat}(h1:a<=b)(h2:b<a+lets s a):b<s.length/\Rf (s.getD b 0)=true:=by
 obtain⟨j,rfl⟩:∃j,b=a+j:=⟨b-a,by omega⟩
 unfold lets at h2
 obtain⟨k1,k2⟩:=VX (p:=Rf) (s.drop a) j (by omega)
 rw[List.length_drop] at k1
 exact⟨by omega,by rw[Ge];exact k2⟩
theorem SN {s:List UInt8}{a:Nat}(h:a+lets s a<s.length):Rf (s.getD (a+lets s a) 0)=false:=by
 rw[Ge]
 exact aJ (p:=Rf) (s.drop a) (by unfold lets at h;rw[List.length_drop];omega)
theorem Tc {s:List UInt8}{a b:Nat}(h1:a<=b)(h2:b<past s a):b<s.length/\blB (s.getD b 0)=true:=by
 obtain⟨j,rfl⟩:∃j,b=a+j:=⟨b-a,by omega⟩
 unfold past at h2
 obtain⟨k1,k2⟩:=VX (p:=blB) (s.drop a) j (by omega)
 rw[List.length_drop] at k1
 exact⟨by omega,by rw[Ge];exact k2⟩
theorem Xb {s:List UInt8}{a:Nat}(h:past s a<s.length):blB (s.getD (past s a) 0)=false:=by
 unfold past at h⊢;rw[Ge]
 exact aJ (p:=blB) (s.drop a) (by rw[List.length_drop];omega)
theorem JU {s:List UInt8}{b:Nat}:[AV.int IntKind.u8 ((s.getD ((b:Int).toNat) 0).toNat:Int)]=[AV.int IntKind.u8 ((s.getD b 0).toNat:Int)]:=by rw[Int.toNat_natCast]
theorem CB (s:List UInt8){a b:Nat}(h:a<=b)(hb:b<=s.length):B6 s (some (a:Int)) (some (b:Int))=cut s a b/\BB s.length (some (a:Int)) (some (b:Int))=true:=by
 refine⟨?_,?_⟩
 ·simp only[B6,Int.toNat_natCast,cut];rw[List.drop_take]
 ·simp only[BB]
  rw[decide_eq_true (by omega),decide_eq_true (by omega),decide_eq_true (by omega)];rfl
theorem tC :Bl cfg 116 Tryz.f116:=(by refine⟨?_,?_,?_,?_,?_,?_⟩<;>kernel_rfl)
theorem tI :Bl cfg 88 Tryz.f88:=(by refine⟨?_,?_,?_,?_,?_,?_⟩<;>kernel_rfl)
theorem aY :AK cfg (Af [(118,Ft)]):=AX (AG vS AN)
theorem aj :AK cfg (Af [(58,Ey)]):=AX (AG va AN)
theorem cQ {K:AV->Hp->Prop}{s:List UInt8}{a:Nat}{L:List (List AV)}{hid:Int}(BD:Ak.ED [] L)(ha:a<=s.length)(hs:s.length<=limE)(hk:K (.str ((s.drop a).take (lets s a))) (hX s ((a+lets s a:Nat):Int) L hid)):
  ∀(n b:Nat),a+lets s a-b=n->a<=b->b<=a+lets s a->AE cfg 116 (AD Tryz.f116) (AQ Tryz.prog Tryz.f116 6 K) [.code [0,0,1,1],.block 0,.code [1,1,1]] .normal [(0,true,.ptr 5 0),(3,true,.int .i64 a)] (hX s (b:Nat) L hid)
 |0,b,hn,h1,h2=>by
  have hb:b=a+lets s a:=by omega
  subst hb
  have hle:a+lets s a<=s.length:=by have:=C8 s a;omega
  obtain⟨e1,e2⟩:=CB s (show a<=a+lets s a by omega) hle
  have hL:=fun g=>(BD 6 g (by simp)).2
  have e3:cut s a (a+lets s a)=(s.drop a).take (lets s a):=Eu;rw[<-e3] at hk
  refine ay aY (AA (fun x=>AF (Au (by simp at x;omega)) ⟨s.getD (a+lets s a) 0,JU,AA (fun y=> ?_) fun y=>AF e2 ?_⟩) fun x=>AF e2 ?_)
  ·rw[SN (by simp at x;omega)] at y;cases y
  ·rw[e1,hL];exact hk
  ·rw[e1,hL];exact hk
 |n+1,b,hn,h1,h2=>by
  obtain⟨k1,k2⟩:=Ot h1 (show b<a+lets s a by omega)
  refine ay aY (AA (fun x=>AF (Au k1) ⟨s.getD b 0,JU,AA (fun y=> ?_) fun y=> ?_⟩) fun x=> ?_)
  ·rw[EE (by omega)]
   exact cQ BD ha hs hk n (b+1) (by omega) (by omega) (by omega)
  ·rw[k2] at y;cases y
  ·simp at x;omega
theorem uH :CP cfg 116 aE:=by
 refine BF tC fun vs h K ht=> ?_
 obtain⟨s,a,L,hid,BD,ha,hs,rfl,rfl,hk⟩:=ht
 exact t78 aY (cQ BD ha hs hk _ a rfl (by omega) (by omega))
theorem cS {K:AV->Hp->Prop}{r:Hp}{s:List UInt8}{a:Nat}{L:List (List AV)}{hid:Int}(BD:Ak.ED r L)(ha:a<=s.length)(hs:s.length<=limE)(hk:K (.int .i64 ((past s a-a:Nat):Int)) (hX s ((past s a:Nat):Int) L hid++r)):
  ∀(n b:Nat),past s a-b=n->a<=b->b<=past s a->AE cfg 88 (AD Tryz.f88) (AQ Tryz.prog Tryz.f88 (hX s (b:Nat) L hid++r).length K) [.code [0,0,1,1],.block 0,.code [1,1,1]] .normal [(0,true,.ptr 5 0),(3,true,.int .i64 a)] (hX s (b:Nat) L hid++r)
 |0,b,hn,h1,h2=>by
  have hb:b=past s a:=by omega
  subst hb;have hle:=EL ha
  have hN:=fun g=>BD (hX s ((past s a:Nat):Int) L hid++r).length g (by simp[hX];omega)
  have lC:=fun g=>(hN g).1
  have lB:=fun g=>(hN g).2
  have ew:IntKind.wrap .i64 ((past s a:Int)-(a:Int))=((past s a-a:Nat):Int):=by
   unfold limE at hs
   rw[Bx]<;>omega
  have fin:K (.int .i64 (IntKind.wrap .i64 ((past s a:Int)-(a:Int)))) (Blk.grow 0 6 50::Blk.mem 41 [AV.sl 6 [] (some 0)]::Blk.mem 3 [AV.int .i64 0]::Blk.mem 27 [AV.int .i64 0]::Blk.grow (List.length L) 6 50::Blk.mem 89 [AV.str s,AV.int .i64 (past s a:Nat),AV.sl 6 L (some 4),AV.int .i64 hid]::r):=by rw[ew];exact hk
  refine mW aj (AA (fun x=>AF (Au (by simp at x;omega)) ⟨s.getD (past s a) 0,JU,AA (fun y=> ?_) fun y=> ?_⟩) fun x=> ?_)
  ·rw[Xb (by simp at x;omega)] at y;cases y
  ·simp only[List.append_eq,List.nil_append,List.take_length,lC,lB];exact fin
  ·simp only[List.append_eq,List.nil_append,List.take_length,lC,lB];exact fin
 |n+1,b,hn,h1,h2=>by
  obtain⟨k1,k2⟩:=Tc h1 (show b<past s a by omega)
  refine mW aj (AA (fun x=>AF (Au k1) ⟨s.getD b 0,JU,AA (fun y=> ?_) fun y=> ?_⟩) fun x=> ?_)
  ·rw[EE (by omega)]
   exact cS BD ha hs hk n (b+1) (by omega) (by omega) (by omega)
  ·rw[k2] at y;cases y
  ·simp at x;omega
theorem yU :CP cfg 88 mn:=by
 refine BF tI fun vs h K ht=> ?_
 obtain⟨r,s,a,L,hid,BD,ha,hs,rfl,rfl,hk⟩:=ht
 exact t59 aj (cS BD ha hs hk _ a rfl (by omega) (EL ha).1)
theorem ot :CP cfg 88 OE:=by
 intro l h K ht;refine yU l h K ?_;obtain⟨s,a,L,hid,k,nm,l',BD,ha,hs,e1,e2,hk⟩:=ht;exact⟨rT k nm (encAs l'),s,a,L,hid,BD,ha,hs,e1,e2,hk⟩
theorem tH :Bl cfg 89 Tryz.f89:=(by refine⟨?_,?_,?_,?_,?_,?_⟩<;>kernel_rfl)
theorem tF :Bl cfg 91 Tryz.f91:=(by refine⟨?_,?_,?_,?_,?_,?_⟩<;>kernel_rfl)
theorem tJ :Bl cfg 87 Tryz.f87:=(by refine⟨?_,?_,?_,?_,?_,?_⟩<;>kernel_rfl)
theorem tB :Bl cfg 119 Tryz.f119:=(by refine⟨?_,?_,?_,?_,?_,?_⟩<;>kernel_rfl)
theorem km :Bl cfg 99 Tryz.f99:=(by refine⟨?_,?_,?_,?_,?_,?_⟩<;>kernel_rfl)
theorem kj :Bl cfg 125 Tryz.f125:=(by refine⟨?_,?_,?_,?_,?_,?_⟩<;>kernel_rfl)
theorem ef (b:Nat):Nat.blt b 0=false:=rfl
theorem QW {v:AV}{k:IntKind}{n:Int}(h:strip 0 [] v=.int k n):v=.int k n:=by
 cases v<;>simp_all[strip,ef]
theorem VB (l:List AV)(p e:Int)(h:B7 cfg 39 l=[.int .i64 p,.int .i64 e]):l=[.int .i64 p,.int .i64 e]:=by
 have hh:((cfg.Cy 39).isSome||cfg.heap 39)=false:=by kernel_rfl
 unfold B7 at h;rw[hh] at h;simp only at h
 cases l with
 |nil=>cases h
 |cons x l=>
  cases l with
  |nil=>simp[AP] at h
  |cons y l=>
   cases l with
   |cons z l=>simp[AP] at h
   |nil=>
    simp only[AP,List.cons.injEq,and_true] at h;rw[QW h.1,QW h.2]
theorem iB :IU cfg DU 39 Ch:=by
 intro l h K KP ht;obtain⟨p,e,hl,hk⟩:=ht;have WX:=VB l p e hl;refine .inr ⟨1,(p,e),h,?_,hk⟩;simp only[MW];refine .inl ⟨?_,trivial⟩;rw[WX];rfl
theorem qN :B8 cfg DU (DW [] [(39,Ch)]):=Ev AN (BL iB Ej)
theorem ph :IU cfg DU 89 HO:=by
 refine Ec tH fun vs h K KP ht=> ?_
 obtain⟨r,s,a,L,hid,tag,BD,ha,hs,rfl,rfl,h1,h2⟩:=ht
 have hN:=fun g=>BD (hX s (a:Nat) L hid++r).length g (by simp[hX];omega)
 have lC:=fun g=>(hN g).1
 have lB:=fun g=>(hN g).2
 refine t60 qN (AA (fun x=>⟨tag,14,rfl,?_⟩) fun x=>AF (Au (by simp at x;omega)) ?_)
 ·simp only[List.append_eq,List.nil_append,List.take_length,lC,lB]
  exact h1 (by simp at x;omega)
 ·simp only[List.append_eq,List.nil_append,List.take_length,lC,lB,Int.toNat_natCast]
  exact h2 (by simp at x;omega)
theorem mI :B8 cfg DU (DW [] [(39,Ch),(89,HO)]):=Ev AN (BL iB (BL ph Ej))
theorem vW :IU cfg DU 91 nM:=by
 refine Ec tF fun vs h K KP ht=> ?_
 obtain⟨r,s,a,L,hid,tag,is,BD,ha,hs,rfl,rfl,h1,h2,h3⟩:=ht
 have hN:=fun g=>BD (hX s (a:Nat) L hid++r).length g (by simp[hX];omega)
 have lC:=fun g=>(hN g).1
 have lB:=fun g=>(hN g).2
 refine t62 mI ?_;simp only[List.append_eq,List.nil_append,List.take_length,lC,lB]
 refine⟨r,s,a,L,hid,tag,BD,ha,hs,rfl,rfl,fun x=>h1 x,fun x=>AA (fun y=>⟨a,12,rfl,?_⟩) fun y=> ?_⟩
 ·exact h2 x (by simpa using y)
 ·rw[EE (by omega)]
  exact h3 x (by simpa using y)
theorem uK :IU cfg DU 91 Ty:=by
 intro l h K KP ht;refine vW l h K KP ?_;obtain⟨s,a,L,hid,k,tag,nm,l',is,BD,ha,hs,e1,e2,hk⟩:=ht;exact⟨rT k nm (encAs l'),s,a,L,hid,tag,is,BD,ha,hs,e1,e2,hk⟩
theorem uL :IU cfg DU 91 Tz:=by
 intro l h K KP ht;refine vW l h K KP ?_;obtain⟨s,a,L,hid,k,tag,nm,l',an,av,aa,is,BD,ha,hs,e1,e2,hk⟩:=ht;exact⟨rA k nm (encAs l') an av aa,s,a,L,hid,tag,is,BD,ha,hs,e1,e2,hk⟩
theorem mJ :B8 cfg DU (DW [(116,aE),(117,Sa),(101,kI)] [(39,Ch)]):=Ev (AG uH (AG yM (AG uI AN))) (BL iB Ej)
theorem vX :IU cfg DU 87 Oh:=by
 refine Ec tJ fun vs h K KP ht=> ?_
 obtain⟨s,a,L,hid,tag,BD,ha,hs,rfl,rfl,h1,h2⟩:=ht
 have hL:=fun g=>(BD 6 g (by simp)).2
 refine t58 mJ ⟨s,a,L,hid,BD,ha,hs,rfl,rfl,_,rfl,rfl,J8,_,rfl,by decide,?_⟩
 simp only[hL]
 refine AA (fun x=>⟨tag,11,rfl,?_⟩) fun x=> ?_
 ·exact h1 (by simpa[Bk] using x) _ L hid
 ·exact h2 (by simpa[Bk] using x)
theorem IX (l:List A8):AZ.BX (encAs l)=true:=by
 unfold encAs
 induction l with
 |nil=>rfl
 |cons a r ih=>simp only[List.map_cons,Ao,AZ.BX,AZ.Aw,AZ,ih,Bool.true_and]
theorem Db (n:Nat)(g:Hp)(l:List A8):AB n g (encAs l)=encAs l:=A9 _ _ _ (IX l)
theorem SI {k:Int}{nm:List UInt8}{es:List (List AV)}{an av:List UInt8}{aa:Int}{L:List (List AV)}(h:Ak.ED (rA k nm es an av aa) L){n:Nat}(hn:11<=n)(g:Hp):AB n g es=es/\AB n g L=L:=by
 obtain⟨h1,h2⟩:=h n g hn;refine⟨?_,h2⟩;simp only[rA,rT,List.cons_append,List.nil_append,List.map_cons,List.cons.injEq] at h1;have:=h1.2.2.1;simp only[AL,AP,strip,Blk.mem.injEq,List.cons.injEq,AV.sl.injEq] at this;exact this.2.2.2.1.2.1
theorem yL :CP cfg 119 Ri:=by
 refine BF tB fun vs h K ht=> ?_
 obtain⟨s,a,L,hid,k,nm,es,an,av,aa,b,BD,rfl,rfl,hk⟩:=ht
 have hN:=fun g=>SI BD (Nat.le_refl 11) g
 refine t81 J7 ?_
 simp only[fun g=>(hN g).1,fun g=>(hN g).2]
 exact hk
theorem aX :AK cfg (Af [(119,Ri)]):=AX (AG yL AN)
theorem On {K:AV->Hp->Prop}{s:List UInt8}{a:Int}{L:List (List AV)}{hid k:Int}{nm:List UInt8}{l:List A8}{an av:List UInt8}{aa:Int}(BD:Ak.ED (rA k nm (encAs l) an av aa) L)(hl:l.length<=limE)
  (hk:∀z:Int,decide (z>=0)=(l.any fun b=>an==b.name)->K (.int .i64 z) (dq s a L hid k nm (encAs l) an av aa)):
  ∀(n i:Nat),l.length-i=n->i<=l.length->(l.take i).any (fun b=>an==b.name)=false->AE cfg 125 (AD Tryz.f125) (AQ Tryz.prog Tryz.f125 11 K) [.code [0,1,0,1],.block 0,.code [1,1]] .normal [(0,true,.sl 3 (encAs l) (some 6)),(1,true,.fn (.func 119) [] [.ptr 10 0]),(7,true,.int .i64 l.length),(8,true,.int .i64 i)] (dq s a L hid k nm (encAs l) an av aa)
 |0,i,hn,hi,hp=>by
  have hN:=fun g=>SI BD (Nat.le_refl 11) g
  refine ax aX ?_
  simp only[fun g=>(hN g).1,fun g=>(hN g).2]
  refine AA (fun x=> ?_) fun x=>hk (-1) ?_
  ·simp at x;omega
  ·rw[List.take_of_length_le (by omega)] at hp;rw[hp];rfl
 |n+1,i,hn,hi,hp=>by
  have hN:=fun g=>SI BD (Nat.le_refl 11) g
  have As:i<l.length:=by omega
  refine ax aX ?_
  simp only[fun g=>(hN g).1,fun g=>(hN g).2]
  refine AA (fun x=>AF ?_ ⟨l[i].name,l[i].value,l[i].at',CF _ l As,s,a,L,hid,k,nm,encAs l,an,av,aa,l[i],BD,rfl,rfl,AA (fun y=>hk i ?_) fun y=> ?_⟩) fun x=> ?_
  ·rw[show(encAs l).length=l.length by simp[encAs],Au As];rfl
  ·rw[decide_eq_true (by omega)]
   exact(List.any_eq_true.2 ⟨l[i],List.getElem_mem As,y⟩).symm
  ·rw[EE (by omega)]
   refine On BD hl hk n (i+1) (by omega) (by omega) ?_
   rw[List.take_succ_eq_append_getElem As,List.any_append,hp];simpa using y
  ·simp at x;omega
theorem uG :CP cfg 125 jO:=by
 refine BF kj fun vs h K ht=> ?_
 obtain⟨s,a,L,hid,k,nm,l,an,av,aa,BD,rfl,hl,rfl,hk⟩:=ht;refine t87 aX ?_
 have:=On BD hl hk _ 0 rfl (by omega) rfl
 rw[show l.length=(encAs l).length by simp[encAs]] at this
 exact this
theorem uJ :CP cfg 99 eK:=by
 refine BF km fun vs h K ht=> ?_
 obtain⟨s,a,L,hid,k,nm,l,an,av,aa,BD,rfl,hl,rfl,hk⟩:=ht
 have hN:=fun g=>SI BD (Nat.le_refl 11) g
 refine t70 (AX (AG uG AN)) ?_
 simp only[fun g=>(hN g).1,fun g=>(hN g).2]
 refine⟨s,a,L,hid,k,nm,l,an,av,aa,BD,rfl,hl,rfl,fun z hz=> ?_⟩
 rw[hz];exact hk
theorem ko :Bl cfg 61 Tryz.f61:=(by refine⟨?_,?_,?_,?_,?_,?_⟩<;>kernel_rfl)
theorem tP :Bl cfg 60 Tryz.f60:=(by refine⟨?_,?_,?_,?_,?_,?_⟩<;>kernel_rfl)
theorem tY :Bl cfg 38 Tryz.f38:=(by refine⟨?_,?_,?_,?_,?_,?_⟩<;>kernel_rfl)
theorem tZ :Bl cfg 37 Tryz.f37:=(by refine⟨?_,?_,?_,?_,?_,?_⟩<;>kernel_rfl)
theorem Cb (n:Nat)(g:Hp):∀(a b:List (List AV)),AB n g (a++b)=AB n g a++AB n g b
 |[],b=>rfl
 |x::a,b=>by rw[List.cons_append,AB,AB,Cb n g a b];rfl
theorem jt (l:List Tok):AZ.BX (encTs l)=true:=by
 unfold encTs
 induction l with
 |nil=>rfl
 |cons a r ih=>simp only[List.map_cons,encT,AZ.BX,AZ.Aw,AZ,ih,IX,Option.isNone_none,Bool.true_and,Bool.and_true]
theorem CX (n:Nat)(g:Hp)(l:List Tok):AB n g (encTs l)=encTs l:=A9 _ _ _ (jt l)
theorem ud (l:List Tok):Ak.ED [] (encTs l):=fun n g _=>⟨rfl,CX n g l⟩
theorem rm (l:List Tok):Ak.ED [.grow 0 3 80] (encTs l):=fun n g _=>⟨rfl,CX n g l⟩
theorem iC {n:Nat}(h:9<=n):Nat.blt 6 n=true:=Nat.ble_eq_true_of_le (by omega)
theorem I9 {n:Nat}(g:Hp){L:List (List AV)}(hL:AB n g L=L){k fr to:Int}{nm t:List UInt8}{es:List (List AV)}(he:AB n g es=es){id:Nat}(hi:Nat.blt id n=true):
  AB n g (L++[[.int .i64 k,.str nm,.sl 3 es (some id),.str t,.int .i64 fr,.int .i64 to]])=L++[[.int .i64 k,.str nm,.sl 3 es (some id),.str t,.int .i64 fr,.int .i64 to]]:=by
 rw[Cb,hL];simp only[AB,AP,strip,he,hi,cond_true]
theorem FF {n:Nat}(g:Hp){L:List (List AV)}(hL:AB n g L=L){k fr to:Int}{nm t:List UInt8}{es:List (List AV)}(he:AB n g es=es){id:Nat}(hi:Nat.blt id n=false):
  AB n g (L++[[.int .i64 k,.str nm,.sl 3 es (some id),.str t,.int .i64 fr,.int .i64 to]])=L++[[.int .i64 k,.str nm,.sl 3 es none,.str t,.int .i64 fr,.int .i64 to]]:=by
 rw[Cb,hL];simp only[AB,AP,strip,he,hi,cond_false]
theorem CJ {α:Type}(L:List α)(x:α):(L++[x]).length=L.length+1:=by simp
theorem Va {h:Hp}{n:Nat}(e:h[4]?=some (.grow n 6 50)):Bf h n 6 50 (some 4)=true:=by
 simp only[Bf,e,Nat.beq_refl,Bool.and_self]
theorem o6 :CP cfg 61 RT:=by
 refine BF ko fun vs h K ht=> ?_
 obtain⟨s,a,fr,L,hid,k,BD,ha,hs,hf,hl,rfl,rfl,hk⟩:=ht;obtain⟨e1,e2⟩:=CB s hf ha
 have hL:=fun g=>(BD 7 g (Nat.le_refl _)).2
 refine qf J7 (AF e2 (AF ?_ ?_))
 ·rw[Va rfl,decide_eq_true (by unfold limE at hl;omega)];rfl
 ·rw[I9 _ (hL _) rfl rfl,e1];unfold hG at hk;rw[CJ] at hk;exact hk
theorem oz :CP cfg 61 Pq:=by
 refine BF ko fun vs h K ht=> ?_
 obtain⟨s,a,fr,L,hid,k,nm,l,BD,ha,hs,hf,hl,rfl,rfl,hk⟩:=ht;obtain⟨e1,e2⟩:=CB s hf ha
 have hL:=fun g=>(BD 9 g (Nat.le_refl _)).2
 refine qc J7 (AF e2 (AF ?_ ?_))
 ·rw[Va rfl,decide_eq_true (by unfold limE at hl;omega)];rfl
 ·rw[I9 _ (hL _) (Db _ _ _) rfl,e1,Db];unfold NT at hk;rw[CJ] at hk;exact hk
theorem uM :CP cfg 61 fJ:=by
 refine BF ko fun vs h K ht=> ?_
 obtain⟨s,a,fr,L,hid,k,nm,l,BD,ha,hs,hf,hl,rfl,rfl,hk⟩:=ht;obtain⟨e1,e2⟩:=CB s hf ha
 have hL:=fun g=>(BD 10 g (Nat.le_refl _)).2
 refine qe J7 (AF e2 (AF ?_ ?_))
 ·rw[Va rfl,decide_eq_true (by unfold limE at hl;omega)];rfl
 ·rw[I9 _ (hL _) rfl rfl,e1,Db];unfold lz at hk;rw[CJ] at hk;exact hk
theorem GL (l m:List Tok):encTs (l++m)=encTs l++encTs m:=by unfold encTs;rw[List.map_append]
theorem GK (l:List Tok):(encTs l).length=l.length:=by simp[encTs]
theorem wrap_add {a b:Nat}(h:a+b<=2*limE):IntKind.wrap .i64 ((a:Int)+(b:Int))=((a+b:Nat):Int):=by
 unfold limE at h;rw[Bx]<;>omega
theorem ai :AK cfg (Af [(61,RT)]):=AX (AG o6 AN)
theorem yX :CP cfg 60 OF:=by
 refine BF tP fun vs h K ht=> ?_
 obtain⟨s,a,l,hid,ha,hs,hl,rfl,rfl,hk⟩:=ht
 have e3:IntKind.wrap .i64 ((a:Int)+3)=((a+3:Nat):Int):=wrap_add (b:=3) (by omega)
 refine t41 ai ⟨s,a+3,a,encTs l,-1,6,rm l,ha,hs,by omega,by rw[GK];exact Nat.le_trans hl hs,rfl,by rw[e3],?_⟩
 rw[GL] at hk;unfold row;rw[FF _ (CX _ _ _) rfl rfl,CJ];unfold hX at hk
 rw[show encTs [(⟨6,[],[],cut s a (a+3),a,a+3⟩:Tok)]=[row 6 [] [] none (cut s a (a+3)) a ((a+3:Nat):Int)] from rfl,CJ] at hk
 exact hk
theorem yg :CP cfg 38 Nz:=by
 refine BF tY fun vs h K ht=> ?_
 obtain⟨s,fr,a,l,hid,hf,ha,hs,hl,rfl,rfl,hk⟩:=ht
 refine t24 ai (AA (fun x=>⟨s,a,fr,encTs l,hid,1,rm l,ha,hs,hf,by rw[GK];exact Nat.le_trans hl hs,rfl,rfl,?_⟩) fun x=> ?_)
 ·have As:fr<a:=by simp at x;omega
  rw[DH,if_pos As,GL] at hk;unfold row;rw[FF _ (CX _ _ _) rfl rfl,CJ];unfold hX at hk
  rw[show encTs [(⟨1,[],[],cut s fr a,fr,a⟩:Tok)]=[row 1 [] [] none (cut s fr a) fr a] from rfl,CJ] at hk
  exact hk
 ·have As:¬fr<a:=by simp at x;omega
  rw[DH,if_neg As,List.append_nil] at hk;rw[CX];exact hk
theorem Pd (s:List UInt8){a:Nat}(h:a<=s.length):B6 s (some (a:Int)) none=s.drop a/\BB s.length (some (a:Int)) none=true:=by
 refine⟨by simp only[B6,Int.toNat_natCast],?_⟩
 simp only[BB]
 rw[decide_eq_true (by omega),decide_eq_true (by omega)];rfl
theorem mQ :AK cfg (Af [(55,Ex.Tb),(58,Ey)]):=AX (AG yb (AG va AN))
theorem yh :CP cfg 37 oW:=by
 refine BF tZ fun vs h K ht=> ?_
 obtain⟨s,a,l,hid,ha,hs,rfl,rfl,hk⟩:=ht;obtain⟨e1,e2⟩:=Pd s ha;refine t23 mQ (AF e2 ?_);rw[e1];simp only[CX]
 have hh:Cz s a=(ET.isPrefixOf (s.drop a)&&(decide (((s.drop a).length:Int)>7)&&blB ((s.drop a).getD 7 0))):=by
  unfold Cz has;rw[<-Ge,List.length_drop]
  congr 2
  rw[decide_eq_decide];omega
 have tail:Cz s a=false->has s Al a=false->has s Ae a=false->∃(s8 x9:List UInt8),[AV.str (s.drop a),AV.str [45,45,62]]=[AV.str s8,AV.str x9]/\Ad (x9.isPrefixOf s8) (Ad (decide (hid>=0)) (K (.fn (.func 60) [.ptr 5 0] []) (hX s a (encTs l) hid)) (K .GV (hX s a (encTs l) hid))) (K .GV (hX s a (encTs l) hid)):=by
  intro h3 h1 h2
  refine⟨s.drop a,Bq,rfl,AA (fun x=>AA (fun y=> ?_) fun y=> ?_) fun x=> ?_⟩
  all_goals
   have x':has s Bq a=_:=x;simp only[Q6,h1,h2,h3,x',Bool.false_eq_true,if_false,Bool.true_and,Bool.false_and] at hk
   first|(rw[if_pos (by simpa using y)] at hk;exact hk)|(rw[if_neg (by simpa using y)] at hk;exact hk)|exact hk
 refine⟨s.drop a,Al,rfl,AA (fun x=> ?_) fun h1=>⟨s.drop a,Ae,rfl,AA (fun x=> ?_) fun h2=>⟨s.drop a,ET,rfl,AA (fun h3=>AA (fun h4=>AF ?_ ⟨(s.drop a).getD 7 0,rfl,AA (fun h5=> ?_) fun h5=> ?_⟩) fun h4=> ?_) fun h3=> ?_⟩⟩⟩
 ·rw[Q6,if_pos (show has s Al a=true from x)] at hk;exact hk
 ·rw[Q6,if_neg (by rw[show has s Al a=false from h1];simp),if_pos (show has s Ae a=true from x)] at hk;exact hk
 ·exact Au (i:=7) (by simp at h4⊢;omega)
 ·rw[Q6,if_neg (by rw[show has s Al a=false from h1];simp),if_neg (by rw[show has s Ae a=false from h2];simp),if_pos (by rw[hh,h3,h4,h5];rfl)] at hk;exact hk
 ·exact tail (by rw[hh,h3,h4,h5];rfl) h1 h2
 ·exact tail (by rw[hh,h3,h4];rfl) h1 h2
 ·exact tail (by rw[hh,h3];rfl) h1 h2
theorem tQ :Bl cfg 59 Tryz.f59:=(by refine⟨?_,?_,?_,?_,?_,?_⟩<;>kernel_rfl)
theorem tE :Bl cfg 92 Tryz.f92:=(by refine⟨?_,?_,?_,?_,?_,?_⟩<;>kernel_rfl)
theorem tR :Bl cfg 57 Tryz.f57:=(by refine⟨?_,?_,?_,?_,?_,?_⟩<;>kernel_rfl)
theorem mL :B8 cfg DU (DW [(61,RT)] [(39,Ch)]):=Ev (AG o6 AN) (BL iB Ej)
theorem yY :IU cfg DU 59 PA:=by
 refine Ec tQ fun vs h K KP ht=> ?_
 obtain⟨s,a,l,hid,ha,hs,hl,rfl,rfl,h1,h2⟩:=ht
 have e3:IntKind.wrap .i64 ((a:Int)+8)=((a+8:Nat):Int):=wrap_add (b:=8) (by omega)
 refine t40 mL (AA (fun x=>⟨a,13,rfl,?_⟩) fun x=>⟨s,a+8,a,encTs l,a,5,rm l,ha,hs,by omega,by rw[GK];exact Nat.le_trans hl hs,rfl,by rw[e3],?_⟩)
 ·rw[CX]
  exact h1 (by simpa using x) _ _ hid
 ·have hk:=h2 (by simp at x;omega)
  rw[GL] at hk;unfold row;rw[FF _ (CX _ _ _) rfl rfl,CJ];unfold hX at hk
  rw[show encTs [(⟨5,[],[],cut s a (a+8),a,a+8⟩:Tok)]=[row 5 [] [] none (cut s a (a+8)) a ((a+8:Nat):Int)] from rfl,CJ] at hk
  exact hk
theorem Xx :∀(s x:List UInt8) (i:Nat),IL s x i=match CY x s with|some n=>((n+i:Nat):Int)|none=> -1
 |[],x,i=>by cases x<;>simp[IL,CY]
 |c::r,x,i=>by
  rw[IL,CY]
  cases h:x.isPrefixOf (c::r) with
  |true=>simp
  |false=>
   simp only[Bool.false_eq_true,if_false];rw[Xx r x (i+1)]
   cases CY x r with
   |none=>rfl
   |some n=>simp only[Option.map_some];congr 1;omega
theorem UQ (s x:List UInt8):IL s x 0=match CY x s with|some n=>(n:Int)|none=> -1:=by
 rw[Xx]
 cases CY x s<;>rfl
theorem mH :B8 cfg DU (DW [(61,fJ),(84,kF)] [(39,Ch)]):=Ev (AG uM (AG yO AN)) (BL iB Ej)
theorem ZG {k:Int}{nm:List UInt8}{l:List A8}{L:List (List AV)}(hL:∀n g,9<=n->AB n g L=L):Ak.ED (rT k nm (encAs l)) L:=fun n g hn=>by
 refine⟨?_,hL n g hn⟩;simp only[rT,List.map_cons,List.map_nil,AL,AP,strip,Db,iC hn,cond_true]
theorem rl {k:Int}{nm:List UInt8}{l:List A8}{L:List (List AV)}(hL:∀n g,9<=n->AB n g L=L):Ak.ED (rT k nm (encAs l)++[.grow 0 3 80]) L:=fun n g hn=>by
 simp only[rT,List.cons_append,List.nil_append,List.length_cons,List.length_nil] at hn
 refine⟨?_,hL n g (by omega)⟩
 simp only[rT,List.cons_append,List.nil_append,List.map_cons,List.map_nil,AL,AP,strip,Db,iC (show 9<=n by omega),cond_true]
theorem vr {k:Int}{nm an av:List UInt8}{aa:Int}{l:List A8}{L:List (List AV)}(hL:∀n g,9<=n->AB n g L=L):Ak.ED (rA k nm (encAs l) an av aa) L:=fun n g hn=>by
 simp only[rA,rT,List.cons_append,List.nil_append,List.length_cons,List.length_nil] at hn
 refine⟨?_,hL n g (by omega)⟩
 simp only[rA,rT,List.cons_append,List.nil_append,List.map_cons,List.map_nil,AL,AP,strip,Db,iC (show 9<=n by omega),cond_true]
theorem Xg {r:Hp}{k:Int}{nm:List UInt8}{l:List A8}{L:List (List AV)}(h:Ak.ED (rT k nm (encAs l)) L):∀n g,9<=n->AB n g L=L:=fun n g hn=>(h n g hn).2
theorem SX {x s:List UInt8}{n:Nat}(h:CY x s=some n):n+x.length<=s.length:=HE h
theorem yS :IU cfg DU 92 TZ:=by
 refine Ec tE fun vs h K KP ht=> ?_
 obtain⟨s,a,tag,L,hid,k,nm,l,BD,ha,hs,hl,hn,rfl,rfl,h1,h2⟩:=ht;have hL:=Xg (r:=[]) BD;obtain⟨e1,e2⟩:=Pd s ha
 have oI:∀n,CY (Ae++nm) (s.drop a)=some n->(CY Al ((s.drop a).take n)=none\/nm≠BC)->∃(s9:List UInt8) (Zu QG:Nat) (lW:List (List AV)) (da pR:Int) (gL:List UInt8) (lf:List A8),Ak.ED (rT pR gL (encAs lf)++[Blk.grow 0 3 80]) lW/\Zu<=s9.length/\s9.length<=1000000/\QG<=Zu/\lW.length<=1000000/\
   [AV.ptr 5 0,AV.agg [.int .i64 7,AV.str [],AV.sl 3 [] (some 9),AV.str [],.int .i64 0,.int .i64 0],.int .i64 (a:Int)]=[AV.ptr 5 0,AV.agg [.int .i64 7,AV.str [],AV.sl 3 [] (some 9),AV.str [],.int .i64 0,.int .i64 0],.int .i64 (QG:Int)]/\
   lz s ((a+n:Nat):Int) L hid k nm (encAs l)=lz s9 Zu lW da pR gL (encAs lf)/\K (.tup []) [.grow 0 6 50,.mem 41 [.sl 6 [] (some 0)],.mem 3 [.int .i64 0],.mem 27 [.int .i64 0],.grow (lW++[row 7 [] [] (some 9) (cut s9 QG Zu) QG Zu]).length 6 50,
    .mem 89 [.str s9,.int .i64 Zu,.sl 6 (AB 9 [.grow 0 6 50,.mem 41 [.sl 6 [] (some 0)],.mem 3 [.int .i64 0],.mem 27 [.int .i64 0],.grow (lW++[row 7 [] [] (some 9) (cut s9 QG Zu) QG Zu]).length 6 50,.mem 89 [.str s9,.int .i64 Zu,.sl 6 (lW++[row 7 [] [] (some 9) (cut s9 QG Zu) QG Zu]) (some 4),.int .i64 da],
     .grow (encAs lf).length 3 80,.grow 0 3 80,.mem 50 [.int .i64 pR,.str gL,.sl 3 (encAs lf) (some 6),.str [],.int .i64 0,.int .i64 0],.grow 0 3 80] (lW++[row 7 [] [] (some 9) (cut s9 QG Zu) QG Zu])) (some 4),.int .i64 da],.grow (encAs lf).length 3 80,.grow 0 3 80,.mem 50 [.int .i64 pR,.str gL,.sl 3 (encAs lf) (some 6),.str [],.int .i64 0,.int .i64 0]]:=by
  intro n hf Kx;have hle:=SX hf;rw[List.length_drop,List.length_append] at hle
  refine⟨s,a+n,a,L,hid,k,nm,l,rl hL,by omega,hs,by omega,hl,rfl,rfl,?_⟩
  have hk:=(h2 n hf).2 Kx;unfold row;rw[FF _ (hL 9 _ (Nat.le_refl _)) rfl rfl,CJ]
  rw[show(s.drop a).take n=cut s a (a+n) from Eu.symm] at hk
  unfold NT row at hk;rw[CJ] at hk;exact hk
 refine t63 mH (AF e2 (AF (decide_eq_true (by unfold limE at hn;omega)) ⟨s.drop a,Ae++nm,by rw[List.length_drop];unfold limE at hs;omega,by rw[e1];rfl,?_⟩))
 simp only[Db,fun g=>hL 9 g (Nat.le_refl 9)]
 rw[UQ]
 cases hf:CY (Ae++nm) (s.drop a) with
 |none=>exact AA (fun _=>⟨tag,14,rfl,h1 hf _ _ _⟩) fun x=>by simp at x
 |some n=>
  have hle:=SX hf;rw[List.length_drop,List.length_append] at hle
  have ew:IntKind.wrap .i64 ((a:Int)+(n:Int))=((a+n:Nat):Int):=wrap_add (by omega)
  refine AA (fun x=>by simp at x;omega) fun _=> ?_
  simp only[ew]
  obtain⟨q1,q2⟩:=CB s (show a<=a+n by omega) (show a+n<=s.length by omega)
  rw[Eu] at q1
  refine AF q2 ⟨(s.drop a).take n,Al,by rw[List.length_take,List.length_drop];unfold limE at hs;omega,by rw[q1];rfl,?_⟩
  rw[UQ]
  cases hj:CY Al ((s.drop a).take n) with
  |none=>exact AA (fun x=>by simp at x) fun _=>oI n hf (.inl hj)
  |some j=>
   have kf:=SX hj;rw[List.length_take,List.length_drop] at kf
   have ej:IntKind.wrap .i64 ((a:Int)+(j:Int))=((a+j:Nat):Int):=wrap_add (by omega)
   refine AA (fun _=>AA (fun y=>⟨_,13,rfl,?_⟩) fun y=>oI n hf (.inr (by simpa[BC] using y))) fun x=>by simp at x
   rw[ej]
   exact(h2 n hf).1 j hj (by simpa[BC] using y) _ _ _
theorem FY (n:Nat)(g:Hp):∀L:List (List AV),(AB n g L).length=L.length
 |[]=>rfl
 |x::r=>by rw[AB,List.length_cons,List.length_cons,FY n g r]
theorem bl {s:List UInt8}{KP:PX->Hp->Prop}{x:PX}(h:Iz [] s KP x)(a:Int)(L:List (List AV))(hid:Int)(g:Hp):KP x [.grow 0 6 50,.mem 41 [.sl 6 [] (some 0)],.mem 3 [.int .i64 0],.mem 27 [.int .i64 0],.grow L.length 6 50,.mem 89 [.str s,.int .i64 a,.sl 6 (AB 6 g L) (some 4),.int .i64 hid]]:=by
 have:=h a (AB 6 g L) hid;unfold hX at this;rw[FY] at this;exact this
theorem bq {s:List UInt8}{KP:PX->Hp->Prop}{x:PX}(h:Iz [] s KP x)(a:Int)(L:List (List AV))(hid:Int):KP x [.grow 0 6 50,.mem 41 [.sl 6 [] (some 0)],.mem 3 [.int .i64 0],.mem 27 [.int .i64 0],.grow L.length 6 50,.mem 89 [.str s,.int .i64 a,.sl 6 L (some 4),.int .i64 hid]]:=h a L hid
theorem mM :B8 cfg DU (DW [(61,Pq),(88,OE)] [(39,Ch),(87,Oh),(89,HO)]):=Ev (AG oz (AG ot AN)) (BL iB (BL vX (BL ph Ej)))
theorem So {s:List UInt8}{b:Nat}{c:UInt8}:(((s.getD b 0).toNat:Int)==(c.toNat:Int))=(s.getD b 0==c):=by
 rw[Bool.eq_iff_iff];simp only[beq_iff_eq];constructor
 ·intro h
  exact UInt8.toNat_inj.1 (by omega)
 ·intro h;rw[h]
theorem IA (l:List Tok):∀n g,9<=n->AB n g (encTs l)=encTs l:=fun n g _=>CX n g l
theorem yZ :IU cfg DU 57 LJ:=by
 refine Ec tR fun vs h K KP ht=> ?_
 obtain⟨s,a,l,hid,hh,ha,hs,hl,rfl,rfl,h1,h2⟩:=ht
 have h6:a+6<=s.length:=DC hh (by decide)
 have e6:IntKind.wrap .i64 ((a:Int)+6)=((a+6:Nat):Int):=wrap_add (b:=6) (by omega)
 refine t38 mM ⟨s,a+6,encTs l,hid,a,ud l,h6,hs,rfl,by rw[e6],fun hk a7 L8 sv=> ?_,fun hk=> ?_⟩
 ·have:BV s a=.error (a,11):=by unfold BV;rw[if_pos hk]
  exact bl (h1 _ _ this) _ _ _ _
 ·have dT:=C8 s (a+6)
  have hb:=EL (s:=s) (a:=a+6+lets s (a+6)) (by omega)
  refine⟨s,a+6+lets s (a+6),encTs l,hid,4,_,[],ZG (l:=[]) (IA l),by omega,hs,rfl,rfl,?_⟩
  refine⟨rT 4 ((s.drop (a+6)).take (lets s (a+6))) (encAs []),s,past s (a+6+lets s (a+6)),encTs l,hid,a,ZG (l:=[]) (IA l),hb.2,hs,rfl,rfl,fun x=> ?_,fun x=>AA (fun y=>⟨a,11,rfl,?_⟩) fun y=> ?_⟩
  ·have:BV s a=.error (a,14):=by unfold BV;simp only[hk,x,Bool.true_eq_false,if_false];simp
   rw[CX];exact bq (h1 _ _ this) _ _ _
  ·have hy:s.getD (past s (a+6+lets s (a+6))) 0≠62:=by
    have:=So (s:=s) (b:=past s (a+6+lets s (a+6))) (c:=62);simp only[bne,Bool.not_eq_true'] at y
    rw[show((62:UInt8).toNat:Int)=62 from rfl] at this
    rw[this] at y;simpa using y
   have:BV s a=.error (a,11):=by unfold BV;simp only[hk,Bool.true_eq_false,if_false];rw[if_neg (by omega),if_pos hy]
   rw[CX];exact bq (h1 _ _ this) _ _ _
  ·have hy:s.getD (past s (a+6+lets s (a+6))) 0=62:=by
    have:=So (s:=s) (b:=past s (a+6+lets s (a+6))) (c:=62);simp only[bne,Bool.not_eq_false'] at y
    rw[show((62:UInt8).toNat:Int)=62 from rfl] at this
    rw[this] at y;simpa using y
   have hc:BV s a=.ok ⟨4,(s.drop (a+6)).take (lets s (a+6)),[],cut s a (past s (a+6+lets s (a+6))+1),a,past s (a+6+lets s (a+6))+1⟩:=by
    unfold BV;simp only[hk,Bool.true_eq_false,if_false];rw[if_neg (by omega),if_neg (by simpa using hy)]
   have YC:=h2 _ hc
   refine⟨s,past s (a+6+lets s (a+6))+1,a,encTs l,hid,4,_,[],ZG (l:=[]) (IA l),by omega,hs,by omega,by rw[GK];exact Nat.le_trans hl hs,rfl,by rw[EE (by omega)],?_⟩
   rw[GL] at YC;unfold row;rw[FF _ (CX _ _ _) (Db _ _ _) rfl,CJ];unfold hX at YC
   rw[show ∀t:Tok,encTs [t]=[row t.kind t.name (encAs t.attrs) none t.text t.fr t.to] from fun _=>rfl,CJ] at YC
   exact YC
theorem tG :Bl cfg 90 Tryz.f90:=(by refine⟨?_,?_,?_,?_,?_,?_⟩<;>kernel_rfl)
theorem Xv :∀(s:List UInt8) (c:UInt8),Lib.indexByte s c=match CY [c] s with|some n=>(n:Int)|none=> -1
 |[],c=>rfl
 |b::r,c=>by
  rw[Lib.indexByte,CY]
  have e:List.isPrefixOf [c] (b::r)=(c==b):=by simp[List.isPrefixOf]
  rw[e,Xv r c]
  by_cases h:b=c
  ·subst h;simp
  ·have h1:(b==c)=false:=by simpa using h
   have h2:(c==b)=false:=by simpa using fun q=>h q.symm
   rw[h1,h2]
   cases CY [c] r with
   |none=>rfl
   |some n=>
    simp only[Bool.false_eq_true,if_false,Option.map_some]
    have:((n:Int)== -1)=false:=by simp
    rw[this];simp
theorem Fo (s:List UInt8)(a tg:Nat)(l:List A8){n:Nat}(hn:n=min (lets s a) 16):DF s a tg l=
  if l.any (fun c=>(s.drop a).take n==c.name)=true then .error (a,12) else
  if s.length<=a+n then .error (tg,14) else
  if n=0\/s.getD (a+n) 0≠61 then .error (a+n,12) else
  if s.length<=a+n+1 then .error (tg,14) else
  if s.getD (a+n+1) 0≠34/\s.getD (a+n+1) 0≠39 then .error (a+n+1,12) else
  match CY [s.getD (a+n+1) 0] (s.drop (a+n+2)) with
  |none=>.error (tg,14)
  |some k=>.ok (⟨(s.drop a).take n,(s.drop (a+n+2)).take k,a⟩,a+n+2+k+1):=by
 subst hn;rfl
theorem XS :B8 cfg DU (DW [(118,Ft),(93,ZQ),(99,eK)] [(39,Ch),(89,HO),(91,Tz)]):=
 Ev (AG vS (AG vV (AG uJ AN))) (BL iB (BL ph (BL uL Ej)))
theorem LM {s:List UInt8}{b:Nat}(c:UInt8)(i:Int)(hi:(c.toNat:Int)=i):(((s.getD b 0).toNat:Int)==i)=(s.getD b 0==c):=by rw[<-hi];exact So
theorem jZ {K:AV->Hp->Prop}{KP:PX->Hp->Prop}{s:List UInt8}{a n:Nat}{L:List (List AV)}{hid k:Int}{tg:Nat}{nm:List UInt8}{l:List A8}(hL:∀n g,9<=n->AB n g L=L)(hs:s.length<=limE)(hl:l.length<=limE)(hn:n=min (lets s a) 16)(ha:a+n<=s.length)
  (h1:∀p e,DF s a tg l=.error (p,e)->Iz (rT k nm (encAs l)) s KP ((p:Int),e)) (h2:∀at' b,DF s a tg l=.ok (at',b)->K (.agg (Ao at')) (NT s (b:Nat) L hid k nm (encAs l))):
  FU cfg 90 (AD Tryz.f90) (Fa Tryz.prog Tryz.f90 DU 9 K KP) [.code [1,1,1]] .normal [(0,true,.ptr 5 0),(1,true,.int .i64 tg),(2,true,.sl 3 (encAs l) (some 6)),(6,true,.ptr 9 0),(7,true,.int .i64 a)] (tr s ((a+n:Nat):Int) L hid k nm (encAs l)):=by
 obtain⟨e1,e2⟩:=CB s (show a<=a+n by omega) ha
 rw[Eu] at e1;have hA:=Fo s a tg l hn
 have ok:∀(an av:List UInt8) (aa:Int),Ak.ED (rA k nm (encAs l) an av aa) L:=fun an av aa=>vr hL
 have pb:=fun g=>hL 9 g (Nat.le_refl 9)
 refine qX XS (AF e2 ?_);simp only[Db,pb,e1]
 refine⟨s,_,L,hid,k,nm,l,(s.drop a).take n,[],a,ok _ _ _,rfl,hl,rfl,AA (fun x=>⟨a,12,rfl,?_⟩) fun x=> ?_⟩
 ·rw[if_pos x] at hA;exact h1 _ _ hA _ _ _
 rw[if_neg (by rw[x];simp)] at hA
 refine⟨rA k nm (encAs l) _ _ _,s,a+n,L,hid,tg,ok _ _ _,ha,hs,rfl,rfl,fun y=> ?_,fun y=> ?_⟩
 ·rw[if_pos (by omega)] at hA
  exact h1 _ _ hA _ _ _
 rw[if_neg (by omega)] at hA
 rw[LM 61 61 rfl]
 refine AA (fun z=> ?_) fun z=> ?_
 ·have pz:s.getD (a+n) 0=61:=by simpa using z
  refine⟨s,a+n,L,hid,k,tg,nm,l,(s.drop a).take n,[],a,_,ok _ _ _,ha,hs,rfl,rfl,fun y'=>absurd y' (by omega),fun _ y'=> ?_,fun _ y'=> ?_⟩
  ·have QB:n=0:=by
    have:(s.drop a).take n=[]:=by simpa using y'
    rw[List.take_eq_nil_iff] at this
    rcases this with h|h
    ·exact h
    ·rw[List.drop_eq_nil_iff] at h;omega
   rw[if_pos (.inl QB)] at hA;exact h1 _ _ hA _ _ _
  have QB:¬n=0:=by
   intro h;subst h;simp at y'
  rw[if_neg (fun h=>h.elim QB fun h=>h pz)] at hA
  refine⟨rA k nm (encAs l) _ _ _,s,a+n+1,L,hid,tg,ok _ _ _,by omega,hs,rfl,rfl,fun w=> ?_,fun w=> ?_⟩
  ·rw[if_pos (by omega)] at hA
   simp only[Db,pb];exact h1 _ _ hA _ _ _
  rw[if_neg (by omega)] at hA
  simp only[Db,pb]
  have ex:=Pd s (show a+n+1+1<=s.length by omega)
  have ep:((a+n+1+1:Nat):Int)=((a+n+2:Nat):Int):=rfl
  have fin:∀(hm:¬(s.getD (a+n+1) 0≠34/\s.getD (a+n+1) 0≠39)),(CY [s.getD (a+n+1) 0] (s.drop (a+n+2))=none->Iz (rT k nm (encAs l)) s KP ((tg:Int),14))/\
    (∀j,CY [s.getD (a+n+1) 0] (s.drop (a+n+2))=some j->K (.agg [.str ((s.drop a).take n),.str ((s.drop (a+n+2)).take j),.int .i64 a]) (NT s ((a+n+2+j+1:Nat):Int) L hid k nm (encAs l))):=by
   intro hm;rw[if_neg hm] at hA
   refine⟨fun hf=> ?_,fun j hf=> ?_⟩
   ·rw[hf] at hA;exact h1 _ _ hA
   ·rw[hf] at hA;exact h2 _ _ hA
  rw[LM 34 34 rfl,LM 39 39 rfl]
  refine AA (fun m=> ?_) fun m=> ?_
  all_goals
   refine⟨s,a+n+1,L,hid,k,tg,nm,l,(s.drop a).take n,[],a,_,ok _ _ _,by omega,hs,rfl,rfl,fun y'=>absurd y' (by omega),fun _ m2=> ?_,fun _ m2=> ?_⟩
  ·cases m2
  rotate_left
  ·have:s.getD (a+n+1) 0≠34/\s.getD (a+n+1) 0≠39:=⟨by simpa using m,by simpa using m2⟩
   rw[if_pos this] at hA;exact h1 _ _ hA _ _ _
  all_goals
   try simp only[Db,pb]
   obtain⟨f1,f2⟩:=fin (fun u=>by first|exact u.1 (by simpa using m)|exact u.2 (by simpa using m2))
   refine AF ex.2 ⟨s.drop (a+n+2),s.getD (a+n+1) 0,by rw[List.length_drop];unfold limE at hs;omega,by rw[ex.1],?_⟩
   rw[Xv]
   cases hf:CY [s.getD (a+n+1) 0] (s.drop (a+n+2)) with
   |none=>exact AA (fun _=>⟨tg,14,rfl,f1 hf _ _ _⟩) fun q=>by simp at q
   |some j=>
    have hle:=SX hf;simp only[List.length_drop,List.length_cons,List.length_nil] at hle
    have w1:IntKind.wrap .i64 (((a+n+1+1:Nat):Int)+(j:Int))=((a+n+2+j:Nat):Int):=wrap_add (by omega)
    have w2:IntKind.wrap .i64 ((j:Int)+1)=((j+1:Nat):Int):=EE (by omega)
    have w3:IntKind.wrap .i64 (((a+n+1+1:Nat):Int)+((j+1:Nat):Int))=((a+n+2+j+1:Nat):Int):=by rw[wrap_add (by omega)];congr 1
    obtain⟨q1,q2⟩:=CB s (show a+n+2<=a+n+2+j by omega) (show a+n+2+j<=s.length by omega)
    rw[Eu] at q1
    refine AA (fun q=>absurd (of_decide_eq_true q) (Int.not_lt.2 (Int.natCast_nonneg j))) fun _=> ?_
    simp only[w1,w2,w3];refine AF q2 ?_
    rw[show(((a+n+1+1:Nat):Int))=((a+n+2:Nat):Int) from rfl,q1]
    exact f2 j hf
 ·have pz:s.getD (a+n) 0≠61:=by simpa using z
  rw[if_pos (.inr pz)] at hA
  refine⟨s,a+n,L,hid,k,tg,nm,l,(s.drop a).take n,[],a,_,ok _ _ _,ha,hs,rfl,rfl,fun y'=>absurd y' (by omega),fun _ _=>h1 _ _ hA _ _ _,fun _ y'=>by cases y'⟩
theorem cR {K:AV->Hp->Prop}{KP:PX->Hp->Prop}{s:List UInt8}{a n:Nat}{L:List (List AV)}{hid k:Int}{tg:Nat}{nm:List UInt8}{l:List A8}(hL:∀n g,9<=n->AB n g L=L)(hs:s.length<=limE)(hl:l.length<=limE)(hn:n=min (lets s a) 16)(ha:a<=s.length)
  (h1:∀p e,DF s a tg l=.error (p,e)->Iz (rT k nm (encAs l)) s KP ((p:Int),e)) (h2:∀at' b,DF s a tg l=.ok (at',b)->K (.agg (Ao at')) (NT s (b:Nat) L hid k nm (encAs l))):
  ∀(m b:Nat),a+n-b=m->a<=b->b<=a+n->FU cfg 90 (AD Tryz.f90) (Fa Tryz.prog Tryz.f90 DU 9 K KP) [.code [0,0,1,1],.block 0,.code [1,1,1]] .normal [(0,true,.ptr 5 0),(1,true,.int .i64 tg),(2,true,.sl 3 (encAs l) (some 6)),(6,true,.ptr 9 0),(7,true,.int .i64 a)] (tr s (b:Nat) L hid k nm (encAs l))
 |0,b,hm,q1,q2=>by
  have hb:b=a+n:=by omega
  subst hb;have hle:=C8 s a
  have kf:a+n<=s.length:=by omega
  have T:=jZ hL hs hl hn kf h1 h2
  have sub:((a+n:Nat):Int)-(a:Int)=(n:Int):=by omega
  refine mV XS (AA (fun x=>AF (Au (by simp at x;omega)) ⟨s.getD (a+n) 0,JU,AA (fun y=>AA (fun z=> ?_) fun z=>T) fun y=>T⟩) fun x=>T)
  exfalso
  rw[sub,Bx (by omega) (by unfold limE at hs;omega)] at z
  have hz:n<16:=by simp at z;omega
  have:n=lets s a:=by omega
  rw[this] at y
  rw[SN (by simp at x;omega)] at y
  cases y
 |m+1,b,hm,q1,q2=>by
  obtain⟨k1,k2⟩:=Ot (s:=s) q1 (show b<a+lets s a by omega)
  have sub:(b:Int)-(a:Int)=((b-a:Nat):Int):=by omega
  refine mV XS (AA (fun x=>AF (Au k1) ⟨s.getD b 0,JU,AA (fun y=>AA (fun z=> ?_) fun z=> ?_) fun y=> ?_⟩) fun x=> ?_)
  ·rw[EE (by omega)]
   exact cR hL hs hl hn ha h1 h2 m (b+1) (by omega) (by omega) (by omega)
  ·exfalso
   rw[sub,Bx (by omega) (by unfold limE at hs;omega)] at z
   simp at z;omega
  ·rw[k2] at y;cases y
  ·simp at x;omega
theorem yT :IU cfg DU 90 U8:=by
 refine Ec tG fun vs h K KP ht=> ?_
 obtain⟨s,a,L,hid,tag,k,tg,nm,l,BD,ha,hs,hl,rfl,rfl,rfl,h1,h2⟩:=ht
 exact t61 XS (cR (Xg (r:=[]) BD) hs hl rfl ha h1 h2 _ a rfl (by omega) (by omega))
theorem tS :Bl cfg 56 Tryz.f56:=(by refine⟨?_,?_,?_,?_,?_,?_⟩<;>kernel_rfl)
theorem ak :B8 cfg DU (DW [(61,Pq),(88,OE)] [(39,Ch),(87,Oh),(89,HO),(90,U8),(91,Ty),(92,TZ)]):=
 Ev (AG oz (AG ot AN)) (BL iB (BL vX (BL ph (BL yT (BL uK (BL yS Ej))))))
theorem bQ {l0:List Tok}{k fr to:Int}{nm t:List UInt8}{l:List A8}:∀n g,9<=n->AB n g (encTs l0++[row k nm (encAs l) (some 6) t fr to])=encTs l0++[row k nm (encAs l) (some 6) t fr to]:=fun n g hn=>by
 unfold row;exact I9 g (CX _ _ _) (Db _ _ _) (iC hn)
theorem Si (g:Hp){l0:List Tok}{k fr to:Int}{nm t:List UInt8}{l:List A8}:AB 6 g (encTs l0++[row k nm (encAs l) (some 6) t fr to])=encTs l0++[row k nm (encAs l) none t fr to]:=by
 unfold row;exact FF g (CX _ _ _) (Db _ _ _) rfl
theorem gw (g:Hp){l0:List Tok}{k fr to:Int}{nm t:List UInt8}{l:List A8}{iT:List UInt8}{f2 o2:Int}:AB 6 g ((encTs l0++[row k nm (encAs l) (some 6) t fr to])++[row 7 [] [] none iT f2 o2])=encTs l0++[row k nm (encAs l) none t fr to]++[row 7 [] [] none iT f2 o2]:=by
 rw[Cb,Si];rfl
theorem Ru {s:List UInt8}{KP:PX->Hp->Prop}{x:PX}(h:Iz [] s KP x)(a:Int)(L L':List (List AV))(hl:L.length=L'.length)(hid:Int):KP x [.grow 0 6 50,.mem 41 [.sl 6 [] (some 0)],.mem 3 [.int .i64 0],.mem 27 [.int .i64 0],.grow L.length 6 50,.mem 89 [.str s,.int .i64 a,.sl 6 L' (some 4),.int .i64 hid]]:=by
 rw[hl];exact h a L' hid
theorem Ut (t:Tok):encTs [t]=[row t.kind t.name (encAs t.attrs) none t.text t.fr t.to]:=rfl
theorem Wf {s:List UInt8}{b:Int}{l0:List Tok}{t:Tok}{hid:Int}:hX s b (encTs (l0++[t])) hid=[.grow 0 6 50,.mem 41 [.sl 6 [] (some 0)],.mem 3 [.int .i64 0],.mem 27 [.int .i64 0],.grow ((encTs l0).length+1) 6 50,.mem 89 [.str s,.int .i64 b,.sl 6 (encTs l0++[row t.kind t.name (encAs t.attrs) none t.text t.fr t.to]) (some 4),.int .i64 hid]]:=by
 rw[GL,Ut];unfold hX;rw[CJ]
theorem aW {K:AV->Hp->Prop}{KP:PX->Hp->Prop}{s:List UInt8}{a b:Nat}{l0:List Tok}{hid:Int}{nm:List UInt8}{l:List A8}(hs:s.length<=limE)(ZV:l0.length<s.length)(VJ:nm.length<=limE)(Qv:a<=b)(hb:b<s.length)(hc:s.getD b 0=62\/s.getD b 0=47)
  (h1:∀p e,(match CW s a nm l b with|.error e=>.error e|.ok t=>Fe s t:Except S8 (List Tok))=.error (p,e)->Iz [] s KP ((p:Int),e))
  (h2:∀ts,(match CW s a nm l b with|.error e=>.error e|.ok t=>Fe s t:Except S8 (List Tok))=.ok ts->K (.tup []) (hX s ((Bd ts (a+1):Nat):Int) (encTs (l0++ts)) hid)):
  FU cfg 56 (AD Tryz.f56) (Fa Tryz.prog Tryz.f56 DU 6 K KP) [.code [1,1,1,1]] .normal [(0,true,.ptr 5 0),(2,true,.int .i64 a),(3,true,.ptr 8 0)] (NT s (b:Nat) (encTs l0) hid 2 nm (encAs l)):=by
 have n9:(encTs l0).length<=1000000:=by rw[GK];unfold limE at hs;omega
 refine qg ak (AF (Au hb) ?_);simp only[Int.toNat_natCast];rw[LM 47 47 rfl]
 refine AA (fun x=> ?_) fun x=> ?_
 ·have qB:s.getD b 0=47:=by simpa using x
  have wb:IntKind.wrap .i64 ((b:Int)+1)=((b+1:Nat):Int):=EE (by omega)
  rw[wb]
  refine⟨rT 3 nm (encAs l),s,b+1,encTs l0,hid,a,ZG (IA l0),by omega,hs,rfl,rfl,fun y=> ?_,fun y=>⟨s,b+1,encTs l0,hid,3,a,nm,l,_,ZG (IA l0),by omega,hs,rfl,rfl,fun z=>absurd z (by omega),fun _ z=> ?_,fun _ z=> ?_⟩⟩
  ·have:CW s a nm l b=.error (a,14):=by unfold CW;rw[if_pos qB];simp only;rw[if_pos (by omega)]
   rw[CX]
   exact h1 _ _ (by rw[this]) _ _ _
  ·rw[LM 62 62 rfl] at z
   have pw:s.getD (b+1) 0≠62:=by simpa using z
   have:CW s a nm l b=.error (b+1,12):=by unfold CW;rw[if_pos qB];simp only;rw[if_neg (by omega),if_pos pw]
   rw[CX]
   exact h1 _ _ (by rw[this]) _ _ _
  ·rw[LM 62 62 rfl] at z
   have pw:s.getD (b+1) 0=62:=by simpa using z
   have ht:CW s a nm l b=.ok ⟨3,nm,l,cut s a (b+2),a,b+2⟩:=by unfold CW;rw[if_pos qB];simp only;rw[if_neg (by omega),if_neg (by simpa using pw)];rfl
   have hk:=h2 [⟨3,nm,l,cut s a (b+2),a,b+2⟩] (by rw[ht];rfl)
   refine⟨s,b+2,a,encTs l0,hid,3,nm,l,ZG (IA l0),by omega,hs,by omega,n9,rfl,rfl,AA (fun q=>by cases q) fun _=> ?_⟩
   rw[Si,CJ];rw[Wf] at hk;exact hk
 ·have qA:s.getD b 0=62:=hc.resolve_right (by simpa using x)
  refine⟨rT 2 nm (encAs l),s,b,encTs l0,hid,a,ZG (IA l0),by omega,hs,rfl,rfl,fun y=>absurd y (by omega),fun y=>⟨s,b,encTs l0,hid,2,a,nm,l,_,ZG (IA l0),by omega,hs,rfl,rfl,fun z=>absurd z (by omega),fun _ z=> ?_,fun _ z=> ?_⟩⟩
  ·rw[LM 62 62 rfl,qA] at z;cases z
  ·have ht:CW s a nm l b=.ok ⟨2,nm,l,cut s a (b+1),a,b+1⟩:=by
    have xr:¬s.getD b 0=47:=by rw[qA];decide
    unfold CW;simp only[xr,if_false,Nat.add_zero];rw[if_neg (by omega),if_neg (by rw[qA];simp)];rfl
   rw[ht] at h1 h2;simp only at h1 h2
   refine⟨s,b+1,a,encTs l0,hid,2,nm,l,ZG (IA l0),by omega,hs,by omega,n9,rfl,rfl,AA (fun _=> ?_) fun q=>by cases q⟩
   have raw:∀(hn:nm=BC\/nm=Cp),(CY (Ae++nm) (s.drop (b+1))=none->Iz [] s KP ((a:Int),14))/\
     ∀n,CY (Ae++nm) (s.drop (b+1))=some n->(∀j,CY Al ((s.drop (b+1)).take n)=some j->nm=BC->Iz [] s KP (((b+1+j:Nat):Int),13))/\
      ((CY Al ((s.drop (b+1)).take n)=none\/nm≠BC)->K (.tup []) (hX s ((b+1+n:Nat):Int) (encTs (l0++[⟨2,nm,l,cut s a (b+1),a,b+1⟩,⟨7,[],[],(s.drop (b+1)).take n,b+1,b+1+n⟩])) hid)):=by
    intro hn
    have e:Fe s ⟨2,nm,l,cut s a (b+1),a,b+1⟩=match CY (Ae++nm) (s.drop (b+1)) with
      |none=>.error (a,14)
      |some n=>match CY Al ((s.drop (b+1)).take n),decide (nm=BC) with
       |some k,true=>.error (b+1+k,13)
       |_,_=>.ok [⟨2,nm,l,cut s a (b+1),a,b+1⟩,⟨7,[],[],(s.drop (b+1)).take n,b+1,b+1+n⟩]:=by
     unfold Fe;rw[if_pos ⟨rfl,hn⟩];rfl
    refine⟨fun hf=>h1 _ _ (by rw[e,hf]),fun n hf=>⟨fun j hj hr=>h1 _ _ (by rw[e,hf];simp only[hj,decide_eq_true hr]),fun Kx=> ?_⟩⟩
    refine h2 [⟨2,nm,l,cut s a (b+1),a,b+1⟩,⟨7,[],[],(s.drop (b+1)).take n,b+1,b+1+n⟩] (by
     rw[e,hf]
     rcases Kx with Kx|Kx
     ·simp only[Kx]
     ·simp only[decide_eq_false Kx]
      cases CY Al ((s.drop (b+1)).take n)<;>rfl)
   have fin:(nm=BC\/nm=Cp)->∃(TQ:List UInt8) (QI iS:Nat) (lV:List (List AV)) (dZ nT:Int) (Of:List UInt8) (ld:List A8),Ak.ED (rT nT Of (encAs ld)) lV/\QI<=TQ.length/\TQ.length<=1000000/\lV.length<=1000000/\Of.length<=1000000/\
     [AV.ptr 5 0,AV.str nm,AV.int .i64 (a:Int)]=[AV.ptr 5 0,AV.str Of,AV.int .i64 (iS:Int)]/\NT s ((b+1:Nat):Int) (encTs l0++[row 2 nm (encAs l) (some 6) (cut s a (b+1)) a ((b+1:Nat):Int)]) hid 2 nm (encAs l)=NT TQ QI lV dZ nT Of (encAs ld)/\
     (CY ([60,47,101,115,105,58]++Of) (List.drop QI TQ)=none->∀(a40:Int) (pr:List (List AV)) (dY:Int),KP ((iS:Int),14) [.grow 0 6 50,.mem 41 [.sl 6 [] (some 0)],.mem 3 [.int .i64 0],.mem 27 [.int .i64 0],.grow pr.length 6 50,.mem 89 [.str TQ,.int .i64 a40,.sl 6 (AB 6 (hX TQ a40 pr dY++rT nT Of (encAs ld)) pr) (some 4),.int .i64 dY]])/\
     ∀(ZI:Nat),CY ([60,47,101,115,105,58]++Of) (List.drop QI TQ)=some ZI->(∀(uf:Nat),CY [60,101,115,105,58] (List.take ZI (List.drop QI TQ))=some uf->Of=[114,101,109,111,118,101]->∀(uV:Int) (pq:List (List AV)) (dX:Int),KP (((QI+uf:Nat):Int),13) [.grow 0 6 50,.mem 41 [.sl 6 [] (some 0)],.mem 3 [.int .i64 0],.mem 27 [.int .i64 0],.grow pq.length 6 50,.mem 89 [.str TQ,.int .i64 uV,.sl 6 (AB 6 (hX TQ uV pq dX++rT nT Of (encAs ld)) pq) (some 4),.int .i64 dX]])/\
      (CY [60,101,115,105,58] (List.take ZI (List.drop QI TQ))=none\/Of≠[114,101,109,111,118,101]->K (.tup []) [.grow 0 6 50,.mem 41 [.sl 6 [] (some 0)],.mem 3 [.int .i64 0],.mem 27 [.int .i64 0],.grow (lV++[row 7 [] [] none (List.take ZI (List.drop QI TQ)) QI ((QI+ZI:Nat):Int)]).length 6 50,
       .mem 89 [.str TQ,.int .i64 ((QI+ZI:Nat):Int),.sl 6 (AB 6 [.grow 0 6 50,.mem 41 [.sl 6 [] (some 0)],.mem 3 [.int .i64 0],.mem 27 [.int .i64 0],.grow (lV++[row 7 [] [] none (List.take ZI (List.drop QI TQ)) QI ((QI+ZI:Nat):Int)]).length 6 50,
        .mem 89 [.str TQ,.int .i64 ((QI+ZI:Nat):Int),.sl 6 (lV++[row 7 [] [] none (List.take ZI (List.drop QI TQ)) QI ((QI+ZI:Nat):Int)]) (some 4),.int .i64 dZ],.grow (encAs ld).length 3 80,.grow 0 3 80,.mem 50 [.int .i64 nT,.str Of,.sl 3 (encAs ld) (some 6),.str [],.int .i64 0,.int .i64 0]]
        (lV++[row 7 [] [] none (List.take ZI (List.drop QI TQ)) QI ((QI+ZI:Nat):Int)])) (some 4),.int .i64 dZ]]):=by
    intro hn;obtain⟨r1,r2⟩:=raw hn
    refine⟨s,b+1,a,_,hid,2,nm,l,ZG bQ,by omega,hs,by rw[CJ,GK];unfold limE at hs;omega,VJ,rfl,rfl,fun hf a40 pr dY=>Ru (r1 hf) _ _ _ (FY _ _ _).symm _,fun n hf=>⟨fun j hj hr uV pq dX=>Ru ((r2 n hf).1 j hj hr) _ _ _ (FY _ _ _).symm _,fun Kx=> ?_⟩⟩
    have hk:=(r2 n hf).2 Kx;rw[gw,CJ,CJ]
    rw[show l0++[(⟨2,nm,l,cut s a (b+1),a,b+1⟩:Tok),⟨7,[],[],(s.drop (b+1)).take n,b+1,b+1+n⟩]=(l0++[⟨2,nm,l,cut s a (b+1),a,b+1⟩])++[⟨7,[],[],(s.drop (b+1)).take n,b+1,b+1+n⟩] by simp,Wf,GL,Ut,CJ] at hk
    exact hk
   refine AA (fun q=>fin (.inl (by simpa[BC] using q))) fun q1=>AA (fun q=>fin (.inr (by simpa[Cp] using q))) fun q2=> ?_
   have Kx:¬(nm=BC\/nm=Cp):=by
    rintro(h|h)
    ·subst h;simp[BC] at q1
    ·subst h;simp[Cp] at q2
   have hk:=h2 [⟨2,nm,l,cut s a (b+1),a,b+1⟩] (by unfold Fe;rw[if_neg (fun h=>Kx h.2)])
   rw[Si,CJ];rw[Wf] at hk;exact hk
theorem Zg (l:List A8)(a:A8):encAs (l++[a])=encAs l++[Ao a]:=by unfold encAs;rw[List.map_append];rfl
theorem cW {K:AV->Hp->Prop}{KP:PX->Hp->Prop}{s:List UInt8}{a:Nat}{l0:List Tok}{hid:Int}{nm:List UInt8}(hs:s.length<=limE)(ZV:l0.length<s.length)(VJ:nm.length<=limE):
  ∀(f b:Nat) (l:List A8),s.length-b<f->a<=b->b<=s.length->l.length<=b->
  (∀p e,(match A7 s a f b l with|.error e=>.error e|.ok (l',b')=>(match CW s a nm l' b' with|.error e=>.error e|.ok t=>Fe s t):Except S8 (List Tok))=.error (p,e)->Iz [] s KP ((p:Int),e))->
  (∀ts,(match A7 s a f b l with|.error e=>.error e|.ok (l',b')=>(match CW s a nm l' b' with|.error e=>.error e|.ok t=>Fe s t):Except S8 (List Tok))=.ok ts->K (.tup []) (hX s ((Bd ts (a+1):Nat):Int) (encTs (l0++ts)) hid))->
  FU cfg 56 (AD Tryz.f56) (Fa Tryz.prog Tryz.f56 DU 6 K KP) [.code [0,0,1,1,1],.block 0,.code [1,1,1,1]] .normal [(0,true,.ptr 5 0),(2,true,.int .i64 a),(3,true,.ptr 8 0)] (NT s (b:Nat) (encTs l0) hid 2 nm (encAs l))
 |0,b,l,hf,_,_,_,_,_=>by omega
 |f+1,b,l,hf,Qv,hb,hl,h1,h2=>by
  obtain⟨p1,p2⟩:=EL hb
  have ew:(((past s b-b:Nat):Int)==0)=decide (past s b=b):=by
   rw[Bool.eq_iff_iff];simp;omega
  refine qh ak ⟨s,b,encTs l0,hid,2,nm,l,ZG (IA l0),hb,hs,rfl,rfl,rT 2 nm (encAs l),s,past s b,encTs l0,hid,a,ZG (IA l0),p2,hs,rfl,rfl,fun x=> ?_,fun x=> ?_⟩
  ·rw[A7] at h1
   try simp only at h1
   rw[if_pos (by omega)] at h1
   rw[CX];exact h1 _ _ rfl _ _ _
  rw[A7] at h1 h2
  try simp only at h1 h2
  rw[if_neg (by omega)] at h1 h2
  rw[LM 62 62 rfl,LM 47 47 rfl,ew]
  refine AA (fun y=> ?_) fun y=>AA (fun z=> ?_) fun z=>AA (fun w=> ?_) fun w=> ?_
  ·have hc:s.getD (past s b) 0=62\/s.getD (past s b) 0=47:=.inl (by simpa using y)
   rw[if_pos hc] at h1 h2
   exact aW hs ZV VJ (by omega) x hc h1 h2
  ·have hc:s.getD (past s b) 0=62\/s.getD (past s b) 0=47:=.inr (by simpa using z)
   rw[if_pos hc] at h1 h2
   exact aW hs ZV VJ (by omega) x hc h1 h2
  ·have hc:¬(s.getD (past s b) 0=62\/s.getD (past s b) 0=47):=by
    rintro(h|h)
    ·rw[h] at y;simp at y
    ·rw[h] at z;simp at z
   rw[if_neg hc,if_pos (by simpa using w)] at h1
   refine⟨past s b,12,rfl,?_⟩
   rw[CX,show past s b=b by simpa using w]
   exact h1 _ _ rfl _ _ _
  ·have hc:¬(s.getD (past s b) 0=62\/s.getD (past s b) 0=47):=by
    rintro(h|h)
    ·rw[h] at y;simp at y
    ·rw[h] at z;simp at z
   have hw:¬past s b=b:=by simpa using w
   rw[if_neg hc,if_neg hw] at h1 h2
   refine⟨s,past s b,encTs l0,hid,a,2,a,nm,l,ZG (IA l0),p2,hs,by show l.length<=limE;omega,rfl,rfl,rfl,fun p e he zD zH vD=> ?_,fun at' b' he=>⟨rfl,AF ?_ ?_⟩⟩
   ·rw[he] at h1;exact Ru (h1 _ _ rfl) _ _ _ (FY _ _ _).symm _
   ·have:(encAs l).length=l.length:=by simp[encAs]
    simp only[Bf,List.getElem?_cons_succ,List.getElem?_cons_zero,Nat.beq_refl,Bool.and_self,Bool.true_and,Bool.and_true]
    rw[decide_eq_true (by rw[this];unfold limE at hs;omega)]
   ·obtain⟨q1,q2⟩:=LP he;rw[he] at h1 h2;simp only at h1 h2
    have:=cW hs ZV VJ f b' (l++[at']) (by omega) (by omega) q2 (by simp;omega) h1 h2
    rw[Zg] at this;unfold NT at this;rw[CJ] at this;exact this
theorem ya :IU cfg DU 56 OY:=by
 refine Ec tS fun vs h K KP ht=> ?_
 obtain⟨s,a,l,hid,hh,ha,hs,hl,rfl,rfl,h1,h2⟩:=ht
 have h6:a+5<=s.length:=DC hh (by decide)
 have e6:IntKind.wrap .i64 ((a:Int)+5)=((a+5:Nat):Int):=wrap_add (b:=5) (by omega)
 have dT:=C8 s (a+5);unfold Kr Dh at h1 h2;simp only at h1 h2
 refine t37 ak ⟨s,a+5,encTs l,hid,a,ud l,h6,hs,rfl,by rw[e6],fun hk a7 L8 sv=> ?_,fun hk=> ?_⟩
 ·rw[if_pos hk] at h1;exact bl (h1 _ _ rfl) _ _ _ _
 ·rw[if_neg (by rw[hk];simp)] at h1 h2
  have hn:lets s (a+5)<=limE:=by omega
  refine cW hs (by omega) (by rw[List.length_take,List.length_drop];omega) (s.length+1) _ [] (by omega) (by omega) (by omega) (by simp) (fun p e he=>h1 p e ?_) fun ts he=>h2 ts ?_
  ·rw[<-he]
   cases A7 s a (s.length+1) (a+5+lets s (a+5)) [] with
   |error e=>rfl
   |ok r=>rfl
  ·rw[<-he]
   cases A7 s a (s.length+1) (a+5+lets s (a+5)) [] with
   |error e=>rfl
   |ok r=>rfl
def mA (x:PX):List PanicEntry:=[{v:=.iface 86 (.agg #[.int .i64 x.1,.int .i64 x.2]),recovered:=false}]
theorem Wr (p e:Int)(w:World):Calls Tryz.prog 39 #[.int .i64 p,.int .i64 e] w fun en w'=>en=.panicked (mA (p,e))/\w'=w:=by
 go_enter Tryz.func39,Tryz.f39
 go_wp
 first|exact⟨rfl,rfl,rfl⟩|exact⟨rfl,rfl⟩
theorem jx {I:World->Prop}{B0:Nat}:iK cfg I B0 mA DU:=by
 intro k vs x h;unfold DU at h;split at h
 ·rename_i p e hk;have hk:=Nat.eq_of_beq_eq_true hk;subst hk
  injection h with h
  subst h
  refine⟨⟨Tryz.f39,Tryz.func39,by kernel_rfl,by kernel_rfl⟩,fun E args H hr=> ?_⟩
  obtain⟨a,r,rfl,rfl,b,r2,rfl,rfl,rfl⟩:=hr
  exact(Wr p e E.w).mono fun en w' ⟨h1,h2⟩=>⟨h1,E,h2.symm,Step.refl H,rfl⟩
 ·cases h
theorem aS (a0 a1 a2:Value)(w:World):CallsD Tryz.prog 36 #[a0,a1,a2] .returning w fun en u w'=>(∃v,en=.returned v)/\u=.returning/\w'=w:=by
 refine callsD_of_wpS Tryz.func36 rfl fun c₀ cs hc=> ?_
 simp only[Tryz.f36,List.size_toArray,List.length_cons,List.length_nil,Nat.reduceAdd,Nat.reduceSub,Array.replicate_succ,Array.replicate_zero,List.push_toArray,List.append_toArray,List.nil_append,List.cons_append];refine wpS_seq (wpS_region ?_)
 have hr:recoverD (c₀::cs)=none:=by simp[recoverD,hc]
 simp[wpOpsS,go_sem,hr,List.range,List.range.loop];refine wpS_of_wp ?_
 go_wp
 simp only[bodyPostS];refine⟨trivial,c₀.mode,rfl,.tuple #[],results_none rfl _ _ _,⟨_,rfl⟩,hc,trivial⟩
theorem jr {P:Program}{o:Oper}{Q:Exit->Act->List Frame->World->Prop}{a:Act}{cs Fu:List Frame}{v:Value}{w:World}(hg:o.guard=none){CG:Array TypeId}(Bc:o.op=.call {callee:=.builtin .recover,args:= #[],argTypes:=CG})
  (hr:recoverD cs=some (v,Fu)) (h:Q .normal (a.put o.dst v) Fu w):wpOpsS P #[o] Q (List.range (#[o]:Array Oper).size) a cs w:=by
 obtain⟨d,op,ty,pos,after,gd⟩:=o;simp only at hg Bc;subst hg;subst Bc;simp[wpOpsS,go_sem,hr,List.range,List.range.loop];exact h
theorem aU {I:World->Prop}{B0:Nat}(S0:Sound cfg I B0)(p e:Int){h h2:Hp}(CU:AE cfg 36 (AD Tryz.f36) (fun _ h'=>h'=h2) [.code [1]] .normal [(0,true,.ptr 1 0),(1,true,.ptr 2 0),(2,true,.ptr 3 0),(6,true,.iface 86 (.agg [.int .i64 p,.int .i64 e]))] h):
  XK cfg I B0 mA 36 [.ptr 1 0,.ptr 2 0,.ptr 3 0] (p,e) h h2:=by
 intro E vals H hE hr;obtain⟨x,F',h',⟨n0,hx⟩,he,hq⟩:=CU;have hq:h'=h2:=hq;subst hq
 refine callsD_of_wpS Tryz.func36 rfl fun c₀ cs hc=> ?_
 have KU:=LQ hr 16;obtain⟨a0,r0,rfl,k0,a1,r1,rfl,k1,a2,r2,rfl,k2,rfl⟩:=hr
 have gW:recoverD (c₀::cs)=some (.iface 86 (.agg #[.int .i64 p,.int .i64 e]),{c₀ with mode:=.panicking [{v:=.iface 86 (.agg #[.int .i64 p,.int .i64 e]),recovered:=true}]}::cs):=by simp[recoverD,hc,mA]
 have WT:AO E (Aq (DY 0 [.ptr 1 0,.ptr 2 0,.ptr 3 0]) (some 6) (true,.iface 86 (.agg [.int .i64 p,.int .i64 e]))) (({tmps:= #[a0,a1,a2]++Array.replicate (16-(#[a0,a1,a2]:Array Value).size) undef,defers:=[]}:Act).put (some 6) (.iface 86 (.agg #[.int .i64 p,.int .i64 e]))):=
  AO.put KU (n:=16) (by kernel_rfl) (by simp) (fun _=>⟨_,rfl,_,rfl,_,_,rfl,rfl,rfl,_,_,rfl,rfl,rfl,rfl⟩) (fun h=>by cases h)
 have nw:AO E [(0,true,.ptr 1 0),(1,true,.ptr 2 0),(2,true,.ptr 3 0),(6,true,.iface 86 (.agg [.int .i64 p,.int .i64 e]))] (({tmps:= #[a0,a1,a2]++Array.replicate (16-(#[a0,a1,a2]:Array Value).size) undef,defers:=[]}:Act).put (some 6) (.iface 86 (.agg #[.int .i64 p,.int .i64 e]))):=by
  refine WT.eq fun n=> ?_
  simp only[Aq,DY,lk]
  by_cases h6:n=6
  ·subst h6;rfl
  ·have e6:Nat.beq 6 n=false:=by
    cases hb:Nat.beq 6 n with
    |false=>rfl
    |true=>exact absurd (Nat.eq_of_beq_eq_true hb).symm h6
   rw[e6];rfl
 have Il:=S0.YP 36 Tryz.f36 _ (by kernel_rfl) (by kernel_rfl) (by kernel_rfl) Tryz.func36 rfl
 have kr:Bj cfg.P Tryz.f36.ntmps (cfg.Gq 36) (Ab (AD Tryz.f36) [1])=true:=by
  have h3:Bj cfg.P Tryz.f36.ntmps (cfg.Gq 36) (.seq (Ab (AD Tryz.f36) [0]) (Ab (AD Tryz.f36) [1]))=true:=Il;simp only[Bj,Bool.and_eq_true] at h3;exact h3.2
 have main:=Pp S0 n0 36 _ _ _ x F' h' _ (hx n0 (Nat.le_refl _)) kr E _ hE H nw (by rw[show Tryz.f36.ntmps=16 from rfl];simp[Act.put])
 refine wpS_seq (wpS_region (jr rfl rfl gW ?_))
 refine wpS_of_wp (main _ fun E' a' S Gn F7 hs hd=> ?_)
 have Z9:a'.defers=[]:=hd.resolve_left (by rw[show cfg.Cs 36=false by kernel_rfl];simp)
 have fin:a'.defers=[]/\∃u',({c₀ with mode:=.panicking [{v:=.iface 86 (.agg #[.int .i64 p,.int .i64 e]),recovered:=true}]}:Frame)::cs={c₀ with mode:=u'}::cs/\∃v,(results Tryz.f36 a'.tmps).run Tryz.prog E'.w=.ok v E'.w/\
   ((∃r,(Ending.returned v)=.returned r)/\settle u'=.returning/\∃E2,E2.w=E'.w/\Step cfg.G I B0 E E2/\E2.h=h'):=
  ⟨Z9,_,rfl,.tuple #[],results_none rfl _ _ _,⟨_,rfl⟩,rfl,E',rfl,S,Gn⟩
 cases x with
 |normal=>exact fin
 |ret=>exact fin
 |_=>cases he
end Go.Proofs.YtopjpnhgnopbiaaGreatDoor.Lx
end
section
namespace Go.Ai.Ex
open Go.Ai Go.RowKit
def Gb :Option Nat->Int
 |some h=>h
 |none=> -1
def UL :Except S8 (List Tok)->AV
 |.ok l=>.tup [.sl 6 (encTs l) none,.int .i64 0,.int .i64 0]
 |.error (p,e)=>.tup [.sl 0 [] none,.int .i64 p,.int .i64 e]
theorem SS (hid:Option Nat):decide (0<=Gb hid)=hid.isSome:=by
 cases hid with
 |none=>rfl
 |some h=>simp[Gb]
theorem br {s:List UInt8}{tag:Nat}{t:Tok}(hl:tag+5<=s.length)(h:Dh s tag=.ok t):tag+6<=t.to/\t.to<=s.length:=by
 unfold Dh at h;simp only at h;split at h
 ·cases h
 ·have hn:=C8 s (tag+5);split at h
  ·cases h
  ·rename_i l b hb
   obtain⟨q1,q2⟩:=MT _ _ _ _ _ (by omega) hb
   obtain⟨k1,k2,k3,k4,k5,k6⟩:=QT h
   exact⟨by omega,k6⟩
def fwd (s:List UInt8)(a:Nat)(ts:List Tok):Prop:=a+ts.length<=Bd ts (a+1)/\a<Bd ts (a+1)/\Bd ts (a+1)<=s.length
theorem Y9 {s:List UInt8}{a:Nat}{ts:List Tok}(hl:a+5<=s.length)(h:Kr s a=.ok ts):fwd s a ts:=by
 unfold Kr at h;split at h
 ·cases h
 ·rename_i t ht;obtain⟨q1,q2⟩:=br hl ht
  rcases Kj h with ⟨_,rfl⟩|⟨_,_,n,hf,rfl⟩
  ·simp only[fwd,Bd,List.getLast?_singleton,List.length_singleton];omega
  ·have:=HE hf;rw[List.length_drop,List.length_append] at this;have e:Bd [t,⟨7,[],[],(s.drop t.to).take n,t.to,t.to+n⟩] (a+1)=t.to+n:=rfl;simp only[fwd,e,List.length_cons,List.length_nil];omega
theorem Zj {s:List UInt8}{a:Nat}{t:Tok}(hl:a+6<=s.length)(h:BV s a=.ok t):fwd s a [t]:=by
 obtain⟨_,_,_,_,_,q1,q2⟩:=GM hl h;have e:Bd [t] (a+1)=t.to:=rfl;simp only[fwd,e,List.length_cons,List.length_nil];omega
def lG :Option Nat->Except S8 (List Tok)
 |some h=>.error (h,14)
 |none=>.ok []
theorem MA (s:List UInt8)(f a:Nat)(hid:Option Nat):Ce s (f+1) a hid=
  if s.length<=a then lG hid else
  if spec s a hid.isSome=true then
   match CH s a hid with
   |.error e=>.error e
   |.ok (l,Eg)=>match Ce s f (Bd l (a+1)) Eg with
    |.error e=>.error e
    |.ok r=>.ok (l++r)
  else
   match Ce s f (BM s hid.isSome (s.length-a) a) hid with
   |.error e=>.error e
   |.ok r=>.ok (⟨1,[],[],cut s a (BM s hid.isSome (s.length-a) a),a,BM s hid.isSome (s.length-a) a⟩::r):=by
 rw[Ce.eq_def]
 cases hid<;>rfl
theorem MB {s:List UInt8}{fr a:Nat}{hid:Option Nat}{f:Nat}(xQ:fr<=a)(ha:a<=s.length)(Kx:∀j,fr<=j->j<a->spec s j hid.isSome=false)(nn:a=s.length\/spec s a hid.isSome=true)(hf:s.length-fr<f):
  ∃g,s.length-a<g/\Ce s f fr hid=match Ce s g a hid with|.error e=>.error e|.ok r=>.ok (DH s fr a++r):=by
 rcases Nat.eq_or_lt_of_le xQ with rfl|As
 ·refine⟨f,hf,?_⟩
  rw[DH,if_neg (by omega)]
  cases Ce s f fr hid<;>rfl
 ·cases f with
  |zero=>omega
  |succ f=>
   refine⟨f,by omega,?_⟩
   have ht:BM s hid.isSome (s.length-fr) fr=a:=by
    have:=QS (s:=s) (hid:=hid.isSome) (a-fr) (s.length-fr) fr (fun j hj=>Kx (fr+j) (by omega) (by omega)) (by omega) (by rw[show fr+(a-fr)=a by omega];exact nn) (by omega)
    rw[this];omega
   have h0:spec s fr hid.isSome=false:=Kx fr (Nat.le_refl _) As
   rw[MA,if_neg (by omega),if_neg (by rw[h0];simp)]
   simp only[ht];rw[DH,if_pos As]
   cases Ce s f a hid<;>rfl
theorem Qk {s:List UInt8}{a:Nat}{hid:Option Nat}{g:Nat}(ha:a<s.length)(D8:spec s a hid.isSome=true):Ce s (g+1) a hid=match CH s a hid with|.error e=>.error e|.ok (l,Eg)=>(match Ce s g (Bd l (a+1)) Eg with|.error e=>.error e|.ok r=>.ok (l++r)):=by
 rw[MA,if_neg (by omega),if_pos D8]
end Go.Ai.Ex
namespace Go.Proofs.YtopjpnhgnopbiaaGreatDoor.Lx
open Go.Ai Go Go.Ai.Ex
set_option maxRecDepth 100000
theorem uN :CP cfg 37 PM:=by
 intro l h K ht;obtain⟨s,a,l',hid,ha,hs,e1,rfl,h0,h1,h2,h3,h4⟩:=ht;refine yh l _ K ⟨s,a,l',hid,ha,hs,e1,rfl,?_⟩;unfold Q6;unfold D9 at h0 h1 h2 h3 h4
 by_cases q1:has s Al a=true
 ·rw[if_pos q1] at h1⊢;exact h1 rfl
 rw[if_neg q1] at h0 h2 h3 h4⊢
 by_cases q2:has s Ae a=true
 ·rw[if_pos q2] at h2⊢;exact h2 rfl
 rw[if_neg q2] at h0 h3 h4⊢
 by_cases q3:Cz s a=true
 ·rw[if_pos q3] at h3⊢;exact h3 rfl
 rw[if_neg q3] at h0 h4⊢
 by_cases q4:(has s Bq a&&decide (0<=hid))=true
 ·rw[if_pos q4] at h4⊢;exact h4 rfl
 ·rw[if_neg q4] at h0⊢;exact h0 rfl
theorem TH :B8 cfg DU (DW [(37,PM),(38,Nz),(60,OF)] [(39,Ch),(56,OY),(57,LJ),(59,PA)]):=
 Ev (AG uN (AG yg (AG yX AN))) (BL iB (BL ya (BL yZ (BL yY Ej))))
def M8 :List AV:=[.ptr 1 0,.ptr 2 0,.ptr 3 0]
theorem qz (x:AV)(r:List AV):rd cfg.P 41 (x::r)=some x:=by kernel_rfl
theorem vl (x:AV)(r:List AV):rd cfg.P 3 (x::r)=some x:=by kernel_rfl
theorem qy (x:AV)(r:List AV):rd cfg.P 27 (x::r)=some x:=by kernel_rfl
theorem mw {F:Fr}(h2:lk F 2=(true,.ptr 1 0))(h3:lk F 3=(true,.ptr 2 0))(h4:lk F 4=(true,.ptr 3 0))(x0:Blk)(x y z:AV)(r:Hp):result cfg.P Tryz.f17 F (x0:: .mem 41 [x]:: .mem 3 [y]:: .mem 27 [z]::r)=some (.tup [x,y,z]):=by
 have e:Tryz.f17.results.toList=[.cell 2 41,.cell 3 3,.cell 4 27]:=rfl;unfold result;rw[e];simp only[Jz,OJ,h2,h3,h4,List.getElem?_cons_succ,List.getElem?_cons_zero,List.drop_zero,qz,vl,qy,Option.map_some,Bool.and_self]
section
variable {I:World->Prop}{B0:Nat}
def qE (v:AV):Fr->Hp->Prop:=fun F h=>(lk F dS).2=.Cs [.fn (.func 36) [] M8]/\∃u,result cfg.P Tryz.f17 F h=some u/\stripR 0 h u=v
def pE (I:World->Prop)(B0:Nat)(v:AV):Fr->PX->Hp->Prop:=fun F x h=>(lk F dS).2=.Cs [.fn (.func 36) [] M8]/\∃h2 u,XK cfg I B0 mA 36 M8 x h h2/\result cfg.P Tryz.f17 F h2=some u/\stripR 0 h2 u=v
theorem fz (S0:Sound cfg I B0){v:AV}{F:Fr}{s:List UInt8}{p e:Int}(hd:(lk F dS).2=.Cs [.fn (.func 36) [] M8])(h2:lk F 2=(true,.ptr 1 0))(h3:lk F 3=(true,.ptr 2 0))(h4:lk F 4=(true,.ptr 3 0))
  (hv:v=.tup [.sl 0 [] none,.int .i64 p,.int .i64 e]) (a:Int) (L:List (List AV)) (hid:Int):pE I B0 v F (p,e) (hX s a L hid):=by
 refine⟨hd,_,_,aU S0 p e (t22 J7 rfl),mw h2 h3 h4 _ _ _ _ _,?_⟩;rw[hv];rfl
theorem XO (S0:Sound cfg I B0){v:AV}{s:List UInt8}{fr:Nat}{l:List Tok}{hid:Option Nat}(hs:s.length<=limE)(KU:fr<=s.length)(hl:l.length<=s.length)(Kx:∀j,fr<=j->j<s.length->spec s j hid.isSome=false){f:Nat}(hf:s.length-fr<f)
  (hv:v=UL (match Ce s f fr hid with|.error e=>.error e|.ok r=>.ok (l++r))):
  FU cfg 17 (AD Tryz.f17) (QP.mk DU (qE v) (pE I B0 v)) [.code [1,1,1,1,1]] .normal [(2,true,.ptr 1 0),(3,true,.ptr 2 0),(4,true,.ptr 3 0),(5,true,.ptr 5 0),(6,true,.int .i64 fr),(1000000,true,.Cs [.fn (.func 36) [] M8])] (hX s (s.length:Nat) (encTs l) (Gb hid)):=by
 obtain⟨g,hg,e⟩:=MB (f:=f) KU (Nat.le_refl _) Kx (.inl rfl) hf
 obtain⟨g,rfl⟩:∃k,g=k+1:=⟨g-1,by omega⟩
 have eg:Ce s (g+1) s.length hid=lG hid:=by
  rw[MA,if_pos (Nat.le_refl _)]
 rw[e,eg] at hv
 refine qu TH ⟨s,fr,s.length,l,Gb hid,KU,Nat.le_refl _,hs,hl,rfl,rfl,AA (fun x=>⟨_,14,rfl,?_⟩) fun x=> ?_⟩
 ·cases hid with
  |none=>simp[Gb] at x
  |some h=>exact fz S0 rfl rfl rfl rfl hv _ _ _
 ·cases hid with
  |some h=>simp[Gb] at x
  |none=>
   simp only[lG,List.append_nil] at hv;refine⟨rfl,_,mw rfl rfl rfl _ _ _ _ _,?_⟩;rw[hv];show AV.tup [.sl 6 (AB 0 _ (encTs (l++DH s fr s.length))) none,.int .i64 0,.int .i64 0]=_;rw[CX];rfl
theorem aQ (S0:Sound cfg I B0){v:AV}{s:List UInt8}(hs:s.length<=limE):∀(n a fr:Nat) (l:List Tok) (hid:Option Nat) (f:Nat),s.length-a<=n->fr<=a->a<=s.length->l.length<=fr->(∀j,fr<=j->j<a->spec s j hid.isSome=false)->s.length-fr<f->
  v=UL (match Ce s f fr hid with|.error e=>.error e|.ok r=>.ok (l++r))->
  FU cfg 17 (AD Tryz.f17) (QP.mk DU (qE v) (pE I B0 v)) [.code [0,0,1,1,1,1],.block 0,.code [1,1,1,1,1]] .normal [(0,true,.str s),(2,true,.ptr 1 0),(3,true,.ptr 2 0),(4,true,.ptr 3 0),(5,true,.ptr 5 0),(6,true,.int .i64 fr),(1000000,true,.Cs [.fn (.func 36) [] M8])] (hX s (a:Nat) (encTs l) (Gb hid)):=by
 intro n
 induction n with
 |zero=>
  intro a fr l hid f hn KU ha hl Kx hf hv
  have:a=s.length:=by omega
  subst this
  refine jg TH (AA (fun x=>by simp at x) fun x=> ?_)
  exact XO S0 hs KU (by omega) Kx hf hv
 |succ n ih=>
  intro a fr l hid f hn KU ha hl Kx hf hv
  by_cases vK:a=s.length
  ·subst vK
   refine jg TH (AA (fun x=>by simp at x) fun x=> ?_)
   exact XO S0 hs KU (by omega) Kx hf hv
  have As:a<s.length:=by omega
  have UR:spec s a hid.isSome=decide (D9 s a hid.isSome≠0):=by
   unfold spec D9
   cases has s Al a<;>cases has s Ae a<;>cases Cz s a<;>cases has s Bq a<;>cases hid.isSome<;>rfl
  have take:∀(ts:List Tok) (Eg:Option Nat),spec s a hid.isSome=true->CH s a hid=.ok (ts,Eg)->fwd s a ts->
    FU cfg 17 (AD Tryz.f17) (QP.mk DU (qE v) (pE I B0 v)) [.code [0,0,1,1,1,1],.block 0,.code [1,1,1,1,1]] .normal [(0,true,.str s),(2,true,.ptr 1 0),(3,true,.ptr 2 0),(4,true,.ptr 3 0),(5,true,.ptr 5 0),(6,true,.int .i64 ((Bd ts (a+1):Nat):Int)),(1000000,true,.Cs [.fn (.func 36) [] M8])]
     (hX s ((Bd ts (a+1):Nat):Int) (encTs ((l++DH s fr a)++ts)) (Gb Eg)):=by
   intro ts Eg D8 Sy xN;obtain⟨w1,w2,w3⟩:=xN;obtain⟨g,hg,e⟩:=MB (f:=f) KU ha Kx (.inr D8) hf
   obtain⟨g,rfl⟩:∃k,g=k+1:=⟨g-1,by omega⟩
   rw[Qk As D8,Sy] at e;simp only at e
   have wL:(DH s fr a).length<=a-fr:=by
    unfold DH;split
    ·simp;omega
    ·simp
   refine ih (Bd ts (a+1)) (Bd ts (a+1)) _ Eg g (by omega) (Nat.le_refl _) w3 ?_ (fun j h1 h2=>by omega) (by omega) ?_
   ·simp only[List.length_append];omega
   ·rw[hv,e]
    cases Ce s g (Bd ts (a+1)) Eg with
    |error e=>rfl
    |ok r=>simp only[List.append_assoc]
  have bad:∀(p:Nat) (e:Int),spec s a hid.isSome=true->CH s a hid=.error (p,e)->v=.tup [.sl 0 [] none,.int .i64 p,.int .i64 e]:=by
   intro p e D8 Sy;obtain⟨g,hg,eq⟩:=MB (f:=f) KU ha Kx (.inr D8) hf
   obtain⟨g,rfl⟩:∃k,g=k+1:=⟨g-1,by omega⟩
   rw[Qk As D8,Sy] at eq;rw[hv,eq];rfl
  have dT:(l++DH s fr a).length<=a:=by
   have wL:(DH s fr a).length<=a-fr:=by
    unfold DH;split
    ·simp;omega
    ·simp
   simp only[List.length_append];omega
  refine jg TH (AA (fun _=>⟨s,a,l,Gb hid,ha,hs,rfl,rfl,fun q=> ?_,fun q=> ?_,fun q=> ?_,fun q=> ?_,fun q=> ?_⟩) fun x=>by simp at x;omega)
  all_goals rw[SS] at q
  ·rw[EE (by omega)]
   refine ih (a+1) fr l hid f (by omega) (by omega) (by omega) hl (fun j h1 h2=> ?_) hf hv
   rcases Nat.lt_or_ge j a with h|h
   ·exact Kx j h1 h
   ·have:j=a:=by omega
    subst this;rw[UR,q];rfl
  ·have D8:spec s a hid.isSome=true:=by rw[UR,q];rfl
   have ho:has s Al a=true:=by
    unfold D9 at q
    by_cases h:has s Al a=true
    ·exact h
    ·rw[if_neg h] at q;split at q<;>(try split at q)<;>(try split at q)<;>omega
   have h5:a+5<=s.length:=DC ho (by decide)
   have Sy:CH s a hid=match Kr s a with|.error e=>.error e|.ok ts=>.ok (ts,hid):=by
    unfold CH Kr;rw[if_pos ho]
    cases Dh s a with
    |error e=>rfl
    |ok t=>simp only;cases Fe s t<;>rfl
   refine⟨s,fr,a,l,Gb hid,KU,ha,hs,by omega,rfl,rfl,s,a,_,Gb hid,ho,ha,hs,by omega,rfl,rfl,fun p e he yn yo oD=>fz S0 rfl rfl rfl rfl (bad p e D8 (by rw[Sy,he])) _ _ _,fun ts he=> ?_⟩
   exact take ts hid D8 (by rw[Sy,he]) (Y9 h5 he)
  ·have D8:spec s a hid.isSome=true:=by rw[UR,q];rfl
   have ho:¬has s Al a=true:=fun h=>by unfold D9 at q;rw[if_pos h] at q;cases q
   have hc:has s Ae a=true:=by
    unfold D9 at q;rw[if_neg ho] at q
    by_cases h:has s Ae a=true
    ·exact h
    ·rw[if_neg h] at q;split at q<;>(try split at q)<;>omega
   have h6:a+6<=s.length:=DC hc (by decide)
   have Sy:CH s a hid=match BV s a with|.error e=>.error e|.ok t=>.ok ([t],hid):=by
    unfold CH;rw[if_neg ho,if_pos hc]
    cases BV s a<;>rfl
   refine⟨s,fr,a,l,Gb hid,KU,ha,hs,by omega,rfl,rfl,s,a,_,Gb hid,hc,ha,hs,by omega,rfl,rfl,fun p e he yn yo oD=>fz S0 rfl rfl rfl rfl (bad p e D8 (by rw[Sy,he])) _ _ _,fun t he=> ?_⟩
   exact take [t] hid D8 (by rw[Sy,he]) (Zj h6 he)
  ·have D8:spec s a hid.isSome=true:=by rw[UR,q];rfl
   have ho:¬has s Al a=true:=fun h=>by unfold D9 at q;rw[if_pos h] at q;cases q
   have hc:¬has s Ae a=true:=fun h=>by unfold D9 at q;rw[if_neg ho,if_pos h] at q;cases q
   have hh:Cz s a=true:=by
    unfold D9 at q;rw[if_neg ho,if_neg hc] at q
    by_cases h:Cz s a=true
    ·exact h
    ·rw[if_neg h] at q;split at q<;>omega
   have h8:a+8<=s.length:=by
    unfold Cz at hh;simp only[Bool.and_eq_true,decide_eq_true_eq] at hh;omega
   have Sy:CH s a hid=if hid.isSome=true then .error (a,13) else .ok ([⟨5,[],[],cut s a (a+8),a,a+8⟩],some a):=by
    unfold CH;rw[if_neg ho,if_neg hc,if_pos hh]
   refine⟨s,fr,a,l,Gb hid,KU,ha,hs,by omega,rfl,rfl,s,a,_,Gb hid,h8,hs,by omega,rfl,rfl,fun hp a53 zG vC=> ?_,fun hp=> ?_⟩
   ·have:hid.isSome=true:=by rw[<-SS];simpa using hp
    rw[if_pos this] at Sy;exact fz S0 rfl rfl rfl rfl (bad a 13 D8 Sy) _ _ _
   ·have:¬hid.isSome=true:=by rw[<-SS];simp;omega
    rw[if_neg this] at Sy
    exact take [⟨5,[],[],cut s a (a+8),a,a+8⟩] (some a) D8 Sy ⟨by show a+1<=a+8;omega,by show a<a+8;omega,h8⟩
  ·have D8:spec s a hid.isSome=true:=by rw[UR,q];rfl
   have ho:¬has s Al a=true:=fun h=>by unfold D9 at q;rw[if_pos h] at q;cases q
   have hc:¬has s Ae a=true:=fun h=>by unfold D9 at q;rw[if_neg ho,if_pos h] at q;cases q
   have hh:¬Cz s a=true:=fun h=>by unfold D9 at q;rw[if_neg ho,if_neg hc,if_pos h] at q;cases q
   have hw:has s Bq a=true:=(Ld D8 ho hc hh).1
   have h3:a+3<=s.length:=DC hw (by decide)
   have MJ:cut s a (a+3)=Bq:=by
    have:=List.prefix_iff_eq_take.1 (List.isPrefixOf_iff_prefix.1 hw);rw[Eu];exact this.symm
   have Sy:CH s a hid=.ok ([⟨6,[],[],cut s a (a+3),a,a+3⟩],none):=by
    unfold CH;rw[if_neg ho,if_neg hc,if_neg hh,MJ]
   refine⟨s,fr,a,l,Gb hid,KU,ha,hs,by omega,rfl,rfl,s,a,_,Gb hid,h3,hs,by omega,rfl,rfl,?_⟩
   exact take [⟨6,[],[],cut s a (a+3),a,a+3⟩] none D8 Sy ⟨by show a+1<=a+3;omega,by show a<a+3;omega,h3⟩
theorem VY (S0:Sound cfg I B0){s:List UInt8}(hs:s.length<=limE):FU cfg 17 (AD Tryz.f17) (my cfg I B0 mA DU Tryz.f17 36 M8 (UL (lexM s))) [.code []] .normal (DY 0 [.str s]++[(dS,true,.Cs [])]) []:=by
 show FU cfg 17 (AD Tryz.f17) (QP.mk DU (qE (UL (lexM s))) (pE I B0 (UL (lexM s)))) [.code []] .normal [(0,true,.str s),(1000000,true,.Cs [])] []
 refine t15 TH (aQ S0 hs s.length 0 0 [] none (s.length+1) (by omega) (by omega) (by omega) (by simp) (fun j _ h=>by omega) (by omega) ?_)
 unfold lexM
 cases Ce s (s.length+1) 0 none<;>rfl
def WK :List AV->Option (Bool×AV)
 |[.str s]=>some (Nat.ble s.length 1000000,UL (lexM s))
 |_=>none
theorem Xt (S0:Sound cfg I B0):EK Tryz.prog cfg.G I B0 17 WK:=by
 intro vs v hv E args hE hB H hr;unfold WK at hv;split at hv
 ·rename_i s;simp only[Option.some.injEq,Prod.mk.injEq] at hv;obtain⟨hs,rfl⟩:=hv
  refine Yt S0 jx (by kernel_rfl) (by kernel_rfl) (by kernel_rfl) Tryz.func17 (by kernel_rfl) (by kernel_rfl) ⟨Tryz.f36,Tryz.func36,by kernel_rfl,by kernel_rfl⟩ (fun vals w hl=> ?_) rfl (VY S0 (Nat.le_of_ble_eq_true hs)) H hr
  match vals,hl with
  |[a0,a1,a2],_=>exact aS a0 a1 a2 w
 ·cases hv
end
end Go.Proofs.YtopjpnhgnopbiaaGreatDoor.Lx
end
