/-
  What pieces, trees and the parser are, in plain terms, and the laws of them that the row wants. No statement about the program is made here.
-/
import Derived.Test.YtopjpnhgnopbiaaGreatDoorJA
import Derived.Test.YtopjpnhgnopbiaaGreatDoorAiSymP
import Derived.Test.YtopjpnhgnopbiaaGreatDoorAiPrims
import Derived.Test.YtopjpnhgnopbiaaGreatDoorAiMono
set_option linter.unusedVariables false
set_option linter.unusedSimpArgs false
set_option linter.unnecessarySimpa false
section
namespace Go.Ai.Sp
open Go.Ai Go.RowKit Go.Ai.Ex
abbrev Row :=Nat×List AV
abbrev Bt :Nat:=1000000000000
def hP (g:Nat)(rows:List Row)(pl e:Int):Hp:=[.grow 0 3 80,.grow 0 5 26,.mem 26 [.int .i64 0,.int .i64 0,.str [],.sl 3 [] (some 0),.sl 5 [] (some 1)],.grow 0 3 80,.dead,.Bh g 26 5 4 26 5 rows,.grow 0 5 26,
 .mem 46 [.CL 5 g 0 5 rows.length,.int .i64 pl,.int .i64 e]]
def BP (v0 v1 v2 v3:AV)(es:List (List AV)):Row:=(es.length,[v0,v1,v2,v3,.sl 5 es none])
def _root_.Am.okW (rows:List Row)(r:Hp):Prop:=∀(n:Nat) (g:Hp),8+r.length<=n->rows.map (fun x=>(x.1,AQ n g x.2))=rows/\r.map (AO n g)=r
def LC :Ce:=fun vs h K=>∃(g:Nat) (row:Row) (rows:List Row) (pl e:Int) (r:Hp),Am.okW (row::rows) r/\(row::rows).length<=Bt/\vs=[.ptr 7 0]/\h=hP g (row::rows) pl e++r/\K (.Bf 5 g 0 0) h
def fE (p x pl e:Int):Int×Int:=bif e==0 then(p,x) else(pl,e)
def Cp :Ce:=fun vs h K=>∃(p x:Int) (g:Nat) (rows:List Row) (pl e:Int) (r:Hp),Am.okW rows r/\vs=[.ptr 7 0,.int .i64 p,.int .i64 x]/\h=hP g rows pl e++r/\K (.tup []) (hP g rows (fE p x pl e).1 (fE p x pl e).2++r)
def FH (es:List (List AV)):Int:=match es.getLast? with
 |some (.int _ k::_)=>k
 |_=>0
def Nl (es:List (List AV)):Prop:=es.length<=Bt/\∀x∈es,∃k v1 v2 v3 v4,x=[AV.int .i64 k,v1,v2,v3,v4]
def Wq :Ce:=fun vs h K=>∃(g:Nat) (v0 v1 v2 v3:AV) (es:List (List AV)) (rows:List Row) (pl e:Int) (r:Hp),Am.okW (BP v0 v1 v2 v3 es::rows) r/\(BP v0 v1 v2 v3 es::rows).length<=Bt/\Nl es/\
 vs=[.ptr 7 0]/\h=hP g (BP v0 v1 v2 v3 es::rows) pl e++r/\K (.int .i64 (FH es)) h
def CV (k l x:Int):Bool:=bif k==7 then(x==8&&l==0)||(x==9&&l==8) else bif k==10 then(x==11&&l !=12)||(x==12&&l==11) else !(x==8||x==9||x==11||x==12)
def gS :Ce:=fun vs h K=>∃(g:Nat) (k x:Int) (v1 v2 v3:AV) (es:List (List AV)) (rows:List Row) (pl e:Int) (r:Hp),Am.okW (BP (.int .i64 k) v1 v2 v3 es::rows) r/\(BP (.int .i64 k) v1 v2 v3 es::rows).length<=Bt/\Nl es/\
 vs=[.ptr 7 0,.int .i64 x]/\h=hP g (BP (.int .i64 k) v1 v2 v3 es::rows) pl e++r/\K (.bool (CV k (FH es) x)) h
def oQ :Ce:=fun vs h K=>∃(l:List Int) (x:Int),vs=[.sl 1 (l.map fun n=>[.int .i64 n]) none,.int .i64 x]/\l.length<=Bt/\K (.bool (l.any (·==x))) h
def mM :Ce:=fun vs h K=>∃(l:List Int) (x:Int),vs=[.sl 1 (l.map fun n=>[.int .i64 n]) none,.int .i64 x]/\l.length<=Bt/\∀z:Int,decide (z>=0)=(l.any (·==x))->K (.int .i64 z) h
def oR :Ce:=fun vs h K=>∃(l:List (List UInt8)) (x:List UInt8),vs=[.sl 1 (l.map fun n=>[.str n]) none,.str x]/\l.length<=Bt/\K (.bool (l.any (·==x))) h
def iD :Ce:=fun vs h K=>∃(l:List (List UInt8)) (x:List UInt8),vs=[.sl 1 (l.map fun n=>[.str n]) none,.str x]/\l.length<=Bt/\∀z:Int,decide (z>=0)=(l.any (·==x))->K (.int .i64 z) h
structure El where
 kind:Int
 names:List (List UInt8)
 Ch:Nat
def Br (s:List UInt8):El:=
 bif s==[105,110,99,108,117,100,101] then⟨3,[[115,114,99],[97,108,116],[111,110,101,114,114,111,114]],1⟩ else
 bif s==[105,110,108,105,110,101] then⟨4,[[110,97,109,101],[102,101,116,99,104,97,98,108,101]],1⟩ else
 bif s==[114,101,109,111,118,101] then⟨5,[],0⟩ else
 bif s==[99,111,109,109,101,110,116] then⟨6,[[116,101,120,116]],1⟩ else
 bif s==[116,114,121] then⟨7,[],0⟩ else
 bif s==[97,116,116,101,109,112,116] then⟨8,[],0⟩ else
 bif s==[101,120,99,101,112,116] then⟨9,[],0⟩ else
 bif s==[99,104,111,111,115,101] then⟨10,[],0⟩ else
 bif s==[119,104,101,110] then⟨11,[[116,101,115,116]],1⟩ else
 bif s==[111,116,104,101,114,119,105,115,101] then⟨12,[],0⟩ else⟨13,[],0⟩
def Jg (x:El):List AV:=[.int .i64 x.kind,.sl 1 (x.names.map fun n=>[.str n]) none,.int .i64 (x.Ch:Nat)]
def wE :Ce:=fun vs h K=>∃s:List UInt8,vs=[.str s]/\K (.agg (Jg (Br s))) h
def M8 (x y:List UInt8):Bool:=
 bif x==[111,110,101,114,114,111,114] then y==[99,111,110,116,105,110,117,101] else
 bif x==[102,101,116,99,104,97,98,108,101] then y==[121,101,115]||y==[110,111] else
 bif x==[116,101,120,116] then true else !(y==[])
def nE :Ce:=fun vs h K=>∃x y:List UInt8,vs=[.str x,.str y]/\K (.bool (M8 x y)) h
def CZ (k a:Int)(t:List UInt8)(aa:List (List AV))(oa:Option Nat)(ks:List (List AV))(ow:Option Nat):List AV:=[.int .i64 k,.int .i64 a,.str t,.sl 3 aa oa,.sl 5 ks ow]
def VU (m:Nat):Ce:=fun vs h K=>∃(g:Nat) (v0 v1 v2 v3:AV) (es:List (List AV)) (rows:List Row) (pl e:Int) (r:Hp) (nk na:Int) (nt:List UInt8) (aa:List (List AV)) (oa:Option Nat) (ks:List (List AV)) (ow:Option Nat),
 Am.okW (BP v0 v1 v2 v3 es::rows) r/\(BP v0 v1 v2 v3 es::rows).length<=Bt/\es.length<Bt/\(∀n g,8+m<=n->AQ n g (CZ nk na nt aa oa ks ow)=CZ nk na nt aa oa ks ow)/\r.length=m/\
 vs=[.ptr 7 0,.agg (CZ nk na nt aa oa ks ow)]/\h=hP g (BP v0 v1 v2 v3 es::rows) pl e++r/\K (.tup []) (hP g (BP v0 v1 v2 v3 (es++[CZ nk na nt aa oa ks ow])::rows) pl e++r)
def A8 (x:El)(fr:Int)(l:List Aj)(s:Int×Int):Int×Int:=
 l.foldl (fun s a=>bif !(x.names.any (·==a.name))|| !M8 a.name a.value then fE a.at' 12 s.1 s.2 else s) ((x.names.take x.Ch).foldl (fun s nm=>bif !(l.any fun a=>a.name==nm) then fE fr 12 s.1 s.2 else s) s)
def LG (tk fr to:Int)(nm tx:List UInt8)(aa:List (List AV)):List AV:=[.int .i64 tk,.str nm,.sl 3 aa none,.str tx,.int .i64 fr,.int .i64 to]
def Gl (t:List AV)(x:El):Hp:=[.grow 0 3 80,.mem 50 t,.mem 50 t,.grow 0 1 9,.mem 114 (Jg x)]
def _root_.Am.km (rows:List Row):Prop:=∀r∈rows,∀n,4<=n->CB n r.2=true
def pw :Ce:=fun vs h K=>∃(g:Nat) (rows:List Row) (pl e:Int) (x:El) (tk fr to:Int) (nm tx:List UInt8) (l:List Aj),Am.km rows/\x.Ch<=x.names.length/\x.names.length<=Bt/\l.length<=Bt/\
 vs=[.ptr 7 0,.agg (Jg x),.agg (LG tk fr to nm tx (encAs l))]/\h=hP g rows pl e++Gl (LG tk fr to nm tx (encAs l)) x/\K (.tup []) (hP g rows (A8 x fr l (pl,e)).1 (A8 x fr l (pl,e)).2++Gl (LG tk fr to nm tx (encAs l)) x)
def bS :Ce:=fun vs h K=>∃(g:Nat) (rows:List Row) (pl e:Int) (b0 b1 b2 b3 b4 b5 b6:Blk) (wd an av:List UInt8) (ap:Int),Am.okW rows [b0,b1,b2,b3,b4,b5,b6,.mem 9 [.str wd]]/\
 vs=[.agg [.str an,.str av,.int .i64 ap],.ptr 15 0]/\h=hP g rows pl e++[b0,b1,b2,b3,b4,b5,b6,.mem 9 [.str wd]]/\K (.bool (an==wd)) h
def mg :Ce:=fun vs h K=>∃(g:Nat) (rows:List Row) (pl e:Int) (b0 b1 b2 b3 b4 b5 b6:Blk) (wd:List UInt8) (l:List Aj),Am.okW rows [b0,b1,b2,b3,b4,b5,b6,.mem 9 [.str wd]]/\l.length<=Bt/\
 vs=[.sl 3 (encAs l) none,.fn (.func 100) [] [.ptr 15 0]]/\h=hP g rows pl e++[b0,b1,b2,b3,b4,b5,b6,.mem 9 [.str wd]]/\∀z:Int,decide (z>=0)=(l.any fun a=>a.name==wd)->K (.int .i64 z) h
def iz :Ce:=fun vs h K=>∃(g:Nat) (rows:List Row) (pl e:Int) (b0 b1 b2 b3 b4 b5 b6:Blk) (wd:List UInt8) (l:List Aj),Am.okW rows [b0,b1,b2,b3,b4,b5,b6,.mem 9 [.str wd]]/\l.length<=Bt/\
 vs=[.sl 3 (encAs l) none,.fn (.func 100) [] [.ptr 15 0]]/\h=hP g rows pl e++[b0,b1,b2,b3,b4,b5,b6,.mem 9 [.str wd]]/\K (.bool (l.any fun a=>a.name==wd)) h
def Dp (s:List UInt8):List UInt8:=s.dropWhile blB
def eW :Ce:=fun vs h K=>∃s:List UInt8,s.length<=Bt/\vs=[.str s,.str [32,9,10,13]]/\K (.str (Dp s)) h
def Oi (g:Nat)(rows:List Row)(r:Hp):Ce:=fun vs h K=>∃(p x:Int) (pl e:Int),vs=[.ptr 7 0,.int .i64 p,.int .i64 x]/\h=hP g rows pl e++r/\K (.tup []) (hP g rows (fE p x pl e).1 (fE p x pl e).2++r)
def mh (g:Nat)(rows:List Row)(b0 b1 b2 b3 b4 b5 b6:Blk):Ce:=fun vs h K=>∃(p x:Int) (pl e:Int) (w:List UInt8),vs=[.ptr 7 0,.int .i64 p,.int .i64 x]/\h=hP g rows pl e++[b0,b1,b2,b3,b4,b5,b6,.mem 9 [.str w]]/\
 K (.tup []) (hP g rows (fE p x pl e).1 (fE p x pl e).2++[b0,b1,b2,b3,b4,b5,b6,.mem 9 [.str w]])
def mi (g:Nat)(rows:List Row)(b0 b1 b2 b3 b4 b5 b6:Blk):Ce:=fun vs h K=>∃(p x:Int) (pl e:Int) (w v:List UInt8) (q:Int),vs=[.ptr 7 0,.int .i64 p,.int .i64 x]/\h=hP g rows pl e++[b0,b1,b2,b3,b4,b5,b6,.mem 80 [.str w,.str v,.int .i64 q]]/\
 K (.tup []) (hP g rows (fE p x pl e).1 (fE p x pl e).2++[b0,b1,b2,b3,b4,b5,b6,.mem 80 [.str w,.str v,.int .i64 q]])
def yv (s:List UInt8):Ce:=fun vs h K=>vs=[.str s]/\K (.agg (Jg (Br s))) h
def tj (b0 b1:Blk)(t:List AV)(x:El):Hp:=[b0,b1,.mem 50 t,.grow 0 1 9,.mem 114 (Jg x)]
def jm (g:Nat)(rows:List Row)(x:El)(tk fr to:Int)(nm tx:List UInt8)(l:List Aj):Ce:=fun vs h K=>∃(pl e:Int),vs=[.ptr 7 0,.agg (Jg x),.agg (LG tk fr to nm tx (encAs l))]/\
 h=hP g rows pl e++Gl (LG tk fr to nm tx (encAs l)) x/\K (.tup []) (hP g rows (A8 x fr l (pl,e)).1 (A8 x fr l (pl,e)).2++Gl (LG tk fr to nm tx (encAs l)) x)
end Go.Ai.Sp
end
section
namespace Go.Ai
open Go.RowKit
structure Aj where
 name:List UInt8
 value:List UInt8
 pl:Int
inductive Nd where
 |mk (kind pl:Int) (text:List UInt8) (attrs:List Aj) (kids:List Nd)
 deriving Inhabited
def Nd.kind :Nd->Int|.mk k _ _ _ _=>k
def Nd.pl :Nd->Int|.mk _ p _ _ _=>p
def Nd.text :Nd->List UInt8|.mk _ _ t _ _=>t
def Nd.attrs :Nd->List Aj|.mk _ _ _ a _=>a
def Nd.kids :Nd->List Nd|.mk _ _ _ _ l=>l
def Ao (a:Aj):List AV:=[.str a.name,.str a.value,.int .i64 a.pl]
mutual
def Dt :Nd->List AV
 |.mk k p t al ks=>[.int .i64 k,.int .i64 p,.str t,.sl 3 (al.map Ao) none,.sl 5 (Ag ks) none]
def Ag :List Nd->List (List AV)
 |[]=>[]
 |n::r=>Dt n::Ag r
end
theorem FJ :∀l:List Nd,Ag l=l.map Dt
 |[]=>rfl
 |n::r=>by rw[Ag,FJ r];rfl
mutual
def Nd.size :Nd->Nat
 |.mk _ _ _ _ ks=>1+CC ks
def CC :List Nd->Nat
 |[]=>0
 |n::r=>n.size+CC r
end
mutual
def Nd.depth :Nd->Nat
 |.mk _ _ _ _ ks=>Fk ks
def Fk :List Nd->Nat
 |[]=>0
 |n::r=>max (n.depth+if n.kind=2 then 0 else 1) (Fk r)
end
mutual
theorem HF :∀n:Nd,AP.Ad (Dt n)=true
 |.mk k p t al ks=>by
  simp only[Dt,AP.Ad,AP,Option.isNone_none,Bool.true_and,Bool.and_true,Bool.and_eq_true];refine⟨?_,E8 ks⟩
  induction al with
  |nil=>rfl
  |cons a r ih=>simp only[List.map_cons,AP.BJ,Ao,AP.Ad,AP,ih,Bool.true_and]
theorem E8 :∀l:List Nd,AP.BJ (Ag l)=true
 |[]=>rfl
 |n::r=>by simp only[Ag,AP.BJ,HF n,E8 r,Bool.true_and]
end
theorem Dh (l:List Aj):AP.BJ (l.map Ao)=true:=by
 induction l with
 |nil=>rfl
 |cons a r ih=>simp only[List.map_cons,AP.BJ,Ao,AP.Ad,AP,ih,Bool.true_and]
mutual
theorem Wf (n:Nat):∀v,AP v=true->Eh n v=true
 |.top,_=>rfl
 |.bool _,_=>rfl
 |.int _ _,_=>rfl
 |.str _,_=>rfl
 |.Ge,_=>rfl
 |.ptr _ _,hp=>by simp[AP] at hp
 |.ro cs,hp=>by rw[Eh];exact ET n cs (by simpa[AP] using hp)
 |.sl sz es own,hp=>by
  simp only[AP,Bool.and_eq_true] at hp
  cases own with
  |none=>simp only[Eh,DE n es hp.2,Bool.and_true]
  |some _=>simp at hp
 |.KV _ _ _ _,hp=>by simp[AP] at hp
 |.PI _ vs,hp=>by first|(simp[AP] at hp;done)|(rw[Eh];exact DE n vs (by simpa[AP] using hp))
 |.fn f a c,hp=>by
  simp only[AP,Bool.and_eq_true] at hp;rw[Eh,ET n a hp.1,ET n c hp.2];rfl
 |.HT,_=>rfl
 |.DA cs,hp=>by first|(simp[AP] at hp;done)|(rw[Eh];exact ET n cs (by simpa[AP] using hp))
 |.iface t v,hp=>by rw[Eh];exact Wf n v (by simpa[AP] using hp)
 |.Ja,_=>rfl
 |.agg cs,hp=>by rw[Eh];exact ET n cs (by simpa[AP] using hp)
 |.tup cs,hp=>by rw[Eh];exact ET n cs (by simpa[AP] using hp)
theorem ET (n:Nat):∀xs,AP.Ad xs=true->CB n xs=true
 |[],_=>rfl
 |x::xs,hp=>by
  simp only[AP.Ad,Bool.and_eq_true] at hp;rw[CB,Wf n x hp.1,ET n xs hp.2];rfl
theorem DE (n:Nat):∀xs,AP.BJ xs=true->AJ n xs=true
 |[],_=>rfl
 |x::xs,hp=>by
  simp only[AP.BJ,Bool.and_eq_true] at hp;rw[AJ,ET n x hp.1,DE n xs hp.2];rfl
end
theorem Ds {α:Type}(f:α->List AV)(l:List α){i:Nat}(h:i<l.length):CH (l.map f) (i:Int)=f l[i]:=by
 unfold CH;simp[h]
theorem MA :∀a b:List Nd,CC (a++b)=CC a+CC b
 |[],b=>by simp[CC]
 |n::r,b=>by simp only[List.cons_append,CC,MA r b];omega
theorem cN {l:List Nd}{n:Nd}(h:n∈l):n.size<=CC l:=by
 induction l with
 |nil=>cases h
 |cons m r ih=>
  simp only[CC]
  rcases List.mem_cons.1 h with rfl|h
  ·omega
  ·have:=ih h;omega
theorem Co {α:Type}(f:α->List AV)(pre:List α)(x:α)(r:List α):CH ((pre++x::r).map f) (pre.length:Int)=f x:=by
 unfold CH;simp
theorem Hb (pre:List Nd)(x:Nd)(r:List Nd):CH (Ag (pre++x::r)) (pre.length:Int)=Dt x:=by
 rw[FJ];exact Co _ _ _ _
theorem BK (l:List Nd):(Ag l).length=l.length:=by rw[FJ];simp
theorem GU (l:List Aj):AE 0 [] (l.map Ao)=l.map Ao:=As _ _ _ (Dh l)
theorem GS (l:List Nd):AE 0 [] (Ag l)=Ag l:=As _ _ _ (E8 l)
theorem FF (n:Nat)(l:List Aj):AJ n (l.map Ao)=true:=DE n _ (Dh l)
theorem HG (n:Nat)(l:List Nd):AJ n (Ag l)=true:=DE n _ (E8 l)
def FR :Nat:=9223372036854775807
def Aj.fit (a:Aj):Prop:=a.name.length<=FR/\a.value.length<=FR
mutual
def Nd.fit :Nd->Prop
 |.mk _ _ t al ks=>t.length<=FR/\al.length<=FR/\(∀a∈al,a.fit)/\ks.length<=FR/\fits ks
def fits :List Nd->Prop
 |[]=>True
 |n::r=>n.fit/\fits r
end
theorem Of :∀{a b:List Nd},fits (a++b)↔fits a/\fits b
 |[],b=>by simp[fits]
 |n::r,b=>by simp only[List.cons_append,fits,Of (a:=r),and_assoc]
def KJ (a:Aj)(l:Int):Int:=l-1-(a.name.length/20:Nat)-(a.value.length/20:Nat)
def DH :List Aj->Int->Int
 |[],l=>l
 |a::r,l=>if 0<l then DH r (KJ a l) else l
mutual
def Nd.left :Nd->Int->Int
 |.mk _ _ t al ks,l=>Ea ks (DH al (l-1-(t.length/20:Nat)))
def Ea :List Nd->Int->Int
 |[],l=>l
 |n::r,l=>if 0<l then Ea r (n.left l) else l
end
def PJ :Int:= -2000000000000000000
theorem Xe {a:Aj}(h:a.fit){l:Int}(hl:0<l):PJ<=KJ a l:=by
 obtain⟨h1,h2⟩:=h;unfold KJ PJ;unfold FR at h1 h2;omega
theorem bp {a:Aj}{l:Int}:KJ a l<=l:=by unfold KJ;omega
theorem Tn :∀{al:List Aj} {l:Int},(∀a∈al,a.fit)->PJ<=l->PJ<=DH al l
 |[],l,_,hl=>hl
 |a::r,l,h,hl=>by
  rw[DH];split
  ·exact Tn (fun b hb=>h b (by simp[hb])) (Xe (h a (by simp)) (by assumption))
  ·exact hl
theorem Iq :∀{al:List Aj} {l:Int},DH al l<=l
 |[],l=>Int.le_refl _
 |a::r,l=>by
  rw[DH];split
  ·exact Int.le_trans Iq bp
  ·exact Int.le_refl _
mutual
theorem Nd.Wp :∀(n:Nd) {l:Int},n.fit->0<l->PJ<=n.left l
 |.mk _ _ t al ks,l,h,hl=>by
  obtain⟨h1,h2,h3,h4,h5⟩:=h;rw[Nd.left];refine S8 ks h5 (Tn h3 ?_);unfold PJ;unfold FR at h1;omega
theorem S8 :∀(ks:List Nd) {l:Int},fits ks->PJ<=l->PJ<=Ea ks l
 |[],l,_,hl=>hl
 |n::r,l,h,hl=>by
  rw[Ea];split
  ·exact S8 r h.2 (n.Wp h.1 (by assumption))
  ·exact hl
end
mutual
theorem Nd.KY :∀(n:Nd) {l:Int},(0<n.left l->n.left l<=l-n.size)/\n.left l<=l
 |.mk _ _ t al ks,l=>by
  rw[Nd.left,Nd.size];have h1:=GI ks (l:=DH al (l-1-(t.length/20:Nat)));have h2:DH al (l-1-(t.length/20:Nat))<=l-1-(t.length/20:Nat):=Iq
  refine⟨fun h=> ?_,?_⟩
  ·have:=h1.1 h;omega
  ·have:=h1.2;omega
theorem GI :∀(ks:List Nd) {l:Int},(0<Ea ks l->Ea ks l<=l-CC ks)/\Ea ks l<=l
 |[],l=>by simp[Ea,CC]
 |n::r,l=>by
  rw[Ea,CC];split
  ·have h1:=n.KY (l:=l);have h2:=GI r (l:=n.left l)
   refine⟨fun h=> ?_,by omega⟩
   have:=h2.1 h
   have:=h1.1 (by omega)
   omega
  ·exact⟨fun h=>by omega,Int.le_refl _⟩
end
theorem Nd.gn {n:Nd}{l:Int}(h:0<n.left l):(n.size:Int)<l:=by
 have:=(n.KY (l:=l)).1 h;omega
def alike (a b:Aj):Bool:=a.name==b.name&&a.value==b.value
def Dx :List Aj->List Aj->Bool
 |[],[]=>true
 |a::r,b::s=>alike a b&&Dx r s
 |_,_=>false
mutual
def Nd.same :Nd->Nd->Bool
 |.mk k _ t al ks,n=>k==n.kind&&t==n.text&&Dx al n.attrs&&En ks n.kids
def En :List Nd->List Nd->Bool
 |[],[]=>true
 |a::r,b::s=>a.same b&&En r s
 |_,_=>false
end
def Q6 (N:Nat):Ce:=fun vs h K=>∃(nd:Nd) (l:Int),nd.size<N/\nd.fit/\0<l/\l<=600/\vs=[.agg (Dt nd),.int .i64 l]/\K (.int .i64 (nd.left l)) h
def QN (N:Nat):Ce:=fun vs h K=>∃a b:Nd,a.size<N/\a.fit/\b.fit/\vs=[.agg (Dt a),.agg (Dt b)]/\K (.bool (a.same b)) h
def fU (k N:Nat):Ce:=fun vs h K=>∃al bl:List Nd,CC al<N/\fits al/\fits bl/\al.length<=FR/\bl.length<=FR/\vs=[.sl 5 (Ag al) none,.sl 5 (Ag bl) none,.fn (.func k) [] []]/\K (.bool (En al bl)) h
def VT :Ce:=fun vs h K=>∃a b:Aj,vs=[.agg (Ao a),.agg (Ao b)]/\K (.bool (alike a b)) h
def br (k:Nat):Ce:=fun vs h K=>∃al bl:List Aj,al.length<=FR/\bl.length<=FR/\vs=[.sl 3 (al.map Ao) none,.sl 3 (bl.map Ao) none,.fn (.func k) [] []]/\K (.bool (Dx al bl)) h
theorem BL (n:Nd):Dt n=[.int .i64 n.kind,.int .i64 n.pl,.str n.text,.sl 3 (n.attrs.map Ao) none,.sl 5 (Ag n.kids) none]:=by
 obtain⟨k,p,t,al,ks⟩:=n;rfl
theorem Nd.ku (n:Nd)(l:Int):n.left l=Ea n.kids (DH n.attrs (l-1-(n.text.length/20:Nat))):=by
 obtain⟨k,p,t,al,ks⟩:=n;rfl
theorem Nd.size_eq (n:Nd):n.size=1+CC n.kids:=by
 obtain⟨k,p,t,al,ks⟩:=n;rfl
theorem Nd.jG (n:Nd):n.fit=(n.text.length<=FR/\n.attrs.length<=FR/\(∀a∈n.attrs,a.fit)/\n.kids.length<=FR/\fits n.kids):=by
 obtain⟨k,p,t,al,ks⟩:=n;rfl
theorem Nd.aR (a b:Nd):a.same b=(a.kind==b.kind&&a.text==b.text&&Dx a.attrs b.attrs&&En a.kids b.kids):=by
 obtain⟨k,p,t,al,ks⟩:=a;rfl
def pW :Ce:=fun vs h K=>∃nd:Nd,nd.fit/\vs=[.agg (Dt nd)]/\K (.bool (decide (0<nd.left 600))) h
def Jv {α:Type}(p:α->Bool):List α->Int->Int
 |[],_=> -1
 |a::r,i=>bif p a then i else Jv p r (i+1)
theorem Pj {α:Type}(p:α->Bool):∀(l:List α) (i:Int),0<=i->decide (0<=Jv p l i)=l.any p
 |[],i,_=>rfl
 |a::r,i,hi=>by
  rw[Jv,List.any_cons]
  cases p a with
  |true=>simp[hi]
  |false=>simpa using Pj p r (i+1) (by omega)
def N7 (l:List Int):List (List AV):=l.map fun x=>[.int .i64 x]
def encT (l:List (List UInt8)):List (List AV):=l.map fun x=>[.str x]
def BG :Nat:=100000
def Be :Ce:=fun vs h K=>∃s x:List UInt8,s.length<=BG/\vs=[.str s,.str x]/\K (.bool (An s x)) h
def sE :Ce:=fun vs h K=>∃(l:List Int) (k:Int),l.length<=FR/\vs=[.sl 1 (N7 l) none,.int .i64 k]/\K (.int .i64 (Jv (fun x=>k==x) l 0)) h
def mf :Ce:=fun vs h K=>∃(l:List Int) (k:Int),l.length<=FR/\vs=[.sl 1 (N7 l) none,.int .i64 k]/\K (.bool (l.any fun x=>k==x)) h
def dI :Ce:=fun vs h K=>∃(l:List (List UInt8)) (k:List UInt8),l.length<=FR/\vs=[.sl 1 (encT l) none,.str k]/\K (.int .i64 (Jv (fun x=>k==x) l 0)) h
def Gv :Ce:=fun vs h K=>∃(l:List (List UInt8)) (k:List UInt8),l.length<=FR/\vs=[.sl 1 (encT l) none,.str k]/\K (.bool (l.any fun x=>k==x)) h
def Y7 :List Int:=[2,3,4,5,6,7,10,13,14]
def KF (k:Int):Bool:=Y7.any fun x=>k==x
def XU :Ce:=fun vs h K=>∃k:Int,vs=[.int .i64 k]/\K (.bool (KF k)) h
def F6 (k:Int):Bool:=decide (2<=k)&&decide (k<=6)
def Kw :Ce:=fun vs h K=>∃k:Int,vs=[.int .i64 k]/\K (.bool (F6 k)) h
def KA (p k i n:Int):Bool:=
 bif p==7 then(k==(if i=0 then 8 else 9))&&decide (i<2)
 else bif p==10 then(k==11)||(k==12&&decide (0<i)&&i==n-1)
 else KF k
def SP :Ce:=fun vs h K=>∃p k i n:Int,0<=i/\i<n/\n<=FR/\vs=[.int .i64 p,.int .i64 k,.int .i64 i,.int .i64 n]/\K (.bool (KA p k i n)) h
def XP :List UInt8:=[60,101,115,105,58]
def pX :List UInt8:=[60,47,101,115,105,58]
def Ks :List UInt8:=[60,33,45,45,101,115,105]
def Fq :List (List UInt8):=[[32],[9],[10],[13]]
def Hs (s:List UInt8):Bool:=An s XP||An s pX||Fq.any fun b=>An s (Ks++b)
def aF :Ce:=fun vs h K=>∃s:List UInt8,s.length<=BG/\vs=[.str s]/\K (.bool (Hs s)) h
def Hz :Ce:=fun vs h K=>∃s:List UInt8,vs=[.str s]/\K (.bool (!(s==[]))) h
def Mx :Ce:=fun vs h K=>∃s:List UInt8,vs=[.str s]/\K (.bool true) h
def mA :Ce:=fun vs h K=>∃s b:List UInt8,s.length<=BG/\b.length<=10/\h=[.mem 9 [.str s],.grow 4 1 9]/\vs=[.str b,.ptr 0 0]/\K (.bool (An s (Ks++b))) [.mem 9 [.str s],.grow 4 1 9]
def YF :Ce:=fun vs h K=>∃s:List UInt8,s.length<=BG/\h=[.mem 9 [.str s],.grow 4 1 9]/\vs=[.sl 1 [[.str [32]],[.str [9]],[.str [10]],[.str [13]]] (some 1),.fn (.func 66) [] [.ptr 0 0]]/\K (.int .i64 (Jv (fun b=>An s (Ks++b)) Fq 0)) [.mem 9 [.str s],.grow 4 1 9]
def Tz :Ce:=fun vs h K=>∃s:List UInt8,s.length<=BG/\h=[.mem 9 [.str s],.grow 4 1 9]/\vs=[.sl 1 [[.str [32]],[.str [9]],[.str [10]],[.str [13]]] (some 1),.fn (.func 66) [] [.ptr 0 0]]/\K (.bool (Fq.any fun b=>An s (Ks++b))) [.mem 9 [.str s],.grow 4 1 9]
def kz :List UInt8:=[60,47,101,115,105,58,105,110,108,105,110,101]
def cS :List UInt8:=[60,47,101,115,105,58,114,101,109,111,118,101]
def D6 (k:Int)(t:List UInt8)(hid:Bool):Bool:=
 bif k==2 then !(t==[])&& !Hs t&& !(hid&&An t [45,45,62])
 else bif k==4 then !An t kz
 else bif k==5 then !An t cS&& !An t XP
 else t==[]
def Hr :Ce:=fun vs h K=>∃(n:Nd) (hid:Bool),n.text.length<=BG/\vs=[.agg (Dt n),.bool hid]/\K (.bool (D6 n.kind n.text hid)) h
inductive Xu where
 |full
 |one (l:List (List UInt8))
 |any
structure K6 where
 name:List UInt8
 Ch:Bool
 may:Xu
def Xu.ok :Xu->List UInt8->Bool
 |.full,v=>!(v==[])
 |.one l,v=>l.any fun x=>v==x
 |.any,_=>true
def Xu.enc :Xu->AV
 |.full=>.fn (.func 58) [] []
 |.one l=>.fn (.func 59) [.sl 1 (encT l) none] []
 |.any=>.fn (.func 60) [] []
def VE (r:K6):List AV:=[.str r.name,.bool r.Ch,r.may.enc]
def LR (v:List UInt8):Bool:=An v [34]&&An v [39]
def DQ (r:K6):List Aj->Int->Option Int
 |[],n=>some n
 |a::t,n=>bif a.name==r.name then(bif r.may.ok a.value&& !LR a.value then DQ r t (n+1) else none) else DQ r t n
def Ca :List K6->List Aj->Int->Bool
 |[],al,f=>f==(al.length:Nat)
 |r::t,al,f=>match DQ r al 0 with
  |none=>false
  |some n=>bif decide (1<n) then false else bif n==0&&r.Ch then false else Ca t al (f+n)
def D9 (m:Bool)(t:List K6)(al:List Aj)(f:Int):Option Int->Bool
 |none=>false
 |some n=>bif decide (1<n) then false else bif n==0&&m then false else Ca t al (f+n)
theorem Di (r:K6)(t:List K6)(al:List Aj)(f:Int):Ca (r::t) al f=D9 r.Ch t al f (DQ r al 0):=by
 rw[Ca,D9.eq_def]
def Cl :K6:=⟨[115,114,99],true,.full⟩
def CU :K6:=⟨[97,108,116],false,.full⟩
def Bz :K6:=⟨[111,110,101,114,114,111,114],false,.one [[99,111,110,116,105,110,117,101]]⟩
def Ck :K6:=⟨[110,97,109,101],true,.full⟩
def CI :K6:=⟨[102,101,116,99,104,97,98,108,101],false,.one [[121,101,115],[110,111]]⟩
def Df :K6:=⟨[116,101,120,116],true,.any⟩
def CA :K6:=⟨[116,101,115,116],true,.full⟩
def BI (k:Int):List K6:=
 bif k==3 then [Cl,CU,Bz] else bif k==4 then [Ck,CI] else bif k==6 then [Df] else bif k==11 then [CA] else []
def HQ :Ce:=fun vs h K=>∃k:Int,vs=[.int .i64 k]/\K (.sl 3 ((BI k).map VE) none) h
def Ju :Ce:=fun vs h K=>∃(k:Int) (al:List Aj),al.length<=BG/\(∀a∈al,a.value.length<=BG)/\vs=[.agg [.sl 3 (al.map Ao) none],.sl 3 ((BI k).map VE) none]/\K (.bool (Ca (BI k) al 0)) h
def Gw (k:Int)(t:List UInt8)(al:List Aj)(len:Nat)(d:Int)(hid:Bool)(b:Int):Int:=
 bif k==14&&hid then 13
 else bif !(k==2)&&decide (16<d) then 3
 else bif !Ca (BI k) al 0 then 12
 else bif !D6 k t hid||(k==2&&b==2) then 4
 else bif (F6 k&&decide (0<len))||(k==7&& !(len==2))||(k==10&&len==0) then 13
 else 0
mutual
def Nd.Mo :Nd->Int->Bool->Int->Int
 |.mk k _ t al ks,d,hid,b=>bif Gw k t al ks.length d hid b==0 then Io k (ks.length:Nat) ks 0 (d+1) (hid||k==14) 0 else Gw k t al ks.length d hid b
def Io (p n:Int):List Nd->Int->Int->Bool->Int->Int
 |[],_,_,_,_=>0
 |c::r,i,d,hid,b=>bif !KA p c.kind i n then 13 else bif c.Mo d hid b==0 then Io p n r (i+1) d hid c.kind else c.Mo d hid b
end
mutual
def Nd.JX :Nd->Prop
 |.mk _ _ t al ks=>t.length<=BG/\al.length<=BG/\(∀a∈al,a.value.length<=BG)/\ks.length<=BG/\Lu ks
def Lu :List Nd->Prop
 |[]=>True
 |n::r=>n.JX/\Lu r
end
def Gq (N:Nat):Ce:=fun vs h K=>∃(n:Nd) (d b:Int) (hid:Bool),n.size<N/\n.JX/\0<=d/\d+N<=1000000/\vs=[.agg (Dt n),.agg [.int .i64 d,.bool hid],.int .i64 b]/\K (.int .i64 (n.Mo d hid b)) h
def Nd.G7 (n:Nd):Int:=bif n.kind==1 then n.Mo 0 false 0 else 13
def mI (N:Nat):Ce:=fun vs h K=>∃n:Nd,n.size<N/\n.JX/\N<=1000000/\vs=[.agg (Dt n)]/\K (.int .i64 n.G7) h
end Go.Ai
end
section
namespace Go.Ai.Sp
open Go.Ai Go.RowKit
def JW (a:Ex.Aj):Go.Ai.Aj:=⟨a.name,a.value,(a.at':Nat)⟩
def nd0 :Nd:=.mk 0 0 [] [] []
def Dy (n k:Nd):Nd:=.mk n.kind n.pl n.text n.attrs (n.kids++[k])
def YV (o:Option Nat)(n:Nd):Row:=BP (.int .i64 n.kind) (.int .i64 n.pl) (.str n.text) (.sl 3 (n.attrs.map Go.Ai.Ao) o) (Ag n.kids)
def NT :List Nd->Option Nat
 |[]=>some 3
 |_=>none
def AZ :List Nd->List Row
 |[]=>[]
 |n::r=>YV (NT r) n::AZ r
def BA (l:List Nd):Int:=match l.getLast? with
 |some n=>n.kind
 |none=>0
structure Ps where
 rows:List Nd
 pl:Int
 e:Int
def F8 (p x:Int)(s:Ps):Ps:=⟨s.rows,(fE p x s.pl s.e).1,(fE p x s.pl s.e).2⟩
def ED (t:Ex.Tok)(s:Ps):Ps:=match s.rows with
 |[]=>s
 |n::r=>bif n.kind==7||n.kind==10 then(bif (Dp t.text).isEmpty then s else F8 ((t.to:Int)-(Dp t.text).length) 13 s) else⟨Dy n (.mk 2 t.fr t.text [] [])::r,s.pl,s.e⟩
def LO (t:Ex.Tok)(s:Ps):Ps:=match s.rows with
 |[]=>s
 |n::r=>⟨.mk n.kind n.pl t.text n.attrs n.kids::r,s.pl,s.e⟩
def Bj (x:El):Bool:=x.kind==3||x.kind==6
def Ko (x:El)(t:Ex.Tok)(n:Nd)(r:List Nd)(s:Ps):Ps:=
 let s1:=bif (Bj x !=(t.kind==3))|| !CV n.kind (BA n.kids) x.kind then F8 t.fr 13 s else s
 let s2:=bif decide (16<r.length+1) then F8 t.fr 3 s1 else s1
 ⟨s2.rows,(A8 x t.fr t.attrs (s2.pl,s2.e)).1,(A8 x t.fr t.attrs (s2.pl,s2.e)).2⟩
def EY (t:Ex.Tok)(s:Ps):Ps:=match s.rows with
 |[]=>s
 |n::r=>
  let x:=Br t.name
  let s2:=Ko x t n r s
  bif Bj x then⟨Dy n (.mk x.kind t.fr [] (t.attrs.map JW) [])::r,s2.pl,s2.e⟩ else⟨.mk x.kind t.fr [] (t.attrs.map JW) []::n::r,s2.pl,s2.e⟩
def Ff (t:Ex.Tok)(s:Ps):Ps:=match s.rows with
 |[]=>s
 |n::r=>
  let s1:=bif !CV n.kind (BA n.kids) 14 then F8 t.fr 13 s else s
  let s2:=bif decide (16<r.length+1) then F8 t.fr 3 s1 else s1
  ⟨.mk 14 t.fr [] [] []::n::r,s2.pl,s2.e⟩
def Et (t:Ex.Tok):Int:=bif t.kind==4 then(Br t.name).kind else 14
def Ei (t:Ex.Tok)(n:Nd):Bool:=!(n.kind==Et t)||((Et t==7&& !(BA n.kids==9))||(Et t==10&&BA n.kids==0))
def Es (t:Ex.Tok)(s:Ps):Ps:=match s.rows with
 |[]=>s
 |n::r=>bif Ei t n then F8 t.fr 13 s else match r with
  |[]=>s
  |m::q=>⟨Dy m n::q,s.pl,s.e⟩
def Aq (t:Ex.Tok)(s:Ps):Ps:=
 bif t.kind==1 then ED t s else bif t.kind==7 then LO t s else bif t.kind==2||t.kind==3 then EY t s else bif t.kind==5 then Ff t s else Es t s
def A7 :List Ex.Tok->Ps->Ps
 |[],s=>s
 |t::l,s=>bif (Aq t s).e==0 then A7 l (Aq t s) else Aq t s
def DX :Ps:=⟨[.mk 1 0 [] [] []],0,0⟩
def Ml (len:Int)(s:Ps):Except (Int×Int) Nd:=
 bif s.e==0 then(match s.rows with
  |[n]=>.ok n
  |_=>.error (len,14)) else .error (s.pl,s.e)
def NR (len:Int)(l:List Ex.Tok):Except (Int×Int) Nd:=Ml len (A7 l DX)
def Bi (s:List UInt8):Except (Int×Int) Nd:=
 if 65536<s.length then .error (65536,3) else
 match Ex.lexM s with
 |.error (p,e)=>.error ((p:Nat),e)
 |.ok l=>NR s.length l
end Go.Ai.Sp
namespace Go.Ai.Sp
def eZ (t:Ex.Tok):Prop:=t.text.length<=Bt/\t.to<=Bt/\t.fr<=Bt/\t.attrs.length<=Bt/\t.to>=t.text.length
def Iy (l:List Nd):Prop:=l.length<Bt/\∀n∈l,n.kids.length<Bt
def CR (t:Ex.Tok):Hp:=[.grow 0 3 80,.mem 50 (Ex.encT t)]
def JK (M:Ex.Tok->Ps->Ps)(pre:Ex.Tok->Ps->Prop):Ce:=fun vs h K=>∃(g:Nat) (s:Ps) (t:Ex.Tok),s.rows≠[]/\Iy s.rows/\eZ t/\pre t s/\vs=[.ptr 7 0,.agg (Ex.encT t)]/\h=hP g (AZ s.rows) s.pl s.e++CR t/\
 ∀g':Nat,K (.tup []) (hP g' (AZ (M t s).rows) (M t s).pl (M t s).e++CR t)
def Ew :AV:=.PI [1,7,2,3,5,4,6] [[.fn (.func 40) [] []],[.fn (.func 41) [] []],[.fn (.func 42) [] []],[.fn (.func 42) [] []],[.fn (.func 43) [] []],[.fn (.func 44) [] []],[.fn (.func 44) [] []]]
def YL :Ce:=fun vs h K=>vs.isEmpty=true/\K Ew h
def Hw (_:Ex.Tok)(_:Ps):Prop:=True
def aZ (s:Ps):Prop:=∀n,s.rows=[n]->n.kind=1
def Yq (_:Ex.Tok)(s:Ps):Prop:=aZ s
def nz :Ce:=fun vs h K=>∃s:List UInt8,vs=[.str s]/\(∀n,Bi s=.ok n->K (.tup [.agg (Dt n),.int .i64 0,.int .i64 0]) h)/\
 (∀p e,Bi s=.error (p,e)->∀z1 z2:Nat,(z1=3/\z2=5)\/(z1=0/\z2=0)->K (.tup [.agg [.int .i64 0,.int .i64 0,.str [],.sl z1 [] none,.sl z2 [] none],.int .i64 p,.int .i64 e]) h)
def Ya :Except (Int×Int) Nd->Nd×Int×Int
 |.ok n=>(n,0,0)
 |.error (p,e)=>(nd0,p,e)
def Cr (s:List UInt8):Nd:=(Ya (Bi s)).1
def Yb (s:List UInt8):Int:=(Ya (Bi s)).2.1
def Fb (s:List UInt8):Int:=(Ya (Bi s)).2.2
def UN :Ce:=fun vs h K=>∃s:List UInt8,vs=[.str s]/\
 K (.tup [.agg [.int .i64 (Cr s).kind,.int .i64 (Cr s).pl,.str (Cr s).text,.sl 3 ((Cr s).attrs.map Go.Ai.Ao) none,.sl 5 (Ag (Cr s).kids) none],.int .i64 (Yb s),.int .i64 (Fb s)]) h
end Go.Ai.Sp
end
section
namespace Go.Ai.Sp
open Go.Ai Go.RowKit
def eF :List Nd->Prop
 |[]=>False
 |[n]=>n.kind=1
 |_::r=>eF r
theorem eF.ne {l:List Nd}(h:eF l):l≠[]:=by
 rintro rfl
 exact h
theorem eF.push {l:List Nd}(h:eF l)(n:Nd):eF (n::l):=by
 cases l with
 |nil=>exact h.elim
 |cons=>exact h
theorem eF.same {n m:Nd}{l:List Nd}(h:eF (n::l))(e:m.kind=n.kind):eF (m::l):=by
 cases l with
 |nil=>exact e.trans h
 |cons=>exact h
theorem eF.pop {n m:Nd}{l:List Nd}(h:eF (n::m::l)):eF (m::l):=h
structure Inv (i:Nat) (l:List Nd):Prop where
 bot:eF l
 len:l.length<=i+1
 kids:∀n∈l,n.kids.length<=i
theorem dF (n k:Nd):(Dy n k).kind=n.kind:=rfl
theorem Cw (n k:Nd):(Dy n k).kids=n.kids++[k]:=rfl
theorem Inv.up {i:Nat}{l:List Nd}(h:Inv i l):Inv (i+1) l:=⟨h.bot,by have:=h.len;omega,fun n hn=>by have:=h.kids n hn;omega⟩
theorem Inv.add {i:Nat}{n:Nd}{l:List Nd}(h:Inv i (n::l))(k:Nd):Inv (i+1) (Dy n k::l):=by
 refine⟨h.bot.same (dF n k),by have:=h.len;simp only[List.length_cons] at this⊢;omega,fun m hm=> ?_⟩
 rcases List.mem_cons.1 hm with rfl|hm
 ·have:=h.kids n (by simp)
  rw[Cw,List.length_append];simp only[List.length_cons,List.length_nil];omega
 ·have:=h.kids m (List.mem_cons_of_mem _ hm);omega
theorem Inv.push {i:Nat}{l:List Nd}(h:Inv i l){n:Nd}(hn:n.kids=[]):Inv (i+1) (n::l):=by
 refine⟨h.bot.push n,by have:=h.len;simp only[List.length_cons];omega,fun m hm=> ?_⟩
 rcases List.mem_cons.1 hm with rfl|hm
 ·rw[hn];simp
 ·have:=h.kids m hm;omega
theorem Inv.same {i:Nat}{n m:Nd}{l:List Nd}(h:Inv i (n::l))(e:m.kind=n.kind)(e2:m.kids=n.kids):Inv (i+1) (m::l):=by
 refine⟨h.bot.same e,by have:=h.len;simp only[List.length_cons] at this⊢;omega,fun x hx=> ?_⟩
 rcases List.mem_cons.1 hx with rfl|hx
 ·rw[e2];have:=h.kids n (by simp);omega
 ·have:=h.kids x (List.mem_cons_of_mem _ hx);omega
theorem Inv.pop {i:Nat}{n m:Nd}{l:List Nd}(h:Inv i (n::m::l)):Inv i (m::l):=
 ⟨h.bot.pop,by have:=h.len;simp only[List.length_cons] at this⊢;omega,fun x hx=>h.kids x (List.mem_cons_of_mem _ hx)⟩
theorem iB {i:Nat}{s:Ps}(h:Inv i s.rows)(t:Ex.Tok):Inv (i+1) (Aq t s).rows:=by
 obtain⟨rows,pl,e⟩:=s
 cases rows with
 |nil=>exact(h.bot).elim
 |cons n r=>
  unfold Aq
  cases t.kind==1 with
  |true=>
   simp only[cond_true];unfold ED;simp only
   cases n.kind==7||n.kind==10 with
   |true=>simp only[cond_true];cases (Dp t.text).isEmpty<;>exact h.up
   |false=>simp only[cond_false];exact h.add _
  |false=>
   simp only[cond_false]
   cases t.kind==7 with
   |true=>simp only[cond_true];exact h.same (m:=.mk n.kind n.pl t.text n.attrs n.kids) rfl rfl
   |false=>
    simp only[cond_false]
    cases t.kind==2||t.kind==3 with
    |true=>
     simp only[cond_true];unfold EY;simp only
     cases Bj (Br t.name) with
     |true=>simp only[cond_true];exact h.add _
     |false=>simp only[cond_false];exact h.push rfl
    |false=>
     simp only[cond_false]
     cases t.kind==5 with
     |true=>simp only[cond_true];exact h.push (n:=.mk 14 t.fr [] [] []) rfl
     |false=>
      simp only[cond_false];unfold Es;simp only
      cases Ei t n with
      |true=>simp only[cond_true];exact h.up
      |false=>
       simp only[cond_false]
       cases r with
       |nil=>exact h.up
       |cons m q=>exact h.pop.add _
theorem wP :Inv 0 DX.rows:=⟨rfl,by decide,fun n hn=>by
 rw[List.mem_singleton.1 hn];exact Nat.le_refl 0⟩
theorem kB {hid:Bool}{l:List Ex.Tok}(h:Ex.VG hid l):∀t∈l,t.kind=1\/t.kind=2\/t.kind=3\/t.kind=4\/t.kind=5\/t.kind=6\/t.kind=7:=by
 induction h with
 |nil=>intro t ht;cases ht
 |text k1 _ _ _ _ _ _ ih=>
  intro t ht
  rcases List.mem_cons.1 ht with rfl|ht
  ·exact .inl k1
  ·exact ih t ht
 |tag k1 _ _ _ ih=>
  intro t ht
  rcases List.mem_cons.1 ht with rfl|ht
  ·rcases k1 with k|k
   ·exact .inr (.inr (.inl k))
   ·exact .inr (.inl k.1)
  ·exact ih t ht
 |own k1 _ _ a1 _ _ c1 _ _ _ _ ih=>
  intro t ht
  rcases List.mem_cons.1 ht with rfl|ht
  ·exact .inr (.inl k1)
  ·rcases List.mem_cons.1 ht with rfl|ht
   ·exact .inr (.inr (.inr (.inr (.inr (.inr a1)))))
   ·exact ih t ht
 |close k1 _ _ _ ih=>
  intro t ht
  rcases List.mem_cons.1 ht with rfl|ht
  ·exact .inr (.inr (.inr (.inl k1)))
  ·exact ih t ht
 |Ut k1 _ _ _ ih=>
  intro t ht
  rcases List.mem_cons.1 ht with rfl|ht
  ·exact .inr (.inr (.inr (.inr (.inl k1))))
  ·exact ih t ht
 |shown k1 _ _ _ _ ih=>
  intro t ht
  rcases List.mem_cons.1 ht with rfl|ht
  ·exact .inr (.inr (.inr (.inr (.inr (.inl k1)))))
  ·exact ih t ht
theorem X6 {s:List UInt8}:∀(r:List Ex.Tok) (a:Nat) (prev:Option Ex.Tok) (hid:Bool),Ex.WG s a prev hid r->∀t∈r,t.fr<=t.to/\t.to<=s.length/\t.text.length<=t.to
 |[],_,_,_,_,t,ht=>by cases ht
 |u::r,a,prev,hid,h,t,ht=>by
  unfold Ex.WG at h;obtain⟨h1,h2,h3,h4,_,_,_,_,_,_,h5⟩:=h
  rcases List.mem_cons.1 ht with rfl|ht
  ·refine⟨by omega,h3,?_⟩
   rw[<-h4];unfold Ex.cut;simp only[List.length_take,List.length_drop];omega
  ·exact X6 r _ _ _ h5 t ht
theorem kt {s:List UInt8}{l:List Ex.Tok}(hs:s.length<=65536)(h:Ex.lexM s=.ok l):l.length<=131074/\∀t∈l,eZ t/\(t.kind=1\/t.kind=2\/t.kind=3\/t.kind=4\/t.kind=5\/t.kind=6\/t.kind=7):=by
 have hw:=Ex.LX h
 refine⟨?_,fun t ht=>⟨?_,kB (Ex.Nh h) t ht⟩⟩
 ·rcases Ex.Z8 l 0 none false hw (Nat.zero_le _) with h|⟨_,h⟩<;>omega
 ·obtain⟨h1,h2,h3⟩:=X6 l 0 none false hw t ht;have hf:=Ex.Qy h t ht;have hc:=Ex.RR hf;have:=hf.1;unfold eZ Bt
  exact⟨by omega,by omega,by omega,by omega,h3⟩
mutual
def mC (M:Nat):Nd->Prop
 |.mk _ _ t al ks=>t.length<=M/\al.length<=M/\(∀a∈al,a.name.length<=M/\a.value.length<=M)/\ks.length<=M/\QI M ks
def QI (M:Nat):List Nd->Prop
 |[]=>True
 |n::r=>mC M n/\QI M r
end
theorem QH {M:Nat}:∀{a b:List Nd},QI M (a++b)↔QI M a/\QI M b
 |[],b=>by simp[QI]
 |n::r,b=>by simp only[List.cons_append,QI,QH (a:=r),and_assoc]
theorem YS {M:Nat}(n:Nd):mC M n=(n.text.length<=M/\n.attrs.length<=M/\(∀a∈n.attrs,a.name.length<=M/\a.value.length<=M)/\n.kids.length<=M/\QI M n.kids):=by
 obtain⟨k,p,t,al,ks⟩:=n;rfl
mutual
theorem aQ {M:Nat}(hM:M<=FR):∀n:Nd,mC M n->n.fit
 |.mk _ _ t al ks,⟨h1,h2,h3,h4,h5⟩=>⟨by omega,by omega,fun a ha=>by have:=h3 a ha;exact⟨by omega,by omega⟩,by omega,Se hM ks h5⟩
theorem Se {M:Nat}(hM:M<=FR):∀l:List Nd,QI M l->fits l
 |[],_=>trivial
 |n::r,⟨h1,h2⟩=>⟨aQ hM n h1,Se hM r h2⟩
end
mutual
theorem Vo {M:Nat}(hM:M<=BG):∀n:Nd,mC M n->n.JX
 |.mk _ _ t al ks,⟨h1,h2,h3,h4,h5⟩=>⟨by omega,by omega,fun a ha=>by have:=h3 a ha;omega,by omega,QG hM ks h5⟩
theorem QG {M:Nat}(hM:M<=BG):∀l:List Nd,QI M l->Lu l
 |[],_=>trivial
 |n::r,⟨h1,h2⟩=>⟨Vo hM n h1,QG hM r h2⟩
end
def kF (M:Nat)(t:Ex.Tok):Prop:=t.text.length<=M/\t.attrs.length<=M/\∀a∈t.attrs,a.name.length<=M/\a.value.length<=M
theorem jn {l:List Ex.Aj}{a:Ex.Aj}(h:a∈l):a.name.length<=(Ex.AN l).length/\a.value.length<=(Ex.AN l).length:=by
 induction l with
 |nil=>cases h
 |cons b l ih=>
  simp only[Ex.AN,List.length_cons,List.length_append]
  rcases List.mem_cons.1 h with rfl|h
  ·constructor<;>omega
  ·have:=ih h
   constructor<;>omega
theorem ql {s:List UInt8}{l:List Ex.Tok}(h:Ex.lexM s=.ok l):l.length<=2*s.length/\∀t∈l,kF (2*s.length+1) t:=by
 have hw:=Ex.LX h
 refine⟨?_,fun t ht=> ?_⟩
 ·rcases Ex.Z8 l 0 none false hw (Nat.zero_le _) with h|⟨⟨p,h,_⟩,_⟩
  ·omega
  ·cases h
 ·obtain⟨h1,h2,h3⟩:=X6 l 0 none false hw t ht;have hf:=Ex.Qy h t ht;have hc:=Ex.RR hf;have:=hf.1
  refine⟨by omega,by omega,fun a ha=> ?_⟩
  have zX:=jn ha
  have sM:(Ex.AN t.attrs).length<=(Ex.written t).length:=by
   rcases hf.2 with h|h|h
   ·rw[h] at ha;cases ha
   ·unfold Ex.written
    rw[if_neg (by omega),if_neg (by omega),if_pos h]
    simp only[List.length_append];omega
   ·unfold Ex.written
    rw[if_neg (by omega),if_neg (by omega),if_neg (by omega),if_pos h]
    simp only[List.length_append];omega
  omega
structure Sz (M i:Nat) (l:List Nd):Prop where
 sm:QI M l
 kids:∀n∈l,n.kids.length<=i
 size:CC l<=i+1
theorem Sz.up {M i:Nat}{l:List Nd}(h:Sz M i l):Sz M (i+1) l:=⟨h.sm,fun n hn=>by have:=h.kids n hn;omega,by have:=h.size;omega⟩
theorem Sf (n k:Nd):(Dy n k).size=n.size+k.size:=by
 obtain⟨a,b,c,d,e⟩:=n;simp only[Dy,Nd.size,Nd.kids,MA,CC];omega
theorem Sz.add {M i:Nat}{n:Nd}{l:List Nd}(h:Sz M i (n::l)){k:Nd}(hk:mC M k)(hs:k.size<=1)(hi:i+1<=M):Sz M (i+1) (Dy n k::l):=by
 obtain⟨⟨h1,h2⟩,h3,h4⟩:=h
 have hn:=h3 n (by simp)
 refine⟨⟨?_,h2⟩,fun m hm=> ?_,?_⟩
 ·rw[YS] at h1⊢;obtain⟨a1,a2,a3,a4,a5⟩:=h1;refine⟨a1,a2,a3,?_,?_⟩
  ·rw[Cw,List.length_append];simp only[List.length_cons,List.length_nil];omega
  ·rw[Cw,QH];exact⟨a5,hk,trivial⟩
 ·rcases List.mem_cons.1 hm with rfl|hm
  ·rw[Cw,List.length_append];simp only[List.length_cons,List.length_nil];omega
  ·have:=h3 m (List.mem_cons_of_mem _ hm);omega
 ·simp only[CC,Sf] at h4⊢;omega
theorem Sz.push {M i:Nat}{l:List Nd}(h:Sz M i l){n:Nd}(hn:mC M n)(hk:n.kids=[]):Sz M (i+1) (n::l):=by
 obtain⟨h1,h3,h4⟩:=h
 refine⟨⟨hn,h1⟩,fun m hm=> ?_,?_⟩
 ·rcases List.mem_cons.1 hm with rfl|hm
  ·rw[hk];simp
  ·have:=h3 m hm;omega
 ·rw[CC,n.size_eq,hk];simp only[CC];omega
theorem Sz.text {M i:Nat}{n:Nd}{l:List Nd}(h:Sz M i (n::l)){t:List UInt8}(ht:t.length<=M):Sz M (i+1) (.mk n.kind n.pl t n.attrs n.kids::l):=by
 obtain⟨⟨h1,h2⟩,h3,h4⟩:=h;rw[YS] at h1;obtain⟨a1,a2,a3,a4,a5⟩:=h1
 refine⟨⟨⟨ht,a2,a3,a4,a5⟩,h2⟩,fun m hm=> ?_,?_⟩
 ·rcases List.mem_cons.1 hm with rfl|hm
  ·have:=h3 n (by simp)
   show n.kids.length<=_;omega
  ·have:=h3 m (List.mem_cons_of_mem _ hm);omega
 ·simp only[CC,Nd.size_eq,Nd.kids] at h4⊢;omega
theorem Sz.pop {M i:Nat}{n m:Nd}{l:List Nd}(h:Sz M i (n::m::l))(hi:i+1<=M):Sz M (i+1) (Dy m n::l):=by
 obtain⟨⟨h1,h2,h5⟩,h3,h4⟩:=h
 have hm:=h3 m (by simp)
 refine⟨⟨?_,h5⟩,fun x hx=> ?_,?_⟩
 ·rw[YS] at h2⊢;obtain⟨a1,a2,a3,a4,a5⟩:=h2;refine⟨a1,a2,a3,?_,?_⟩
  ·rw[Cw,List.length_append];simp only[List.length_cons,List.length_nil];omega
  ·rw[Cw,QH];exact⟨a5,h1,trivial⟩
 ·rcases List.mem_cons.1 hx with rfl|hx
  ·rw[Cw,List.length_append];simp only[List.length_cons,List.length_nil];omega
  ·have:=h3 x (by simp[hx]);omega
 ·simp only[CC,Sf] at h4⊢;omega
theorem fQ {M:Nat}{t:Ex.Tok}(h:kF M t)(k p:Int):mC M (.mk k p [] (t.attrs.map JW) []):=by
 refine⟨Nat.zero_le _,by rw[List.length_map];exact h.2.1,fun a ha=> ?_,Nat.zero_le _,trivial⟩
 obtain⟨b,hb,rfl⟩:=List.mem_map.1 ha;exact h.2.2 b hb
theorem kK {M i:Nat}{s:Ps}{t:Ex.Tok}(h:Sz M i s.rows)(ht:kF M t)(hi:i+1<=M):Sz M (i+1) (Aq t s).rows:=by
 obtain⟨rows,pl,e⟩:=s
 cases rows with
 |nil=>
  have:(Aq t ⟨[],pl,e⟩).rows=[]:=by
   unfold Aq
   cases t.kind==1<;>cases t.kind==7<;>cases t.kind==2||t.kind==3<;>cases t.kind==5<;>rfl
  rw[this]
  exact⟨trivial,fun n hn=>(by cases hn),by simp[CC]⟩
 |cons n r=>
  unfold Aq
  cases t.kind==1 with
  |true=>
   simp only[cond_true];unfold ED;simp only
   cases n.kind==7||n.kind==10 with
   |true=>simp only[cond_true];cases (Dp t.text).isEmpty<;>exact h.up
   |false=>simp only[cond_false];exact h.add ⟨ht.1,Nat.zero_le _,fun a ha=>(by cases ha),Nat.zero_le _,trivial⟩ (by simp[Nd.size,CC]) hi
  |false=>
   simp only[cond_false]
   cases t.kind==7 with
   |true=>simp only[cond_true];exact h.text ht.1
   |false=>
    simp only[cond_false]
    cases t.kind==2||t.kind==3 with
    |true=>
     simp only[cond_true];unfold EY;simp only
     cases Bj (Br t.name) with
     |true=>simp only[cond_true];exact h.add (fQ ht _ _) (by simp[Nd.size,CC]) hi
     |false=>simp only[cond_false];exact h.push (fQ ht _ _) rfl
    |false=>
     simp only[cond_false]
     cases t.kind==5 with
     |true=>simp only[cond_true];exact h.push (n:=.mk 14 t.fr [] [] []) ⟨Nat.zero_le _,Nat.zero_le _,fun a ha=>(by cases ha),Nat.zero_le _,trivial⟩ rfl
     |false=>
      simp only[cond_false];unfold Es;simp only
      cases Ei t n with
      |true=>simp only[cond_true];exact h.up
      |false=>
       simp only[cond_false]
       cases r with
       |nil=>exact h.up
       |cons m q=>exact h.pop hi
theorem Vi {M:Nat}:∀(l:List Ex.Tok) (i:Nat) (s:Ps),Sz M i s.rows->(∀t∈l,kF M t)->i+l.length<=M->Sz M (i+l.length) (A7 l s).rows
 |[],i,s,h,_,_=>h
 |t::l,i,s,h,ht,hi=>by
  simp only[List.length_cons] at hi⊢
  have h1:=kK h (ht t (by simp)) (by omega)
  rw[A7]
  cases (Aq t s).e==0 with
  |true=>
   have:=Vi l (i+1) _ h1 (fun u hu=>ht u (List.mem_cons_of_mem _ hu)) (by omega)
   simp only[cond_true]
   rw[show i+(l.length+1)=i+1+l.length by omega]
   exact this
  |false=>
   simp only[cond_false]
   exact⟨h1.sm,fun n hn=>by have:=h1.kids n hn;omega,by have:=h1.size;omega⟩
theorem V8 {s:List UInt8}{n:Nd}(h:Bi s=.ok n):s.length<=65536/\mC (2*s.length+1) n/\n.size<=2*s.length+1:=by
 unfold Bi at h;split at h
 ·cases h
 ·rename_i hs;split at h
  ·cases h
  ·rename_i l hl;obtain⟨h1,h2⟩:=ql hl
   have h3:=Vi l 0 DX ⟨⟨⟨Nat.zero_le _,Nat.zero_le _,fun a ha=>(by cases ha),Nat.zero_le _,trivial⟩,trivial⟩,fun n hn=>(by rw[List.mem_singleton.1 hn];exact Nat.zero_le _),by simp[DX,CC,Nd.size]⟩ h2 (by omega)
   unfold NR Ml at h
   cases he:(A7 l DX).e==0 with
   |false=>rw[he] at h;cases h
   |true=>
    rw[he] at h;simp only[cond_true] at h;split at h
    ·rename_i m hm
     injection h with h
     subst h;rw[hm] at h3;have:=h3.size;simp only[CC] at this
     exact⟨by omega,h3.sm.1,by omega⟩
    ·cases h
end Go.Ai.Sp
end
section
namespace Go.Ai.Sp
open Go.Ai Go.RowKit
theorem Dq {a b:Nd}:a.same b=true↔a.kind=b.kind/\a.text=b.text/\Dx a.attrs b.attrs=true/\En a.kids b.kids=true:=by
 rw[Nd.aR];simp only[Bool.and_eq_true,beq_iff_eq];constructor
 ·rintro⟨⟨⟨h1,h2⟩,h3⟩,h4⟩
  exact⟨h1,h2,h3,h4⟩
 ·rintro⟨h1,h2,h3,h4⟩
  exact⟨⟨⟨h1,h2⟩,h3⟩,h4⟩
theorem LL :∀{a b:List Nd},En a b=true->BA a=BA b
 |[],[],_=>rfl
 |[],_::_,h=>by cases h
 |_::_,[],h=>by cases h
 |u::a,v::b,h=>by
  simp only[En,Bool.and_eq_true] at h
  cases a with
  |nil=>
   cases b with
   |nil=>exact(Dq.1 h.1).1
   |cons _ _=>cases h.2
  |cons x a=>
   cases b with
   |nil=>cases h.2
   |cons y b=>
    have:=LL (a:=x::a) (b:=y::b) h.2;simpa[BA] using this
theorem Rd :∀(a b:List Nd),Fk (a++b)=max (Fk a) (Fk b)
 |[],b=>by simp[Fk]
 |n::a,b=>by
  simp only[List.cons_append,Fk,Rd a b];omega
theorem Im (k p:Int)(t:List UInt8)(al:List Go.Ai.Aj)(ks:List Nd):(Nd.mk k p t al ks).depth=Fk ks:=rfl
theorem Re (n:Nd):n.depth=Fk n.kids:=by
 obtain⟨k,p,t,al,ks⟩:=n;rfl
theorem Zk (n k:Nd):(Dy n k).depth=max n.depth (k.depth+if k.kind=2 then 0 else 1):=by
 unfold Dy;rw[Im,Rd,Re n];simp only[Fk,Nat.max_zero]
inductive Ctx (K:Int) (K0 pr:List Nd):List Nd->List Nd->Prop
 |base {n' n:Nd} {ks:List Nd}:n'.kind=K->n.kind=1->n'.text=[]->n.text=[]->n'.attrs=[]->n.attrs=[]->n'.kids=K0++ks->En ks n.kids=true->Ctx K K0 pr (n'::pr) [n]
 |up {n' n:Nd} {r' r:List Nd}:n'.same n=true->Ctx K K0 pr r' r->Ctx K K0 pr (n'::r') (n::r)
section
variable {K:Int}{K0 pr:List Nd}
end
def dS :List Nd->Nat
 |[]=>0
 |n::r=>max (r.length+n.depth) (dS r)
def HB (x:El)(l:List Ex.Aj):Bool:=(x.names.take x.Ch).all (fun nm=>l.any fun a=>a.name==nm)&&l.all fun a=>x.names.any (·==a.name)&&M8 a.name a.value
theorem MX {α:Type}{c:α->Bool}{f:α->Int}:∀(l:List α) (p e:Int),e≠0->l.foldl (fun s a=>bif c a then fE (f a) 12 s.1 s.2 else s) (p,e)=(p,e)
 |[],_,_,_=>rfl
 |a::l,p,e,h=>by
  simp only[List.foldl_cons]
  have:(bif c a then fE (f a) 12 p e else(p,e))=(p,e):=by
   cases c a with
   |false=>rfl
   |true=>
    have h0:(e==0)=false:=by simpa using h
    simp only[cond_true,fE,h0,cond_false]
  rw[this];exact MX l p e h
theorem Mu {x:El}{fr:Int}{l:List Ex.Aj}{p e:Int}(h:e≠0):A8 x fr l (p,e)=(p,e):=by
 unfold A8
 rw[MX (c:=fun nm:List UInt8=>!(l.any fun a=>a.name==nm)) (f:=fun _=>fr) _ _ _ h,MX (c:=fun a:Ex.Aj=>!(x.names.any (·==a.name))|| !M8 a.name a.value) (f:=fun a=>(a.at':Int)) _ _ _ h]
theorem fold_iff {α:Type}{c:α->Bool}{f:α->Int}:∀(l:List α) (p:Int),((l.foldl (fun s a=>bif c a then fE (f a) 12 s.1 s.2 else s) (p,0)).2=0↔l.all (fun a=>!c a)=true)/\(l.all (fun a=>!c a)=true->l.foldl (fun s a=>bif c a then fE (f a) 12 s.1 s.2 else s) (p,0)=(p,0))
 |[],p=>⟨⟨fun _=>rfl,fun _=>rfl⟩,fun _=>rfl⟩
 |a::l,p=>by
  simp only[List.foldl_cons,List.all_cons]
  cases h:c a with
  |false=>
   simp only[cond_false,Bool.not_false,Bool.true_and];exact fold_iff l p
  |true=>
   have:(bif true then fE (f a) 12 p 0 else(p,0))=(f a,12):=rfl
   rw[this,MX l (f a) 12 (by decide)]
   simp
theorem dt (x:El)(fr:Int)(l:List Ex.Aj)(p:Int):((A8 x fr l (p,0)).2=0↔HB x l=true)/\(HB x l=true->A8 x fr l (p,0)=(p,0)):=by
 unfold A8 HB
 obtain⟨h1,h2⟩:=fold_iff (c:=fun nm:List UInt8=>!(l.any fun a=>a.name==nm)) (f:=fun _=>fr) (x.names.take x.Ch) p
 simp only[Bool.not_not] at h1 h2
 obtain⟨h3,h4⟩:=fold_iff (c:=fun a:Ex.Aj=>!(x.names.any (·==a.name))|| !M8 a.name a.value) (f:=fun a=>(a.at':Int)) l p
 have e:(l.all fun a=>!(!(x.names.any (·==a.name))|| !M8 a.name a.value))=l.all fun a=>x.names.any (·==a.name)&&M8 a.name a.value:=by
  congr 1
  funext a
  simp
 rw[e] at h3 h4;rw[Bool.and_eq_true]
 cases hh:(x.names.take x.Ch).all (fun nm=>l.any fun a=>a.name==nm) with
 |true=>
  rw[h2 hh]
  exact⟨⟨fun h=>⟨rfl,h3.1 h⟩,fun h=>h3.2 h.2⟩,fun h=>h4 h.2⟩
 |false=>
  refine⟨⟨fun h=> ?_,fun h=>by cases h.1⟩,fun h=>by cases h.1⟩
  generalize hs:(x.names.take x.Ch).foldl (fun s nm=>bif !(l.any fun a=>a.name==nm) then fE fr 12 s.1 s.2 else s) (p,0)=s at h h1
  have BO:s.2≠0:=fun e2=>by
   have:=h1.1 e2;rw[hh] at this;cases this
  obtain⟨s1,s2⟩:=s;rw[MX l s1 s2 BO] at h;exact absurd h BO
end Go.Ai.Sp
end
section
namespace Go.Ai.Sp
open Go.Ai Go.RowKit
theorem Nx (p x:Int)(hx:x≠0)(s:Ps):(F8 p x s).e≠0:=by
 unfold F8 fE;simp only
 cases h:s.e==0 with
 |true=>exact hx
 |false=>
  intro h2;simp only[cond_false] at h2;rw[h2] at h;cases h
def JT (x:El)(t:Ex.Tok)(n:Nd)(r:List Nd):Bool:=!((Bj x !=(t.kind==3))|| !CV n.kind (BA n.kids) x.kind)&&(decide (r.length+1<=16)&&HB x t.attrs)
theorem Zx (x:El)(t:Ex.Tok)(n:Nd)(r:List Nd)(s:Ps)(he:s.e=0):((Ko x t n r s).e=0↔JT x t n r=true)/\(JT x t n r=true->Ko x t n r s=s):=by
 obtain⟨rows,pl,e⟩:=s;simp only at he;subst he;unfold Ko JT
 cases h1:(Bj x !=(t.kind==3))|| !CV n.kind (BA n.kids) x.kind with
 |true=>
  simp only[cond_true,Bool.not_true,Bool.false_and]
  refine⟨⟨fun h=> ?_,fun h=>by cases h⟩,fun h=>by cases h⟩
  exfalso;have e1:F8 t.fr 13 ⟨rows,pl,0⟩=⟨rows,t.fr,13⟩:=rfl
  have e2:(bif decide (16<r.length+1) then F8 t.fr 3 (F8 t.fr 13 ⟨rows,pl,0⟩) else F8 t.fr 13 ⟨rows,pl,0⟩)=⟨rows,t.fr,13⟩:=by
   rw[e1]
   cases decide (16<r.length+1)<;>rfl
  rw[e2] at h
  simp only[Mu (by decide:(13:Int)≠0),Mu (by decide:(3:Int)≠0)] at h
  cases h
 |false=>
  simp only[cond_false,Bool.not_false,Bool.true_and]
  by_cases h2:16<r.length+1
  ·rw[decide_eq_true h2,decide_eq_false (by omega)]
   simp only[cond_true,Bool.false_and]
   refine⟨⟨fun h=> ?_,fun h=>by cases h⟩,fun h=>by cases h⟩
   exfalso;have e1:F8 t.fr 3 ⟨rows,pl,0⟩=⟨rows,t.fr,3⟩:=rfl;rw[e1] at h
   simp only[Mu (by decide:(13:Int)≠0),Mu (by decide:(3:Int)≠0)] at h
   cases h
  ·rw[decide_eq_false h2,decide_eq_true (by omega)]
   simp only[cond_false,Bool.true_and];obtain⟨h3,h4⟩:=dt x t.fr t.attrs pl
   exact⟨h3,fun h=>by rw[h4 h]⟩
theorem GN (s:List UInt8):3<=(Br s).kind/\(Br s).kind<=13:=by
 unfold Br
 repeat' (first|(cases (s==_)<;>simp only[cond_true,cond_false])|exact⟨by decide,by decide⟩)
section
variable {K:Int}{K0 pr:List Nd}
end
end Go.Ai.Sp
end
section
namespace Go.Ai.Sp
open Go.Ai Go.RowKit
def fo :Bool->List Ex.Tok->Prop
 |_,[]=>True
 |b,t::l=>(t.kind=7->b=true)/\fo (Ex.EA t) l
theorem nD {hid:Bool}{l:List Ex.Tok}(h:Ex.VG hid l):fo false l:=by
 have WE:∀t:Ex.Tok,t.kind≠2->Ex.EA t=false:=fun t ht=>by
  unfold Ex.EA
  have:(t.kind==2)=false:=by simpa using ht
  rw[this];rfl
 induction h with
 |nil=>trivial
 |text h1 _ _ _ _ _ _ ih=>exact⟨fun h=>by omega,by rw[WE _ (by omega)];exact ih⟩
 |tag h1 _ _ _ ih=>
  rcases h1 with h1|⟨h1,h2⟩
  ·exact⟨fun h=>by omega,by rw[WE _ (by omega)];exact ih⟩
  ·exact⟨fun h=>by omega,by rw[h2];exact ih⟩
 |own h1 h2 _ h4 _ _ h7 _ _ _ _ ih=>
  refine⟨fun h=>by omega,⟨fun _=> ?_,?_⟩⟩
  ·unfold Ex.EA
   rcases h2 with h2|h2<;>rw[h1,h2]<;>rfl
  ·rw[WE _ (by omega)]
   exact ih
 |close h1 _ _ _ ih=>exact⟨fun h=>by omega,by rw[WE _ (by omega)];exact ih⟩
 |Ut h1 _ _ _ ih=>exact⟨fun h=>by omega,by rw[WE _ (by omega)];exact ih⟩
 |shown h1 _ _ _ _ ih=>exact⟨fun h=>by omega,by rw[WE _ (by omega)];exact ih⟩
theorem Zl (n c:Nd)(r:List Nd):dS (Dy n c::r)=max (dS (n::r)) (r.length+(c.depth+if c.kind=2 then 0 else 1)):=by
 simp only[dS,Zk];omega
def P8 (t:Ex.Tok):Prop:=t.kind=2\/t.kind=3\/t.kind=5
structure z8 (t:Ex.Tok) (S:Ps):Prop where
 ne:(Aq t S).rows≠[]
 le:dS S.rows<=dS (Aq t S).rows
 tag:P8 t->S.rows.length<=dS (Aq t S).rows/\dS (Aq t S).rows<=max (dS S.rows) S.rows.length/\S.rows.length<=16
 no:¬P8 t->dS (Aq t S).rows<=dS S.rows
 own:Ex.EA t=true->2<=(Aq t S).rows.length
theorem QB {t:Ex.Tok}{S:Ps}(h1:(Aq t S).rows≠[])(h2:dS (Aq t S).rows=dS S.rows)(ou:¬P8 t)(Is:Ex.EA t≠true):z8 t S:=
 ⟨h1,Nat.le_of_eq h2.symm,fun h=>absurd h ou,fun _=>Nat.le_of_eq h2,fun h=>absurd h Is⟩
theorem stp {t:Ex.Tok}{S:Ps}(BO:S.rows≠[])(he:S.e=0)(hs:(Aq t S).e=0):z8 t S:=by
 obtain⟨rows,pl,e⟩:=S;simp only at he BO;subst he;obtain⟨n,r,rfl⟩:=List.exists_cons_of_ne_nil BO
 cases k1:t.kind==1 with
 |true=>
  have wO:=eq_of_beq k1
  have ou:¬P8 t:=fun h=>by unfold P8 at h;omega
  have Is:Ex.EA t≠true:=fun h=>by
   unfold Ex.EA at h;rw[wO] at h;cases h
  have e1:Aq t ⟨n::r,pl,0⟩=ED t ⟨n::r,pl,0⟩:=by unfold Aq;rw[k1];rfl
  rw[e1] at hs
  have key:(ED t ⟨n::r,pl,0⟩).rows≠[]/\dS (ED t ⟨n::r,pl,0⟩).rows=dS (n::r):=by
   unfold ED at hs⊢;simp only at hs⊢
   cases k2:n.kind==7||n.kind==10 with
   |true=>
    rw[k2] at hs;simp only[cond_true] at hs⊢
    cases k3:(Dp t.text).isEmpty with
    |true=>simp only[cond_true];exact⟨by simp,trivial⟩
    |false=>
     rw[k3] at hs
     exact absurd hs (Nx _ _ (by decide) _)
   |false=>
    simp only[cond_false]
    refine⟨by simp,?_⟩
    rw[Zl,Im];simp only[Nd.kind,Fk,if_true,dS];omega
  exact QB (by rw[e1];exact key.1) (by rw[e1];exact key.2) ou Is
 |false=>
 cases k7:t.kind==7 with
 |true=>
  have k7':=eq_of_beq k7
  have ou:¬P8 t:=fun h=>by unfold P8 at h;omega
  have Is:Ex.EA t≠true:=fun h=>by
   unfold Ex.EA at h;rw[k7'] at h;cases h
  have e1:Aq t ⟨n::r,pl,0⟩=LO t ⟨n::r,pl,0⟩:=by unfold Aq;rw[k1,k7];rfl
  have e2:dS (LO t ⟨n::r,pl,0⟩).rows=dS (n::r):=by
   unfold LO;simp only[dS,Im,Re n]
  exact QB (by rw[e1];unfold LO;simp) (by rw[e1];exact e2) ou Is
 |false=>
 cases k2:t.kind==2||t.kind==3 with
 |true=>
  have ht:P8 t:=by
   simp only[Bool.or_eq_true,beq_iff_eq] at k2
   rcases k2 with h|h
   ·exact .inl h
   ·exact .inr (.inl h)
  have e1:Aq t ⟨n::r,pl,0⟩=EY t ⟨n::r,pl,0⟩:=by unfold Aq;rw[k1,k7,k2];rfl
  rw[e1] at hs;obtain⟨g1,g2⟩:=Zx (Br t.name) t n r ⟨n::r,pl,0⟩ rfl
  have hb:JT (Br t.name) t n r=true:=by
   refine g1.1 ?_;unfold EY at hs;simp only at hs
   cases qW:Bj (Br t.name)<;>rw[qW] at hs<;>exact hs
  have hl:r.length+1<=16:=by
   unfold JT at hb;simp only[Bool.and_eq_true,decide_eq_true_eq] at hb;exact hb.2.1
  have hk:=GN t.name
  have e2:EY t ⟨n::r,pl,0⟩=bif Bj (Br t.name) then⟨Dy n (.mk (Br t.name).kind t.fr [] (t.attrs.map JW) [])::r,pl,0⟩ else⟨.mk (Br t.name).kind t.fr [] (t.attrs.map JW) []::n::r,pl,0⟩:=by
   unfold EY;simp only;rw[g2 hb]
  have key:(EY t ⟨n::r,pl,0⟩).rows≠[]/\dS (EY t ⟨n::r,pl,0⟩).rows=max (dS (n::r)) (r.length+1)/\(Ex.EA t=true->2<=(EY t ⟨n::r,pl,0⟩).rows.length):=by
   rw[e2]
   cases qW:Bj (Br t.name) with
   |true=>
    simp only[cond_true]
    refine⟨by simp,?_,fun ho=> ?_⟩
    ·have Lo:(Nd.mk (Br t.name).kind t.fr [] (t.attrs.map JW) []).kind≠2:=by
      show(Br t.name).kind≠2;omega
     rw[Zl,Im,if_neg Lo];simp only[Fk,Nat.zero_add]
    ·exfalso;unfold Ex.EA at ho;simp only[Bool.and_eq_true,Bool.or_eq_true,beq_iff_eq] at ho
     rcases ho.2 with h|h<;>rw[h] at qW<;>cases qW
   |false=>
    simp only[cond_false]
    refine⟨by simp,?_,fun _=>by simp⟩
    simp only[dS,Im,Fk,List.length_cons,Nat.add_zero];omega
  refine⟨by rw[e1];exact key.1,by rw[e1,key.2.1];exact Nat.le_max_left _ _,fun _=>⟨?_,?_,hl⟩,fun h=>absurd ht h,fun h=>by rw[e1];exact key.2.2 h⟩
  ·rw[e1,key.2.1];exact Nat.le_max_right _ _
  ·rw[e1,key.2.1];exact Nat.le_refl _
 |false=>
 have k2':¬(t.kind=2\/t.kind=3):=by simpa using k2
 have Is:Ex.EA t≠true:=fun h=>by
  unfold Ex.EA at h;simp only[Bool.and_eq_true,beq_iff_eq] at h;exact k2' (.inl h.1)
 cases k5:t.kind==5 with
 |true=>
  have ht:P8 t:=.inr (.inr (eq_of_beq k5))
  have e1:Aq t ⟨n::r,pl,0⟩=Ff t ⟨n::r,pl,0⟩:=by unfold Aq;rw[k1,k7,k2,k5];rfl
  rw[e1] at hs;have e3:(Ff t ⟨n::r,pl,0⟩).rows=.mk 14 t.fr [] [] []::n::r:=rfl
  have hl:r.length+1<=16:=by
   unfold Ff at hs;simp only at hs
   refine Nat.le_of_not_lt fun h=> ?_
   rw[decide_eq_true (show 16<r.length+1 from h)] at hs
   simp only[cond_true] at hs
   exact absurd hs (Nx _ _ (by decide) _)
  have e2:dS (Nd.mk 14 t.fr [] [] []::n::r)=max (dS (n::r)) (r.length+1):=by
   simp only[dS,Im,Fk,List.length_cons,Nat.add_zero];omega
  refine⟨by rw[e1,e3];simp,by rw[e1,e3,e2];exact Nat.le_max_left _ _,fun _=>⟨?_,?_,hl⟩,fun h=>absurd ht h,fun h=>absurd h Is⟩
  ·rw[e1,e3,e2];exact Nat.le_max_right _ _
  ·rw[e1,e3,e2];exact Nat.le_refl _
 |false=>
  have ou:¬P8 t:=fun h=>by
   unfold P8 at h
   have k5':t.kind≠5:=by simpa using k5
   omega
  have e1:Aq t ⟨n::r,pl,0⟩=Es t ⟨n::r,pl,0⟩:=by unfold Aq;rw[k1,k7,k2,k5];rfl
  rw[e1] at hs
  have key:(Es t ⟨n::r,pl,0⟩).rows≠[]/\dS (Es t ⟨n::r,pl,0⟩).rows=dS (n::r):=by
   unfold Es at hs⊢;simp only at hs⊢
   cases hb:Ei t n with
   |true=>
    rw[hb] at hs
    exact absurd hs (Nx _ _ (by decide) _)
   |false=>
    have hk:n.kind≠2:=fun h2=>by
     unfold Ei at hb;simp only[Bool.or_eq_false_iff,Bool.not_eq_false',beq_iff_eq] at hb;have h3:=hb.1;rw[h2] at h3;unfold Et at h3;have:=GN t.name
     cases h4:t.kind==4 with
     |true=>rw[h4] at h3;simp only[cond_true] at h3;omega
     |false=>rw[h4] at h3;simp at h3
    simp only[cond_false]
    cases r with
    |nil=>exact⟨by simp,rfl⟩
    |cons m q=>
     refine⟨by simp,?_⟩
     simp only;rw[Zl];simp only[dS,if_neg hk,List.length_cons];omega
  exact QB (by rw[e1];exact key.1) (by rw[e1];exact key.2) ou Is
end Go.Ai.Sp
end
section
namespace Go.Ai.Sp
open Go.Ai Go.RowKit
theorem GF (t:Ex.Tok)(l:List Ex.Tok)(S:Ps):((Aq t S).e=0->A7 (t::l) S=A7 l (Aq t S))/\((Aq t S).e≠0->A7 (t::l) S=Aq t S):=by
 constructor
 ·intro h;simp only[A7,h];rfl
 ·intro h
  have:((Aq t S).e==0)=false:=by simpa using h
  simp only[A7,this,cond_false]
theorem Pb {t:Ex.Tok}{l:List Ex.Tok}{S:Ps}(h:(A7 (t::l) S).e=0):(Aq t S).e=0/\(A7 l (Aq t S)).e=0:=by
 obtain⟨h1,h2⟩:=GF t l S
 have:(Aq t S).e=0:=Decidable.byContradiction fun hn=>by
  rw[h2 hn] at h;exact hn h
 rw[h1 this] at h;exact⟨this,h⟩
section
variable {K:Int}{K0 pr:List Nd}
end
theorem Su {s:List UInt8}(h:Fb s=0):∃(n:Nd) (l:List Ex.Tok) (p:Int),Cr s=n/\Bi s=.ok n/\Ex.lexM s=.ok l/\A7 l DX=⟨[n],p,0⟩:=by
 unfold Fb at h;unfold Cr
 cases hm:Bi s with
 |error x=>
  obtain⟨p,e⟩:=x;rw[hm] at h;have h:e=0:=h;subst h;unfold Bi at hm;split at hm
  ·cases hm
  ·split at hm
   ·rename_i p' e' hl
    injection hm with hm
    injection hm with _ he
    exact absurd he (Ex.gm hl)
   ·unfold NR Ml at hm
    cases he:(A7 _ DX).e==0 with
    |true=>
     rw[he] at hm;simp only[cond_true] at hm;split at hm
     ·cases hm
     ·injection hm with hm
      injection hm with _ he
      cases he
    |false=>
     rw[he] at hm;simp only[cond_false] at hm
     injection hm with hm
     injection hm with _ xr
     rw[xr] at he;cases he
 |ok n=>
  unfold Bi at hm;split at hm
  ·cases hm
  ·split at hm
   ·cases hm
   ·rename_i l hl;unfold NR Ml at hm
    cases he:(A7 l DX).e==0 with
    |false=>rw[he] at hm;cases hm
    |true=>
     rw[he] at hm;simp only[cond_true] at hm;split at hm
     ·rename_i m hr
      injection hm with hm
      subst hm;refine⟨m,l,(A7 l DX).pl,rfl,rfl,hl,?_⟩;have uN:=eq_of_beq he;revert hr uN
      cases A7 l DX with
      |mk rows pl e=>
       intro hr uN;simp only at hr uN;rw[hr,uN]
     ·cases hm
theorem V9 {s:List UInt8}{l:List Ex.Tok}{n:Nd}{S:Ps}(hs:s.length<=65536)(hl:Ex.lexM s=.ok l)(h:A7 l DX=S)(he:S.e=0)(hr:S.rows=[n]):Fb s=0/\Cr s=n:=by
 have:Bi s=.ok n:=by
  unfold Bi
  rw[if_neg (by omega),hl]
  simp only;unfold NR Ml;rw[h,he,hr];rfl
 unfold Fb Cr;rw[this];exact⟨rfl,rfl⟩
end Go.Ai.Sp
end
section
namespace Go.Ai.Sp
open Go.Ai Go.RowKit
end Go.Ai.Sp
end
section
namespace Go.Ai.Ex
open Go.Ai
end Go.Ai.Ex
namespace Go.Ai.Sp
open Go.Ai Go.RowKit
end Go.Ai.Sp
end
section
namespace Go.Ai.Sp
open Go.Ai Go.RowKit
def Hn (nm:List UInt8):List Go.Ai.Aj->Nat
 |[]=>0
 |a::t=>(bif a.name==nm then 1 else 0)+Hn nm t
def ly (r:K6)(a:Go.Ai.Aj):Prop:=a.name=r.name->r.may.ok a.value=true/\LR a.value=false
theorem Kj {r:K6}:∀{al:List Go.Ai.Aj} {n m:Int},DQ r al n=some m↔m=n+Hn r.name al/\∀a∈al,ly r a
 |[],n,m=>by
  simp only[DQ,Hn,Option.some.injEq,List.not_mem_nil,false_implies,implies_true,and_true];constructor
  ·intro h;rw[<-h];simp
  ·intro h;rw[h];simp
 |a::t,n,m=>by
  rw[DQ,Hn]
  cases h:a.name==r.name with
  |true=>
   have hn:a.name=r.name:=by simpa using h
   simp only[cond_true]
   cases hv:r.may.ok a.value&& !LR a.value with
   |true=>
    simp only[cond_true];rw[Kj];simp only[Bool.and_eq_true,Bool.not_eq_true'] at hv;constructor
    ·rintro⟨h1,h2⟩
     refine⟨by omega,fun b hb=> ?_⟩
     rcases List.mem_cons.1 hb with rfl|hb
     ·exact fun _=>hv
     ·exact h2 b hb
    ·rintro⟨h1,h2⟩
     exact⟨by omega,fun b hb=>h2 b (List.mem_cons_of_mem _ hb)⟩
   |false=>
    simp only[cond_false];constructor
    ·intro h;cases h
    ·rintro⟨_,h2⟩
     have:=h2 a (by simp) hn
     rw[this.1,this.2] at hv;cases hv
  |false=>
   have hn:¬a.name=r.name:=by simpa using h
   simp only[cond_false,Nat.zero_add];rw[Kj];constructor
   ·rintro⟨h1,h2⟩
    refine⟨h1,fun b hb=> ?_⟩
    rcases List.mem_cons.1 hb with rfl|hb
    ·exact fun e=>absurd e hn
    ·exact h2 b hb
   ·rintro⟨h1,h2⟩
    exact⟨h1,fun b hb=>h2 b (List.mem_cons_of_mem _ hb)⟩
def Iv (al:List Go.Ai.Aj):List K6->Nat
 |[]=>0
 |r::l=>Hn r.name al+Iv al l
theorem TA {al:List Go.Ai.Aj}:∀{l:List K6} {f:Int},Ca l al f=true↔f+Iv al l=(al.length:Nat)/\∀r∈l,(∀a∈al,ly r a)/\Hn r.name al<=1/\(r.Ch=true->Hn r.name al=1)
 |[],f=>by simp[Ca,Iv]
 |r::l,f=>by
  rw[Di,Iv]
  cases hc:DQ r al 0 with
  |none=>
   simp only[D9];constructor
   ·intro h;cases h
   ·rintro⟨_,h⟩
    have:=(Kj (r:=r) (al:=al) (n:=0) (m:=Hn r.name al)).2 ⟨by omega,(h r (by simp)).1⟩
    rw[hc] at this;cases this
  |some n=>
   obtain⟨h1,h2⟩:=Kj.1 hc;simp only[D9]
   by_cases h3:1<n
   ·rw[decide_eq_true h3];simp only[cond_true];constructor
    ·intro h;cases h
    ·rintro⟨_,h⟩
     have:=(h r (by simp)).2.1
     omega
   ·rw[decide_eq_false h3];simp only[cond_false]
    cases hz:n==0&&r.Ch with
    |true=>
     simp only[Bool.and_eq_true,beq_iff_eq] at hz;simp only[cond_true];constructor
     ·intro h;cases h
     ·rintro⟨_,h⟩
      have:=(h r (by simp)).2.2 hz.2
      omega
    |false=>
     simp only[cond_false];rw[TA];constructor
     ·rintro⟨h4,h5⟩
      refine⟨by omega,fun q hq=> ?_⟩
      rcases List.mem_cons.1 hq with rfl|hq
      ·refine⟨h2,by omega,fun hm=> ?_⟩
       rw[hm] at hz;simp at hz;omega
      ·exact h5 q hq
     ·rintro⟨h4,h5⟩
      exact⟨by omega,fun q hq=>h5 q (List.mem_cons_of_mem _ hq)⟩
def uniq :List K6->Prop
 |[]=>True
 |r::l=>(∀q∈l,q.name≠r.name)/\uniq l
theorem PY {a:Go.Ai.Aj}:∀{l:List K6},uniq l->Iv [a] l<=1/\((∀r∈l,r.name≠a.name)->Iv [a] l=0)
 |[],_=>⟨by simp[Iv],fun _=>rfl⟩
 |r::l,⟨h1,h2⟩=>by
  obtain⟨h3,h4⟩:=PY (a:=a) h2;simp only[Iv,Hn]
  cases h:a.name==r.name with
  |true=>
   have hn:a.name=r.name:=by simpa using h
   have:=h4 fun q hq e=>h1 q hq (e.trans hn)
   refine⟨by simp only[cond_true];omega,fun hh=>absurd hn.symm (hh r (by simp))⟩
  |false=>
   refine⟨by simp only[cond_false];omega,fun hh=> ?_⟩
   have:=h4 fun q hq=>hh q (List.mem_cons_of_mem _ hq)
   simp only[cond_false];omega
theorem sum_cons (a:Go.Ai.Aj)(al:List Go.Ai.Aj):∀l:List K6,Iv (a::al) l=Iv [a] l+Iv al l
 |[]=>rfl
 |r::l=>by simp only[Iv,sum_cons a al l,Hn];omega
theorem YH {l:List K6}(hu:uniq l):∀al:List Go.Ai.Aj,Iv al l<=al.length
 |[]=>by
  have:∀l:List K6,Iv [] l=0:=fun l=>by induction l with
   |nil=>rfl
   |cons r l ih=>simp[Iv,Hn,ih]
  rw[this];exact Nat.zero_le _
 |a::al=>by
  rw[sum_cons];have:=(PY (a:=a) hu).1;have:=YH hu al;simp only[List.length_cons];omega
theorem aO {l:List K6}(hu:uniq l):∀al:List Go.Ai.Aj,Iv al l=al.length->∀a∈al,∃r∈l,r.name=a.name
 |[],_,a,ha=>by cases ha
 |b::al,h,a,ha=>by
  rw[sum_cons] at h;obtain⟨h1,h2⟩:=PY (a:=b) hu;have h3:=YH hu al;simp only[List.length_cons] at h
  rcases List.mem_cons.1 ha with rfl|ha
  ·apply Classical.byContradiction;intro hn
   have:=h2 fun r hr e=>hn ⟨r,hr,e⟩
   omega
  ·exact aO hu al (by omega) a ha
theorem fJ {l:List K6}(hu:uniq l):∀al:List Go.Ai.Aj,(∀a∈al,∃r∈l,r.name=a.name)->Iv al l=al.length
 |[],_=>by
  have:=YH hu [];simpa using this
 |a::al,h=>by
  rw[sum_cons,fJ hu al fun b hb=>h b (List.mem_cons_of_mem _ hb)]
  have h1:=(PY (a:=a) hu).1
  obtain⟨r,hr,e⟩:=h a (by simp)
  have h2:1<=Iv [a] l:=by
   clear h h1 hu
   induction l with
   |nil=>cases hr
   |cons q l ih=>
    simp only[Iv,Hn]
    rcases List.mem_cons.1 hr with rfl|hr
    ·rw[e];simp
    ·have:=ih hr;omega
  simp only[List.length_cons];omega
def Nf :List Go.Ai.Aj->Prop
 |[]=>True
 |a::al=>(∀b∈al,b.name≠a.name)/\Nf al
theorem KH {nm:List UInt8}:∀{al:List Go.Ai.Aj},Hn nm al=0↔∀a∈al,a.name≠nm
 |[]=>by simp[Hn]
 |a::al=>by
  rw[Hn];have:=KH (nm:=nm) (al:=al)
  cases h:a.name==nm with
  |true=>
   have hn:a.name=nm:=by simpa using h
   constructor
   ·intro h;simp at h
   ·intro h;exact absurd hn (h a (by simp))
  |false=>
   have hn:¬a.name=nm:=by simpa using h
   simp only[cond_false,Nat.zero_add,this];constructor
   ·intro h b hb
    rcases List.mem_cons.1 hb with rfl|hb
    ·exact hn
    ·exact h b hb
   ·intro h b hb;exact h b (List.mem_cons_of_mem _ hb)
theorem ja {l:List K6}:∀{al:List Go.Ai.Aj},(∀a∈al,∃r∈l,r.name=a.name)->(∀r∈l,Hn r.name al<=1)->Nf al
 |[],_,_=>trivial
 |a::al,h1,h2=>by
  obtain⟨r,hr,e⟩:=h1 a (by simp)
  refine⟨fun b hb=> ?_,ja (fun b hb=>h1 b (List.mem_cons_of_mem _ hb)) fun q hq=> ?_⟩
  ·have:=h2 r hr;rw[Hn,e,beq_self_eq_true] at this;simp only[cond_true] at this
   exact KH.1 (by omega) b hb
  ·have:=h2 q hq;rw[Hn] at this;omega
theorem N9 :∀{al:List Go.Ai.Aj},Nf al->∀nm,Hn nm al<=1
 |[],_,_=>by simp[Hn]
 |a::al,⟨h1,h2⟩,nm=>by
  rw[Hn];have:=N9 h2 nm
  cases h:a.name==nm with
  |true=>
   have hn:a.name=nm:=by simpa using h
   have:=(KH (nm:=nm) (al:=al)).2 fun b hb=>hn▸h1 b hb
   simp only[cond_true];omega
  |false=>simpa using this
theorem K9 (k:Int):uniq (BI k):=by
 unfold BI
 cases k==3<;>cases k==4<;>cases k==6<;>cases k==11<;>simp only[cond_true,cond_false,uniq]<;>decide
theorem MR {k:Int}{al:List Go.Ai.Aj}:Ca (BI k) al 0=true↔Nf al/\(∀a∈al,∃r∈BI k,r.name=a.name/\r.may.ok a.value=true/\LR a.value=false)/\∀r∈BI k,r.Ch=true->∃a∈al,a.name=r.name:=by
 rw[TA];constructor
 ·rintro⟨h1,h2⟩
  have ha:=aO (K9 k) al (by omega)
  refine⟨ja ha fun r hr=>(h2 r hr).2.1,fun a hm=> ?_,fun r hr hm=> ?_⟩
  ·obtain⟨r,hr,e⟩:=ha a hm;exact⟨r,hr,e,(h2 r hr).1 a hm e.symm⟩
  ·have:=(h2 r hr).2.2 hm;apply Classical.byContradiction;intro hn
   have:=(KH (nm:=r.name) (al:=al)).2 fun a ha e=>hn ⟨a,ha,e⟩
   omega
 ·rintro⟨h1,h2,h3⟩
  refine⟨by rw[fJ (K9 k) al fun a ha=>(h2 a ha).imp fun r hr=>⟨hr.1,hr.2.1⟩];omega,fun r hr=>⟨fun a ha e=> ?_,N9 h1 _,fun hm=> ?_⟩⟩
  ·obtain⟨q,hq,e1,e2⟩:=h2 a ha
   have:q=r:=by
    have key:∀{l:List K6},uniq l->∀x∈l,∀y∈l,x.name=y.name->x=y:=by
     intro l
     induction l with
     |nil=>intro _ x hx;cases hx
     |cons z l ih=>
      rintro⟨u1,u2⟩ x hx y hy tM
      rcases List.mem_cons.1 hx with e1|h1<;>rcases List.mem_cons.1 hy with e2|h2
      ·rw[e1,e2]
      ·rw[e1] at tM;exact absurd tM.symm (u1 y h2)
      ·rw[e2] at tM;exact absurd tM (u1 x h1)
      ·exact ih u2 x h1 y h2 tM
    exact key (K9 k) q hq r hr (e1.trans e)
   rw[<-this];exact e2
  ·obtain⟨a,ha,e⟩:=h3 r hr hm;have h4:=N9 h1 r.name
   have:Hn r.name al≠0:=fun z=>KH.1 z a ha e
   omega
def Bp (k:Int):List UInt8:=
 bif k==3 then [105,110,99,108,117,100,101] else bif k==4 then Ex.CT else bif k==5 then Ex.BR else bif k==6 then [99,111,109,109,101,110,116] else
 bif k==7 then [116,114,121] else bif k==8 then [97,116,116,101,109,112,116] else bif k==9 then [101,120,99,101,112,116] else bif k==10 then [99,104,111,111,115,101] else
 bif k==11 then [119,104,101,110] else bif k==12 then [111,116,104,101,114,119,105,115,101] else [118,97,114,115]
def C6 (a:Go.Ai.Aj):Ex.Aj:=⟨a.name,a.value,0⟩
def Oy (k:Int)(al:List Go.Ai.Aj):Ex.Tok:=⟨2,Bp k,al.map C6,[],0,0⟩
def SR (k:Int):Ex.Tok:=⟨4,Bp k,[],[],0,0⟩
def OO :Ex.Tok:=⟨6,[],[],Ex.BM,0,0⟩
def Oa :Ex.Tok:=⟨5,[],[],[],0,0⟩
def l8 (t:List UInt8):Ex.Tok:=⟨1,[],[],t,0,0⟩
mutual
def Gr :Nd->List Ex.Tok
 |.mk k _ t al ks=>
  bif k==2 then [l8 t] else
  bif k==3||k==6 then [⟨3,Bp k,al.map C6,[],0,0⟩] else
  bif k==4||k==5 then [Oy k al,⟨7,[],[],t,0,0⟩,SR k] else
  bif k==14 then Oa::(BT ks++[OO]) else Oy k al::(BT ks++[SR k])
def BT :List Nd->List Ex.Tok
 |[]=>[]
 |n::r=>Gr n++BT r
end
theorem Pz :∀a b:List Nd,BT (a++b)=BT a++BT b
 |[],b=>rfl
 |n::r,b=>by rw[List.cons_append,BT,BT,Pz r b,List.append_assoc]
def Ld (k:Int):Prop:=3<=k/\k<=13
theorem Ki {k:Int}(h:Ld k):k=3\/k=4\/k=5\/k=6\/k=7\/k=8\/k=9\/k=10\/k=11\/k=12\/k=13:=by
 obtain⟨h1,h2⟩:=h;omega
theorem I6 {k:Int}(h:Ld k):Ex.CW (Bp k)=true:=by
 rcases Ki h with rfl|rfl|rfl|rfl|rfl|rfl|rfl|rfl|rfl|rfl|rfl<;>decide
theorem VF {k:Int}(h:Ld k):(Br (Bp k)).kind=k:=by
 rcases Ki h with rfl|rfl|rfl|rfl|rfl|rfl|rfl|rfl|rfl|rfl|rfl<;>decide
theorem gP {k:Int}(h:Ld k)(h4:¬k=4)(h5:¬k=5):¬(Bp k=Ex.BR\/Bp k=Ex.CT):=by
 rcases Ki h with rfl|rfl|rfl|rfl|rfl|rfl|rfl|rfl|rfl|rfl|rfl<;>first|exact absurd rfl h4|exact absurd rfl h5|decide
theorem EW {x:List UInt8}:∀{s:List UInt8},An s x=true↔∃j,j<=s.length/\x.isPrefixOf (s.drop j)=true
 |[]=>by
  simp only[An];constructor
  ·intro h
   refine⟨0,by simp,?_⟩
   cases x with
   |nil=>rfl
   |cons=>cases h
  ·rintro⟨j,hj,h⟩
   cases x with
   |nil=>rfl
   |cons=>simp at h
 |c::r=>by
  simp only[An,Bool.or_eq_true];rw[EW (s:=r)];constructor
  ·rintro(h|⟨j,hj,h⟩)
   ·exact⟨0,by simp,h⟩
   ·exact⟨j+1,by simp;omega,by simpa using h⟩
  ·rintro⟨j,hj,h⟩
   cases j with
   |zero=>exact .inl h
   |succ j=>exact .inr ⟨j,by simpa using hj,by simpa using h⟩
theorem KG {s x:List UInt8}(h:An s x=false)(j:Nat)(hj:j<=s.length):x.isPrefixOf (s.drop j)=false:=by
 rw[Bool.eq_false_iff] at h⊢
 exact fun e=>h (EW.2 ⟨j,hj,e⟩)
theorem Tc {s:List UInt8}{c:UInt8}:An s [c]=true↔c∈s:=by
 rw[EW];constructor
 ·rintro⟨j,hj,h⟩
  obtain⟨z,hz⟩:=List.isPrefixOf_iff_prefix.1 h
  exact List.mem_of_mem_drop (i:=j) (by rw[<-hz];simp)
 ·intro h;obtain⟨a,b,rfl⟩:=List.append_of_mem h
  exact⟨a.length,by simp,by simp[List.isPrefixOf]⟩
theorem aW {x y r:List UInt8}:(x++y).isPrefixOf r=true↔x.isPrefixOf r=true/\y.isPrefixOf (r.drop x.length)=true:=by
 rw[List.isPrefixOf_iff_prefix,List.isPrefixOf_iff_prefix,List.isPrefixOf_iff_prefix];constructor
 ·rintro⟨z,rfl⟩
  exact⟨⟨y++z,by simp⟩,⟨z,by simp⟩⟩
 ·rintro⟨⟨z,rfl⟩,⟨w,hw⟩⟩
  refine⟨w,?_⟩;rw[List.drop_left' rfl] at hw;rw[<-hw,List.append_assoc]
theorem cE {t:List UInt8}{hid:Bool}(h:D6 2 t hid=true):t≠[]/\∀j,j<t.length->Ex.Ga (t.drop j) hid=false:=by
 unfold D6 at h;simp only[beq_self_eq_true,cond_true,Bool.and_eq_true,Bool.not_eq_true',beq_eq_false_iff_ne] at h;obtain⟨⟨h1,h2⟩,h3⟩:=h
 refine⟨h1,fun j hj=> ?_⟩
 unfold Hs at h2;simp only[Bool.or_eq_false_iff] at h2;obtain⟨⟨a1,a2⟩,a3⟩:=h2
 refine Ex.IS.2 ⟨KG a1 j (by omega),KG a2 j (by omega),?_,?_⟩
 ·cases he:Ex.CX.isPrefixOf (t.drop j) with
  |false=>rfl
  |true=>
   simp only[Bool.true_and]
   cases hd:(t.drop j).drop 7 with
   |nil=>rfl
   |cons c q=>
    simp only
    cases hb:Ex.blB c with
    |false=>rfl
    |true=>
     exfalso
     have key:∀b:List UInt8,b∈Fq->b=[c]->False:=fun b HI e=>by
      have:=List.any_eq_false.1 a3 b HI;apply this;rw[EW]
      refine⟨j,by omega,aW.2 ⟨he,?_⟩⟩
      show b.isPrefixOf ((t.drop j).drop 7)=true;rw[hd,e];simp[List.isPrefixOf]
     unfold Ex.blB at hb;simp only[Bool.or_eq_true,beq_iff_eq] at hb
     rcases hb with ((rfl|rfl)|rfl)|rfl
     ·exact key [32] (by decide) rfl
     ·exact key [9] (by decide) rfl
     ·exact key [10] (by decide) rfl
     ·exact key [13] (by decide) rfl
 ·cases hid with
  |false=>simp
  |true=>
   simp only[Bool.true_and] at h3;rw[Bool.and_true]
   exact KG h3 j (by omega)
theorem cM {t:List UInt8}{hid:Bool}(h0:t≠[])(h:∀j,j<t.length->Ex.Ga (t.drop j) hid=false):D6 2 t hid=true:=by
 have up:∀x:List UInt8,x≠[]->(∀j,j<t.length->x.isPrefixOf (t.drop j)=false)->An t x=false:=fun x hx hh=>by
  rw[Bool.eq_false_iff];intro e;obtain⟨j,hj,e⟩:=EW.1 e
  rcases Nat.lt_or_ge j t.length with h|h
  ·rw[hh j h] at e;cases e
  ·rw[List.drop_of_length_le h] at e
   cases x with
   |nil=>exact hx rfl
   |cons=>simp at e
 have hs:=fun j hj=>Ex.IS.1 (h j hj)
 unfold D6;simp only[beq_self_eq_true,cond_true,Bool.and_eq_true,Bool.not_eq_true',beq_eq_false_iff_ne];refine⟨⟨h0,?_⟩,?_⟩
 ·unfold Hs;simp only[Bool.or_eq_false_iff]
  refine⟨⟨up _ (by decide) fun j hj=>(hs j hj).1,up _ (by decide) fun j hj=>(hs j hj).2.1⟩,?_⟩
  rw[List.any_eq_false];intro b hb;rw[Bool.not_eq_true]
  refine up _ (by simp[Ks]) fun j hj=> ?_
  have h3:=(hs j hj).2.2.1;rw[Bool.eq_false_iff];intro e;obtain⟨e1,e2⟩:=aW.1 e;have pd:Ex.CX.isPrefixOf (t.drop j)=true:=e1;rw[pd] at h3;simp only[Bool.true_and] at h3;have pc:b.isPrefixOf ((t.drop j).drop 7)=true:=e2
  have HI:∃c,b=[c]/\Ex.blB c=true:=by
   simp only[Fq,List.mem_cons,List.not_mem_nil,or_false] at hb
   rcases hb with rfl|rfl|rfl|rfl<;>exact⟨_,rfl,by decide⟩
  obtain⟨c,rfl,hc⟩:=HI
  cases hd:(t.drop j).drop 7 with
  |nil=>rw[hd] at pc;simp at pc
  |cons d q=>
   rw[hd] at pc h3;simp only[List.isPrefixOf,Bool.and_true,beq_iff_eq] at pc;simp only[<-pc,hc] at h3;cases h3
 ·cases hid with
  |false=>rfl
  |true=>
   rw[Bool.true_and]
   refine up _ (by decide) fun j hj=> ?_
   have:=(hs j hj).2.2.2
   rwa [Bool.and_true] at this
theorem U5 {x t:List UInt8}(hx:∀k,1<=k->k<x.length->(x.drop k).head?≠some 60)(ze:x.head? =some 60)(h:An t x=false):Ex.Cx x (t++x)=some t.length:=by
 refine Ex.RP (by rw[List.drop_left' rfl];exact List.isPrefixOf_iff_prefix.2 (List.prefix_refl x)) (fun j hj=> ?_) (by simp)
 rw[Bool.eq_false_iff];intro e
 rw[List.drop_append_of_le_length (by omega)] at e
 rcases Ex.Sr e with e|⟨y,hy,e1,e2⟩
 ·have:=KG h j (by omega)
  rw[e] at this;cases this
 ·obtain⟨z,hz⟩:=List.isPrefixOf_iff_prefix.1 e2;have hl:=congrArg List.length e1;rw[List.length_append,List.length_drop] at hl;have eJ:=List.length_pos_iff.2 hy
  have hd:x.drop (t.length-j)=y:=by
   rw[e1,List.drop_left' (by rw[List.length_drop])]
  have:=hx (t.length-j) (by omega) (by omega)
  rw[hd] at this;apply this
  cases y with
  |nil=>exact absurd rfl hy
  |cons c y=>
   cases x with
   |nil=>simp at ze
   |cons d x=>
    simp only[List.cons_append,List.cons.injEq] at hz;rw[hz.1];exact ze
theorem dn {x t:List UInt8}(h:An t x=false)(hx:x≠[]):Ex.Cx x t=none:=by
 cases hf:Ex.Cx x t with
 |none=>rfl
 |some n=>
  have h1:=(Ex.Nu hf).1;have h2:=Ex.JC hf
  rw[KG h n (by omega)] at h1
  cases h1
theorem H6 {k:Int}{t:List UInt8}{al:List Go.Ai.Aj}{len:Nat}{d:Int}{hid:Bool}{b:Int}:Gw k t al len d hid b=0↔
  ¬(k=14/\hid=true)/\(k=2\/d<=16)/\Ca (BI k) al 0=true/\D6 k t hid=true/\¬(k=2/\b=2)/\(F6 k=true->len=0)/\(k=7->len=2)/\(k=10->len≠0):=by
 unfold Gw;cases h1:(k==14&&hid)
 case true=>
  simp only[Bool.and_eq_true,beq_iff_eq] at h1;simp only[cond_true]
  exact⟨fun h=>(by cases h),fun h=>absurd h1 h.1⟩
 simp only[cond_false]
 have Lp:¬(k=14/\hid=true):=by
  intro⟨e1,e2⟩;rw[e1,e2] at h1;cases h1
 cases h2:(!(k==2)&&decide (16<d))
 case true=>
  simp only[Bool.and_eq_true,Bool.not_eq_true',beq_eq_false_iff_ne,decide_eq_true_eq] at h2;simp only[cond_true]
  exact⟨fun h=>(by cases h),fun h=>(by rcases h.2.1 with e|e;exact absurd e h2.1;omega)⟩
 simp only[cond_false]
 have yN:k=2\/d<=16:=by
  apply Classical.byContradiction;intro hn;simp only[not_or,Int.not_le] at hn
  rw[beq_eq_false_iff_ne.2 hn.1,decide_eq_true (by omega)] at h2
  cases h2
 cases h3:Ca (BI k) al 0
 case false=>
  simp only[Bool.not_false,cond_true]
  exact⟨fun h=>(by cases h),fun h=>(by cases h.2.2.1)⟩
 simp only[Bool.not_true,cond_false];cases h4:(!D6 k t hid||(k==2&&b==2))
 case true=>
  simp only[cond_true]
  refine⟨fun h=>(by cases h),fun h=> ?_⟩
  simp only[Bool.or_eq_true,Bool.not_eq_true',Bool.and_eq_true,beq_iff_eq] at h4
  rcases h4 with e|e
  ·rw[h.2.2.2.1] at e;cases e
  ·exact absurd e h.2.2.2.2.1
 simp only[cond_false];simp only[Bool.or_eq_false_iff,Bool.not_eq_false',Bool.and_eq_false_iff,beq_eq_false_iff_ne] at h4
 have h4':¬(k=2/\b=2):=fun e=>by rcases h4.2 with h|h;exact h e.1;exact h e.2
 cases h5:((F6 k&&decide (0<len))||(k==7&& !(len==2))||(k==10&&len==0))
 case true=>
  simp only[cond_true]
  refine⟨fun h=>(by cases h),fun h=> ?_⟩
  simp only[Bool.or_eq_true,Bool.and_eq_true,decide_eq_true_eq,Bool.not_eq_true',beq_eq_false_iff_ne,beq_iff_eq] at h5;obtain⟨_,_,_,_,_,a1,a2,a3⟩:=h
  rcases h5 with (e|e)|e
  ·have:=a1 e.1;omega
  ·exact absurd (a2 e.1) e.2
  ·exact absurd e.2 (a3 e.1)
 simp only[cond_false,true_iff];simp only[Bool.or_eq_false_iff,Bool.and_eq_false_iff,decide_eq_false_iff_not,Bool.not_eq_false',beq_iff_eq,beq_eq_false_iff_ne] at h5;obtain⟨⟨b1,b2⟩,b3⟩:=h5
 refine⟨Lp,yN,trivial,h4.1,h4',fun e=> ?_,fun e=> ?_,fun e=> ?_⟩
 ·rcases b1 with h|h
  ·rw[e] at h;cases h
  ·omega
 ·rcases b2 with h|h
  ·exact absurd e h
  ·exact h
 ·rcases b3 with h|h
  ·exact absurd e h
  ·exact h
theorem cP {k:Int}{r:K6}(h:r∈BI k):r.name≠[]/\r.name.length<=16/\∀c∈r.name,Ex.ON c=true:=by
 unfold BI at h
 cases h3:k==3<;>rw[h3] at h<;>simp only[cond_true,cond_false] at h
 ·cases h4:k==4<;>rw[h4] at h<;>simp only[cond_true,cond_false] at h
  ·cases h6:k==6<;>rw[h6] at h<;>simp only[cond_true,cond_false] at h
   ·cases tJ:k==11<;>rw[tJ] at h<;>simp only[cond_true,cond_false,List.mem_cons,List.not_mem_nil,or_false] at h
    subst h;decide
   ·simp only[List.mem_cons,List.not_mem_nil,or_false] at h;subst h;decide
  ·simp only[List.mem_cons,List.not_mem_nil,or_false] at h
   rcases h with rfl|rfl<;>decide
 ·simp only[List.mem_cons,List.not_mem_nil,or_false] at h
  rcases h with rfl|rfl|rfl<;>decide
theorem Sw :∀(al:List Go.Ai.Aj) (seen:List Ex.Aj),Nf al->(∀a∈al,Ex.Sx (C6 a))->(∀b∈seen,∀a∈al,a.name≠b.name)->Ex.Fc seen (al.map C6)
 |[],_,_,_,_=>trivial
 |a::al,seen,h1,h2,h3=>by
  refine⟨h2 a (by simp),fun b hb=>h3 b hb a (by simp),Sw al _ h1.2 (fun b hb=>h2 b (List.mem_cons_of_mem _ hb)) fun b hb c hc=> ?_⟩
  rcases List.mem_append.1 hb with hb|hb
  ·exact h3 b hb c (List.mem_cons_of_mem _ hc)
  ·rw[List.mem_singleton.1 hb];exact h1.1 c hc
theorem Js {k:Int}{al:List Go.Ai.Aj}(h:Ca (BI k) al 0=true):Ex.Fc [] (al.map C6):=by
 obtain⟨h1,h2,h3⟩:=MR.1 h
 refine Sw al [] h1 (fun a ha=> ?_) fun b hb=>by cases hb
 obtain⟨r,hr,e,_,hq⟩:=h2 a ha;obtain⟨k1,k2,k3⟩:=cP hr;rw[e] at k1 k2 k3
 refine⟨k1,k2,k3,fun⟨q1,q2⟩=> ?_⟩
 unfold LR at hq;have q1:34∈a.value:=q1;have q2:39∈a.value:=q2;rw[Tc.2 q1,Tc.2 q2] at hq;cases hq
theorem J9 {p k i n:Int}(h:KA p k i n=true):k=2\/k=14\/Ld k:=by
 have hk:2<=k/\k<=14:=by
  unfold KA at h
  cases h7:p==7<;>rw[h7] at h<;>simp only[cond_true,cond_false] at h
  ·cases RM:p==10<;>rw[RM] at h<;>simp only[cond_true,cond_false] at h
   ·unfold KF at h;rw[List.any_eq_true] at h;obtain⟨x,hx,e⟩:=h
    have e:k=x:=by simpa using e
    subst e;simp only[Y7,List.mem_cons,List.not_mem_nil,or_false] at hx;omega
   ·simp only[Bool.or_eq_true,Bool.and_eq_true,beq_iff_eq] at h;omega
  ·simp only[Bool.and_eq_true,beq_iff_eq] at h;obtain⟨h,_⟩:=h
   split at h<;>omega
 unfold Ld;omega
theorem dT {n:Nd}(h:n.kind≠2)(x:List Ex.Tok):∀u q,Gr n++x=u::q->u.kind≠1:=by
 obtain⟨k,p,t,al,ks⟩:=n;have h2:(k==2)=false:=beq_eq_false_iff_ne.2 h;intro u q e;rw[Gr,h2] at e;simp only[cond_false] at e
 cases TN:k==3||k==6<;>rw[TN] at e<;>simp only[cond_true,cond_false] at e
 ·cases M6:k==4||k==5<;>rw[M6] at e<;>simp only[cond_true,cond_false] at e
  ·cases SN:k==14<;>rw[SN] at e<;>simp only[cond_true,cond_false] at e
   ·injection e with e _;rw[<-e];show¬_=(1:Int);simp[Oy,SR,OO,Oa]
   ·injection e with e _;rw[<-e];show¬_=(1:Int);simp[Oy,SR,OO,Oa]
  ·injection e with e _;rw[<-e];show¬_=(1:Int);simp[Oy,SR,OO,Oa]
 ·injection e with e _;rw[<-e];show¬_=(1:Int);simp[Oy,SR,OO,Oa]
theorem nH {k:Int}{t:List UInt8}{hid:Bool}(h:D6 k t hid=true)(hk:k=4\/k=5):An t (Ex.Aa++Bp k)=false/\(k=5->An t Ex.Al=false):=by
 unfold D6 at h
 rcases hk with rfl|rfl
 ·have h:(!An t kz)=true:=h;rw[Bool.not_eq_true'] at h
  exact⟨h,fun e=>by cases e⟩
 ·have h:(!An t cS&& !An t XP)=true:=h;rw[Bool.and_eq_true,Bool.not_eq_true',Bool.not_eq_true'] at h
  exact⟨h.1,fun _=>h.2⟩
theorem ky {k:Int}(hk:k=4\/k=5):(∀j,1<=j->j<(Ex.Aa++Bp k).length->((Ex.Aa++Bp k).drop j).head?≠some 60)/\(Ex.Aa++Bp k).head? =some 60:=by
 have key:∀x:List UInt8,(∀k:Fin 20,(k.val=0\/x.length<=k.val)\/(x.drop k.val).head?≠some 60)->x.length<=20->∀k,1<=k->k<x.length->(x.drop k).head?≠some 60:=fun x h hl k h1 h2=>by
  rcases h ⟨k,by omega⟩ with h|h
  ·simp only at h;omega
  ·exact h
 rcases hk with rfl|rfl
 ·exact⟨key _ (by decide) (by decide),by decide⟩
 ·exact⟨key _ (by decide) (by decide),by decide⟩
theorem Cy {p n:Int}{c:Nd}{r:List Nd}{i d:Int}{hid:Bool}{b:Int}:Io p n (c::r) i d hid b=0↔KA p c.kind i n=true/\c.Mo d hid b=0/\Io p n r (i+1) d hid c.kind=0:=by
 rw[Io]
 cases KA p c.kind i n with
 |false=>simp
 |true=>
  simp only[Bool.not_true,cond_false,true_and]
  cases h:c.Mo d hid b==0 with
  |true=>(simp only[cond_true];have:c.Mo d hid b=0:=by simpa using h);simp[this]
  |false=>(simp only[cond_false];have:¬c.Mo d hid b=0:=by simpa using h);simp[this]
theorem Gp {k p:Int}{t:List UInt8}{al:List Go.Ai.Aj}{ks:List Nd}{d:Int}{hid:Bool}{b:Int}:(Nd.mk k p t al ks).Mo d hid b=0↔Gw k t al ks.length d hid b=0/\Io k (ks.length:Nat) ks 0 (d+1) (hid||k==14) 0=0:=by
 rw[Nd.Mo]
 cases h:Gw k t al ks.length d hid b==0 with
 |true=>(simp only[cond_true];have:Gw k t al ks.length d hid b=0:=by simpa using h);simp[this]
 |false=>(simp only[cond_false];have:¬Gw k t al ks.length d hid b=0:=by simpa using h);simp[this]
mutual
theorem vgN :∀(n:Nd) (d:Int) (hid:Bool) (b:Int) (rest:List Ex.Tok),n.Mo d hid b=0->(n.kind=2\/n.kind=14\/Ld n.kind)->Ex.VG hid rest->(n.kind=2->∀u q,rest=u::q->u.kind≠1)->Ex.VG hid (Gr n++rest)
 |.mk k p t al ks,d,hid,b,rest,hc,hk,hv,hn=>by
  have hk:k=2\/k=14\/Ld k:=hk;have hn:k=2->∀u q,rest=u::q->u.kind≠1:=hn;obtain⟨hf,hs⟩:=Gp.1 hc;obtain⟨f1,f2,f3,f4,f5,f6,f7,f8⟩:=H6.1 hf;rw[Gr]
  by_cases h2:k=2
  ·rw[h2] at f4;obtain⟨t1,t2⟩:=cE f4;rw[h2];exact .text rfl rfl rfl t1 t2 (hn h2) hv
  rw[beq_eq_false_iff_ne.2 h2];simp only[cond_false]
  cases TN:k==3||k==6 with
  |true=>
   simp only[cond_true]
   have he:Ld k:=by
    simp only[Bool.or_eq_true,beq_iff_eq] at TN;unfold Ld;omega
   exact .tag (.inl rfl) (I6 he) (Js f3) hv
  |false=>
   simp only[cond_false];simp only[Bool.or_eq_false_iff,beq_eq_false_iff_ne] at TN
   cases M6:k==4||k==5 with
   |true=>
    simp only[cond_true];simp only[Bool.or_eq_true,beq_iff_eq] at M6
    have he:Ld k:=by unfold Ld;omega
    obtain⟨a1,a2⟩:=ky M6;obtain⟨b1,b2⟩:=nH f4 M6
    refine .own rfl ?_ (Js f3) rfl rfl rfl rfl rfl (U5 a1 a2 b1) (fun e=> ?_) (.close rfl rfl (I6 he) hv)
    ·show Bp k=_\/Bp k=_
     rcases M6 with rfl|rfl
     ·exact .inr rfl
     ·exact .inl rfl
    ·refine dn (b2 ?_) (by decide)
     rcases M6 with rfl|rfl
     ·exact absurd (show Ex.CT=Ex.BR from e) (by decide)
     ·rfl
   |false=>
    simp only[cond_false];simp only[Bool.or_eq_false_iff,beq_eq_false_iff_ne] at M6
    cases SN:k==14 with
    |true=>
     have bd:k=14:=by simpa using SN
     simp only[cond_true]
     have hh:hid=false:=by
      cases hid with
      |false=>rfl
      |true=>exact absurd ⟨bd,rfl⟩ f1
     subst hh;rw[List.cons_append,List.append_assoc];rw[SN] at hs
     exact .Ut rfl rfl rfl (kC ks _ _ _ _ _ _ _ hs (.shown rfl rfl rfl rfl hv) fun u q e=>by injection e with e _;rw[<-e];show¬_=(1:Int);simp[Oy,SR,OO,Oa])
    |false=>
     have bd:¬k=14:=by simpa using SN
     simp only[cond_false]
     have he:Ld k:=by rcases hk with e|e|e;exact absurd e h2;exact absurd e bd;exact e
     rw[List.cons_append,List.append_assoc];rw[SN,Bool.or_false] at hs
     have ho:Ex.EA (Oy k al)=false:=by
      unfold Ex.EA;have:=gP he M6.1 M6.2;rw[not_or] at this;show((2:Int)==2&&(Bp k==_||Bp k==_))=false;rw[beq_eq_false_iff_ne.2 this.1,beq_eq_false_iff_ne.2 this.2];rfl
     exact .tag (.inr ⟨rfl,ho⟩) (I6 he) (Js f3) (kC ks _ _ _ _ _ _ _ hs (.close rfl rfl (I6 he) hv) fun u q e=>by injection e with e _;rw[<-e];show¬_=(1:Int);simp[Oy,SR,OO,Oa])
theorem kC :∀(ks:List Nd) (p n i d:Int) (hid:Bool) (b:Int) (rest:List Ex.Tok),Io p n ks i d hid b=0->Ex.VG hid rest->(∀u q,rest=u::q->u.kind≠1)->Ex.VG hid (BT ks++rest)
 |[],_,_,_,_,_,_,_,_,hv,_=>hv
 |c::r,p,n,i,d,hid,b,rest,hc,hv,hn=>by
  obtain⟨h1,h2,h3⟩:=Cy.1 hc;rw[BT,List.append_assoc]
  refine vgN c d hid b _ h2 (J9 h1) (kC r _ _ _ _ _ _ _ h3 hv hn) fun e=> ?_
  cases r with
  |nil=>exact hn
  |cons c' r'=>
   obtain⟨_,h4,_⟩:=Cy.1 h3;rw[BT,List.append_assoc]
   refine dT (fun e'=> ?_) _
   obtain⟨k',p',t',yi,Un⟩:=c';have:=(H6.1 (Gp.1 h4).1).2.2.2.2.1;exact this ⟨e',e⟩
end
theorem Tw {n:Nd}(h:n.G7=0):n.kind=1/\Ex.VG false (BT n.kids):=by
 unfold Nd.G7 at h
 cases h1:n.kind==1 with
 |false=>rw[h1] at h;cases h
 |true=>
  rw[h1] at h;obtain⟨k,p,t,al,ks⟩:=n;have e1:k=1:=eq_of_beq h1;refine⟨e1,?_⟩;obtain⟨_,hs⟩:=(Gp (p:=p)).1 h
  have:=kC ks _ _ _ _ _ _ [] hs (by rw[e1];exact .nil) fun u q e=>by cases e
  rw[List.append_nil,e1] at this;exact this
def S9 (b:Int)(l:List Nd):Int:=match l.getLast? with
 |some n=>n.kind
 |none=>b
theorem Y5 (b:Int)(x:Nd)(l:List Nd):S9 b (x::l)=S9 x.kind l:=by
 cases l with
 |nil=>rfl
 |cons y l=>
  unfold S9;rw[List.getLast?_cons_cons]
  cases h:(y::l).getLast? with
  |none=>simp at h
  |some z=>rfl
theorem I7 (l:List Nd)(k:Nd):BA (l++[k])=k.kind:=by simp[BA]
theorem Td {p n:Int}{k:Nd}{d:Int}{hid:Bool}:∀(a:List Nd) (i b:Int),Io p n (a++[k]) i d hid b=0↔Io p n a i d hid b=0/\KA p k.kind (i+a.length) n=true/\k.Mo d hid (S9 b a)=0
 |[],i,b=>by
  rw[List.nil_append,Cy];simp[Io,S9]
 |x::a,i,b=>by
  rw[List.cons_append,Cy,Cy,Td a (i+1) x.kind,Y5];simp only[List.length_cons]
  rw[show i+1+(a.length:Int)=i+((a.length+1:Nat):Int) by omega]
  constructor
  ·rintro⟨h1,h2,h3,h4,h5⟩
   exact⟨⟨h1,h2,h3⟩,h4,h5⟩
  ·rintro⟨⟨h1,h2,h3⟩,h4,h5⟩
   exact⟨h1,h2,h3,h4,h5⟩
inductive mu (p d:Int) (hid:Bool):List Nd->Prop
 |nil:mu p d hid []
 |snoc {ks:List Nd} {k:Nd}:mu p d hid ks->CV p (BA ks) k.kind=true->2<=k.kind->k.kind<=14->k.Mo d hid (BA ks)=0->mu p d hid (ks++[k])
theorem gT {l x:Int}:CV 7 l x=true↔(x=8/\l=0)\/(x=9/\l=8):=by
 simp[CV]
theorem gU {l x:Int}:CV 10 l x=true↔(x=11/\l≠12)\/(x=12/\l=11):=by
 simp[CV]
theorem oF {p l x:Int}(h7:p≠7)(RM:p≠10):CV p l x=true↔x≠8/\x≠9/\x≠11/\x≠12:=by
 have e1:(p==7)=false:=by simpa using h7
 have e2:(p==10)=false:=by simpa using RM
 unfold CV;rw[e1,e2];simp;omega
theorem Zo {k:Int}(h1:2<=k)(h2:k<=14)(h3:k≠8/\k≠9/\k≠11/\k≠12):KF k=true:=by
 have:k=2\/k=3\/k=4\/k=5\/k=6\/k=7\/k=10\/k=13\/k=14:=by omega
 rcases this with rfl|rfl|rfl|rfl|rfl|rfl|rfl|rfl|rfl<;>rfl
theorem bA {p d:Int}{hid:Bool}{ks:List Nd}(h:mu p d hid ks):
  (BA ks=0->ks=[])/\(p=7->BA ks=8->ks.length=1)/\(p=7->BA ks=9->ks.length=2)/\(∀n:Int,n=ks.length\/BA ks≠12\/p≠10->Io p n ks 0 d hid 0=0):=by
 induction h with
 |nil=>exact⟨fun _=>rfl,fun _ h=>by simp[BA] at h,fun _ h=>by simp[BA] at h,fun _ _=>rfl⟩
 | @snoc ks k hk hm h2 SN hc ih=>
  obtain⟨i1,i2,i3,i4⟩:=ih;rw[I7]
  refine⟨fun h=>by omega,fun hp h=> ?_,fun hp h=> ?_,fun n hn=> ?_⟩
  ·subst hp
   rcases gT.1 hm with ⟨a1,a2⟩|⟨a1,a2⟩
   ·rw[i1 a2];rfl
   ·omega
  ·subst hp
   rcases gT.1 hm with ⟨a1,a2⟩|⟨a1,a2⟩
   ·omega
   ·rw[List.length_append,i2 rfl a2];rfl
  ·rw[Td];have hL:S9 0 ks=BA ks:=rfl;rw[hL];simp only[List.length_append,List.length_cons,List.length_nil] at hn
   by_cases h7:p=7
   ·subst h7
    refine⟨i4 n (.inr (.inr (by decide))),?_,hc⟩
    rcases gT.1 hm with ⟨a1,a2⟩|⟨a1,a2⟩
    ·rw[a1,i1 a2];rfl
    ·rw[a1,i2 rfl a2];rfl
   ·by_cases RM:p=10
    ·subst RM
     rcases gU.1 hm with ⟨a1,a2⟩|⟨a1,a2⟩
     ·refine⟨i4 n (.inr (.inl a2)),?_,hc⟩;rw[a1];rfl
     ·refine⟨i4 n (.inr (.inl (by omega))),?_,hc⟩
      have BO:0<ks.length:=by
       cases ks with
       |nil=>simp[BA] at a2
       |cons _ _=>simp
      have sg:n=(ks.length:Int)+1:=by
       rcases hn with h|h|h
       ·omega
       ·exact absurd a1 h
       ·exact absurd rfl h
      rw[a1];have e:KA 10 12 (0+(ks.length:Int)) n=(decide (0<0+(ks.length:Int))&&(0+(ks.length:Int))==n-1):=rfl
      rw[e,decide_eq_true (by omega),sg]
      simp
    ·refine⟨i4 n (.inr (.inr RM)),?_,hc⟩
     have e1:(p==7)=false:=by simpa using h7
     have e2:(p==10)=false:=by simpa using RM
     unfold KA;rw[e1,e2];exact Zo h2 SN ((oF h7 RM).1 hm)
theorem Wr {p d:Int}{hid:Bool}{ks:List Nd}(h:mu p d hid ks):Io p ks.length ks 0 d hid 0=0:=(bA h).2.2.2 _ (.inl rfl)
theorem WT :∀(l seen:List Ex.Aj),Ex.Fc seen l->Nf (l.map JW)/\(∀a∈l,∀b∈seen,a.name≠b.name)/\∀a∈l,Ex.Sx a
 |[],_,_=>⟨trivial,fun a ha=>(by cases ha),fun a ha=>(by cases ha)⟩
 |a::r,seen,h=>by
  obtain⟨h1,h2,h3⟩:=WT r (seen++[a]) h.2.2
  refine⟨⟨fun b hb=> ?_,h1⟩,fun c hc b hb=> ?_,fun c hc=> ?_⟩
  ·obtain⟨c,hc,rfl⟩:=List.mem_map.1 hb
   exact h2 c hc a (by simp)
  ·rcases List.mem_cons.1 hc with rfl|hc
   ·exact h.2.1 b hb
   ·exact h2 c hc b (by simp[hb])
  ·rcases List.mem_cons.1 hc with rfl|hc
   ·exact h.1
   ·exact h3 c hc
theorem nj {v:List UInt8}(h:¬(34∈v/\39∈v)):LR v=false:=by
 have key:∀(c:UInt8) (v:List UInt8),An v [c]=true->c∈v:=fun c v hv=>by
  obtain⟨j,hj,hp⟩:=EW.1 hv
  cases hd:v.drop j with
  |nil=>rw[hd] at hp;cases hp
  |cons x r=>
   rw[hd] at hp;simp only[List.isPrefixOf,Bool.and_true,beq_iff_eq] at hp
   have:x∈v.drop j:=by rw[hd];exact List.mem_cons_self ..
   rw[hp];exact List.mem_of_mem_drop this
 unfold LR
 cases h1:An v [34] with
 |false=>rfl
 |true=>
  cases h2:An v [39] with
  |false=>rfl
  |true=>exact absurd ⟨key _ _ h1,key _ _ h2⟩ h
def zh (x:El):Prop:=(∀nm v:List UInt8,x.names.any (·==nm)=true->M8 nm v=true->∃r∈BI x.kind,r.name=nm/\r.may.ok v=true)/\∀r∈BI x.kind,r.Ch=true->r.name∈x.names.take x.Ch
theorem pZ (s:List UInt8):zh (Br s):=by
 unfold Br
 cases s==[105,110,99,108,117,100,101] with
 |true=>
  refine⟨fun nm v h1 h2=> ?_,fun r hr hm=> ?_⟩
  ·simp only[cond_true,List.any_cons,List.any_nil,Bool.or_false,Bool.or_eq_true,beq_iff_eq] at h1
   rcases h1 with rfl|rfl|rfl
   ·exact⟨Cl,List.Mem.head _,rfl,h2⟩
   ·exact⟨CU,List.Mem.tail _ (List.Mem.head _),rfl,h2⟩
   ·refine⟨Bz,List.Mem.tail _ (List.Mem.tail _ (List.Mem.head _)),rfl,?_⟩;have h3:(v==[99,111,110,116,105,110,117,101])=true:=h2;simp only[Bz,Xu.ok,List.any_cons,h3,Bool.true_or]
  ·have hr:r∈[Cl,CU,Bz]:=hr;simp only[List.mem_cons,List.not_mem_nil,or_false] at hr
   rcases hr with rfl|rfl|rfl
   ·exact List.Mem.head _
   ·cases hm
   ·cases hm
 |false=>
 simp only[cond_false]
 cases s==[105,110,108,105,110,101] with
 |true=>
  refine⟨fun nm v h1 h2=> ?_,fun r hr hm=> ?_⟩
  ·simp only[cond_true,List.any_cons,List.any_nil,Bool.or_false,Bool.or_eq_true,beq_iff_eq] at h1
   rcases h1 with rfl|rfl
   ·exact⟨Ck,List.Mem.head _,rfl,h2⟩
   ·refine⟨CI,List.Mem.tail _ (List.Mem.head _),rfl,?_⟩;have h3:(v==[121,101,115]||v==[110,111])=true:=h2;simp only[CI,Xu.ok,List.any_cons,List.any_nil,Bool.or_false];exact h3
  ·have hr:r∈[Ck,CI]:=hr;simp only[List.mem_cons,List.not_mem_nil,or_false] at hr
   rcases hr with rfl|rfl
   ·exact List.Mem.head _
   ·cases hm
 |false=>
 simp only[cond_false]
 have none:∀k:Int,BI k=[]->zh ⟨k,[],0⟩:=fun k hk=>⟨fun nm v h1=>(by cases h1),fun r hr=>(by have hr:r∈BI k:=hr;rw[hk] at hr;cases hr)⟩
 cases s==[114,101,109,111,118,101] with
 |true=>exact none 5 rfl
 |false=>
 simp only[cond_false]
 cases s==[99,111,109,109,101,110,116] with
 |true=>
  refine⟨fun nm v h1 h2=> ?_,fun r hr hm=> ?_⟩
  ·simp only[cond_true,List.any_cons,List.any_nil,Bool.or_false,beq_iff_eq] at h1;subst h1;exact⟨Df,List.Mem.head _,rfl,rfl⟩
  ·have hr:r∈[Df]:=hr;rw[List.mem_singleton.1 hr];exact List.Mem.head _
 |false=>
 simp only[cond_false]
 cases s==[116,114,121] with
 |true=>exact none 7 rfl
 |false=>
 simp only[cond_false]
 cases s==[97,116,116,101,109,112,116] with
 |true=>exact none 8 rfl
 |false=>
 simp only[cond_false]
 cases s==[101,120,99,101,112,116] with
 |true=>exact none 9 rfl
 |false=>
 simp only[cond_false]
 cases s==[99,104,111,111,115,101] with
 |true=>exact none 10 rfl
 |false=>
 simp only[cond_false]
 cases s==[119,104,101,110] with
 |true=>
  refine⟨fun nm v h1 h2=> ?_,fun r hr hm=> ?_⟩
  ·simp only[cond_true,List.any_cons,List.any_nil,Bool.or_false,beq_iff_eq] at h1;subst h1;exact⟨CA,List.Mem.head _,rfl,h2⟩
  ·have hr:r∈[CA]:=hr;rw[List.mem_singleton.1 hr];exact List.Mem.head _
 |false=>
 simp only[cond_false]
 cases s==[111,116,104,101,114,119,105,115,101] with
 |true=>exact none 12 rfl
 |false=>exact none 13 rfl
theorem bB {s:List UInt8}{l:List Ex.Aj}(h:HB (Br s) l=true)(ho:Ex.Fc [] l):Ca (BI (Br s).kind) (l.map JW) 0=true:=by
 obtain⟨r1,r2⟩:=pZ s;obtain⟨n1,_,n3⟩:=WT l [] ho;unfold HB at h;rw[Bool.and_eq_true] at h;obtain⟨h1,h2⟩:=h;rw[List.all_eq_true] at h1 h2
 refine MR.2 ⟨n1,fun a ha=> ?_,fun r hr hm=> ?_⟩
 ·obtain⟨b,hb,rfl⟩:=List.mem_map.1 ha;have iy:=h2 b hb;rw[Bool.and_eq_true] at iy;obtain⟨r,hr,e1,e2⟩:=r1 b.name b.value iy.1 iy.2;exact⟨r,hr,e1,e2,nj (n3 b hb).2.2.2⟩
 ·have h3:=h1 r.name (r2 r hr hm);obtain⟨b,hb,e⟩:=List.any_eq_true.1 h3;exact⟨JW b,List.mem_map.2 ⟨b,hb,rfl⟩,eq_of_beq e⟩
theorem SX {t:Ex.Tok}{n:Nd}{r:List Nd}{pl:Int}(hk:t.kind=1)(hs:(Aq t ⟨n::r,pl,0⟩).e=0):(Aq t ⟨n::r,pl,0⟩).rows=n::r\/(n.kind≠7/\n.kind≠10/\(Aq t ⟨n::r,pl,0⟩).rows=Dy n (.mk 2 t.fr t.text [] [])::r):=by
 have e1:Aq t ⟨n::r,pl,0⟩=ED t ⟨n::r,pl,0⟩:=by unfold Aq;rw[hk];rfl
 rw[e1] at hs⊢;unfold ED at hs⊢;simp only at hs⊢
 cases k2:n.kind==7||n.kind==10 with
 |true=>
  rw[k2] at hs;simp only[cond_true] at hs⊢
  cases k3:(Dp t.text).isEmpty with
  |true=>exact .inl rfl
  |false=>
   rw[k3] at hs
   exact absurd hs (Nx _ _ (by decide) _)
 |false=>
  simp only[Bool.or_eq_false_iff,beq_eq_false_iff_ne] at k2;exact .inr ⟨k2.1,k2.2,rfl⟩
theorem Ms {t:Ex.Tok}{n:Nd}{r:List Nd}{pl:Int}(hk:t.kind=2\/t.kind=3)(hs:(Aq t ⟨n::r,pl,0⟩).e=0):JT (Br t.name) t n r=true/\
  (Aq t ⟨n::r,pl,0⟩).rows=bif Bj (Br t.name) then Dy n (.mk (Br t.name).kind t.fr [] (t.attrs.map JW) [])::r else .mk (Br t.name).kind t.fr [] (t.attrs.map JW) []::n::r:=by
 have e1:Aq t ⟨n::r,pl,0⟩=EY t ⟨n::r,pl,0⟩:=by unfold Aq;rcases hk with h|h<;>rw[h]<;>rfl
 rw[e1] at hs⊢;unfold EY at hs⊢;simp only at hs⊢;obtain⟨g1,g2⟩:=Zx (Br t.name) t n r ⟨n::r,pl,0⟩ rfl
 have hb:JT (Br t.name) t n r=true:=by
  refine g1.1 ?_
  cases qW:Bj (Br t.name)<;>rw[qW] at hs<;>exact hs
 refine⟨hb,?_⟩;rw[g2 hb]
 cases Bj (Br t.name)<;>rfl
theorem TK {t:Ex.Tok}{n:Nd}{r:List Nd}{pl:Int}(hk:t.kind=5)(hs:(Aq t ⟨n::r,pl,0⟩).e=0):CV n.kind (BA n.kids) 14=true/\r.length+1<=16/\(Aq t ⟨n::r,pl,0⟩).rows=.mk 14 t.fr [] [] []::n::r:=by
 have e1:Aq t ⟨n::r,pl,0⟩=Ff t ⟨n::r,pl,0⟩:=by unfold Aq;rw[hk];rfl
 rw[e1] at hs⊢;unfold Ff at hs⊢;simp only at hs⊢
 refine⟨?_,?_,by trivial⟩
 ·cases h1:CV n.kind (BA n.kids) 14 with
  |true=>rfl
  |false=>
   rw[h1] at hs;exfalso;simp only[Bool.not_false,cond_true] at hs;have e1:F8 t.fr 13 ⟨n::r,pl,0⟩=⟨n::r,t.fr,13⟩:=rfl;rw[e1] at hs
   cases h2:decide (16<r.length+1) with
   |true=>rw[h2] at hs;cases hs
   |false=>rw[h2] at hs;cases hs
 ·refine Nat.le_of_not_lt fun h=> ?_
  rw[decide_eq_true (show 16<r.length+1 from h)] at hs
  exact absurd hs (Nx _ _ (by decide) _)
theorem Mi {t:Ex.Tok}{n:Nd}{r:List Nd}{pl:Int}(hk:t.kind=4\/t.kind=6)(hs:(Aq t ⟨n::r,pl,0⟩).e=0):Ei t n=false/\(Aq t ⟨n::r,pl,0⟩).rows=match r with
  |[]=>[n]
  |m::q=>Dy m n::q:=by
 have e1:Aq t ⟨n::r,pl,0⟩=Es t ⟨n::r,pl,0⟩:=by unfold Aq;rcases hk with h|h<;>rw[h]<;>rfl
 rw[e1] at hs⊢;unfold Es at hs⊢;simp only at hs⊢
 cases hb:Ei t n with
 |true=>
  rw[hb] at hs
  exact absurd hs (Nx _ _ (by decide) _)
 |false=>
  refine⟨rfl,?_⟩
  cases r<;>rfl
theorem QV {t:Ex.Tok}{n:Nd}{r:List Nd}{pl:Int}(hk:t.kind=7):Aq t ⟨n::r,pl,0⟩=⟨.mk n.kind n.pl t.text n.attrs n.kids::r,pl,0⟩:=by
 unfold Aq;rw[hk];rfl
theorem gz (s:List UInt8):((Br s).kind=4->s=Ex.CT)/\((Br s).kind=5->s=Ex.BR):=by
 unfold Br
 cases s==[105,110,99,108,117,100,101] with
 |true=>exact⟨fun h=>(by cases h),fun h=>(by cases h)⟩
 |false=>
 simp only[cond_false]
 cases h:s==[105,110,108,105,110,101] with
 |true=>exact⟨fun _=>eq_of_beq h,fun h=>(by cases h)⟩
 |false=>
 simp only[cond_false]
 cases h:s==[114,101,109,111,118,101] with
 |true=>exact⟨fun h=>(by cases h),fun _=>eq_of_beq h⟩
 |false=>
 simp only[cond_false]
 repeat' (first|(cases (s==_)<;>simp only[cond_true,cond_false])|exact⟨fun h=>(by cases h),fun h=>(by cases h)⟩)
def nG (r:List Nd)(k:Int):Prop:=match r with
 |m::_=>CV m.kind (BA m.kids) k=true
 |[]=>False
inductive RI:Bool->List Nd->Prop
 |base {n:Nd}:n.kind=1->n.text=[]->n.attrs=[]->mu 1 1 false n.kids->RI false [n]
 |up {hid:Bool} {n:Nd} {r:List Nd}:RI hid r->7<=n.kind->n.kind<=14->(n.kind=14->hid=false)->n.text=[]->Ca (BI n.kind) n.attrs 0=true->r.length<=16->nG r n.kind->mu n.kind ((r.length:Int)+1) (hid||n.kind==14) n.kids->RI (hid||n.kind==14) (n::r)
theorem RI.ne {hid:Bool}{r:List Nd}(h:RI hid r):r≠[]:=by cases h<;>simp
theorem RI.add {hid:Bool}{n k:Nd}{r:List Nd}(h:RI hid (n::r))(hm:CV n.kind (BA n.kids) k.kind=true)(h2:2<=k.kind)(SN:k.kind<=14)(hc:k.Mo ((r.length:Int)+1) hid (BA n.kids)=0):RI hid (Dy n k::r):=by
 cases h with
 |base a1 a2 a3 a4=>exact .base a1 a2 a3 (.snoc a4 (by rw[a1] at hm;exact hm) h2 SN hc)
 |up b1 b2 b3 b4 b5 b6 b7 b8 b9=>exact .up (n:=Dy n k) b1 b2 b3 b4 b5 b6 b7 b8 (.snoc b9 hm h2 SN hc)
def a8 (r:List Nd):Int:=match r with
 |m::_=>BA m.kids
 |[]=>0
theorem KZ (n k:Nd)(r:List Nd):a8 (Dy n k::r)=k.kind:=I7 _ _
theorem Rl {k p:Int}{t:List UInt8}{al:List Go.Ai.Aj}{d:Int}{hid:Bool}{b:Int}(h:Gw k t al 0 d hid b=0):(Nd.mk k p t al []).Mo d hid b=0:=Gp.2 ⟨h,rfl⟩
theorem XE {x:List UInt8}:∀{s:List UInt8},Ex.Cx x s=none->x≠[]->An s x=false
 |[],h,hx=>by
  cases x with
  |nil=>exact absurd rfl hx
  |cons c y=>rfl
 |c::s,h,hx=>by
  unfold Ex.Cx at h;split at h
  ·cases h
  ·rename_i h1
   have h2:Ex.Cx x s=none:=by simpa using h
   have ih:=XE h2 hx
   cases hc:An (c::s) x with
   |false=>rfl
   |true=>
    obtain⟨j,hj,hp⟩:=EW.1 hc
    cases j with
    |zero=>exact absurd hp h1
    |succ j=>
     have:An s x=true:=EW.2 ⟨j,by simpa using hj,by simpa using hp⟩
     rw[ih] at this;cases this
theorem fl {x t:List UInt8}(hx:x≠[])(h:Ex.Cx x (t++x)=some t.length):An t x=false:=by
 cases hc:An t x with
 |false=>rfl
 |true=>
  obtain⟨j,hj,hp⟩:=EW.1 hc;have wy:=List.isPrefixOf_iff_prefix.1 hp
  have BC:j<t.length:=by
   refine Nat.lt_of_le_of_ne hj fun e=> ?_
   rw[e,List.drop_length] at wy;exact hx (List.prefix_nil.1 wy)
  have:=(Ex.Nu h).2 j BC;rw[List.drop_append_of_le_length hj] at this;rw[List.isPrefixOf_iff_prefix.2 (wy.trans (List.prefix_append _ _))] at this;cases this
theorem Pn {k:Int}{t:List UInt8}{al:List Go.Ai.Aj}{len:Nat}{d:Int}{hid:Bool}{b:Int}(h1:k=14->hid=false)(h2:k≠2)(h3:d<=16)(h4:Ca (BI k) al 0=true)(h5:D6 k t hid=true)(h6:F6 k=true->len=0)(h7:k=7->len=2)(RM:k=10->len≠0):Gw k t al len d hid b=0:=
 H6.2 ⟨fun e=>(by rw[h1 e.1] at e;cases e.2),.inr h3,h4,h5,fun e=>h2 e.1,h6,h7,RM⟩
theorem Sa {k:Int}{hid:Bool}(h2:k≠2)(h4:k≠4)(h5:k≠5):D6 k [] hid=true:=by
 have e1:(k==2)=false:=by simpa using h2
 have e2:(k==4)=false:=by simpa using h4
 have e3:(k==5)=false:=by simpa using h5
 unfold D6;rw[e1,e2,e3];rfl
theorem RZ {x:El}(h:Bj x=true):x.kind=3\/x.kind=6:=by
 unfold Bj at h;simpa using h
theorem Kn {x:El}{t:Ex.Tok}{n:Nd}{r:List Nd}(h:JT x t n r=true):Bj x=(t.kind==3)/\CV n.kind (BA n.kids) x.kind=true/\r.length+1<=16/\HB x t.attrs=true:=by
 unfold JT at h;simp only[Bool.and_eq_true,decide_eq_true_eq,Bool.not_eq_true',Bool.or_eq_false_iff,bne_eq_false_iff_eq,Bool.not_eq_false'] at h;exact⟨h.1.1,h.1.2,h.2.1,h.2.2⟩
theorem RI.close {hid:Bool}{n m:Nd}{q:List Nd}(h:RI hid (n::m::q))(h7:n.kind=7->BA n.kids=9)(RM:n.kind=10->BA n.kids≠0):∃ZI,RI ZI (Dy m n::q)/\hid=(ZI||n.kind==14)/\(n.kind=14->ZI=false):=by
 cases h with
 | @up ZI _ _ b1 b2 b3 b4 b5 b6 b7 b8 b9=>
  refine⟨ZI,?_,rfl,b4⟩;obtain⟨k,p,t,al,ks⟩:=n;simp only[Nd.kind,Nd.text,Nd.attrs,Nd.kids] at *
  refine b1.add b8 (by show 2<=k;omega) b3 (Gp.2 ⟨?_,?_⟩)
  ·subst b5
   refine Pn b4 (by omega) (by simp only[List.length_cons] at b7;omega) b6 (Sa (by omega) (by omega) (by omega)) (fun hl=> ?_) (fun e=> ?_) (fun e=> ?_)
   ·exfalso;unfold F6 at hl;simp only[Bool.and_eq_true,decide_eq_true_eq] at hl;omega
   ·subst e;exact(bA b9).2.2.1 rfl (h7 rfl)
   ·intro e0;have:ks=[]:=List.eq_nil_of_length_eq_zero e0;subst this;exact RM e rfl
  ·have:=Wr b9
   have e:(((m::q).length:Nat):Int)=(q.length:Int)+1:=by simp
   rw[e] at this;exact this
theorem VP {t:Ex.Tok}{n:Nd}(h:Ei t n=false):n.kind=Et t/\(Et t=7->BA n.kids=9)/\(Et t=10->BA n.kids≠0):=by
 unfold Ei at h;simp only[Bool.or_eq_false_iff,Bool.not_eq_false',beq_iff_eq,Bool.and_eq_false_iff,beq_eq_false_iff_ne] at h;obtain⟨h1,h2,h3⟩:=h
 exact⟨h1,fun e=>h2.resolve_left (fun h=>h e),fun e=>h3.resolve_left (fun h=>h e)⟩
theorem RI.one {hid:Bool}{R:List Nd}(h:RI hid R):∀n,R=[n]->hid=false/\n.kind=1/\n.text=[]/\n.attrs=[]/\mu 1 1 false n.kids:=by
 cases h with
 |base a1 a2 a3 a4=>
  intro n e
  injection e with e _
  subst e;exact⟨rfl,a1,a2,a3,a4⟩
 |up b1=>
  intro n e
  injection e with _ e
  subst e;exact absurd rfl b1.ne
theorem UL {S:Ps}{R:List Nd}(h1:S.rows=R)(h2:S.e=0):S=⟨R,S.pl,0⟩:=by
 obtain⟨rows,pl,e⟩:=S;simp only at h1 h2;rw[h1,h2]
theorem Ui :∀(N:Nat) (l:List Ex.Tok) (hid:Bool) (rows:List Nd) (pl:Int),l.length<=N->Ex.VG hid l->RI hid rows->(∀u q,l=u::q->u.kind=1->a8 rows≠2)->(A7 l ⟨rows,pl,0⟩).e=0->RI false (A7 l ⟨rows,pl,0⟩).rows
 |N,[],hid,rows,pl,_,hv,hr,_,_=>by
  cases hv;exact hr
 |0,_::_,_,_,_,hN,_,_,_,_=>by simp at hN
 |N+1,t::l,hid,rows,pl,hN,hv,hr,ht,h=>by
  obtain⟨n,r,rfl⟩:=List.exists_cons_of_ne_nil hr.ne;obtain⟨h1,h2⟩:=Pb h;rw[(GF t l _).1 h1]
  have hl:l.length<=N:=by simpa using hN
  have go:∀(Fw:Bool) (rows':List Nd),Ex.VG Fw l->(Aq t ⟨n::r,pl,0⟩).rows=rows'->RI Fw rows'->(∀u q,l=u::q->u.kind=1->a8 rows'≠2)->RI false (A7 l (Aq t ⟨n::r,pl,0⟩)).rows:=by
   intro Fw rows' g1 g2 g3 g4;rw[UL g2 h1] at h2⊢;exact Ui N l Fw rows' _ hl g1 g3 g4 h2
  cases hv with
  |text v1 v2 v3 v4 v5 v6 v7=>
   rcases SX v1 h1 with e|⟨e7,e10,e⟩
   ·exact go hid _ v7 e hr (fun u q hu hk=>absurd hk (v6 u q hu))
   ·refine go hid _ v7 e (hr.add ((oF e7 e10).2 ⟨by show(2:Int)≠8;decide,by show(2:Int)≠9;decide,by show(2:Int)≠11;decide,by show(2:Int)≠12;decide⟩) (by show(2:Int)<=2;decide) (by show(2:Int)<=14;decide) (Rl ?_)) (fun u q hu hk=>absurd hk (v6 u q hu))
    exact H6.2 ⟨fun e=>(by cases e.1),.inl rfl,rfl,cM v4 v5,fun e=>ht _ _ rfl v1 e.2,fun _=>rfl,fun e=>(by cases e),fun e=>(by cases e)⟩
  |tag v1 v2 v3 v4=>
   have hk:t.kind=2\/t.kind=3:=by
    rcases v1 with h|⟨h,_⟩
    ·exact .inr h
    ·exact .inl h
   obtain⟨hb,e⟩:=Ms hk h1;obtain⟨b1,b2,b3,b4⟩:=Kn hb;have TJ:=bB b4 v3;have RD:=GN t.name
   cases he:Bj (Br t.name) with
   |true=>
    rw[he] at e;have TN:=RZ he
    refine go hid _ v4 e (hr.add b2 (by show 2<=(Br t.name).kind;omega) (by show(Br t.name).kind<=14;omega) (Rl ?_)) (fun u q _ _=>by
     show a8 (Dy n _::r)≠2;rw[KZ];show(Br t.name).kind≠2
     omega)
    exact Pn (fun e=>by omega) (by omega) (by omega) TJ (Sa (by omega) (by omega) (by omega)) (fun _=>rfl) (fun e=>by omega) (fun e=>by omega)
   |false=>
    rw[he] at e b1
    have Lo:t.kind=2:=by
     rcases hk with h|h
     ·exact h
     ·rw[h] at b1;cases b1
    have Cc:Ex.EA t=false:=by
     rcases v1 with h|⟨_,h⟩
     ·omega
     ·exact h
    have BO:¬(t.name=Ex.BR\/t.name=Ex.CT):=fun hn=>by
     unfold Ex.EA at Cc;rw[Lo] at Cc
     rcases hn with hn|hn<;>rw[hn] at Cc<;>cases Cc
    have h4:(Br t.name).kind≠4:=fun h=>BO (.inr ((gz _).1 h))
    have h5:(Br t.name).kind≠5:=fun h=>BO (.inl ((gz _).2 h))
    have h3:(Br t.name).kind≠3/\(Br t.name).kind≠6:=by
     unfold Bj at he;simpa using he
    have bd:((Br t.name).kind==14)=false:=by
     rw[beq_eq_false_iff_ne];omega
    have hx:hid=(hid||(Br t.name).kind==14):=by rw[bd,Bool.or_false]
    have qL:=RI.up (n:=.mk (Br t.name).kind t.fr [] (t.attrs.map JW) []) hr (by show 7<=(Br t.name).kind;omega) (by show(Br t.name).kind<=14;omega) (fun e=>by have e:(Br t.name).kind=14:=e;omega) rfl TJ (by simpa using b3) b2 .nil
    refine go hid _ v4 e ?_ (fun u q _ _=>by show BA []≠2;decide)
    have qL:RI (hid||(Br t.name).kind==14) _:=qL;rw[<-hx] at qL;exact qL
  | @own _ _ a c q v1 v2 v3 v4 v5 v6 v7 v8 v9 v10 v11=>
   obtain⟨hb,e⟩:=Ms (.inl v1) h1;obtain⟨b1,b2,b3,b4⟩:=Kn hb;have TJ:=bB b4 v3
   have he:Bj (Br t.name)=false:=by rw[b1,v1];rfl
   rw[he] at e;simp only[cond_false] at e
   have M6:(Br t.name).kind=4/\t.name=Ex.CT\/(Br t.name).kind=5/\t.name=Ex.BR:=by
    rcases v2 with h|h<;>rw[h]
    ·exact .inr ⟨rfl,rfl⟩
    ·exact .inl ⟨rfl,rfl⟩
   rw[UL e h1] at h2⊢;obtain⟨h3,h4⟩:=Pb h2;rw[(GF a _ _).1 h3];rw[QV v4] at h3 h4⊢;obtain⟨h5,h6⟩:=Pb h4;rw[(GF c _ _).1 h5];obtain⟨c1,c2⟩:=Mi (.inl v7) h5;simp only at c2;rw[UL c2 h5] at h6⊢
   have sP:Ex.VG hid q:=by
    cases v11 with
    |text w1=>omega
    |tag w1=>omega
    |own w1=>omega
    |close w1 w2 w3 w4=>exact w4
    |Ut w1=>omega
    |shown w1=>omega
   have RD:=GN t.name
   have jA:RI hid (Dy n (.mk (Br t.name).kind t.fr a.text (t.attrs.map JW) [])::r):=by
    refine hr.add b2 (by show 2<=(Br t.name).kind;omega) (by show(Br t.name).kind<=14;omega) (Rl ?_)
    refine Pn (fun e=>by omega) (by omega) (by omega) TJ ?_ (fun _=>rfl) (fun e=>by omega) (fun e=>by omega)
    rcases M6 with ⟨k4,hn⟩|⟨k5,hn⟩
    ·rw[k4];rw[hn] at v9;show(!An a.text kz)=true
     rw[fl (x:=kz) (by decide) v9]
     rfl
    ·rw[k5];rw[hn] at v9;show(!An a.text cS&& !An a.text XP)=true
     rw[fl (x:=cS) (by decide) v9,XE (x:=XP) (v10 hn) (by decide)]
     rfl
   refine Ui N q hid _ _ (by simp only[List.length_cons] at hl;omega) sP jA (fun u q' _ _=> ?_) h6
   rw[KZ];show(Br t.name).kind≠2;omega
  |close v1 v2 v3 v4=>
   obtain⟨c1,c2⟩:=Mi (.inl v1) h1;obtain⟨d1,d2,d3⟩:=VP c1
   have ek:Et t=(Br t.name).kind:=by unfold Et;rw[v1];rfl
   have RD:=GN t.name
   cases r with
   |nil=>
    have:=(hr.one _ rfl).2.1;omega
   |cons m q=>
    obtain⟨ZI,x1,x2,x3⟩:=hr.close (by rw[d1];exact d2) (by rw[d1];exact d3)
    have bd:(n.kind==14)=false:=by
     rw[beq_eq_false_iff_ne];omega
    rw[bd,Bool.or_false] at x2;subst x2
    refine go hid _ v4 c2 x1 (fun u q' _ _=> ?_)
    rw[KZ];omega
  |Ut v1 v2 v3 v4=>
   obtain⟨c1,c2,c3⟩:=TK v1 h1
   have qL:=RI.up (n:=.mk 14 t.fr [] [] []) hr (by show(7:Int)<=14;decide) (by show(14:Int)<=14;decide) (fun _=>rfl) rfl rfl (by simpa using c2) c1 .nil
   exact go true _ v4 c3 qL (fun u q _ _=>by show BA []≠2;decide)
  |shown v1 v2 v3 v4 v5=>
   obtain⟨c1,c2⟩:=Mi (.inr v1) h1;obtain⟨d1,d2,d3⟩:=VP c1
   have ek:Et t=14:=by unfold Et;rw[v1];rfl
   cases r with
   |nil=>have:=(hr.one _ rfl).1;cases this
   |cons m q=>
    obtain⟨ZI,x1,x2,x3⟩:=hr.close (by rw[d1];exact d2) (by rw[d1];exact d3)
    rw[x3 (by omega)] at x1
    refine go false _ v5 c2 x1 (fun u q' _ _=> ?_)
    rw[KZ];omega
theorem gR {s:List UInt8}{n:Nd}(h:Bi s=.ok n):n.G7=0:=by
 have he:Fb s=0:=by unfold Fb;rw[h];rfl
 obtain⟨n',l,p,hn,hm,hl,hp⟩:=Su he;rw[h] at hm
 injection hm with hm
 subst hm
 have hr:=Ui l.length l false DX.rows 0 (Nat.le_refl _) (Ex.Nh hl) (.base rfl rfl rfl .nil) (fun _ _ _ _=>by show BA []≠2;decide) (by show(A7 l DX).e=0;rw[hp])
 have hr:RI false (A7 l DX).rows:=hr;rw[hp] at hr;obtain⟨_,a1,a2,a3,a4⟩:=hr.one _ rfl;obtain⟨k,pp,t,al,ks⟩:=n;simp only[Nd.kind,Nd.text,Nd.attrs,Nd.kids] at a1 a2 a3 a4;subst a1 a2 a3;unfold Nd.G7;show(Nd.mk 1 pp [] [] ks).Mo 0 false 0=0
 refine Gp.2 ⟨Pn (fun e=>rfl) (by decide) (by decide) rfl rfl (fun e=>by cases e) (fun e=>by cases e) (fun e=>by cases e),Wr a4⟩
def zi (x:El):Prop:=(∀r∈BI x.kind,∀v:List UInt8,r.may.ok v=true->x.names.any (·==r.name)=true/\M8 r.name v=true)/\∀nm∈x.names.take x.Ch,∃r∈BI x.kind,r.name=nm/\r.Ch=true
theorem pb {k:Int}(h:Ld k):zi (Br (Bp k)):=by
 have none:∀k:Int,BI k=[]->zi ⟨k,[],0⟩:=fun k hk=>⟨fun r hr=>(by have hr:r∈BI k:=hr;rw[hk] at hr;cases hr),fun nm hn=>(by cases hn)⟩
 rcases Ki h with rfl|rfl|rfl|rfl|rfl|rfl|rfl|rfl|rfl|rfl|rfl
 ·refine⟨fun r hr v hv=> ?_,fun nm hn=> ?_⟩
  ·have hr:r∈[Cl,CU,Bz]:=hr;simp only[List.mem_cons,List.not_mem_nil,or_false] at hr
   rcases hr with rfl|rfl|rfl
   ·exact⟨rfl,hv⟩
   ·exact⟨rfl,hv⟩
   ·refine⟨rfl,?_⟩;simp only[Bz,Xu.ok,List.any_cons,List.any_nil,Bool.or_false] at hv;exact hv
  ·have hn:nm∈[[115,114,99]]:=hn;rw[List.mem_singleton.1 hn];exact⟨Cl,List.Mem.head _,rfl,rfl⟩
 ·refine⟨fun r hr v hv=> ?_,fun nm hn=> ?_⟩
  ·have hr:r∈[Ck,CI]:=hr;simp only[List.mem_cons,List.not_mem_nil,or_false] at hr
   rcases hr with rfl|rfl
   ·exact⟨rfl,hv⟩
   ·refine⟨rfl,?_⟩;simp only[CI,Xu.ok,List.any_cons,List.any_nil,Bool.or_false] at hv;exact hv
  ·have hn:nm∈[[110,97,109,101]]:=hn;rw[List.mem_singleton.1 hn];exact⟨Ck,List.Mem.head _,rfl,rfl⟩
 ·exact none 5 rfl
 ·refine⟨fun r hr v hv=> ?_,fun nm hn=> ?_⟩
  ·have hr:r∈[Df]:=hr;rw[List.mem_singleton.1 hr];exact⟨rfl,rfl⟩
  ·have hn:nm∈[[116,101,120,116]]:=hn;rw[List.mem_singleton.1 hn];exact⟨Df,List.Mem.head _,rfl,rfl⟩
 ·exact none 7 rfl
 ·exact none 8 rfl
 ·exact none 9 rfl
 ·exact none 10 rfl
 ·refine⟨fun r hr v hv=> ?_,fun nm hn=> ?_⟩
  ·have hr:r∈[CA]:=hr;rw[List.mem_singleton.1 hr] at hv⊢;exact⟨rfl,hv⟩
  ·have hn:nm∈[[116,101,115,116]]:=hn;rw[List.mem_singleton.1 hn];exact⟨CA,List.Mem.head _,rfl,rfl⟩
 ·exact none 12 rfl
 ·exact none 13 rfl
theorem YT {a:List Ex.Aj}:∀{b:List Ex.Aj},Ex.sameAs a b->(∀x∈b,∃y∈a,y.name=x.name/\y.value=x.value)/\∀y∈a,∃x∈b,x.name=y.name:=by
 induction a with
 |nil=>
  intro b h
  cases b with
  |nil=>exact⟨fun x hx=>(by cases hx),fun y hy=>(by cases hy)⟩
  |cons _ _=>exact h.elim
 |cons u a ih=>
  intro b h
  cases b with
  |nil=>exact h.elim
  |cons v b=>
   obtain⟨h1,h2,h3⟩:=h;obtain⟨i1,i2⟩:=ih h3
   refine⟨fun x hx=> ?_,fun y hy=> ?_⟩
   ·rcases List.mem_cons.1 hx with rfl|hx
    ·exact⟨u,List.mem_cons_self ..,h1,h2⟩
    ·obtain⟨y,hy,e⟩:=i1 x hx;exact⟨y,List.mem_cons_of_mem _ hy,e⟩
   ·rcases List.mem_cons.1 hy with rfl|hy
    ·exact⟨v,List.mem_cons_self ..,h1.symm⟩
    ·obtain⟨x,hx,e⟩:=i2 y hy;exact⟨x,List.mem_cons_of_mem _ hx,e⟩
theorem kv {k:Int}(hk:Ld k){al:List Go.Ai.Aj}{l:List Ex.Aj}(h:Ca (BI k) al 0=true)(hl:Ex.sameAs (al.map C6) l):HB (Br (Bp k)) l=true:=by
 obtain⟨_,h2,h3⟩:=MR.1 h;obtain⟨b1,b2⟩:=pb hk;rw[VF hk] at b1 b2;obtain⟨s1,s2⟩:=YT hl;unfold HB;rw[Bool.and_eq_true,List.all_eq_true,List.all_eq_true]
 refine⟨fun nm hn=> ?_,fun a ha=> ?_⟩
 ·obtain⟨r,hr,e1,e2⟩:=b2 nm hn;obtain⟨a,ha,e3⟩:=h3 r hr e2;obtain⟨x,hx,e4⟩:=s2 (C6 a) (List.mem_map.2 ⟨a,ha,rfl⟩);refine List.any_eq_true.2 ⟨x,hx,?_⟩;rw[beq_iff_eq,e4,<-e1,<-e3];rfl
 ·obtain⟨y,hy,e1,e2⟩:=s1 a ha;obtain⟨c,hc,rfl⟩:=List.mem_map.1 hy;obtain⟨r,hr,e3,e4,_⟩:=h2 c hc;obtain⟨f1,f2⟩:=b1 r hr c.value e4
  have e5:a.name=r.name:=by rw[<-e1,e3];rfl
  have e6:a.value=c.value:=by rw[<-e2];rfl
  rw[e5,e6,f1,f2];rfl
theorem Kp :∀{al:List Go.Ai.Aj} {l:List Ex.Aj},Ex.sameAs (al.map C6) l->Dx (l.map JW) al=true
 |[],[],_=>rfl
 |[],_::_,h=>h.elim
 |_::_,[],h=>h.elim
 |a::al,b::l,h=>by
  obtain⟨h1,h2,h3⟩:=h;simp only[List.map_cons,Dx,Kp h3,Bool.and_true];have h1:a.name=b.name:=h1;have h2:a.value=b.value:=h2;simp[alike,JW,h1,h2]
theorem Hu :∀{a b m:List Ex.Tok},Ex.JL (a++b) m->∃m1 m2,m=m1++m2/\Ex.JL a m1/\Ex.JL b m2
 |[],b,m,h=>⟨[],m,rfl,trivial,h⟩
 |x::a,b,[],h=>h.elim
 |x::a,b,y::m,h=>by
  obtain⟨m1,m2,rfl,h1,h2⟩:=Hu h.2;exact⟨y::m1,m2,rfl,⟨h.1,h1⟩,h2⟩
theorem Qp {k:Int}(hk:BI k=[]){al:List Go.Ai.Aj}(h:Ca (BI k) al 0=true):al=[]:=by
 obtain⟨_,h2,_⟩:=MR.1 h
 cases al with
 |nil=>rfl
 |cons a al=>
  obtain⟨r,hr,_⟩:=h2 a (List.mem_cons_self ..);rw[hk] at hr;cases hr
theorem IM {k:Int}{t:List UInt8}{hid:Bool}(h2:k≠2)(h4:k≠4)(h5:k≠5)(h:D6 k t hid=true):t=[]:=by
 have e1:(k==2)=false:=by simpa using h2
 have e2:(k==4)=false:=by simpa using h4
 have e3:(k==5)=false:=by simpa using h5
 unfold D6 at h;rw[e1,e2,e3] at h;simpa using h
theorem Zz {t:Ex.Tok}{n:Nd}{r:List Nd}{pl:Int}(hk:t.kind=2\/t.kind=3)(hb:JT (Br t.name) t n r=true):
  Aq t ⟨n::r,pl,0⟩=bif Bj (Br t.name) then⟨Dy n (.mk (Br t.name).kind t.fr [] (t.attrs.map JW) [])::r,pl,0⟩ else⟨.mk (Br t.name).kind t.fr [] (t.attrs.map JW) []::n::r,pl,0⟩:=by
 have e1:Aq t ⟨n::r,pl,0⟩=EY t ⟨n::r,pl,0⟩:=by unfold Aq;rcases hk with h|h<;>rw[h]<;>rfl
 rw[e1];unfold EY;simp only;rw[(Zx (Br t.name) t n r ⟨n::r,pl,0⟩ rfl).2 hb]
theorem Zi {t:Ex.Tok}{n m:Nd}{q:List Nd}{pl:Int}(hk:t.kind=4\/t.kind=6)(hb:Ei t n=false):Aq t ⟨n::m::q,pl,0⟩=⟨Dy m n::q,pl,0⟩:=by
 have e1:Aq t ⟨n::m::q,pl,0⟩=Es t ⟨n::m::q,pl,0⟩:=by unfold Aq;rcases hk with h|h<;>rw[h]<;>rfl
 rw[e1];unfold Es;simp only;rw[hb];rfl
theorem lK {t:Ex.Tok}{n:Nd}{r:List Nd}{pl:Int}(hk:t.kind=5)(h1:CV n.kind (BA n.kids) 14=true)(h2:r.length+1<=16):Aq t ⟨n::r,pl,0⟩=⟨.mk 14 t.fr [] [] []::n::r,pl,0⟩:=by
 have e1:Aq t ⟨n::r,pl,0⟩=Ff t ⟨n::r,pl,0⟩:=by unfold Aq;rw[hk];rfl
 rw[e1];unfold Ff;simp only
 rw[h1,decide_eq_false (by omega)]
 rfl
theorem kH {t:Ex.Tok}{n:Nd}{r:List Nd}{pl:Int}(hk:t.kind=1)(h7:n.kind≠7)(RM:n.kind≠10):Aq t ⟨n::r,pl,0⟩=⟨Dy n (.mk 2 t.fr t.text [] [])::r,pl,0⟩:=by
 have e1:Aq t ⟨n::r,pl,0⟩=ED t ⟨n::r,pl,0⟩:=by unfold Aq;rw[hk];rfl
 have x1:(n.kind==7)=false:=by simpa using h7
 have x2:(n.kind==10)=false:=by simpa using RM
 rw[e1];unfold ED;simp only;rw[x1,x2];rfl
theorem go_on {t:Ex.Tok}{l:List Ex.Tok}{S:Ps}{R:List Nd}{pl:Int}(h:Aq t S=⟨R,pl,0⟩):A7 (t::l) S=A7 l ⟨R,pl,0⟩:=by
 rw[(GF t l S).1 (by rw[h]),h]
theorem Zy {k:Int}(hk:Ld k){t:Ex.Tok}{n:Nd}{r:List Nd}{al:List Go.Ai.Aj}(hn:t.name=Bp k)(he:Bj (Br (Bp k))=(t.kind==3))(hm:CV n.kind (BA n.kids) k=true)(hd:r.length+1<=16)(TJ:Ca (BI k) al 0=true)(hl:Ex.sameAs (al.map C6) t.attrs):JT (Br t.name) t n r=true:=by
 rw[hn];unfold JT;rw[he,VF hk,hm,decide_eq_true hd,kv hk TJ hl];simp
theorem VO {t:Ex.Tok}{n:Nd}(h1:n.kind=Et t)(h7:n.kind=7->BA n.kids=9)(RM:n.kind=10->BA n.kids≠0):Ei t n=false:=by
 unfold Ei;rw[<-h1];have e0:(n.kind==n.kind)=true:=beq_self_eq_true _;rw[e0];simp only[Bool.not_true,Bool.false_or,Bool.or_eq_false_iff,Bool.and_eq_false_iff,beq_eq_false_iff_ne,Bool.not_eq_false',beq_iff_eq];refine⟨?_,?_⟩
 ·by_cases e:n.kind=7
  ·exact .inr (h7 e)
  ·exact .inl e
 ·by_cases e:n.kind=10
  ·exact .inr (RM e)
  ·exact .inl e
def gO (p:Int)(done todo:List Nd):Prop:=(p=7->done.length=1->BA done=8)/\(p=10->done≠[]->todo≠[]->BA done=11)
theorem lV {p k i n:Int}{done:List Nd}{c:Nd}{todo:List Nd}(h:KA p k i n=true)(hi:i=done.length)(ho:gO p done (c::todo)):CV p (BA done) k=true/\(k=2->p≠7/\p≠10):=by
 unfold KA at h
 by_cases h7:p=7
 ·subst h7;simp only[beq_self_eq_true,cond_true,Bool.and_eq_true,beq_iff_eq,decide_eq_true_eq] at h;obtain⟨a1,a2⟩:=h
  by_cases h0:i=0
  ·rw[if_pos h0] at a1
   have:done=[]:=List.eq_nil_of_length_eq_zero (by omega)
   subst this
   exact⟨gT.2 (.inl ⟨a1,rfl⟩),fun e=>by omega⟩
  ·rw[if_neg h0] at a1
   exact⟨gT.2 (.inr ⟨a1,ho.1 rfl (by omega)⟩),fun e=>by omega⟩
 ·have x7:(p==7)=false:=by simpa using h7
  rw[x7] at h;simp only[cond_false] at h
  by_cases RM:p=10
  ·subst RM;simp only[beq_self_eq_true,cond_true,Bool.or_eq_true,Bool.and_eq_true,beq_iff_eq,decide_eq_true_eq] at h
   rcases h with a1|⟨⟨a1,a2⟩,a3⟩
   ·refine⟨gU.2 (.inl ⟨a1,fun e=> ?_⟩),fun e=>by omega⟩
    have BO:done≠[]:=fun e2=>by rw[e2] at e;cases e
    have:=ho.2 rfl BO (by simp)
    omega
   ·have BO:done≠[]:=fun e2=>by rw[e2] at hi;simp at hi;omega
    exact⟨gU.2 (.inr ⟨a1,ho.2 rfl BO (by simp)⟩),fun e=>by omega⟩
  ·have x10:(p==10)=false:=by simpa using RM
   rw[x10] at h;simp only[cond_false] at h
   refine⟨(oF h7 RM).2 ?_,fun _=>⟨h7,RM⟩⟩
   refine⟨?_,?_,?_,?_⟩<;>(rintro rfl;cases h)
theorem HD {m:List Ex.Tok}(h:Ex.JL [] m):m=[]:=by
 cases m with
 |nil=>rfl
 |cons _ _=>exact h.elim
theorem De {a:Ex.Tok}{l m:List Ex.Tok}(h:Ex.JL (a::l) m):∃u q,m=u::q/\Ex.fV a u/\Ex.JL l q:=by
 cases m with
 |nil=>exact h.elim
 |cons u q=>exact⟨u,q,rfl,h.1,h.2⟩
theorem a6 {p N d:Int}{hid:Bool}:∀{ks:List Nd} {i b:Int},Io p N ks i d hid b=0->ks≠[]->BA ks≠0
 |[],_,_,_,h=>absurd rfl h
 |[c],i,b,h,_=>by
  have h1:=(Cy.1 h).1;have:=J9 h1;show c.kind≠0;unfold Ld at this;omega
 |c::x::ks,i,b,h,_=>by
  have:=a6 (ks:=x::ks) (Cy.1 h).2.2 (by simp)
  simpa[BA] using this
theorem oE (n:Nd):Nd.mk n.kind n.pl n.text n.attrs n.kids=n:=by cases n;rfl
theorem Il {k:Int}(h:Ld k):(Br (Bp k)).kind=k:=VF h
mutual
theorem pt :∀(c:Nd) (d:Int) (hid:Bool) (b:Int),c.Mo d hid b=0->(c.kind=2\/c.kind=14\/Ld c.kind)->∀(n:Nd) (r:List Nd) (pl:Int) (m rest:List Ex.Tok),Ex.JL (Gr c) m->d=(r.length:Int)+1->CV n.kind (BA n.kids) c.kind=true->(c.kind=2->n.kind≠7/\n.kind≠10)->
  ∃c',c'.same c=true/\A7 (m++rest) ⟨n::r,pl,0⟩=A7 rest ⟨Dy n c'::r,pl,0⟩
 |.mk k p t al ks,d,hid,b,hc,hk,n,r,pl,m,rest,hm,hd,dM,uQ=>by
  have hk:k=2\/k=14\/Ld k:=hk;have dM:CV n.kind (BA n.kids) k=true:=dM;have uQ:k=2->n.kind≠7/\n.kind≠10:=uQ;obtain⟨hf,hs⟩:=Gp.1 hc;obtain⟨f1,f2,f3,f4,f5,f6,f7,f8⟩:=H6.1 hf;rw[Gr] at hm
  by_cases h2:k=2
  ·subst h2;obtain⟨u,q,rfl,⟨u1,u2,u3,u4⟩,hq⟩:=De hm;obtain rfl:=HD hq;obtain rfl:=Qp rfl f3;obtain rfl:ks=[]:=List.eq_nil_of_length_eq_zero (f6 rfl);have hu:u.text=t:=u3;exact⟨.mk 2 u.fr u.text [] [],Dq.2 ⟨rfl,hu,rfl,rfl⟩,go_on (kH u1.symm (uQ rfl).1 (uQ rfl).2)⟩
  rw[beq_eq_false_iff_ne.2 h2] at hm;simp only[cond_false] at hm
  have bQ:r.length+1<=16:=by
   rcases f2 with h|h
   ·exact absurd h h2
   ·omega
  cases TN:k==3||k==6 with
  |true=>
   rw[TN] at hm;simp only[cond_true] at hm;simp only[Bool.or_eq_true,beq_iff_eq] at TN
   have he:Ld k:=by unfold Ld;omega
   obtain⟨u,q,rfl,⟨u1,u2,u3,u4⟩,hq⟩:=De hm;obtain rfl:=HD hq
   obtain rfl:ks=[]:=List.eq_nil_of_length_eq_zero (f6 (by unfold F6;rcases TN with rfl|rfl<;>rfl))
   obtain rfl:=IM h2 (by omega) (by omega) f4
   have u2:u.name=Bp k:=u2.symm;have u1:u.kind=3:=u1.symm
   have mZ:Bj (Br (Bp k))=true:=by rcases TN with rfl|rfl<;>rfl
   have hb:=Zy he (t:=u) (n:=n) (r:=r) u2 (by rw[mZ,u1];rfl) dM bQ f3 u4
   have DI:=Zz (pl:=pl) (.inr u1) hb;rw[u2,mZ,Il he] at DI;exact⟨.mk k u.fr [] (u.attrs.map JW) [],Dq.2 ⟨rfl,rfl,Kp u4,rfl⟩,go_on DI⟩
  |false=>
   rw[TN] at hm;simp only[cond_false] at hm;simp only[Bool.or_eq_false_iff,beq_eq_false_iff_ne] at TN
   cases M6:k==4||k==5 with
   |true=>
    rw[M6] at hm;simp only[cond_true] at hm;simp only[Bool.or_eq_true,beq_iff_eq] at M6
    have he:Ld k:=by unfold Ld;omega
    obtain⟨u,q,rfl,⟨u1,u2,u3,u4⟩,hq⟩:=De hm;obtain⟨a,q2,rfl,⟨a1,a2,a3,a4⟩,sc⟩:=De hq;obtain⟨w,q3,rfl,⟨w1,w2,w3,w4⟩,sb⟩:=De sc;obtain rfl:=HD sb
    obtain rfl:ks=[]:=List.eq_nil_of_length_eq_zero (f6 (by unfold F6;rcases M6 with rfl|rfl<;>rfl))
    have u2:u.name=Bp k:=u2.symm;have u1:u.kind=2:=u1.symm;have a1:a.kind=7:=a1.symm;have a3:a.text=t:=a3;have w1:w.kind=4:=w1.symm;have w2:w.name=Bp k:=w2.symm
    have mZ:Bj (Br (Bp k))=false:=by rcases M6 with rfl|rfl<;>rfl
    have hb:=Zy he (t:=u) (n:=n) (r:=r) u2 (by rw[mZ,u1];rfl) dM bQ f3 u4
    have DI:=Zz (pl:=pl) (.inl u1) hb;rw[u2,mZ,Il he] at DI;refine⟨.mk k u.fr a.text (u.attrs.map JW) [],Dq.2 ⟨rfl,a3,Kp u4,rfl⟩,?_⟩;show A7 (u::a::w::rest) _=_
    rw[go_on DI,go_on (QV a1),go_on (Zi (.inl w1) (VO ?_ (fun e=> ?_) (fun e=> ?_)))]
    ·rfl
    ·show k=Et w;unfold Et;rw[w1,w2,Il he];rfl
    ·have e:k=7:=e;omega
    ·have e:k=10:=e;omega
   |false=>
    rw[M6] at hm;simp only[cond_false] at hm;simp only[Bool.or_eq_false_iff,beq_eq_false_iff_ne] at M6;obtain rfl:=IM h2 M6.1 M6.2 f4
    have hL7:k=7->BA ks=9:=fun e=>by
     subst e;have hlen:=f7 rfl
     match ks,hlen,hs with
     |[x,y],_,hs=>
      have h1:=(Cy.1 (Cy.1 hs).2.2).1;unfold KA at h1;simp only[beq_self_eq_true,cond_true,Bool.and_eq_true,beq_iff_eq] at h1;exact h1.1
    have yH:k=10->BA ks≠0:=fun e=>a6 hs (fun e2=>f8 e (by rw[e2];rfl))
    cases SN:k==14 with
    |true=>
     rw[SN] at hm hs;simp only[cond_true] at hm;have bd:=eq_of_beq SN;subst bd;obtain⟨u,q,rfl,⟨u1,u2,u3,u4⟩,hq⟩:=De hm;obtain⟨m1,m2,rfl,h3,h4⟩:=Hu hq;obtain⟨w,q3,rfl,⟨w1,w2,w3,w4⟩,sb⟩:=De h4;obtain rfl:=HD sb;obtain rfl:=Qp rfl f3;have u1:u.kind=5:=u1.symm;have w1:w.kind=6:=w1.symm
     obtain⟨Un,s1,s2⟩:=VQ ks 14 (ks.length:Nat) 0 (d+1) (hid||true) 0 hs (.mk 14 u.fr [] [] []) (n::r) pl m1 (w::rest) h3 (by simp only[List.length_cons];omega) rfl rfl (by simp[Nd.kids]) ⟨fun e=>(by cases e),fun e=>(by cases e)⟩
     refine⟨.mk 14 u.fr [] [] Un,Dq.2 ⟨rfl,rfl,rfl,s1⟩,?_⟩;show A7 (u::(m1++[w]++rest)) _=_;rw[go_on (lK u1 dM bQ),List.append_assoc];show A7 (m1++(w::rest)) _=_;rw[s2]
     exact go_on (Zi (.inr w1) (VO (by show(14:Int)=Et w;unfold Et;rw[w1];rfl) (fun e=>by cases e) (fun e=>by cases e)))
    |false=>
     rw[SN] at hm;simp only[cond_false] at hm
     have n14:k≠14:=by simpa using SN
     have he:Ld k:=by
      rcases hk with h|h|h
      ·exact absurd h h2
      ·exact absurd h n14
      ·exact h
     obtain⟨u,q,rfl,⟨u1,u2,u3,u4⟩,hq⟩:=De hm;obtain⟨m1,m2,rfl,h3,h4⟩:=Hu hq;obtain⟨w,q3,rfl,⟨w1,w2,w3,w4⟩,sb⟩:=De h4;obtain rfl:=HD sb;have u2:u.name=Bp k:=u2.symm;have u1:u.kind=2:=u1.symm;have w1:w.kind=4:=w1.symm;have w2:w.name=Bp k:=w2.symm
     have mZ:Bj (Br (Bp k))=false:=by
      unfold Bj;rw[Il he];simp only[Bool.or_eq_false_iff,beq_eq_false_iff_ne];exact TN
     have hb:=Zy he (t:=u) (n:=n) (r:=r) u2 (by rw[mZ,u1];rfl) dM bQ f3 u4
     have DI:=Zz (pl:=pl) (.inl u1) hb;rw[u2,mZ,Il he] at DI
     obtain⟨Un,s1,s2⟩:=VQ ks k (ks.length:Nat) 0 (d+1) (hid||k==14) 0 hs (.mk k u.fr [] (u.attrs.map JW) []) (n::r) pl m1 (w::rest) h3 (by simp only[List.length_cons];omega) rfl rfl (by simp[Nd.kids]) ⟨fun _ e=>by simp[Nd.kids] at e,fun _ e=>absurd rfl e⟩
     refine⟨.mk k u.fr [] (u.attrs.map JW) Un,Dq.2 ⟨rfl,rfl,Kp u4,s1⟩,?_⟩;show A7 (u::(m1++[w]++rest)) _=_;rw[go_on DI,List.append_assoc];show A7 (m1++(w::rest)) _=_;rw[s2]
     refine go_on (Zi (.inl w1) (VO ?_ (fun e=> ?_) (fun e=> ?_)))
     ·show k=Et w;unfold Et;rw[w1,w2,Il he];rfl
     ·show BA ([]++Un)=9;rw[List.nil_append,LL s1];exact hL7 e
     ·show BA ([]++Un)≠0;rw[List.nil_append,LL s1];exact yH e
theorem VQ :∀(ks:List Nd) (p N i d:Int) (hid:Bool) (b:Int),Io p N ks i d hid b=0->∀(n:Nd) (r:List Nd) (pl:Int) (m rest:List Ex.Tok),Ex.JL (BT ks) m->d=(r.length:Int)+1->n.kind=p->i=(n.kids.length:Nat)->N=(n.kids.length:Int)+ks.length->gO p n.kids ks->
  ∃Un,En Un ks=true/\A7 (m++rest) ⟨n::r,pl,0⟩=A7 rest ⟨.mk n.kind n.pl n.text n.attrs (n.kids++Un)::r,pl,0⟩
 |[],p,N,i,d,hid,b,_,n,r,pl,m,rest,hm,_,_,_,_,_=>by
  obtain rfl:=HD hm
  exact⟨[],rfl,by rw[List.append_nil,oE];rfl⟩
 |c::ks,p,N,i,d,hid,b,hc,n,r,pl,m,rest,hm,hd,hp,hi,hN,ho=>by
  obtain⟨h1,h2,h3⟩:=Cy.1 hc;rw[BT] at hm;obtain⟨m1,m2,rfl,h4,h5⟩:=Hu hm;subst hp;obtain⟨g1,g2⟩:=lV h1 hi ho;obtain⟨c',s1,s2⟩:=pt c d hid b h2 (J9 h1) n r pl m1 (m2++rest) h4 hd g1 g2;have ck:c'.kind=c.kind:=(Dq.1 s1).1;simp only[List.length_cons] at hN
  obtain⟨Un,s3,s4⟩:=VQ ks n.kind N (i+1) d hid c.kind h3 (Dy n c') r pl m2 rest h5 hd rfl (by rw[Cw,List.length_append];simp only[List.length_cons,List.length_nil];omega) (by rw[Cw,List.length_append];simp only[List.length_cons,List.length_nil];omega) (by
   rw[Cw]
   refine⟨fun e e1=> ?_,fun e _ e2=> ?_⟩
   ·rw[I7,ck];simp only[List.length_append,List.length_cons,List.length_nil] at e1;unfold KA at h1;rw[e] at h1;simp only[beq_self_eq_true,cond_true,Bool.and_eq_true,beq_iff_eq] at h1
    rw[if_pos (by omega)] at h1
    exact h1.1
   ·rw[I7,ck];have BO:0<ks.length:=List.length_pos_iff.2 e2;unfold KA at h1;rw[e] at h1;have h1:(c.kind==11||(c.kind==12&&decide (0<i)&&i==N-1))=true:=h1;simp only[Bool.or_eq_true,Bool.and_eq_true,beq_iff_eq,decide_eq_true_eq] at h1
    rcases h1 with h|⟨_,h⟩
    ·exact h
    ·omega)
  refine⟨c'::Un,by simp only[En,Bool.and_eq_true];exact⟨s1,s3⟩,?_⟩
  rw[List.append_assoc,s2,s4,Cw,List.append_assoc];rfl
end
theorem cd {n:Nd}(h:n.G7=0)(hlen:(Ex.Bg (BT n.kids)).length<=65536):∃n',Bi (Ex.Bg (BT n.kids))=.ok n'/\n'.same n=true:=by
 obtain⟨hk,hv⟩:=Tw h;obtain⟨k,p,t,al,ks⟩:=n;have hk:k=1:=hk;subst hk;have hc:(Nd.mk 1 p t al ks).Mo 0 false 0=0:=h;obtain⟨hf,hs⟩:=Gp.1 hc;obtain⟨f1,f2,f3,f4,f5,f6,f7,f8⟩:=H6.1 hf;obtain rfl:=Qp rfl f3
 obtain rfl:=IM (by decide) (by decide) (by decide) f4
 show ∃n',Bi (Ex.Bg (BT ks))=.ok n'/\n'.same (.mk 1 p [] [] ks)=true;have hlen:(Ex.Bg (BT ks)).length<=65536:=hlen;have hv:Ex.VG false (BT ks):=hv
 obtain⟨m,h1,h2⟩:=Ex.dE (s:=Ex.Bg (BT ks)) hv ((Ex.Bg (BT ks)).length+1) 0 none rfl (Nat.zero_le _) rfl (by omega)
 obtain⟨Un,s1,s2⟩:=VQ ks 1 (ks.length:Nat) 0 (0+1) (false||(1:Int)==14) 0 hs (.mk 1 0 [] [] []) [] 0 m [] h2 rfl rfl rfl (by simp[Nd.kids]) ⟨fun e=>(by cases e),fun e=>(by cases e)⟩
 rw[List.append_nil] at s2;refine⟨.mk 1 0 [] [] Un,?_,Dq.2 ⟨rfl,rfl,rfl,s1⟩⟩;unfold Bi;have hl:Ex.lexM (Ex.Bg (BT ks))=.ok m:=h1
 rw[if_neg (by omega),hl]
 simp only;unfold NR;have e:A7 m DX=⟨[.mk 1 0 [] [] Un],0,0⟩:=s2;rw[e];rfl
theorem aj {s:List UInt8}(h:Ex.CW s=true):Bp (Br s).kind=s:=by
 unfold Ex.CW Ex.LV at h;simp only[List.any_cons,List.any_nil,Bool.or_false,Bool.or_eq_true,beq_iff_eq] at h
 rcases h with h|h|h|h|h|h|h|h|h|h|h<;>rw[<-h]<;>decide
theorem Lk :∀l:List Ex.Aj,Ex.AN ((l.map JW).map C6)=Ex.AN l
 |[]=>rfl
 |a::l=>by
  simp only[List.map_cons,Ex.AN,Lk l];rfl
def Y6 (t:Ex.Tok):Prop:=(t.kind=2\/t.kind=3\/t.kind=4->Ex.CW t.name=true)/\(t.kind=6->t.text=Ex.BM)/\(t.kind=1\/t.kind=2\/t.kind=3\/t.kind=4\/t.kind=5\/t.kind=6\/t.kind=7)
theorem cg {s:List UInt8}(h:s=Ex.BR\/s=Ex.CT):Ex.CW s=true:=by rcases h with rfl|rfl<;>decide
theorem eP {hid:Bool}{l:List Ex.Tok}(h:Ex.VG hid l):∀t∈l,Y6 t:=by
 induction h with
 |nil=>exact fun t ht=>(by cases ht)
 |text h1 _ _ _ _ _ _ ih=>
  intro u hu
  rcases List.mem_cons.1 hu with rfl|hu
  ·exact⟨fun e=>by omega,fun e=>by omega,.inl h1⟩
  ·exact ih u hu
 |tag h1 h2 _ _ ih=>
  intro u hu
  rcases List.mem_cons.1 hu with rfl|hu
  ·exact⟨fun _=>h2,fun e=>by omega,by omega⟩
  ·exact ih u hu
 |own h1 h2 _ h4 _ _ h7 h8 _ _ _ ih=>
  intro u hu
  rcases List.mem_cons.1 hu with rfl|hu
  ·exact⟨fun _=>cg h2,fun e=>by omega,by omega⟩
  ·rcases List.mem_cons.1 hu with rfl|hu
   ·exact⟨fun e=>by omega,fun e=>by omega,by omega⟩
   ·exact ih u hu
 |close h1 _ h3 _ ih=>
  intro u hu
  rcases List.mem_cons.1 hu with rfl|hu
  ·exact⟨fun _=>h3,fun e=>by omega,by omega⟩
  ·exact ih u hu
 |Ut h1 _ _ _ ih=>
  intro u hu
  rcases List.mem_cons.1 hu with rfl|hu
  ·exact⟨fun e=>by omega,fun e=>by omega,by omega⟩
  ·exact ih u hu
 |shown h1 _ _ h4 _ ih=>
  intro u hu
  rcases List.mem_cons.1 hu with rfl|hu
  ·exact⟨fun e=>by omega,fun _=>h4,by omega⟩
  ·exact ih u hu
def wL (l:List Nd):Nat:=(Ex.Bg (BT l)).length
def wN (n:Nd):Nat:=(Ex.Bg (Gr n)).length
theorem nC (l:List Nd)(k:Nd):wL (l++[k])=wL l+wN k:=by
 unfold wL wN;rw[Pz,Ex.IZ,List.length_append];simp only[BT,List.append_nil]
def MV (k:Int)(al:List Go.Ai.Aj):Nat:=if k=1 then 0 else if k=14 then 8 else 6+(Bp k).length+(Ex.AN (al.map C6)).length
def UC (n:Nd):Nat:=MV n.kind n.attrs+n.text.length+wL n.kids
def Fz :List Nd->Nat
 |[]=>0
 |n::r=>UC n+Fz r
theorem QQ (n k:Nd):UC (Dy n k)=UC n+wN k:=by
 unfold UC;rw[Cw,nC];show MV n.kind n.attrs+n.text.length+(wL n.kids+wN k)=_;omega
theorem VJ {n:Nd}(h3:3<=n.kind)(SN:n.kind<=14):wN n<=UC n+(if n.kind=14 then 3 else 7+(Bp n.kind).length):=by
 obtain⟨k,p,t,al,ks⟩:=n;have h3:3<=k:=h3;have SN:k<=14:=SN
 show(Ex.Bg (Gr (.mk k p t al ks))).length<=MV k al+t.length+wL ks+(if k=14 then 3 else 7+(Bp k).length)
 unfold MV
 rw[if_neg (by omega:¬k=1),Gr]
 rw[beq_eq_false_iff_ne.2 (by omega:k≠2)]
 simp only[cond_false]
 by_cases bd:k=14
 ·subst bd
  simp only[show((14:Int)==3||(14:Int)==6)=false from rfl,show((14:Int)==4||(14:Int)==5)=false from rfl,show((14:Int)==14)=true from rfl,cond_false,cond_true,Ex.Bg,Ex.IZ,List.length_append,if_true]
  have a1:(Ex.written Oa).length=8:=rfl;have a2:(Ex.written OO).length=3:=rfl;unfold wL;simp only[List.length_nil];omega
 ·rw[if_neg bd,if_neg bd]
  cases TN:k==3||k==6 with
  |true=>
   simp only[cond_true,Ex.Bg,List.append_nil];have:Ex.written ⟨3,Bp k,al.map C6,[],0,0⟩=Ex.Al++(Bp k++(Ex.AN (al.map C6)++[47,62])):=rfl;rw[this];simp only[List.length_append,Ex.Al,List.length_cons,List.length_nil];omega
  |false=>
   have a1:(Ex.written (Oy k al)).length=6+(Bp k).length+(Ex.AN (al.map C6)).length:=by
    have:Ex.written (Oy k al)=Ex.Al++(Bp k++(Ex.AN (al.map C6)++[62])):=rfl;rw[this];simp only[List.length_append,Ex.Al,List.length_cons,List.length_nil];omega
   have a2:(Ex.written (SR k)).length=7+(Bp k).length:=by
    have:Ex.written (SR k)=Ex.Aa++(Bp k++[62]):=rfl;rw[this];simp only[List.length_append,Ex.Aa,List.length_cons,List.length_nil];omega
   simp only[cond_false]
   cases M6:k==4||k==5 with
   |true=>
    simp only[cond_true,Ex.Bg,List.append_nil,List.length_append];have a3:(Ex.written ⟨7,[],[],t,0,0⟩).length=t.length:=rfl;omega
   |false=>
    have qg:(k==14)=false:=by simpa using bd
    simp only[cond_false,qg,Ex.Bg,Ex.IZ,List.append_nil,List.length_append,List.length_nil];unfold wL;omega
theorem qj {t:Ex.Tok}(h:t.kind=2):(Ex.written t).length=6+t.name.length+(Ex.AN t.attrs).length:=by
 unfold Ex.written;rw[h]
 simp only[show¬((2:Int)=4) from by decide,show¬((2:Int)=5) from by decide,if_false,if_true,List.length_append,Ex.Al,List.length_cons,List.length_nil]
 omega
theorem lx {t:Ex.Tok}(h:t.kind=3):(Ex.written t).length=7+t.name.length+(Ex.AN t.attrs).length:=by
 unfold Ex.written;rw[h]
 simp only[show¬((3:Int)=4) from by decide,show¬((3:Int)=5) from by decide,show¬((3:Int)=2) from by decide,if_false,if_true,List.length_append,Ex.Al,List.length_cons,List.length_nil]
 omega
theorem qi {t:Ex.Tok}(h:t.kind=4):(Ex.written t).length=7+t.name.length:=by
 unfold Ex.written;rw[h];simp only[if_true,List.length_append,Ex.Aa,List.length_cons,List.length_nil];omega
theorem X7 {t:Ex.Tok}(h:t.kind=1\/t.kind=6\/t.kind=7):(Ex.written t).length=t.text.length:=by rw[Ex.FU h]
theorem nB {t:Ex.Tok}(h:t.kind=5):(Ex.written t).length=8:=by
 unfold Ex.written;rw[h];rfl
theorem nA {t:Ex.Tok}{n:Nd}{r:List Nd}{pl:Int}(hk:Y6 t)(hs:(Aq t ⟨n::r,pl,0⟩).e=0)(ot:t.kind=7->n.text=[]):Fz (Aq t ⟨n::r,pl,0⟩).rows<=Fz (n::r)+(Ex.written t).length:=by
 obtain⟨k1,k2,k3⟩:=hk
 by_cases c1:t.kind=1
 ·rcases SX c1 hs with e|⟨_,_,e⟩
  ·rw[e];omega
  ·rw[e,X7 (.inl c1)];simp only[Fz,QQ]
   have:wN (.mk 2 t.fr t.text [] [])=t.text.length:=by
    unfold wN;show(Ex.written (l8 t.text)++[]).length=_;rw[List.append_nil];rfl
   omega
 by_cases c7:t.kind=7
 ·rw[QV c7,X7 (.inr (.inr c7))];have:=ot c7;simp only[Fz];have e:UC (.mk n.kind n.pl t.text n.attrs n.kids)=MV n.kind n.attrs+t.text.length+wL n.kids:=rfl;have e2:UC n=MV n.kind n.attrs+n.text.length+wL n.kids:=rfl;omega
 by_cases te:t.kind=2\/t.kind=3
 ·obtain⟨hb,e⟩:=Ms te hs;obtain⟨b1,b2,b3,b4⟩:=Kn hb
  have hn:=aj (k1 (by rcases te with h|h;exact .inl h;exact .inr (.inl h)))
  have RD:=GN t.name;rw[e]
  cases he:Bj (Br t.name) with
  |true=>
   rw[he] at b1
   have c3:t.kind=3:=by
    have:(t.kind==3)=true:=b1.symm;exact eq_of_beq this
   simp only[cond_true,Fz,QQ];rw[lx c3]
   have DU:=VJ (n:=.mk (Br t.name).kind t.fr [] (t.attrs.map JW) []) (by show 3<=(Br t.name).kind;omega) (by show(Br t.name).kind<=14;omega)
   have:wN (.mk (Br t.name).kind t.fr [] (t.attrs.map JW) [])=7+t.name.length+(Ex.AN t.attrs).length:=by
    unfold wN;rw[Gr];have TN:=RZ he
    have x2:((Br t.name).kind==2)=false:=by rw[beq_eq_false_iff_ne];omega
    have x36:((Br t.name).kind==3||(Br t.name).kind==6)=true:=by rcases TN with h|h<;>rw[h]<;>rfl
    rw[x2,x36];simp only[cond_false,cond_true,Ex.Bg,List.append_nil];rw[lx rfl];show 7+(Bp (Br t.name).kind).length+(Ex.AN ((t.attrs.map JW).map C6)).length=_;rw[hn,Lk]
   omega
  |false=>
   rw[he] at b1
   have c2:t.kind=2:=by
    rcases te with h|h
    ·exact h
    ·rw[h] at b1;cases b1
   simp only[cond_false,Fz];rw[qj c2]
   have:UC (.mk (Br t.name).kind t.fr [] (t.attrs.map JW) [])=6+t.name.length+(Ex.AN t.attrs).length:=by
    show MV (Br t.name).kind (t.attrs.map JW)+0+0=_;unfold MV
    rw[if_neg (by omega),if_neg (by omega),hn,Lk]
    rfl
   omega
 by_cases c5:t.kind=5
 ·obtain⟨_,_,e⟩:=TK c5 hs;rw[e,nB c5];have:UC (.mk 14 t.fr [] [] [])=8:=rfl;simp only[Fz];omega
 have j7:t.kind=4\/t.kind=6:=by omega
 obtain⟨d,e⟩:=Mi j7 hs;obtain⟨d1,_,_⟩:=VP d;rw[e]
 cases r with
 |nil=>simp only[Fz];omega
 |cons m q=>
  simp only[Fz,QQ];have RD:=GN t.name
  rcases j7 with c4|c6
  ·have ek:Et t=(Br t.name).kind:=by unfold Et;rw[c4];rfl
   have hn:=aj (k1 (.inr (.inr c4)))
   have DU:=VJ (n:=n) (by omega) (by omega)
   rw[if_neg (by omega),d1,ek,hn] at DU
   rw[qi c4];omega
  ·have ek:Et t=14:=by unfold Et;rw[c6];rfl
   have DU:=VJ (n:=n) (by omega) (by omega)
   rw[if_pos (by omega)] at DU
   rw[X7 (.inr (.inl c6)),k2 c6];show _<=_+3;omega
theorem lv :∀(l:List Ex.Tok) (b:Bool) (rows:List Nd) (pl:Int),fo b l->(b=true->∀n r,rows=n::r->n.text=[])->rows≠[]->(∀t∈l,Y6 t)->(A7 l ⟨rows,pl,0⟩).e=0->Fz (A7 l ⟨rows,pl,0⟩).rows<=Fz rows+(Ex.Bg l).length
 |[],b,rows,pl,_,_,_,_,_=>Nat.le_add_right _ _
 |t::l,b,rows,pl,hr,hb,BO,hk,h=>by
  obtain⟨n,r,rfl⟩:=List.exists_cons_of_ne_nil BO;obtain⟨h1,h2⟩:=Pb h;have h3:=stp (S:=⟨n::r,pl,0⟩) BO rfl h1
  have h4:=nA (hk t (List.mem_cons_self ..)) h1 (fun e=>hb (hr.1 e) n r rfl)
  rw[(GF t l _).1 h1];have e:=UL (S:=Aq t ⟨n::r,pl,0⟩) rfl h1;rw[e] at h2⊢
  have ih:=lv l (Ex.EA t) _ _ hr.2 (fun ho n' r' e'=> ?_) h3.ne (fun u hu=>hk u (List.mem_cons_of_mem _ hu)) h2
  ·rw[Ex.Bg,List.length_append];omega
  ·have k2:t.kind=2:=by
    unfold Ex.EA at ho;simp only[Bool.and_eq_true,beq_iff_eq] at ho;exact ho.1
   obtain⟨bR,e5⟩:=Ms (.inl k2) h1;obtain⟨b1,_⟩:=Kn bR
   have he:Bj (Br t.name)=false:=by rw[b1,k2];rfl
   rw[he] at e5;rw[e5] at e';simp only[cond_false] at e'
   injection e' with e' _
   rw[<-e'];rfl
theorem cz {s:List UInt8}{n:Nd}(h:Bi s=.ok n):(Ex.Bg (BT n.kids)).length<=s.length:=by
 have he:Fb s=0:=by unfold Fb;rw[h];rfl
 obtain⟨n',l,p,hn,hm,hl,hp⟩:=Su he;rw[h] at hm
 injection hm with hm
 subst hm;have hg:=Ex.Nh hl
 have h1:=lv l false DX.rows 0 (nD hg) (fun e=>by cases e) (by show [Nd.mk 1 0 [] [] []]≠[];simp) (eP hg) (by show(A7 l DX).e=0;rw[hp])
 have h2:Fz (A7 l DX).rows<=Fz DX.rows+(Ex.Bg l).length:=h1;rw[hp] at h2;have h2:Fz [n]<=Fz DX.rows+(Ex.Bg l).length:=h2;have h3:=Ex.jy l 0 none false (Ex.LX hl) (Ex.Qy hl) (Nat.zero_le _);have h4:Fz DX.rows=0:=rfl;have h5:Fz [n]=MV n.kind n.attrs+n.text.length+wL n.kids+0:=rfl;have h6:wL n.kids=(Ex.Bg (BT n.kids)).length:=rfl;omega
theorem WR :∀{a b:List Go.Ai.Aj},Dx a b=true->a.map C6=b.map C6
 |[],[],_=>rfl
 |[],_::_,h=>by cases h
 |_::_,[],h=>by cases h
 |x::a,y::b,h=>by
  simp only[Dx,Bool.and_eq_true] at h;obtain⟨h1,h2⟩:=h;unfold alike at h1;simp only[Bool.and_eq_true,beq_iff_eq] at h1;simp only[List.map_cons,WR h2,C6,h1.1,h1.2]
mutual
theorem cD :∀(a b:Nd),a.same b=true->Gr a=Gr b
 |.mk k p t al ks,.mk k' p' t' yi Un,h=>by
  have hh:=Dq.1 h;have g1:k=k':=hh.1;have g2:t=t':=hh.2.1;have e1:al.map C6=yi.map C6:=WR hh.2.2.1;have e2:BT ks=BT Un:=LD ks Un hh.2.2.2;simp only[Gr,e1,e2,Oy,g1,g2]
theorem LD :∀(a b:List Nd),En a b=true->BT a=BT b
 |[],[],_=>rfl
 |[],_::_,h=>by cases h
 |_::_,[],h=>by cases h
 |x::a,y::b,h=>by
  simp only[En,Bool.and_eq_true] at h;simp only[BT,cD x y h.1,LD a b h.2]
end
def OT (k:Int)(al:List Go.Ai.Aj):List UInt8:=
 bif k==1||k==2 then [] else bif k==14 then Ex.CX++[32] else bif k==3||k==6 then Ex.Al++(Bp k++(Ex.AN (al.map C6)++[47,62])) else Ex.Al++(Bp k++(Ex.AN (al.map C6)++[62]))
def db (k:Int):List UInt8:=
 bif k==1||k==2 then [] else bif k==14 then Ex.BM else bif k==3||k==6 then [] else Ex.Aa++(Bp k++[62])
mutual
def Eg :Nd->List UInt8
 |.mk k _ t al ks=>OT k al++(t++(EH ks++db k))
def EH :List Nd->List UInt8
 |[]=>[]
 |n::r=>Eg n++EH r
end
mutual
theorem rr :∀(c:Nd) (d:Int) (hid:Bool) (b:Int),c.Mo d hid b=0->(c.kind=2\/c.kind=14\/Ld c.kind)->Eg c=Ex.Bg (Gr c)
 |.mk k p t al ks,d,hid,b,hc,hk=>by
  have hk:k=2\/k=14\/Ld k:=hk;obtain⟨hf,hs⟩:=Gp.1 hc;obtain⟨f1,f2,f3,f4,f5,f6,f7,f8⟩:=H6.1 hf;rw[Eg,Gr];unfold OT db
  by_cases h2:k=2
  ·subst h2;obtain rfl:ks=[]:=List.eq_nil_of_length_eq_zero (f6 rfl);show []++(t++([]++[]))=t++[];simp
  have n1:k≠1:=by
   rcases hk with h|h|h
   ·omega
   ·omega
   ·unfold Ld at h;omega
  have x1:(k==1)=false:=by simpa using n1
  have x2:(k==2)=false:=by simpa using h2
  rw[x1,x2];simp only[Bool.or_self,cond_false]
  cases TN:k==3||k==6 with
  |true=>
   simp only[Bool.or_eq_true,beq_iff_eq] at TN
   obtain rfl:ks=[]:=List.eq_nil_of_length_eq_zero (f6 (by unfold F6;rcases TN with rfl|rfl<;>rfl))
   obtain rfl:=IM h2 (by omega) (by omega) f4
   have qg:(k==14)=false:=by rw[beq_eq_false_iff_ne];omega
   rw[qg];simp only[cond_true,cond_false,EH,List.append_nil,List.nil_append,Ex.Bg];rfl
  |false=>
   simp only[cond_false];simp only[Bool.or_eq_false_iff,beq_eq_false_iff_ne] at TN
   cases M6:k==4||k==5 with
   |true=>
    simp only[Bool.or_eq_true,beq_iff_eq] at M6
    obtain rfl:ks=[]:=List.eq_nil_of_length_eq_zero (f6 (by unfold F6;rcases M6 with rfl|rfl<;>rfl))
    have qg:(k==14)=false:=by rw[beq_eq_false_iff_ne];omega
    rw[qg];simp only[cond_true,cond_false,EH,List.nil_append,Ex.Bg,List.append_nil];rfl
   |false=>
    simp only[Bool.or_eq_false_iff,beq_eq_false_iff_ne] at M6;obtain rfl:=IM h2 M6.1 M6.2 f4;have e:=gD ks _ _ _ _ _ _ hs
    cases SN:k==14 with
    |true=>
     simp only[cond_true,cond_false,List.nil_append,Ex.Bg,Ex.IZ,List.append_nil,e];rfl
    |false=>
     simp only[cond_false,List.nil_append,Ex.Bg,Ex.IZ,List.append_nil,e];rfl
theorem gD :∀(ks:List Nd) (p N i d:Int) (hid:Bool) (b:Int),Io p N ks i d hid b=0->EH ks=Ex.Bg (BT ks)
 |[],_,_,_,_,_,_,_=>rfl
 |c::ks,p,N,i,d,hid,b,h=>by
  obtain⟨h1,h2,h3⟩:=Cy.1 h;rw[EH,BT,Ex.IZ,rr c d hid b h2 (J9 h1),gD ks p N (i+1) d hid c.kind h3]
end
theorem Qh {n:Nd}(h:n.G7=0):Eg n=Ex.Bg (BT n.kids):=by
 obtain⟨hk,_⟩:=Tw h;obtain⟨k,p,t,al,ks⟩:=n;have hk:k=1:=hk;subst hk;have hc:(Nd.mk 1 p t al ks).Mo 0 false 0=0:=h;obtain⟨hf,hs⟩:=Gp.1 hc;obtain⟨f1,f2,f3,f4,f5,f6,f7,f8⟩:=H6.1 hf
 obtain rfl:=IM (by decide) (by decide) (by decide) f4
 rw[Eg];show []++([]++(EH ks++[]))=Ex.Bg (BT ks);rw[gD ks _ _ _ _ _ _ hs];simp
def DV (n:Nd):List UInt8×Int:=bif n.G7==0 then(bif decide (65536<(Eg n).length) then([],3) else(Eg n,0)) else([],n.G7)
theorem Ov :∀{a b:List Go.Ai.Aj},Dx a b=true->Dx b a=true
 |[],[],_=>rfl
 |[],_::_,h=>by cases h
 |_::_,[],h=>by cases h
 |x::a,y::b,h=>by
  simp only[Dx,Bool.and_eq_true] at h⊢;obtain⟨h1,h2⟩:=h;refine⟨?_,Ov h2⟩;unfold alike at h1⊢;simp only[Bool.and_eq_true,beq_iff_eq] at h1⊢;exact⟨h1.1.symm,h1.2.symm⟩
mutual
theorem Sk :∀(a b:Nd),a.same b=true->b.same a=true
 |.mk k p t al ks,.mk k' p' t' yi Un,h=>by
  have hh:=Dq.1 h;exact Dq.2 ⟨hh.1.symm,hh.2.1.symm,Ov hh.2.2.1,QL ks Un hh.2.2.2⟩
theorem QL :∀(a b:List Nd),En a b=true->En b a=true
 |[],[],_=>rfl
 |[],_::_,h=>by cases h
 |_::_,[],h=>by cases h
 |x::a,y::b,h=>by
  simp only[En,Bool.and_eq_true] at h⊢;exact⟨Sk x y h.1,QL a b h.2⟩
end
theorem aE {n:Nd}(h:n.G7=0)(hl:(Ex.Bg (BT n.kids)).length<=65536):DV n=(Ex.Bg (BT n.kids),0):=by
 unfold DV
 rw[h,Qh h,decide_eq_false (by omega)]
 rfl
theorem gq {n:Nd}{s:List UInt8}(h:DV n=(s,0)):∃m,Bi s=.ok m/\n.same m=true/\DV m=(s,0):=by
 have hp:n.G7=0:=by
  unfold DV at h
  cases hn:n.G7==0 with
  |true=>exact eq_of_beq hn
  |false=>
   rw[hn] at h;simp only[cond_false] at h;exact congrArg Prod.snd h
 have hl:(Eg n).length<=65536:=by
  unfold DV at h;rw[hp] at h
  refine Nat.le_of_not_lt fun BC=> ?_
  rw[decide_eq_true BC] at h;have:(3:Int)=0:=congrArg Prod.snd h;cases this
 rw[Qh hp] at hl;rw[aE hp hl] at h;have hs:Ex.Bg (BT n.kids)=s:=congrArg Prod.fst h;obtain⟨m,h1,h2⟩:=cd hp hl;rw[hs] at h1;have e:BT m.kids=BT n.kids:=LD _ _ (Dq.1 h2).2.2.2;refine⟨m,h1,Sk _ _ h2,?_⟩
 rw[aE (gR h1) (by rw[e];exact hl),e,hs]
def rb (s:List UInt8):List (List AV):=s.map fun(b:UInt8)=>[AV.int IntKind.u8 ((UInt8.toNat b:Nat):Int)]
theorem UF (s:List UInt8):(rb s).length=s.length:=by simp[rb]
theorem nh (a b:List UInt8):rb (a++b)=rb a++rb b:=by simp[rb]
theorem UJ :∀s:List UInt8,AP.BJ (rb s)=true
 |[]=>rfl
 |c::r=>by
  have:rb (c::r)=[AV.int .u8 ((c.toNat:Nat):Int)]::rb r:=rfl;rw[this];simp only[AP.BJ,AP.Ad,AP,UJ r,Bool.and_true]
theorem GA (n:Nat)(h:Hp)(l:List UInt8):AE n h (rb l)=rb l:=As _ _ _ (UJ l)
theorem NB {h:Hp}{n sz e id:Nat}(hh:h[id]?=some (.grow n sz e)):FB h n sz e (some id)=true:=by
 simp[FB,hh,Nat.beq_refl]
theorem Ti :∀s:List UInt8,GO (rb s)=some s
 |[]=>rfl
 |c::r=>by
  have ih:=Ti r;have hc:=c.toNat_lt;have e:rb (c::r)=[AV.int .u8 ((c.toNat:Nat):Int)]::rb r:=rfl
  have b:Ou [AV.int .u8 ((c.toNat:Nat):Int)]=some c:=by
   simp only[Ou]
   rw[decide_eq_true (by omega),decide_eq_true (by omega)]
   simp
  rw[e];simp only[GO,b,ih]
def Ip :Nat:=1000000
def Av :AV:=.fn (.func 27) [] [.ptr 2 0,.ptr 3 0]
def hB (c0:List AV)(acc:List UInt8)(p:AV):Hp:=[.mem 26 c0,.grow acc.length 1 5,.mem 69 [p,.sl 1 (rb acc) (some 1)],.mem 70 [Av]]
def O9 (p:AV):Prop:=p=.Ge\/p=.ptr 2 0
def jV :Ce:=fun vs h K=>match h with
 |[b0,b1,b2,b3,b4]=>∃(c0 c4:List AV) (acc:List UInt8) (p:AV),AP.Ad c0=true/\AP.Ad c4=true/\O9 p/\vs=[.ptr 2 0]/\[b0,b1,b2,b3]=hB c0 acc p/\b4=.mem 26 c4/\K (.tup []) (hB c0 acc (.ptr 2 0)++[b4])
 |_=>False
def Tv :Ce:=fun vs h K=>match h with
 |[b0,b1,b2,b3,b4]=>∃(c0 c4:List AV) (acc x:List UInt8) (p:AV),AP.Ad c0=true/\AP.Ad c4=true/\O9 p/\acc.length+x.length<=Ip/\vs=[.ptr 2 0,.str x]/\[b0,b1,b2,b3]=hB c0 acc p/\b4=.mem 26 c4/\
  K (.tup [.int .i64 ((x.length:Nat):Int),.Ja]) (hB c0 (acc++x) (.ptr 2 0)++[b4])
 |_=>False
def sA :Ce:=fun vs h K=>∃(c0:List AV) (acc:List UInt8),AP.Ad c0=true/\vs=[.ptr 2 0]/\h=hB c0 acc (.ptr 2 0)/\K (.int .i64 ((acc.length:Nat):Int)) (hB c0 acc (.ptr 2 0))
def re :Ce:=fun vs h K=>∃(c0:List AV) (acc:List UInt8),vs=[.ptr 2 0]/\h=hB c0 acc (.ptr 2 0)/\K (.str acc) [.mem 26 c0,.dead,.mem 69 [.ptr 2 0,.sl 1 (rb acc) (some 1)],.mem 70 [Av]]
def Gy :Ce:=fun vs h K=>∃l:List Go.Ai.Aj,(Ex.AN (l.map C6)).length<=Ip/\(∀a∈l,a.value.length<=BG)/\vs=[.sl 3 (l.map Go.Ai.Ao) none]/\K (.str (Ex.AN (l.map C6))) h
mutual
def qJ :Nd->Prop
 |.mk k _ _ _ ks=>(1<=k/\k<=14)/\dH ks
def dH :List Nd->Prop
 |[]=>True
 |n::r=>qJ n/\dH r
end
def V5 (N:Nat):Ce:=fun vs h K=>match h with
 |b0::b1::b2::b3::r=>∃(nd:Nd) (c0:List AV) (acc:List UInt8) (p:AV),AP.Ad c0=true/\nd.size<N/\qJ nd/\nd.JX/\O9 p/\acc.length+(Eg nd).length<=Ip/\MG 4 (hB c0 acc p++r)=true/\
  vs=[.agg (Dt nd),.ptr 2 0,.ptr 3 0]/\[b0,b1,b2,b3]=hB c0 acc p/\K (.tup []) (hB c0 (acc++Eg nd) (.ptr 2 0)++r)
 |_=>False
def Hr (N:Nat):Ce:=fun vs h K=>∃n:Nd,n.size<N/\n.JX/\N<=1000000/\(n.G7=0->(Eg n).length<=Ip)/\vs=[.agg (Dt n)]/\K (.tup [.str (DV n).1,.int .i64 (DV n).2]) h
theorem Xb :∀(al:List Aj) (l:Int),l<=600->0<DH al l->al.length+DH al l<=l/\∀a∈al,a.value.length<=BG
 |[],l,hl,h=>⟨by simp[DH],by simp⟩
 |a::r,l,hl,h=>by
  rw[DH] at h⊢
  by_cases h0:0<l
  ·rw[if_pos h0] at h⊢
   have hg:KJ a l<=l-1:=by unfold KJ;omega
   have ih:=Xb r (KJ a l) (by omega) h
   have hle:DH r (KJ a l)<=KJ a l:=Iq
   refine⟨by simp only[List.length_cons];omega,fun x hx=> ?_⟩
   rcases List.mem_cons.1 hx with rfl|hx
   ·unfold KJ at hle h;unfold BG;omega
   ·exact ih.2 x hx
  ·rw[if_neg h0] at h;omega
mutual
theorem aD :∀(n:Nd) (l:Int),l<=600->0<n.left l->n.JX
 |.mk k p t al ks,l,hl,h=>by
  rw[Nd.left] at h;have h1:=GI ks (l:=DH al (l-1-(t.length/20:Nat)));have h2:DH al (l-1-(t.length/20:Nat))<=l-1-(t.length/20:Nat):=Iq
  have h3:=Xb al (l-1-(t.length/20:Nat)) (by omega) (by omega)
  have h4:=Ve ks (DH al (l-1-(t.length/20:Nat))) (by omega) (by omega) h
  rw[Nd.JX]
  refine⟨by unfold BG;omega,by unfold BG;omega,h3.2,?_,h4.2⟩
  have:=h4.1;unfold BG;omega
theorem Ve :∀(ks:List Nd) (l:Int),l<=600->0<l->0<Ea ks l->(ks.length:Int)+Ea ks l<=l/\Lu ks
 |[],l,hl,h0,h=>⟨by simp[Ea],trivial⟩
 |n::r,l,hl,h0,h=>by
  rw[Ea,if_pos h0] at h⊢
  have hn:0<n.left l:=by
   have:=(GI r (l:=n.left l)).2;omega
  have hs:=(n.KY (l:=l)).1 hn;have h5:=n.size_eq
  have ih:=Ve r (n.left l) (by omega) hn h
  exact⟨by simp only[List.length_cons];omega,aD n l hl hn,ih.2⟩
end
theorem gQ (k:Int):(Bp k).length<=9:=by
 unfold Bp
 cases k==3<;>cases k==4<;>cases k==5<;>cases k==6<;>cases k==7<;>cases k==8<;>cases k==9<;>cases k==10<;>cases k==11<;>cases k==12<;>decide
theorem gE (k:Int)(al:List Go.Ai.Aj):(OT k al).length+(db k).length<=31+(Ex.AN (al.map C6)).length:=by
 have hn:=gQ k;have h1:Ex.Al.length=5:=rfl;have h2:Ex.Aa.length=6:=rfl;have h3:Ex.CX.length=7:=rfl;have h4:Ex.BM.length=3:=rfl;unfold OT db
 cases k==1||k==2<;>cases k==14<;>cases k==3||k==6<;>simp only[cond_true,cond_false,List.length_append,List.length_cons,List.length_nil]<;>omega
theorem Tm :∀(al:List Go.Ai.Aj) (l:Int),0<l->0<DH al l->((Ex.AN (al.map C6)).length:Int)+50*DH al l<=50*l
 |[],l,_,h=>by simp[DH,Ex.AN]
 |a::r,l,h0,h=>by
  rw[DH,if_pos h0] at h⊢;have hle:DH r (KJ a l)<=KJ a l:=Iq
  have ih:=Tm r (KJ a l) (by omega) h
  have e:(Ex.AN ((a::r).map C6)).length=4+a.name.length+a.value.length+(Ex.AN (r.map C6)).length:=by
   simp only[List.map_cons,Ex.AN,List.length_cons,List.length_append,C6];omega
  rw[e];unfold KJ at ih hle h⊢;omega
mutual
theorem WH :∀(n:Nd) (l:Int),0<n.left l->((Eg n).length:Int)+50*n.left l<=50*l
 |.mk k p t al ks,l,h=>by
  rw[Nd.left] at h⊢;have h1:=(GI ks (l:=DH al (l-1-(t.length/20:Nat)))).2;have h2:DH al (l-1-(t.length/20:Nat))<=l-1-(t.length/20:Nat):=Iq
  have h3:=Tm al (l-1-(t.length/20:Nat)) (by omega) (by omega)
  have h4:=Sv ks (DH al (l-1-(t.length/20:Nat))) (by omega) h
  have h5:=gE k al;rw[Eg];simp only[List.length_append];omega
theorem Sv :∀(ks:List Nd) (l:Int),0<l->0<Ea ks l->((EH ks).length:Int)+50*Ea ks l<=50*l
 |[],l,h0,h=>by simp[Ea,EH]
 |n::r,l,h0,h=>by
  rw[Ea,if_pos h0] at h⊢
  have hn:0<n.left l:=by
   have:=(GI r (l:=n.left l)).2;omega
  have i1:=WH n l hn;have i2:=Sv r (n.left l) hn h;rw[EH];simp only[List.length_append];omega
end
theorem ed {n:Nd}(h:(DV n).2≠0):(DV n).1=[]:=by
 unfold DV at h⊢
 cases hp:n.G7==0 with
 |false=>rfl
 |true=>
  cases hd:decide (65536<(Eg n).length) with
  |true=>rfl
  |false=>rw[hp,hd] at h;exact absurd rfl h
theorem ec (n:Nd):(DV n).1.length<=(Eg n).length:=by
 unfold DV
 cases n.G7==0 with
 |false=>simp
 |true=>cases decide (65536<(Eg n).length)<;>simp
end Go.Ai.Sp
end
