/-
  What pieces, trees and the parser are, in plain terms, and the laws of them that the row wants. No statement about the program is made here.
-/
import Derived.Test.YtopjpnhgnopbiaaGreatDoorAJA
import Derived.Test.YtopjpnhgnopbiaaGreatDoorAAiSymP
import Derived.Test.YtopjpnhgnopbiaaGreatDoorAAiPrims
import Derived.Test.YtopjpnhgnopbiaaGreatDoorAAiMono
set_option linter.unusedVariables false
set_option linter.unusedSimpArgs false
set_option linter.unnecessarySimpa false
section
namespace Go.Ai.Sp
open Go.Ai Go.RowKit Go.Ai.Ex
abbrev Row :=Nat×List AV
abbrev Bs :Nat:=1000000000000
def hP (g:Nat)(rows:List Row)(pl e:Int):Hp:=[.grow 0 3 80,.grow 0 5 26,.mem 26 [.int .i64 0,.int .i64 0,.str [],.sl 3 [] (some 0),.sl 5 [] (some 1)],.grow 0 3 80,.dead,.Bi g 26 5 4 26 5 rows,.grow 0 5 26,
 .mem 46 [.CM 5 g 0 5 rows.length,.int .i64 pl,.int .i64 e]]
def BN (v0 v1 v2 v3:AV)(es:List (List AV)):Row:=(es.length,[v0,v1,v2,v3,.sl 5 es none])
def _root_.Am.okW (rows:List Row)(r:Hp):Prop:=∀(n:Nat) (g:Hp),8+r.length<=n->rows.map (fun x=>(x.1,AQ n g x.2))=rows/\r.map (AN n g)=r
def K8 :Ce:=fun vs h K=>∃(g:Nat) (row:Row) (rows:List Row) (pl e:Int) (r:Hp),Am.okW (row::rows) r/\(row::rows).length<=Bs/\vs=[.ptr 7 0]/\h=hP g (row::rows) pl e++r/\K (.Bf 5 g 0 0) h
def fE (p x pl e:Int):Int×Int:=bif e==0 then(p,x) else(pl,e)
def Cq :Ce:=fun vs h K=>∃(p x:Int) (g:Nat) (rows:List Row) (pl e:Int) (r:Hp),Am.okW rows r/\vs=[.ptr 7 0,.int .i64 p,.int .i64 x]/\h=hP g rows pl e++r/\K (.tup []) (hP g rows (fE p x pl e).1 (fE p x pl e).2++r)
def FE (es:List (List AV)):Int:=match es.getLast? with
 |some (.int _ k::_)=>k
 |_=>0
def Nh (es:List (List AV)):Prop:=es.length<=Bs/\∀x∈es,∃k v1 v2 v3 v4,x=[AV.int .i64 k,v1,v2,v3,v4]
def Wo :Ce:=fun vs h K=>∃(g:Nat) (v0 v1 v2 v3:AV) (es:List (List AV)) (rows:List Row) (pl e:Int) (r:Hp),Am.okW (BN v0 v1 v2 v3 es::rows) r/\(BN v0 v1 v2 v3 es::rows).length<=Bs/\Nh es/\
 vs=[.ptr 7 0]/\h=hP g (BN v0 v1 v2 v3 es::rows) pl e++r/\K (.int .i64 (FE es)) h
def CW (k l x:Int):Bool:=bif k==7 then(x==8&&l==0)||(x==9&&l==8) else bif k==10 then(x==11&&l !=12)||(x==12&&l==11) else !(x==8||x==9||x==11||x==12)
def gG :Ce:=fun vs h K=>∃(g:Nat) (k x:Int) (v1 v2 v3:AV) (es:List (List AV)) (rows:List Row) (pl e:Int) (r:Hp),Am.okW (BN (.int .i64 k) v1 v2 v3 es::rows) r/\(BN (.int .i64 k) v1 v2 v3 es::rows).length<=Bs/\Nh es/\
 vs=[.ptr 7 0,.int .i64 x]/\h=hP g (BN (.int .i64 k) v1 v2 v3 es::rows) pl e++r/\K (.bool (CW k (FE es) x)) h
def oB :Ce:=fun vs h K=>∃(l:List Int) (x:Int),vs=[.sl 1 (l.map fun n=>[.int .i64 n]) none,.int .i64 x]/\l.length<=Bs/\K (.bool (l.any (·==x))) h
def ly :Ce:=fun vs h K=>∃(l:List Int) (x:Int),vs=[.sl 1 (l.map fun n=>[.int .i64 n]) none,.int .i64 x]/\l.length<=Bs/\∀z:Int,decide (z>=0)=(l.any (·==x))->K (.int .i64 z) h
def oC :Ce:=fun vs h K=>∃(l:List (List UInt8)) (x:List UInt8),vs=[.sl 1 (l.map fun n=>[.str n]) none,.str x]/\l.length<=Bs/\K (.bool (l.any (·==x))) h
def gr :Ce:=fun vs h K=>∃(l:List (List UInt8)) (x:List UInt8),vs=[.sl 1 (l.map fun n=>[.str n]) none,.str x]/\l.length<=Bs/\∀z:Int,decide (z>=0)=(l.any (·==x))->K (.int .i64 z) h
structure El where
 kind:Int
 names:List (List UInt8)
 Ci:Nat
def Bq (s:List UInt8):El:=
 bif s==[105,110,99,108,117,100,101] then⟨3,[[115,114,99],[97,108,116],[111,110,101,114,114,111,114]],1⟩ else
 bif s==[105,110,108,105,110,101] then⟨4,[[110,97,109,101],[102,101,116,99,104,97,98,108,101]],1⟩ else
 bif s==[114,101,109,111,118,101] then⟨5,[],0⟩ else
 bif s==[99,111,109,109,101,110,116] then⟨6,[[116,101,120,116]],1⟩ else
 bif s==[116,114,121] then⟨7,[],0⟩ else
 bif s==[97,116,116,101,109,112,116] then⟨8,[],0⟩ else
 bif s==[101,120,99,101,112,116] then⟨9,[],0⟩ else
 bif s==[99,104,111,111,115,101] then⟨10,[],0⟩ else
 bif s==[119,104,101,110] then⟨11,[[116,101,115,116]],1⟩ else
 bif s==[111,116,104,101,114,119,105,115,101] then⟨12,[],0⟩ else⟨13,[],0⟩
def Jd (x:El):List AV:=[.int .i64 x.kind,.sl 1 (x.names.map fun n=>[.str n]) none,.int .i64 (x.Ci:Nat)]
def vo :Ce:=fun vs h K=>∃s:List UInt8,vs=[.str s]/\K (.agg (Jd (Bq s))) h
def Mx (x y:List UInt8):Bool:=
 bif x==[111,110,101,114,114,111,114] then y==[99,111,110,116,105,110,117,101] else
 bif x==[102,101,116,99,104,97,98,108,101] then y==[121,101,115]||y==[110,111] else
 bif x==[116,101,120,116] then true else !(y==[])
def mj :Ce:=fun vs h K=>∃x y:List UInt8,vs=[.str x,.str y]/\K (.bool (Mx x y)) h
def CZ (k a:Int)(t:List UInt8)(aa:List (List AV))(oa:Option Nat)(ks:List (List AV))(ow:Option Nat):List AV:=[.int .i64 k,.int .i64 a,.str t,.sl 3 aa oa,.sl 5 ks ow]
def VT (m:Nat):Ce:=fun vs h K=>∃(g:Nat) (v0 v1 v2 v3:AV) (es:List (List AV)) (rows:List Row) (pl e:Int) (r:Hp) (nk na:Int) (nt:List UInt8) (aa:List (List AV)) (oa:Option Nat) (ks:List (List AV)) (ow:Option Nat),
 Am.okW (BN v0 v1 v2 v3 es::rows) r/\(BN v0 v1 v2 v3 es::rows).length<=Bs/\es.length<Bs/\(∀n g,8+m<=n->AQ n g (CZ nk na nt aa oa ks ow)=CZ nk na nt aa oa ks ow)/\r.length=m/\
 vs=[.ptr 7 0,.agg (CZ nk na nt aa oa ks ow)]/\h=hP g (BN v0 v1 v2 v3 es::rows) pl e++r/\K (.tup []) (hP g (BN v0 v1 v2 v3 (es++[CZ nk na nt aa oa ks ow])::rows) pl e++r)
def A8 (x:El)(fr:Int)(l:List Ak)(s:Int×Int):Int×Int:=
 l.foldl (fun s a=>bif !(x.names.any (·==a.name))|| !Mx a.name a.value then fE a.at' 12 s.1 s.2 else s) ((x.names.take x.Ci).foldl (fun s nm=>bif !(l.any fun a=>a.name==nm) then fE fr 12 s.1 s.2 else s) s)
def LB (tk fr to:Int)(nm tx:List UInt8)(aa:List (List AV)):List AV:=[.int .i64 tk,.str nm,.sl 3 aa none,.str tx,.int .i64 fr,.int .i64 to]
def Gi (t:List AV)(x:El):Hp:=[.grow 0 3 80,.mem 50 t,.mem 50 t,.grow 0 1 9,.mem 114 (Jd x)]
def _root_.Am.kQ (rows:List Row):Prop:=∀r∈rows,∀n,4<=n->CB n r.2=true
def pZ :Ce:=fun vs h K=>∃(g:Nat) (rows:List Row) (pl e:Int) (x:El) (tk fr to:Int) (nm tx:List UInt8) (l:List Ak),Am.kQ rows/\x.Ci<=x.names.length/\x.names.length<=Bs/\l.length<=Bs/\
 vs=[.ptr 7 0,.agg (Jd x),.agg (LB tk fr to nm tx (encAs l))]/\h=hP g rows pl e++Gi (LB tk fr to nm tx (encAs l)) x/\K (.tup []) (hP g rows (A8 x fr l (pl,e)).1 (A8 x fr l (pl,e)).2++Gi (LB tk fr to nm tx (encAs l)) x)
def bM :Ce:=fun vs h K=>∃(g:Nat) (rows:List Row) (pl e:Int) (b0 b1 b2 b3 b4 b5 b6:Blk) (wd an av:List UInt8) (ap:Int),Am.okW rows [b0,b1,b2,b3,b4,b5,b6,.mem 9 [.str wd]]/\
 vs=[.agg [.str an,.str av,.int .i64 ap],.ptr 15 0]/\h=hP g rows pl e++[b0,b1,b2,b3,b4,b5,b6,.mem 9 [.str wd]]/\K (.bool (an==wd)) h
def mO :Ce:=fun vs h K=>∃(g:Nat) (rows:List Row) (pl e:Int) (b0 b1 b2 b3 b4 b5 b6:Blk) (wd:List UInt8) (l:List Ak),Am.okW rows [b0,b1,b2,b3,b4,b5,b6,.mem 9 [.str wd]]/\l.length<=Bs/\
 vs=[.sl 3 (encAs l) none,.fn (.func 100) [] [.ptr 15 0]]/\h=hP g rows pl e++[b0,b1,b2,b3,b4,b5,b6,.mem 9 [.str wd]]/\∀z:Int,decide (z>=0)=(l.any fun a=>a.name==wd)->K (.int .i64 z) h
def ia :Ce:=fun vs h K=>∃(g:Nat) (rows:List Row) (pl e:Int) (b0 b1 b2 b3 b4 b5 b6:Blk) (wd:List UInt8) (l:List Ak),Am.okW rows [b0,b1,b2,b3,b4,b5,b6,.mem 9 [.str wd]]/\l.length<=Bs/\
 vs=[.sl 3 (encAs l) none,.fn (.func 100) [] [.ptr 15 0]]/\h=hP g rows pl e++[b0,b1,b2,b3,b4,b5,b6,.mem 9 [.str wd]]/\K (.bool (l.any fun a=>a.name==wd)) h
def Dm (s:List UInt8):List UInt8:=s.dropWhile blB
def eP :Ce:=fun vs h K=>∃s:List UInt8,s.length<=Bs/\vs=[.str s,.str [32,9,10,13]]/\K (.str (Dm s)) h
def Oe (g:Nat)(rows:List Row)(r:Hp):Ce:=fun vs h K=>∃(p x:Int) (pl e:Int),vs=[.ptr 7 0,.int .i64 p,.int .i64 x]/\h=hP g rows pl e++r/\K (.tup []) (hP g rows (fE p x pl e).1 (fE p x pl e).2++r)
def mP (g:Nat)(rows:List Row)(b0 b1 b2 b3 b4 b5 b6:Blk):Ce:=fun vs h K=>∃(p x:Int) (pl e:Int) (w:List UInt8),vs=[.ptr 7 0,.int .i64 p,.int .i64 x]/\h=hP g rows pl e++[b0,b1,b2,b3,b4,b5,b6,.mem 9 [.str w]]/\
 K (.tup []) (hP g rows (fE p x pl e).1 (fE p x pl e).2++[b0,b1,b2,b3,b4,b5,b6,.mem 9 [.str w]])
def mQ (g:Nat)(rows:List Row)(b0 b1 b2 b3 b4 b5 b6:Blk):Ce:=fun vs h K=>∃(p x:Int) (pl e:Int) (w v:List UInt8) (q:Int),vs=[.ptr 7 0,.int .i64 p,.int .i64 x]/\h=hP g rows pl e++[b0,b1,b2,b3,b4,b5,b6,.mem 80 [.str w,.str v,.int .i64 q]]/\
 K (.tup []) (hP g rows (fE p x pl e).1 (fE p x pl e).2++[b0,b1,b2,b3,b4,b5,b6,.mem 80 [.str w,.str v,.int .i64 q]])
def yc (s:List UInt8):Ce:=fun vs h K=>vs=[.str s]/\K (.agg (Jd (Bq s))) h
def tT (b0 b1:Blk)(t:List AV)(x:El):Hp:=[b0,b1,.mem 50 t,.grow 0 1 9,.mem 114 (Jd x)]
def jY (g:Nat)(rows:List Row)(x:El)(tk fr to:Int)(nm tx:List UInt8)(l:List Ak):Ce:=fun vs h K=>∃(pl e:Int),vs=[.ptr 7 0,.agg (Jd x),.agg (LB tk fr to nm tx (encAs l))]/\
 h=hP g rows pl e++Gi (LB tk fr to nm tx (encAs l)) x/\K (.tup []) (hP g rows (A8 x fr l (pl,e)).1 (A8 x fr l (pl,e)).2++Gi (LB tk fr to nm tx (encAs l)) x)
end Go.Ai.Sp
end
section
namespace Go.Ai
open Go.RowKit
structure Ak where
 name:List UInt8
 value:List UInt8
 pl:Int
inductive Nd where
 |mk (kind pl:Int) (text:List UInt8) (attrs:List Ak) (kids:List Nd)
 deriving Inhabited
def Nd.kind :Nd->Int|.mk k _ _ _ _=>k
def Nd.pl :Nd->Int|.mk _ p _ _ _=>p
def Nd.text :Nd->List UInt8|.mk _ _ t _ _=>t
def Nd.attrs :Nd->List Ak|.mk _ _ _ a _=>a
def Nd.kids :Nd->List Nd|.mk _ _ _ _ l=>l
def Ao (a:Ak):List AV:=[.str a.name,.str a.value,.int .i64 a.pl]
mutual
def ES :Nd->List AV
 |.mk k p t al ks=>[.int .i64 k,.int .i64 p,.str t,.sl 3 (al.map Ao) none,.sl 5 (Ag ks) none]
def Ag :List Nd->List (List AV)
 |[]=>[]
 |n::r=>ES n::Ag r
end
theorem FG :∀l:List Nd,Ag l=l.map ES
 |[]=>rfl
 |n::r=>by rw[Ag,FG r];rfl
mutual
def Nd.size :Nd->Nat
 |.mk _ _ _ _ ks=>1+CC ks
def CC :List Nd->Nat
 |[]=>0
 |n::r=>n.size+CC r
end
mutual
def Nd.depth :Nd->Nat
 |.mk _ _ _ _ ks=>Fg ks
def Fg :List Nd->Nat
 |[]=>0
 |n::r=>max (n.depth+if n.kind=2 then 0 else 1) (Fg r)
end
mutual
theorem HA :∀n:Nd,AO.Ad (ES n)=true
 |.mk k p t al ks=>by
  simp only[ES,AO.Ad,AO,Option.isNone_none,Bool.true_and,Bool.and_true,Bool.and_eq_true];refine⟨?_,Ey ks⟩
  induction al with
  |nil=>rfl
  |cons a r ih=>simp only[List.map_cons,AO.BJ,Ao,AO.Ad,AO,ih,Bool.true_and]
theorem Ey :∀l:List Nd,AO.BJ (Ag l)=true
 |[]=>rfl
 |n::r=>by simp only[Ag,AO.BJ,HA n,Ey r,Bool.true_and]
end
theorem Df (l:List Ak):AO.BJ (l.map Ao)=true:=by
 induction l with
 |nil=>rfl
 |cons a r ih=>simp only[List.map_cons,AO.BJ,Ao,AO.Ad,AO,ih,Bool.true_and]
mutual
theorem Wd (n:Nat):∀v,AO v=true->Ed n v=true
 |.top,_=>rfl
 |.bool _,_=>rfl
 |.int _ _,_=>rfl
 |.str _,_=>rfl
 |.Gb,_=>rfl
 |.ptr _ _,hp=>by simp[AO] at hp
 |.ro cs,hp=>by rw[Ed];exact EO n cs (by simpa[AO] using hp)
 |.sl sz es own,hp=>by
  simp only[AO,Bool.and_eq_true] at hp
  cases own with
  |none=>simp only[Ed,DD n es hp.2,Bool.and_true]
  |some _=>simp at hp
 |.KR _ _ _ _,hp=>by simp[AO] at hp
 |.PD _ vs,hp=>by first|(simp[AO] at hp;done)|(rw[Ed];exact DD n vs (by simpa[AO] using hp))
 |.fn f a c,hp=>by
  simp only[AO,Bool.and_eq_true] at hp;rw[Ed,EO n a hp.1,EO n c hp.2];rfl
 |.HO,_=>rfl
 |.C9 cs,hp=>by first|(simp[AO] at hp;done)|(rw[Ed];exact EO n cs (by simpa[AO] using hp))
 |.iface t v,hp=>by rw[Ed];exact Wd n v (by simpa[AO] using hp)
 |.JX,_=>rfl
 |.agg cs,hp=>by rw[Ed];exact EO n cs (by simpa[AO] using hp)
 |.tup cs,hp=>by rw[Ed];exact EO n cs (by simpa[AO] using hp)
theorem EO (n:Nat):∀xs,AO.Ad xs=true->CB n xs=true
 |[],_=>rfl
 |x::xs,hp=>by
  simp only[AO.Ad,Bool.and_eq_true] at hp;rw[CB,Wd n x hp.1,EO n xs hp.2];rfl
theorem DD (n:Nat):∀xs,AO.BJ xs=true->AJ n xs=true
 |[],_=>rfl
 |x::xs,hp=>by
  simp only[AO.BJ,Bool.and_eq_true] at hp;rw[AJ,EO n x hp.1,DD n xs hp.2];rfl
end
theorem Dq {α:Type}(f:α->List AV)(l:List α){i:Nat}(h:i<l.length):CH (l.map f) (i:Int)=f l[i]:=by
 unfold CH;simp[h]
theorem Lw :∀a b:List Nd,CC (a++b)=CC a+CC b
 |[],b=>by simp[CC]
 |n::r,b=>by simp only[List.cons_append,CC,Lw r b];omega
theorem cH {l:List Nd}{n:Nd}(h:n∈l):n.size<=CC l:=by
 induction l with
 |nil=>cases h
 |cons m r ih=>
  simp only[CC]
  rcases List.mem_cons.1 h with rfl|h
  ·omega
  ·have:=ih h;omega
theorem Cp {α:Type}(f:α->List AV)(pre:List α)(x:α)(r:List α):CH ((pre++x::r).map f) (pre.length:Int)=f x:=by
 unfold CH;simp
theorem HW (pre:List Nd)(x:Nd)(r:List Nd):CH (Ag (pre++x::r)) (pre.length:Int)=ES x:=by
 rw[FG];exact Cp _ _ _ _
theorem BK (l:List Nd):(Ag l).length=l.length:=by rw[FG];simp
theorem GP (l:List Ak):AE 0 [] (l.map Ao)=l.map Ao:=As _ _ _ (Df l)
theorem GO (l:List Nd):AE 0 [] (Ag l)=Ag l:=As _ _ _ (Ey l)
theorem FC (n:Nat)(l:List Ak):AJ n (l.map Ao)=true:=DD n _ (Df l)
theorem HB (n:Nat)(l:List Nd):AJ n (Ag l)=true:=DD n _ (Ey l)
def FY :Nat:=9223372036854775807
def Ak.fit (a:Ak):Prop:=a.name.length<=FY/\a.value.length<=FY
mutual
def Nd.fit :Nd->Prop
 |.mk _ _ t al ks=>t.length<=FY/\al.length<=FY/\(∀a∈al,a.fit)/\ks.length<=FY/\fits ks
def fits :List Nd->Prop
 |[]=>True
 |n::r=>n.fit/\fits r
end
theorem Ob :∀{a b:List Nd},fits (a++b)↔fits a/\fits b
 |[],b=>by simp[fits]
 |n::r,b=>by simp only[List.cons_append,fits,Ob (a:=r),and_assoc]
def Zv (a:Ak)(l:Int):Int:=l-1-(a.name.length/20:Nat)-(a.value.length/20:Nat)
def JS :List Ak->Int->Int
 |[],l=>l
 |a::r,l=>if 0<l then JS r (Zv a l) else l
mutual
def Nd.left :Nd->Int->Int
 |.mk _ _ t al ks,l=>Hu ks (JS al (l-1-(t.length/20:Nat)))
def Hu :List Nd->Int->Int
 |[],l=>l
 |n::r,l=>if 0<l then Hu r (n.left l) else l
end
def PE :Int:= -2000000000000000000
theorem Xc {a:Ak}(h:a.fit){l:Int}(hl:0<l):PE<=Zv a l:=by
 obtain⟨h1,h2⟩:=h;unfold Zv PE;unfold FY at h1 h2;omega
theorem bg {a:Ak}{l:Int}:Zv a l<=l:=by unfold Zv;omega
theorem Tl :∀{al:List Ak} {l:Int},(∀a∈al,a.fit)->PE<=l->PE<=JS al l
 |[],l,_,hl=>hl
 |a::r,l,h,hl=>by
  rw[JS];split
  ·exact Tl (fun b hb=>h b (by simp[hb])) (Xc (h a (by simp)) (by assumption))
  ·exact hl
theorem XZ :∀{al:List Ak} {l:Int},JS al l<=l
 |[],l=>Int.le_refl _
 |a::r,l=>by
  rw[JS];split
  ·exact Int.le_trans XZ bg
  ·exact Int.le_refl _
mutual
theorem Nd.Wn :∀(n:Nd) {l:Int},n.fit->0<l->PE<=n.left l
 |.mk _ _ t al ks,l,h,hl=>by
  obtain⟨h1,h2,h3,h4,h5⟩:=h;rw[Nd.left];refine S6 ks h5 (Tl h3 ?_);unfold PE;unfold FY at h1;omega
theorem S6 :∀(ks:List Nd) {l:Int},fits ks->PE<=l->PE<=Hu ks l
 |[],l,_,hl=>hl
 |n::r,l,h,hl=>by
  rw[Hu];split
  ·exact S6 r h.2 (n.Wn h.1 (by assumption))
  ·exact hl
end
mutual
theorem Nd.S7 :∀(n:Nd) {l:Int},(0<n.left l->n.left l<=l-n.size)/\n.left l<=l
 |.mk _ _ t al ks,l=>by
  rw[Nd.left,Nd.size];have h1:=Qx ks (l:=JS al (l-1-(t.length/20:Nat)));have h2:JS al (l-1-(t.length/20:Nat))<=l-1-(t.length/20:Nat):=XZ
  refine⟨fun h=> ?_,?_⟩
  ·have:=h1.1 h;omega
  ·have:=h1.2;omega
theorem Qx :∀(ks:List Nd) {l:Int},(0<Hu ks l->Hu ks l<=l-CC ks)/\Hu ks l<=l
 |[],l=>by simp[Hu,CC]
 |n::r,l=>by
  rw[Hu,CC];split
  ·have h1:=n.S7 (l:=l);have h2:=Qx r (l:=n.left l)
   refine⟨fun h=> ?_,by omega⟩
   have:=h2.1 h
   have:=h1.1 (by omega)
   omega
  ·exact⟨fun h=>by omega,Int.le_refl _⟩
end
def alike (a b:Ak):Bool:=a.name==b.name&&a.value==b.value
def Du :List Ak->List Ak->Bool
 |[],[]=>true
 |a::r,b::s=>alike a b&&Du r s
 |_,_=>false
mutual
def Nd.same :Nd->Nd->Bool
 |.mk k _ t al ks,n=>k==n.kind&&t==n.text&&Du al n.attrs&&Ei ks n.kids
def Ei :List Nd->List Nd->Bool
 |[],[]=>true
 |a::r,b::s=>a.same b&&Ei r s
 |_,_=>false
end
def Qy (N:Nat):Ce:=fun vs h K=>∃(nd:Nd) (l:Int),nd.size<N/\nd.fit/\0<l/\l<=600/\vs=[.agg (ES nd),.int .i64 l]/\K (.int .i64 (nd.left l)) h
def QK (N:Nat):Ce:=fun vs h K=>∃a b:Nd,a.size<N/\a.fit/\b.fit/\vs=[.agg (ES a),.agg (ES b)]/\K (.bool (a.same b)) h
def fL (k N:Nat):Ce:=fun vs h K=>∃al bl:List Nd,CC al<N/\fits al/\fits bl/\al.length<=FY/\bl.length<=FY/\vs=[.sl 5 (Ag al) none,.sl 5 (Ag bl) none,.fn (.func k) [] []]/\K (.bool (Ei al bl)) h
def VS :Ce:=fun vs h K=>∃a b:Ak,vs=[.agg (Ao a),.agg (Ao b)]/\K (.bool (alike a b)) h
def bj (k:Nat):Ce:=fun vs h K=>∃al bl:List Ak,al.length<=FY/\bl.length<=FY/\vs=[.sl 3 (al.map Ao) none,.sl 3 (bl.map Ao) none,.fn (.func k) [] []]/\K (.bool (Du al bl)) h
theorem BW (n:Nd):ES n=[.int .i64 n.kind,.int .i64 n.pl,.str n.text,.sl 3 (n.attrs.map Ao) none,.sl 5 (Ag n.kids) none]:=by
 obtain⟨k,p,t,al,ks⟩:=n;rfl
theorem Nd.kX (n:Nd)(l:Int):n.left l=Hu n.kids (JS n.attrs (l-1-(n.text.length/20:Nat))):=by
 obtain⟨k,p,t,al,ks⟩:=n;rfl
theorem Nd.size_eq (n:Nd):n.size=1+CC n.kids:=by
 obtain⟨k,p,t,al,ks⟩:=n;rfl
theorem Nd.im (n:Nd):n.fit=(n.text.length<=FY/\n.attrs.length<=FY/\(∀a∈n.attrs,a.fit)/\n.kids.length<=FY/\fits n.kids):=by
 obtain⟨k,p,t,al,ks⟩:=n;rfl
theorem Nd.aL (a b:Nd):a.same b=(a.kind==b.kind&&a.text==b.text&&Du a.attrs b.attrs&&Ei a.kids b.kids):=by
 obtain⟨k,p,t,al,ks⟩:=a;rfl
def pH :Ce:=fun vs h K=>∃nd:Nd,nd.fit/\vs=[.agg (ES nd)]/\K (.bool (decide (0<nd.left 600))) h
def Js {α:Type}(p:α->Bool):List α->Int->Int
 |[],_=> -1
 |a::r,i=>bif p a then i else Js p r (i+1)
theorem Pe {α:Type}(p:α->Bool):∀(l:List α) (i:Int),0<=i->decide (0<=Js p l i)=l.any p
 |[],i,_=>rfl
 |a::r,i,hi=>by
  rw[Js,List.any_cons]
  cases p a with
  |true=>simp[hi]
  |false=>simpa using Pe p r (i+1) (by omega)
def Nx (l:List Int):List (List AV):=l.map fun x=>[.int .i64 x]
def encT (l:List (List UInt8)):List (List AV):=l.map fun x=>[.str x]
def BH :Nat:=100000
def Be :Ce:=fun vs h K=>∃s x:List UInt8,s.length<=BH/\vs=[.str s,.str x]/\K (.bool (An s x)) h
def rn :Ce:=fun vs h K=>∃(l:List Int) (k:Int),l.length<=FY/\vs=[.sl 1 (Nx l) none,.int .i64 k]/\K (.int .i64 (Js (fun x=>k==x) l 0)) h
def mN :Ce:=fun vs h K=>∃(l:List Int) (k:Int),l.length<=FY/\vs=[.sl 1 (Nx l) none,.int .i64 k]/\K (.bool (l.any fun x=>k==x)) h
def dC :Ce:=fun vs h K=>∃(l:List (List UInt8)) (k:List UInt8),l.length<=FY/\vs=[.sl 1 (encT l) none,.str k]/\K (.int .i64 (Js (fun x=>k==x) l 0)) h
def Gs :Ce:=fun vs h K=>∃(l:List (List UInt8)) (k:List UInt8),l.length<=FY/\vs=[.sl 1 (encT l) none,.str k]/\K (.bool (l.any fun x=>k==x)) h
def Yw :List Int:=[2,3,4,5,6,7,10,13,14]
def KC (k:Int):Bool:=Yw.any fun x=>k==x
def XR :Ce:=fun vs h K=>∃k:Int,vs=[.int .i64 k]/\K (.bool (KC k)) h
def Fx (k:Int):Bool:=decide (2<=k)&&decide (k<=6)
def Ks :Ce:=fun vs h K=>∃k:Int,vs=[.int .i64 k]/\K (.bool (Fx k)) h
def J7 (p k i n:Int):Bool:=
 bif p==7 then(k==(if i=0 then 8 else 9))&&decide (i<2)
 else bif p==10 then(k==11)||(k==12&&decide (0<i)&&i==n-1)
 else KC k
def SN :Ce:=fun vs h K=>∃p k i n:Int,0<=i/\i<n/\n<=FY/\vs=[.int .i64 p,.int .i64 k,.int .i64 i,.int .i64 n]/\K (.bool (J7 p k i n)) h
def XN :List UInt8:=[60,101,115,105,58]
def pI :List UInt8:=[60,47,101,115,105,58]
def Ko :List UInt8:=[60,33,45,45,101,115,105]
def Fk :List (List UInt8):=[[32],[9],[10],[13]]
def Hn (s:List UInt8):Bool:=An s XN||An s pI||Fk.any fun b=>An s (Ko++b)
def Z9 :Ce:=fun vs h K=>∃s:List UInt8,s.length<=BH/\vs=[.str s]/\K (.bool (Hn s)) h
def Hx :Ce:=fun vs h K=>∃s:List UInt8,vs=[.str s]/\K (.bool (!(s==[]))) h
def Ms :Ce:=fun vs h K=>∃s:List UInt8,vs=[.str s]/\K (.bool true) h
def lf :Ce:=fun vs h K=>∃s b:List UInt8,s.length<=BH/\b.length<=10/\h=[.mem 9 [.str s],.grow 4 1 9]/\vs=[.str b,.ptr 0 0]/\K (.bool (An s (Ko++b))) [.mem 9 [.str s],.grow 4 1 9]
def X9 :Ce:=fun vs h K=>∃s:List UInt8,s.length<=BH/\h=[.mem 9 [.str s],.grow 4 1 9]/\vs=[.sl 1 [[.str [32]],[.str [9]],[.str [10]],[.str [13]]] (some 1),.fn (.func 66) [] [.ptr 0 0]]/\K (.int .i64 (Js (fun b=>An s (Ko++b)) Fk 0)) [.mem 9 [.str s],.grow 4 1 9]
def Ty :Ce:=fun vs h K=>∃s:List UInt8,s.length<=BH/\h=[.mem 9 [.str s],.grow 4 1 9]/\vs=[.sl 1 [[.str [32]],[.str [9]],[.str [10]],[.str [13]]] (some 1),.fn (.func 66) [] [.ptr 0 0]]/\K (.bool (Fk.any fun b=>An s (Ko++b))) [.mem 9 [.str s],.grow 4 1 9]
def kb :List UInt8:=[60,47,101,115,105,58,105,110,108,105,110,101]
def cM :List UInt8:=[60,47,101,115,105,58,114,101,109,111,118,101]
def Dx (k:Int)(t:List UInt8)(hid:Bool):Bool:=
 bif k==2 then !(t==[])&& !Hn t&& !(hid&&An t [45,45,62])
 else bif k==4 then !An t kb
 else bif k==5 then !An t cM&& !An t XN
 else t==[]
def Hm :Ce:=fun vs h K=>∃(n:Nd) (hid:Bool),n.text.length<=BH/\vs=[.agg (ES n),.bool hid]/\K (.bool (Dx n.kind n.text hid)) h
inductive Xs where
 |full
 |one (l:List (List UInt8))
 |any
structure K2 where
 name:List UInt8
 Ci:Bool
 may:Xs
def Xs.ok :Xs->List UInt8->Bool
 |.full,v=>!(v==[])
 |.one l,v=>l.any fun x=>v==x
 |.any,_=>true
def Xs.enc :Xs->AV
 |.full=>.fn (.func 58) [] []
 |.one l=>.fn (.func 59) [.sl 1 (encT l) none] []
 |.any=>.fn (.func 60) [] []
def VD (r:K2):List AV:=[.str r.name,.bool r.Ci,r.may.enc]
def LN (v:List UInt8):Bool:=An v [34]&&An v [39]
def DP (r:K2):List Ak->Int->Option Int
 |[],n=>some n
 |a::t,n=>bif a.name==r.name then(bif r.may.ok a.value&& !LN a.value then DP r t (n+1) else none) else DP r t n
def Ca :List K2->List Ak->Int->Bool
 |[],al,f=>f==(al.length:Nat)
 |r::t,al,f=>match DP r al 0 with
  |none=>false
  |some n=>bif decide (1<n) then false else bif n==0&&r.Ci then false else Ca t al (f+n)
def D6 (m:Bool)(t:List K2)(al:List Ak)(f:Int):Option Int->Bool
 |none=>false
 |some n=>bif decide (1<n) then false else bif n==0&&m then false else Ca t al (f+n)
theorem Dg (r:K2)(t:List K2)(al:List Ak)(f:Int):Ca (r::t) al f=D6 r.Ci t al f (DP r al 0):=by
 rw[Ca,D6.eq_def]
def Cm :K2:=⟨[115,114,99],true,.full⟩
def CV :K2:=⟨[97,108,116],false,.full⟩
def Bx :K2:=⟨[111,110,101,114,114,111,114],false,.one [[99,111,110,116,105,110,117,101]]⟩
def Cl :K2:=⟨[110,97,109,101],true,.full⟩
def CI :K2:=⟨[102,101,116,99,104,97,98,108,101],false,.one [[121,101,115],[110,111]]⟩
def Dd :K2:=⟨[116,101,120,116],true,.any⟩
def CA :K2:=⟨[116,101,115,116],true,.full⟩
def BI (k:Int):List K2:=
 bif k==3 then [Cm,CV,Bx] else bif k==4 then [Cl,CI] else bif k==6 then [Dd] else bif k==11 then [CA] else []
def HL :Ce:=fun vs h K=>∃k:Int,vs=[.int .i64 k]/\K (.sl 3 ((BI k).map VD) none) h
def Jr :Ce:=fun vs h K=>∃(k:Int) (al:List Ak),al.length<=BH/\(∀a∈al,a.value.length<=BH)/\vs=[.agg [.sl 3 (al.map Ao) none],.sl 3 ((BI k).map VD) none]/\K (.bool (Ca (BI k) al 0)) h
def Gt (k:Int)(t:List UInt8)(al:List Ak)(len:Nat)(d:Int)(hid:Bool)(b:Int):Int:=
 bif k==14&&hid then 13
 else bif !(k==2)&&decide (16<d) then 3
 else bif !Ca (BI k) al 0 then 12
 else bif !Dx k t hid||(k==2&&b==2) then 4
 else bif (Fx k&&decide (0<len))||(k==7&& !(len==2))||(k==10&&len==0) then 13
 else 0
mutual
def Nd.Mj :Nd->Int->Bool->Int->Int
 |.mk k _ t al ks,d,hid,b=>bif Gt k t al ks.length d hid b==0 then Il k (ks.length:Nat) ks 0 (d+1) (hid||k==14) 0 else Gt k t al ks.length d hid b
def Il (p n:Int):List Nd->Int->Int->Bool->Int->Int
 |[],_,_,_,_=>0
 |c::r,i,d,hid,b=>bif !J7 p c.kind i n then 13 else bif c.Mj d hid b==0 then Il p n r (i+1) d hid c.kind else c.Mj d hid b
end
mutual
def Nd.Km :Nd->Prop
 |.mk _ _ t al ks=>t.length<=BH/\al.length<=BH/\(∀a∈al,a.value.length<=BH)/\ks.length<=BH/\OG ks
def OG :List Nd->Prop
 |[]=>True
 |n::r=>n.Km/\OG r
end
def Gm (N:Nat):Ce:=fun vs h K=>∃(n:Nd) (d b:Int) (hid:Bool),n.size<N/\n.Km/\0<=d/\d+N<=1000000/\vs=[.agg (ES n),.agg [.int .i64 d,.bool hid],.int .i64 b]/\K (.int .i64 (n.Mj d hid b)) h
def Nd.Hi (n:Nd):Int:=bif n.kind==1 then n.Mj 0 false 0 else 13
def lr (N:Nat):Ce:=fun vs h K=>∃n:Nd,n.size<N/\n.Km/\N<=1000000/\vs=[.agg (ES n)]/\K (.int .i64 n.Hi) h
end Go.Ai
end
section
namespace Go.Ai.Sp
open Go.Ai Go.RowKit
def JU (a:Ex.Ak):Go.Ai.Ak:=⟨a.name,a.value,(a.at':Nat)⟩
def zy :Nd:=.mk 0 0 [] [] []
def Dv (n k:Nd):Nd:=.mk n.kind n.pl n.text n.attrs (n.kids++[k])
def YP (o:Option Nat)(n:Nd):Row:=BN (.int .i64 n.kind) (.int .i64 n.pl) (.str n.text) (.sl 3 (n.attrs.map Go.Ai.Ao) o) (Ag n.kids)
def NP :List Nd->Option Nat
 |[]=>some 3
 |_=>none
def AZ :List Nd->List Row
 |[]=>[]
 |n::r=>YP (NP r) n::AZ r
def BA (l:List Nd):Int:=match l.getLast? with
 |some n=>n.kind
 |none=>0
structure Ps where
 rows:List Nd
 pl:Int
 e:Int
def Fz (p x:Int)(s:Ps):Ps:=⟨s.rows,(fE p x s.pl s.e).1,(fE p x s.pl s.e).2⟩
def EA (t:Ex.Tok)(s:Ps):Ps:=match s.rows with
 |[]=>s
 |n::r=>bif n.kind==7||n.kind==10 then(bif (Dm t.text).isEmpty then s else Fz ((t.to:Int)-(Dm t.text).length) 13 s) else⟨Dv n (.mk 2 t.fr t.text [] [])::r,s.pl,s.e⟩
def LK (t:Ex.Tok)(s:Ps):Ps:=match s.rows with
 |[]=>s
 |n::r=>⟨.mk n.kind n.pl t.text n.attrs n.kids::r,s.pl,s.e⟩
def Bj (x:El):Bool:=x.kind==3||x.kind==6
def Kj (x:El)(t:Ex.Tok)(n:Nd)(r:List Nd)(s:Ps):Ps:=
 let s1:=bif (Bj x !=(t.kind==3))|| !CW n.kind (BA n.kids) x.kind then Fz t.fr 13 s else s
 let s2:=bif decide (16<r.length+1) then Fz t.fr 3 s1 else s1
 ⟨s2.rows,(A8 x t.fr t.attrs (s2.pl,s2.e)).1,(A8 x t.fr t.attrs (s2.pl,s2.e)).2⟩
def EV (t:Ex.Tok)(s:Ps):Ps:=match s.rows with
 |[]=>s
 |n::r=>
  let x:=Bq t.name
  let s2:=Kj x t n r s
  bif Bj x then⟨Dv n (.mk x.kind t.fr [] (t.attrs.map JU) [])::r,s2.pl,s2.e⟩ else⟨.mk x.kind t.fr [] (t.attrs.map JU) []::n::r,s2.pl,s2.e⟩
def Fa (t:Ex.Tok)(s:Ps):Ps:=match s.rows with
 |[]=>s
 |n::r=>
  let s1:=bif !CW n.kind (BA n.kids) 14 then Fz t.fr 13 s else s
  let s2:=bif decide (16<r.length+1) then Fz t.fr 3 s1 else s1
  ⟨.mk 14 t.fr [] [] []::n::r,s2.pl,s2.e⟩
def Eo (t:Ex.Tok):Int:=bif t.kind==4 then(Bq t.name).kind else 14
def Ee (t:Ex.Tok)(n:Nd):Bool:=!(n.kind==Eo t)||((Eo t==7&& !(BA n.kids==9))||(Eo t==10&&BA n.kids==0))
def En (t:Ex.Tok)(s:Ps):Ps:=match s.rows with
 |[]=>s
 |n::r=>bif Ee t n then Fz t.fr 13 s else match r with
  |[]=>s
  |m::q=>⟨Dv m n::q,s.pl,s.e⟩
def Aq (t:Ex.Tok)(s:Ps):Ps:=
 bif t.kind==1 then EA t s else bif t.kind==7 then LK t s else bif t.kind==2||t.kind==3 then EV t s else bif t.kind==5 then Fa t s else En t s
def A7 :List Ex.Tok->Ps->Ps
 |[],s=>s
 |t::l,s=>bif (Aq t s).e==0 then A7 l (Aq t s) else Aq t s
def DV :Ps:=⟨[.mk 1 0 [] [] []],0,0⟩
def Mg (len:Int)(s:Ps):Except (Int×Int) Nd:=
 bif s.e==0 then(match s.rows with
  |[n]=>.ok n
  |_=>.error (len,14)) else .error (s.pl,s.e)
def NN (len:Int)(l:List Ex.Tok):Except (Int×Int) Nd:=Mg len (A7 l DV)
def Bg (s:List UInt8):Except (Int×Int) Nd:=
 if 65536<s.length then .error (65536,3) else
 match Ex.lexM s with
 |.error (p,e)=>.error ((p:Nat),e)
 |.ok l=>NN s.length l
end Go.Ai.Sp
namespace Go.Ai.Sp
def eS (t:Ex.Tok):Prop:=t.text.length<=Bs/\t.to<=Bs/\t.fr<=Bs/\t.attrs.length<=Bs/\t.to>=t.text.length
def Iv (l:List Nd):Prop:=l.length<Bs/\∀n∈l,n.kids.length<Bs
def CS (t:Ex.Tok):Hp:=[.grow 0 3 80,.mem 50 (Ex.encT t)]
def JH (M:Ex.Tok->Ps->Ps)(pre:Ex.Tok->Ps->Prop):Ce:=fun vs h K=>∃(g:Nat) (s:Ps) (t:Ex.Tok),s.rows≠[]/\Iv s.rows/\eS t/\pre t s/\vs=[.ptr 7 0,.agg (Ex.encT t)]/\h=hP g (AZ s.rows) s.pl s.e++CS t/\
 ∀g':Nat,K (.tup []) (hP g' (AZ (M t s).rows) (M t s).pl (M t s).e++CS t)
def Es :AV:=.PD [1,7,2,3,5,4,6] [[.fn (.func 40) [] []],[.fn (.func 41) [] []],[.fn (.func 42) [] []],[.fn (.func 42) [] []],[.fn (.func 43) [] []],[.fn (.func 44) [] []],[.fn (.func 44) [] []]]
def YF :Ce:=fun vs h K=>vs.isEmpty=true/\K Es h
def Ht (_:Ex.Tok)(_:Ps):Prop:=True
def aS (s:Ps):Prop:=∀n,s.rows=[n]->n.kind=1
def Yk (_:Ex.Tok)(s:Ps):Prop:=aS s
def nZ :Ce:=fun vs h K=>∃s:List UInt8,vs=[.str s]/\(∀n,Bg s=.ok n->K (.tup [.agg (ES n),.int .i64 0,.int .i64 0]) h)/\
 (∀p e,Bg s=.error (p,e)->∀z1 z2:Nat,(z1=3/\z2=5)\/(z1=0/\z2=0)->K (.tup [.agg [.int .i64 0,.int .i64 0,.str [],.sl z1 [] none,.sl z2 [] none],.int .i64 p,.int .i64 e]) h)
def YU :Except (Int×Int) Nd->Nd×Int×Int
 |.ok n=>(n,0,0)
 |.error (p,e)=>(zy,p,e)
def CJ (s:List UInt8):Nd:=(YU (Bg s)).1
def YV (s:List UInt8):Int:=(YU (Bg s)).2.1
def Ec (s:List UInt8):Int:=(YU (Bg s)).2.2
def UM :Ce:=fun vs h K=>∃s:List UInt8,vs=[.str s]/\
 K (.tup [.agg [.int .i64 (CJ s).kind,.int .i64 (CJ s).pl,.str (CJ s).text,.sl 3 ((CJ s).attrs.map Go.Ai.Ao) none,.sl 5 (Ag (CJ s).kids) none],.int .i64 (YV s),.int .i64 (Ec s)]) h
end Go.Ai.Sp
end
section
namespace Go.Ai.Sp
open Go.Ai Go.RowKit
def dy :List Nd->Prop
 |[]=>False
 |[n]=>n.kind=1
 |_::r=>dy r
theorem dy.ne {l:List Nd}(h:dy l):l≠[]:=by
 rintro rfl
 exact h
theorem dy.push {l:List Nd}(h:dy l)(n:Nd):dy (n::l):=by
 cases l with
 |nil=>exact h.elim
 |cons=>exact h
theorem dy.same {n m:Nd}{l:List Nd}(h:dy (n::l))(e:m.kind=n.kind):dy (m::l):=by
 cases l with
 |nil=>exact e.trans h
 |cons=>exact h
theorem dy.pop {n m:Nd}{l:List Nd}(h:dy (n::m::l)):dy (m::l):=h
structure Inv (i:Nat) (l:List Nd):Prop where
 bot:dy l
 len:l.length<=i+1
 kids:∀n∈l,n.kids.length<=i
theorem c9 (n k:Nd):(Dv n k).kind=n.kind:=rfl
theorem Cw (n k:Nd):(Dv n k).kids=n.kids++[k]:=rfl
theorem Inv.up {i:Nat}{l:List Nd}(h:Inv i l):Inv (i+1) l:=⟨h.bot,by have:=h.len;omega,fun n hn=>by have:=h.kids n hn;omega⟩
theorem Inv.add {i:Nat}{n:Nd}{l:List Nd}(h:Inv i (n::l))(k:Nd):Inv (i+1) (Dv n k::l):=by
 refine⟨h.bot.same (c9 n k),by have:=h.len;simp only[List.length_cons] at this⊢;omega,fun m hm=> ?_⟩
 rcases List.mem_cons.1 hm with rfl|hm
 ·have:=h.kids n (by simp)
  rw[Cw,List.length_append];simp only[List.length_cons,List.length_nil];omega
 ·have:=h.kids m (List.mem_cons_of_mem _ hm);omega
theorem Inv.push {i:Nat}{l:List Nd}(h:Inv i l){n:Nd}(hn:n.kids=[]):Inv (i+1) (n::l):=by
 refine⟨h.bot.push n,by have:=h.len;simp only[List.length_cons];omega,fun m hm=> ?_⟩
 rcases List.mem_cons.1 hm with rfl|hm
 ·rw[hn];simp
 ·have:=h.kids m hm;omega
theorem Inv.same {i:Nat}{n m:Nd}{l:List Nd}(h:Inv i (n::l))(e:m.kind=n.kind)(e2:m.kids=n.kids):Inv (i+1) (m::l):=by
 refine⟨h.bot.same e,by have:=h.len;simp only[List.length_cons] at this⊢;omega,fun x hx=> ?_⟩
 rcases List.mem_cons.1 hx with rfl|hx
 ·rw[e2];have:=h.kids n (by simp);omega
 ·have:=h.kids x (List.mem_cons_of_mem _ hx);omega
theorem Inv.pop {i:Nat}{n m:Nd}{l:List Nd}(h:Inv i (n::m::l)):Inv i (m::l):=
 ⟨h.bot.pop,by have:=h.len;simp only[List.length_cons] at this⊢;omega,fun x hx=>h.kids x (List.mem_cons_of_mem _ hx)⟩
theorem gp {i:Nat}{s:Ps}(h:Inv i s.rows)(t:Ex.Tok):Inv (i+1) (Aq t s).rows:=by
 obtain⟨rows,pl,e⟩:=s
 cases rows with
 |nil=>exact(h.bot).elim
 |cons n r=>
  unfold Aq
  cases t.kind==1 with
  |true=>
   simp only[cond_true];unfold EA;simp only
   cases n.kind==7||n.kind==10 with
   |true=>simp only[cond_true];cases (Dm t.text).isEmpty<;>exact h.up
   |false=>simp only[cond_false];exact h.add _
  |false=>
   simp only[cond_false]
   cases t.kind==7 with
   |true=>simp only[cond_true];exact h.same (m:=.mk n.kind n.pl t.text n.attrs n.kids) rfl rfl
   |false=>
    simp only[cond_false]
    cases t.kind==2||t.kind==3 with
    |true=>
     simp only[cond_true];unfold EV;simp only
     cases Bj (Bq t.name) with
     |true=>simp only[cond_true];exact h.add _
     |false=>simp only[cond_false];exact h.push rfl
    |false=>
     simp only[cond_false]
     cases t.kind==5 with
     |true=>simp only[cond_true];exact h.push (n:=.mk 14 t.fr [] [] []) rfl
     |false=>
      simp only[cond_false];unfold En;simp only
      cases Ee t n with
      |true=>simp only[cond_true];exact h.up
      |false=>
       simp only[cond_false]
       cases r with
       |nil=>exact h.up
       |cons m q=>exact h.pop.add _
theorem vy :Inv 0 DV.rows:=⟨rfl,by decide,fun n hn=>by
 rw[List.mem_singleton.1 hn];exact Nat.le_refl 0⟩
theorem js {hid:Bool}{l:List Ex.Tok}(h:Ex.VG hid l):∀t∈l,t.kind=1\/t.kind=2\/t.kind=3\/t.kind=4\/t.kind=5\/t.kind=6\/t.kind=7:=by
 induction h with
 |nil=>intro t ht;cases ht
 |text k1 _ _ _ _ _ _ ih=>
  intro t ht
  rcases List.mem_cons.1 ht with rfl|ht
  ·exact .inl k1
  ·exact ih t ht
 |tag k1 _ _ _ ih=>
  intro t ht
  rcases List.mem_cons.1 ht with rfl|ht
  ·rcases k1 with k|k
   ·exact .inr (.inr (.inl k))
   ·exact .inr (.inl k.1)
  ·exact ih t ht
 |own k1 _ _ a1 _ _ c1 _ _ _ _ ih=>
  intro t ht
  rcases List.mem_cons.1 ht with rfl|ht
  ·exact .inr (.inl k1)
  ·rcases List.mem_cons.1 ht with rfl|ht
   ·exact .inr (.inr (.inr (.inr (.inr (.inr a1)))))
   ·exact ih t ht
 |close k1 _ _ _ ih=>
  intro t ht
  rcases List.mem_cons.1 ht with rfl|ht
  ·exact .inr (.inr (.inr (.inl k1)))
  ·exact ih t ht
 |Us k1 _ _ _ ih=>
  intro t ht
  rcases List.mem_cons.1 ht with rfl|ht
  ·exact .inr (.inr (.inr (.inr (.inl k1))))
  ·exact ih t ht
 |shown k1 _ _ _ _ ih=>
  intro t ht
  rcases List.mem_cons.1 ht with rfl|ht
  ·exact .inr (.inr (.inr (.inr (.inr (.inl k1)))))
  ·exact ih t ht
theorem Xw {s:List UInt8}:∀(r:List Ex.Tok) (a:Nat) (prev:Option Ex.Tok) (hid:Bool),Ex.WG s a prev hid r->∀t∈r,t.fr<=t.to/\t.to<=s.length/\t.text.length<=t.to
 |[],_,_,_,_,t,ht=>by cases ht
 |u::r,a,prev,hid,h,t,ht=>by
  unfold Ex.WG at h;obtain⟨h1,h2,h3,h4,_,_,_,_,_,_,h5⟩:=h
  rcases List.mem_cons.1 ht with rfl|ht
  ·refine⟨by omega,h3,?_⟩
   rw[<-h4];unfold Ex.cut;simp only[List.length_take,List.length_drop];omega
  ·exact Xw r _ _ _ h5 t ht
theorem kW {s:List UInt8}{l:List Ex.Tok}(hs:s.length<=65536)(h:Ex.lexM s=.ok l):l.length<=131074/\∀t∈l,eS t/\(t.kind=1\/t.kind=2\/t.kind=3\/t.kind=4\/t.kind=5\/t.kind=6\/t.kind=7):=by
 have hw:=Ex.LS h
 refine⟨?_,fun t ht=>⟨?_,js (Ex.Nb h) t ht⟩⟩
 ·rcases Ex.Zz l 0 none false hw (Nat.zero_le _) with h|⟨_,h⟩<;>omega
 ·obtain⟨h1,h2,h3⟩:=Xw l 0 none false hw t ht;have hf:=Ex.Qv h t ht;have hc:=Ex.RP hf;have:=hf.1;unfold eS Bs
  exact⟨by omega,by omega,by omega,by omega,h3⟩
mutual
def lh (M:Nat):Nd->Prop
 |.mk _ _ t al ks=>t.length<=M/\al.length<=M/\(∀a∈al,a.name.length<=M/\a.value.length<=M)/\ks.length<=M/\QF M ks
def QF (M:Nat):List Nd->Prop
 |[]=>True
 |n::r=>lh M n/\QF M r
end
theorem QE {M:Nat}:∀{a b:List Nd},QF M (a++b)↔QF M a/\QF M b
 |[],b=>by simp[QF]
 |n::r,b=>by simp only[List.cons_append,QF,QE (a:=r),and_assoc]
theorem YM {M:Nat}(n:Nd):lh M n=(n.text.length<=M/\n.attrs.length<=M/\(∀a∈n.attrs,a.name.length<=M/\a.value.length<=M)/\n.kids.length<=M/\QF M n.kids):=by
 obtain⟨k,p,t,al,ks⟩:=n;rfl
mutual
theorem aK {M:Nat}(hM:M<=FY):∀n:Nd,lh M n->n.fit
 |.mk _ _ t al ks,⟨h1,h2,h3,h4,h5⟩=>⟨by omega,by omega,fun a ha=>by have:=h3 a ha;exact⟨by omega,by omega⟩,by omega,Sc hM ks h5⟩
theorem Sc {M:Nat}(hM:M<=FY):∀l:List Nd,QF M l->fits l
 |[],_=>trivial
 |n::r,⟨h1,h2⟩=>⟨aK hM n h1,Sc hM r h2⟩
end
mutual
theorem Vm {M:Nat}(hM:M<=BH):∀n:Nd,lh M n->n.Km
 |.mk _ _ t al ks,⟨h1,h2,h3,h4,h5⟩=>⟨by omega,by omega,fun a ha=>by have:=h3 a ha;omega,by omega,QD hM ks h5⟩
theorem QD {M:Nat}(hM:M<=BH):∀l:List Nd,QF M l->OG l
 |[],_=>trivial
 |n::r,⟨h1,h2⟩=>⟨Vm hM n h1,QD hM r h2⟩
end
def jx (M:Nat)(t:Ex.Tok):Prop:=t.text.length<=M/\t.attrs.length<=M/\∀a∈t.attrs,a.name.length<=M/\a.value.length<=M
theorem jZ {l:List Ex.Ak}{a:Ex.Ak}(h:a∈l):a.name.length<=(Ex.AP l).length/\a.value.length<=(Ex.AP l).length:=by
 induction l with
 |nil=>cases h
 |cons b l ih=>
  simp only[Ex.AP,List.length_cons,List.length_append]
  rcases List.mem_cons.1 h with rfl|h
  ·constructor<;>omega
  ·have:=ih h
   constructor<;>omega
theorem qX {s:List UInt8}{l:List Ex.Tok}(h:Ex.lexM s=.ok l):l.length<=2*s.length/\∀t∈l,jx (2*s.length+1) t:=by
 have hw:=Ex.LS h
 refine⟨?_,fun t ht=> ?_⟩
 ·rcases Ex.Zz l 0 none false hw (Nat.zero_le _) with h|⟨⟨p,h,_⟩,_⟩
  ·omega
  ·cases h
 ·obtain⟨h1,h2,h3⟩:=Xw l 0 none false hw t ht;have hf:=Ex.Qv h t ht;have hc:=Ex.RP hf;have:=hf.1
  refine⟨by omega,by omega,fun a ha=> ?_⟩
  have zI:=jZ ha
  have r9:(Ex.AP t.attrs).length<=(Ex.written t).length:=by
   rcases hf.2 with h|h|h
   ·rw[h] at ha;cases ha
   ·unfold Ex.written
    rw[if_neg (by omega),if_neg (by omega),if_pos h]
    simp only[List.length_append];omega
   ·unfold Ex.written
    rw[if_neg (by omega),if_neg (by omega),if_neg (by omega),if_pos h]
    simp only[List.length_append];omega
  omega
structure Sz (M i:Nat) (l:List Nd):Prop where
 sm:QF M l
 kids:∀n∈l,n.kids.length<=i
 size:CC l<=i+1
theorem Sz.up {M i:Nat}{l:List Nd}(h:Sz M i l):Sz M (i+1) l:=⟨h.sm,fun n hn=>by have:=h.kids n hn;omega,by have:=h.size;omega⟩
theorem Sd (n k:Nd):(Dv n k).size=n.size+k.size:=by
 obtain⟨a,b,c,d,e⟩:=n;simp only[Dv,Nd.size,Nd.kids,Lw,CC];omega
theorem Sz.add {M i:Nat}{n:Nd}{l:List Nd}(h:Sz M i (n::l)){k:Nd}(hk:lh M k)(hs:k.size<=1)(hi:i+1<=M):Sz M (i+1) (Dv n k::l):=by
 obtain⟨⟨h1,h2⟩,h3,h4⟩:=h
 have hn:=h3 n (by simp)
 refine⟨⟨?_,h2⟩,fun m hm=> ?_,?_⟩
 ·rw[YM] at h1⊢;obtain⟨a1,a2,a3,a4,a5⟩:=h1;refine⟨a1,a2,a3,?_,?_⟩
  ·rw[Cw,List.length_append];simp only[List.length_cons,List.length_nil];omega
  ·rw[Cw,QE];exact⟨a5,hk,trivial⟩
 ·rcases List.mem_cons.1 hm with rfl|hm
  ·rw[Cw,List.length_append];simp only[List.length_cons,List.length_nil];omega
  ·have:=h3 m (List.mem_cons_of_mem _ hm);omega
 ·simp only[CC,Sd] at h4⊢;omega
theorem Sz.push {M i:Nat}{l:List Nd}(h:Sz M i l){n:Nd}(hn:lh M n)(hk:n.kids=[]):Sz M (i+1) (n::l):=by
 obtain⟨h1,h3,h4⟩:=h
 refine⟨⟨hn,h1⟩,fun m hm=> ?_,?_⟩
 ·rcases List.mem_cons.1 hm with rfl|hm
  ·rw[hk];simp
  ·have:=h3 m hm;omega
 ·rw[CC,n.size_eq,hk];simp only[CC];omega
theorem Sz.text {M i:Nat}{n:Nd}{l:List Nd}(h:Sz M i (n::l)){t:List UInt8}(ht:t.length<=M):Sz M (i+1) (.mk n.kind n.pl t n.attrs n.kids::l):=by
 obtain⟨⟨h1,h2⟩,h3,h4⟩:=h;rw[YM] at h1;obtain⟨a1,a2,a3,a4,a5⟩:=h1
 refine⟨⟨⟨ht,a2,a3,a4,a5⟩,h2⟩,fun m hm=> ?_,?_⟩
 ·rcases List.mem_cons.1 hm with rfl|hm
  ·have:=h3 n (by simp)
   show n.kids.length<=_;omega
  ·have:=h3 m (List.mem_cons_of_mem _ hm);omega
 ·simp only[CC,Nd.size_eq,Nd.kids] at h4⊢;omega
theorem Sz.pop {M i:Nat}{n m:Nd}{l:List Nd}(h:Sz M i (n::m::l))(hi:i+1<=M):Sz M (i+1) (Dv m n::l):=by
 obtain⟨⟨h1,h2,h5⟩,h3,h4⟩:=h
 have hm:=h3 m (by simp)
 refine⟨⟨?_,h5⟩,fun x hx=> ?_,?_⟩
 ·rw[YM] at h2⊢;obtain⟨a1,a2,a3,a4,a5⟩:=h2;refine⟨a1,a2,a3,?_,?_⟩
  ·rw[Cw,List.length_append];simp only[List.length_cons,List.length_nil];omega
  ·rw[Cw,QE];exact⟨a5,h1,trivial⟩
 ·rcases List.mem_cons.1 hx with rfl|hx
  ·rw[Cw,List.length_append];simp only[List.length_cons,List.length_nil];omega
  ·have:=h3 x (by simp[hx]);omega
 ·simp only[CC,Sd] at h4⊢;omega
theorem fH {M:Nat}{t:Ex.Tok}(h:jx M t)(k p:Int):lh M (.mk k p [] (t.attrs.map JU) []):=by
 refine⟨Nat.zero_le _,by rw[List.length_map];exact h.2.1,fun a ha=> ?_,Nat.zero_le _,trivial⟩
 obtain⟨b,hb,rfl⟩:=List.mem_map.1 ha;exact h.2.2 b hb
theorem j2 {M i:Nat}{s:Ps}{t:Ex.Tok}(h:Sz M i s.rows)(ht:jx M t)(hi:i+1<=M):Sz M (i+1) (Aq t s).rows:=by
 obtain⟨rows,pl,e⟩:=s
 cases rows with
 |nil=>
  have:(Aq t ⟨[],pl,e⟩).rows=[]:=by
   unfold Aq
   cases t.kind==1<;>cases t.kind==7<;>cases t.kind==2||t.kind==3<;>cases t.kind==5<;>rfl
  rw[this]
  exact⟨trivial,fun n hn=>(by cases hn),by simp[CC]⟩
 |cons n r=>
  unfold Aq
  cases t.kind==1 with
  |true=>
   simp only[cond_true];unfold EA;simp only
   cases n.kind==7||n.kind==10 with
   |true=>simp only[cond_true];cases (Dm t.text).isEmpty<;>exact h.up
   |false=>simp only[cond_false];exact h.add ⟨ht.1,Nat.zero_le _,fun a ha=>(by cases ha),Nat.zero_le _,trivial⟩ (by simp[Nd.size,CC]) hi
  |false=>
   simp only[cond_false]
   cases t.kind==7 with
   |true=>simp only[cond_true];exact h.text ht.1
   |false=>
    simp only[cond_false]
    cases t.kind==2||t.kind==3 with
    |true=>
     simp only[cond_true];unfold EV;simp only
     cases Bj (Bq t.name) with
     |true=>simp only[cond_true];exact h.add (fH ht _ _) (by simp[Nd.size,CC]) hi
     |false=>simp only[cond_false];exact h.push (fH ht _ _) rfl
    |false=>
     simp only[cond_false]
     cases t.kind==5 with
     |true=>simp only[cond_true];exact h.push (n:=.mk 14 t.fr [] [] []) ⟨Nat.zero_le _,Nat.zero_le _,fun a ha=>(by cases ha),Nat.zero_le _,trivial⟩ rfl
     |false=>
      simp only[cond_false];unfold En;simp only
      cases Ee t n with
      |true=>simp only[cond_true];exact h.up
      |false=>
       simp only[cond_false]
       cases r with
       |nil=>exact h.up
       |cons m q=>exact h.pop hi
theorem Vg {M:Nat}:∀(l:List Ex.Tok) (i:Nat) (s:Ps),Sz M i s.rows->(∀t∈l,jx M t)->i+l.length<=M->Sz M (i+l.length) (A7 l s).rows
 |[],i,s,h,_,_=>h
 |t::l,i,s,h,ht,hi=>by
  simp only[List.length_cons] at hi⊢
  have h1:=j2 h (ht t (by simp)) (by omega)
  rw[A7]
  cases (Aq t s).e==0 with
  |true=>
   have:=Vg l (i+1) _ h1 (fun u hu=>ht u (List.mem_cons_of_mem _ hu)) (by omega)
   simp only[cond_true]
   rw[show i+(l.length+1)=i+1+l.length by omega]
   exact this
  |false=>
   simp only[cond_false]
   exact⟨h1.sm,fun n hn=>by have:=h1.kids n hn;omega,by have:=h1.size;omega⟩
theorem V6 {s:List UInt8}{n:Nd}(h:Bg s=.ok n):s.length<=65536/\lh (2*s.length+1) n/\n.size<=2*s.length+1:=by
 unfold Bg at h;split at h
 ·cases h
 ·rename_i hs;split at h
  ·cases h
  ·rename_i l hl;obtain⟨h1,h2⟩:=qX hl
   have h3:=Vg l 0 DV ⟨⟨⟨Nat.zero_le _,Nat.zero_le _,fun a ha=>(by cases ha),Nat.zero_le _,trivial⟩,trivial⟩,fun n hn=>(by rw[List.mem_singleton.1 hn];exact Nat.zero_le _),by simp[DV,CC,Nd.size]⟩ h2 (by omega)
   unfold NN Mg at h
   cases he:(A7 l DV).e==0 with
   |false=>rw[he] at h;cases h
   |true=>
    rw[he] at h;simp only[cond_true] at h;split at h
    ·rename_i m hm
     injection h with h
     subst h;rw[hm] at h3;have:=h3.size;simp only[CC] at this
     exact⟨by omega,h3.sm.1,by omega⟩
    ·cases h
end Go.Ai.Sp
end
section
namespace Go.Ai.Sp
open Go.Ai Go.RowKit
theorem Dn {a b:Nd}:a.same b=true↔a.kind=b.kind/\a.text=b.text/\Du a.attrs b.attrs=true/\Ei a.kids b.kids=true:=by
 rw[Nd.aL];simp only[Bool.and_eq_true,beq_iff_eq];constructor
 ·rintro⟨⟨⟨h1,h2⟩,h3⟩,h4⟩
  exact⟨h1,h2,h3,h4⟩
 ·rintro⟨h1,h2,h3,h4⟩
  exact⟨⟨⟨h1,h2⟩,h3⟩,h4⟩
theorem LH :∀{a b:List Nd},Ei a b=true->BA a=BA b
 |[],[],_=>rfl
 |[],_::_,h=>by cases h
 |_::_,[],h=>by cases h
 |u::a,v::b,h=>by
  simp only[Ei,Bool.and_eq_true] at h
  cases a with
  |nil=>
   cases b with
   |nil=>exact(Dn.1 h.1).1
   |cons _ _=>cases h.2
  |cons x a=>
   cases b with
   |nil=>cases h.2
   |cons y b=>
    have:=LH (a:=x::a) (b:=y::b) h.2;simpa[BA] using this
theorem Rb :∀(a b:List Nd),Fg (a++b)=max (Fg a) (Fg b)
 |[],b=>by simp[Fg]
 |n::a,b=>by
  simp only[List.cons_append,Fg,Rb a b];omega
theorem Ik (k p:Int)(t:List UInt8)(al:List Go.Ai.Ak)(ks:List Nd):(Nd.mk k p t al ks).depth=Fg ks:=rfl
theorem Rc (n:Nd):n.depth=Fg n.kids:=by
 obtain⟨k,p,t,al,ks⟩:=n;rfl
theorem Ze (n k:Nd):(Dv n k).depth=max n.depth (k.depth+if k.kind=2 then 0 else 1):=by
 unfold Dv;rw[Ik,Rb,Rc n];simp only[Fg,Nat.max_zero]
inductive Ctx (K:Int) (K0 pX:List Nd):List Nd->List Nd->Prop
 |base {n' n:Nd} {ks:List Nd}:n'.kind=K->n.kind=1->n'.text=[]->n.text=[]->n'.attrs=[]->n.attrs=[]->n'.kids=K0++ks->Ei ks n.kids=true->Ctx K K0 pX (n'::pX) [n]
 |up {n' n:Nd} {r' r:List Nd}:n'.same n=true->Ctx K K0 pX r' r->Ctx K K0 pX (n'::r') (n::r)
section
variable {K:Int}{K0 pX:List Nd}
end
def dS :List Nd->Nat
 |[]=>0
 |n::r=>max (r.length+n.depth) (dS r)
def G6 (x:El)(l:List Ex.Ak):Bool:=(x.names.take x.Ci).all (fun nm=>l.any fun a=>a.name==nm)&&l.all fun a=>x.names.any (·==a.name)&&Mx a.name a.value
theorem MS {α:Type}{c:α->Bool}{f:α->Int}:∀(l:List α) (p e:Int),e≠0->l.foldl (fun s a=>bif c a then fE (f a) 12 s.1 s.2 else s) (p,e)=(p,e)
 |[],_,_,_=>rfl
 |a::l,p,e,h=>by
  simp only[List.foldl_cons]
  have:(bif c a then fE (f a) 12 p e else(p,e))=(p,e):=by
   cases c a with
   |false=>rfl
   |true=>
    have h0:(e==0)=false:=by simpa using h
    simp only[cond_true,fE,h0,cond_false]
  rw[this];exact MS l p e h
theorem Mp {x:El}{fr:Int}{l:List Ex.Ak}{p e:Int}(h:e≠0):A8 x fr l (p,e)=(p,e):=by
 unfold A8
 rw[MS (c:=fun nm:List UInt8=>!(l.any fun a=>a.name==nm)) (f:=fun _=>fr) _ _ _ h,MS (c:=fun a:Ex.Ak=>!(x.names.any (·==a.name))|| !Mx a.name a.value) (f:=fun a=>(a.at':Int)) _ _ _ h]
theorem fold_iff {α:Type}{c:α->Bool}{f:α->Int}:∀(l:List α) (p:Int),((l.foldl (fun s a=>bif c a then fE (f a) 12 s.1 s.2 else s) (p,0)).2=0↔l.all (fun a=>!c a)=true)/\(l.all (fun a=>!c a)=true->l.foldl (fun s a=>bif c a then fE (f a) 12 s.1 s.2 else s) (p,0)=(p,0))
 |[],p=>⟨⟨fun _=>rfl,fun _=>rfl⟩,fun _=>rfl⟩
 |a::l,p=>by
  simp only[List.foldl_cons,List.all_cons]
  cases h:c a with
  |false=>
   simp only[cond_false,Bool.not_false,Bool.true_and];exact fold_iff l p
  |true=>
   have:(bif true then fE (f a) 12 p 0 else(p,0))=(f a,12):=rfl
   rw[this,MS l (f a) 12 (by decide)]
   simp
theorem di (x:El)(fr:Int)(l:List Ex.Ak)(p:Int):((A8 x fr l (p,0)).2=0↔G6 x l=true)/\(G6 x l=true->A8 x fr l (p,0)=(p,0)):=by
 unfold A8 G6
 obtain⟨h1,h2⟩:=fold_iff (c:=fun nm:List UInt8=>!(l.any fun a=>a.name==nm)) (f:=fun _=>fr) (x.names.take x.Ci) p
 simp only[Bool.not_not] at h1 h2
 obtain⟨h3,h4⟩:=fold_iff (c:=fun a:Ex.Ak=>!(x.names.any (·==a.name))|| !Mx a.name a.value) (f:=fun a=>(a.at':Int)) l p
 have e:(l.all fun a=>!(!(x.names.any (·==a.name))|| !Mx a.name a.value))=l.all fun a=>x.names.any (·==a.name)&&Mx a.name a.value:=by
  congr 1
  funext a
  simp
 rw[e] at h3 h4;rw[Bool.and_eq_true]
 cases hh:(x.names.take x.Ci).all (fun nm=>l.any fun a=>a.name==nm) with
 |true=>
  rw[h2 hh]
  exact⟨⟨fun h=>⟨rfl,h3.1 h⟩,fun h=>h3.2 h.2⟩,fun h=>h4 h.2⟩
 |false=>
  refine⟨⟨fun h=> ?_,fun h=>by cases h.1⟩,fun h=>by cases h.1⟩
  generalize hs:(x.names.take x.Ci).foldl (fun s nm=>bif !(l.any fun a=>a.name==nm) then fE fr 12 s.1 s.2 else s) (p,0)=s at h h1
  have BM:s.2≠0:=fun e2=>by
   have:=h1.1 e2;rw[hh] at this;cases this
  obtain⟨s1,s2⟩:=s;rw[MS l s1 s2 BM] at h;exact absurd h BM
end Go.Ai.Sp
end
section
namespace Go.Ai.Sp
open Go.Ai Go.RowKit
theorem Nt (p x:Int)(hx:x≠0)(s:Ps):(Fz p x s).e≠0:=by
 unfold Fz fE;simp only
 cases h:s.e==0 with
 |true=>exact hx
 |false=>
  intro h2;simp only[cond_false] at h2;rw[h2] at h;cases h
def JQ (x:El)(t:Ex.Tok)(n:Nd)(r:List Nd):Bool:=!((Bj x !=(t.kind==3))|| !CW n.kind (BA n.kids) x.kind)&&(decide (r.length+1<=16)&&G6 x t.attrs)
theorem Zr (x:El)(t:Ex.Tok)(n:Nd)(r:List Nd)(s:Ps)(he:s.e=0):((Kj x t n r s).e=0↔JQ x t n r=true)/\(JQ x t n r=true->Kj x t n r s=s):=by
 obtain⟨rows,pl,e⟩:=s;simp only at he;subst he;unfold Kj JQ
 cases h1:(Bj x !=(t.kind==3))|| !CW n.kind (BA n.kids) x.kind with
 |true=>
  simp only[cond_true,Bool.not_true,Bool.false_and]
  refine⟨⟨fun h=> ?_,fun h=>by cases h⟩,fun h=>by cases h⟩
  exfalso;have e1:Fz t.fr 13 ⟨rows,pl,0⟩=⟨rows,t.fr,13⟩:=rfl
  have e2:(bif decide (16<r.length+1) then Fz t.fr 3 (Fz t.fr 13 ⟨rows,pl,0⟩) else Fz t.fr 13 ⟨rows,pl,0⟩)=⟨rows,t.fr,13⟩:=by
   rw[e1]
   cases decide (16<r.length+1)<;>rfl
  rw[e2] at h
  simp only[Mp (by decide:(13:Int)≠0),Mp (by decide:(3:Int)≠0)] at h
  cases h
 |false=>
  simp only[cond_false,Bool.not_false,Bool.true_and]
  by_cases h2:16<r.length+1
  ·rw[decide_eq_true h2,decide_eq_false (by omega)]
   simp only[cond_true,Bool.false_and]
   refine⟨⟨fun h=> ?_,fun h=>by cases h⟩,fun h=>by cases h⟩
   exfalso;have e1:Fz t.fr 3 ⟨rows,pl,0⟩=⟨rows,t.fr,3⟩:=rfl;rw[e1] at h
   simp only[Mp (by decide:(13:Int)≠0),Mp (by decide:(3:Int)≠0)] at h
   cases h
  ·rw[decide_eq_false h2,decide_eq_true (by omega)]
   simp only[cond_false,Bool.true_and];obtain⟨h3,h4⟩:=di x t.fr t.attrs pl
   exact⟨h3,fun h=>by rw[h4 h]⟩
theorem GJ (s:List UInt8):3<=(Bq s).kind/\(Bq s).kind<=13:=by
 unfold Bq
 repeat' (first|(cases (s==_)<;>simp only[cond_true,cond_false])|exact⟨by decide,by decide⟩)
section
variable {K:Int}{K0 pX:List Nd}
end
end Go.Ai.Sp
end
section
namespace Go.Ai.Sp
open Go.Ai Go.RowKit
def fc :Bool->List Ex.Tok->Prop
 |_,[]=>True
 |b,t::l=>(t.kind=7->b=true)/\fc (Ex.D7 t) l
theorem mi {hid:Bool}{l:List Ex.Tok}(h:Ex.VG hid l):fc false l:=by
 have WC:∀t:Ex.Tok,t.kind≠2->Ex.D7 t=false:=fun t ht=>by
  unfold Ex.D7
  have:(t.kind==2)=false:=by simpa using ht
  rw[this];rfl
 induction h with
 |nil=>trivial
 |text h1 _ _ _ _ _ _ ih=>exact⟨fun h=>by omega,by rw[WC _ (by omega)];exact ih⟩
 |tag h1 _ _ _ ih=>
  rcases h1 with h1|⟨h1,h2⟩
  ·exact⟨fun h=>by omega,by rw[WC _ (by omega)];exact ih⟩
  ·exact⟨fun h=>by omega,by rw[h2];exact ih⟩
 |own h1 h2 _ h4 _ _ h7 _ _ _ _ ih=>
  refine⟨fun h=>by omega,⟨fun _=> ?_,?_⟩⟩
  ·unfold Ex.D7
   rcases h2 with h2|h2<;>rw[h1,h2]<;>rfl
  ·rw[WC _ (by omega)]
   exact ih
 |close h1 _ _ _ ih=>exact⟨fun h=>by omega,by rw[WC _ (by omega)];exact ih⟩
 |Us h1 _ _ _ ih=>exact⟨fun h=>by omega,by rw[WC _ (by omega)];exact ih⟩
 |shown h1 _ _ _ _ ih=>exact⟨fun h=>by omega,by rw[WC _ (by omega)];exact ih⟩
theorem Zf (n c:Nd)(r:List Nd):dS (Dv n c::r)=max (dS (n::r)) (r.length+(c.depth+if c.kind=2 then 0 else 1)):=by
 simp only[dS,Ze];omega
def Pz (t:Ex.Tok):Prop:=t.kind=2\/t.kind=3\/t.kind=5
structure zk (t:Ex.Tok) (S:Ps):Prop where
 ne:(Aq t S).rows≠[]
 le:dS S.rows<=dS (Aq t S).rows
 tag:Pz t->S.rows.length<=dS (Aq t S).rows/\dS (Aq t S).rows<=max (dS S.rows) S.rows.length/\S.rows.length<=16
 no:¬Pz t->dS (Aq t S).rows<=dS S.rows
 own:Ex.D7 t=true->2<=(Aq t S).rows.length
theorem P8 {t:Ex.Tok}{S:Ps}(h1:(Aq t S).rows≠[])(h2:dS (Aq t S).rows=dS S.rows)(oS:¬Pz t)(Ip:Ex.D7 t≠true):zk t S:=
 ⟨h1,Nat.le_of_eq h2.symm,fun h=>absurd h oS,fun _=>Nat.le_of_eq h2,fun h=>absurd h Ip⟩
theorem zr {t:Ex.Tok}{S:Ps}(BM:S.rows≠[])(he:S.e=0)(hs:(Aq t S).e=0):zk t S:=by
 obtain⟨rows,pl,e⟩:=S;simp only at he BM;subst he;obtain⟨n,r,rfl⟩:=List.exists_cons_of_ne_nil BM
 cases k1:t.kind==1 with
 |true=>
  have vx:=eq_of_beq k1
  have oS:¬Pz t:=fun h=>by unfold Pz at h;omega
  have Ip:Ex.D7 t≠true:=fun h=>by
   unfold Ex.D7 at h;rw[vx] at h;cases h
  have e1:Aq t ⟨n::r,pl,0⟩=EA t ⟨n::r,pl,0⟩:=by unfold Aq;rw[k1];rfl
  rw[e1] at hs
  have key:(EA t ⟨n::r,pl,0⟩).rows≠[]/\dS (EA t ⟨n::r,pl,0⟩).rows=dS (n::r):=by
   unfold EA at hs⊢;simp only at hs⊢
   cases k2:n.kind==7||n.kind==10 with
   |true=>
    rw[k2] at hs;simp only[cond_true] at hs⊢
    cases k3:(Dm t.text).isEmpty with
    |true=>simp only[cond_true];exact⟨by simp,trivial⟩
    |false=>
     rw[k3] at hs
     exact absurd hs (Nt _ _ (by decide) _)
   |false=>
    simp only[cond_false]
    refine⟨by simp,?_⟩
    rw[Zf,Ik];simp only[Nd.kind,Fg,if_true,dS];omega
  exact P8 (by rw[e1];exact key.1) (by rw[e1];exact key.2) oS Ip
 |false=>
 cases k7:t.kind==7 with
 |true=>
  have k7':=eq_of_beq k7
  have oS:¬Pz t:=fun h=>by unfold Pz at h;omega
  have Ip:Ex.D7 t≠true:=fun h=>by
   unfold Ex.D7 at h;rw[k7'] at h;cases h
  have e1:Aq t ⟨n::r,pl,0⟩=LK t ⟨n::r,pl,0⟩:=by unfold Aq;rw[k1,k7];rfl
  have e2:dS (LK t ⟨n::r,pl,0⟩).rows=dS (n::r):=by
   unfold LK;simp only[dS,Ik,Rc n]
  exact P8 (by rw[e1];unfold LK;simp) (by rw[e1];exact e2) oS Ip
 |false=>
 cases k2:t.kind==2||t.kind==3 with
 |true=>
  have ht:Pz t:=by
   simp only[Bool.or_eq_true,beq_iff_eq] at k2
   rcases k2 with h|h
   ·exact .inl h
   ·exact .inr (.inl h)
  have e1:Aq t ⟨n::r,pl,0⟩=EV t ⟨n::r,pl,0⟩:=by unfold Aq;rw[k1,k7,k2];rfl
  rw[e1] at hs;obtain⟨g1,g2⟩:=Zr (Bq t.name) t n r ⟨n::r,pl,0⟩ rfl
  have hb:JQ (Bq t.name) t n r=true:=by
   refine g1.1 ?_;unfold EV at hs;simp only at hs
   cases qJ:Bj (Bq t.name)<;>rw[qJ] at hs<;>exact hs
  have hl:r.length+1<=16:=by
   unfold JQ at hb;simp only[Bool.and_eq_true,decide_eq_true_eq] at hb;exact hb.2.1
  have hk:=GJ t.name
  have e2:EV t ⟨n::r,pl,0⟩=bif Bj (Bq t.name) then⟨Dv n (.mk (Bq t.name).kind t.fr [] (t.attrs.map JU) [])::r,pl,0⟩ else⟨.mk (Bq t.name).kind t.fr [] (t.attrs.map JU) []::n::r,pl,0⟩:=by
   unfold EV;simp only;rw[g2 hb]
  have key:(EV t ⟨n::r,pl,0⟩).rows≠[]/\dS (EV t ⟨n::r,pl,0⟩).rows=max (dS (n::r)) (r.length+1)/\(Ex.D7 t=true->2<=(EV t ⟨n::r,pl,0⟩).rows.length):=by
   rw[e2]
   cases qJ:Bj (Bq t.name) with
   |true=>
    simp only[cond_true]
    refine⟨by simp,?_,fun ho=> ?_⟩
    ·have Lk:(Nd.mk (Bq t.name).kind t.fr [] (t.attrs.map JU) []).kind≠2:=by
      show(Bq t.name).kind≠2;omega
     rw[Zf,Ik,if_neg Lk];simp only[Fg,Nat.zero_add]
    ·exfalso;unfold Ex.D7 at ho;simp only[Bool.and_eq_true,Bool.or_eq_true,beq_iff_eq] at ho
     rcases ho.2 with h|h<;>rw[h] at qJ<;>cases qJ
   |false=>
    simp only[cond_false]
    refine⟨by simp,?_,fun _=>by simp⟩
    simp only[dS,Ik,Fg,List.length_cons,Nat.add_zero];omega
  refine⟨by rw[e1];exact key.1,by rw[e1,key.2.1];exact Nat.le_max_left _ _,fun _=>⟨?_,?_,hl⟩,fun h=>absurd ht h,fun h=>by rw[e1];exact key.2.2 h⟩
  ·rw[e1,key.2.1];exact Nat.le_max_right _ _
  ·rw[e1,key.2.1];exact Nat.le_refl _
 |false=>
 have k2':¬(t.kind=2\/t.kind=3):=by simpa using k2
 have Ip:Ex.D7 t≠true:=fun h=>by
  unfold Ex.D7 at h;simp only[Bool.and_eq_true,beq_iff_eq] at h;exact k2' (.inl h.1)
 cases k5:t.kind==5 with
 |true=>
  have ht:Pz t:=.inr (.inr (eq_of_beq k5))
  have e1:Aq t ⟨n::r,pl,0⟩=Fa t ⟨n::r,pl,0⟩:=by unfold Aq;rw[k1,k7,k2,k5];rfl
  rw[e1] at hs;have e3:(Fa t ⟨n::r,pl,0⟩).rows=.mk 14 t.fr [] [] []::n::r:=rfl
  have hl:r.length+1<=16:=by
   unfold Fa at hs;simp only at hs
   refine Nat.le_of_not_lt fun h=> ?_
   rw[decide_eq_true (show 16<r.length+1 from h)] at hs
   simp only[cond_true] at hs
   exact absurd hs (Nt _ _ (by decide) _)
  have e2:dS (Nd.mk 14 t.fr [] [] []::n::r)=max (dS (n::r)) (r.length+1):=by
   simp only[dS,Ik,Fg,List.length_cons,Nat.add_zero];omega
  refine⟨by rw[e1,e3];simp,by rw[e1,e3,e2];exact Nat.le_max_left _ _,fun _=>⟨?_,?_,hl⟩,fun h=>absurd ht h,fun h=>absurd h Ip⟩
  ·rw[e1,e3,e2];exact Nat.le_max_right _ _
  ·rw[e1,e3,e2];exact Nat.le_refl _
 |false=>
  have oS:¬Pz t:=fun h=>by
   unfold Pz at h
   have k5':t.kind≠5:=by simpa using k5
   omega
  have e1:Aq t ⟨n::r,pl,0⟩=En t ⟨n::r,pl,0⟩:=by unfold Aq;rw[k1,k7,k2,k5];rfl
  rw[e1] at hs
  have key:(En t ⟨n::r,pl,0⟩).rows≠[]/\dS (En t ⟨n::r,pl,0⟩).rows=dS (n::r):=by
   unfold En at hs⊢;simp only at hs⊢
   cases hb:Ee t n with
   |true=>
    rw[hb] at hs
    exact absurd hs (Nt _ _ (by decide) _)
   |false=>
    have hk:n.kind≠2:=fun h2=>by
     unfold Ee at hb;simp only[Bool.or_eq_false_iff,Bool.not_eq_false',beq_iff_eq] at hb;have h3:=hb.1;rw[h2] at h3;unfold Eo at h3;have:=GJ t.name
     cases h4:t.kind==4 with
     |true=>rw[h4] at h3;simp only[cond_true] at h3;omega
     |false=>rw[h4] at h3;simp at h3
    simp only[cond_false]
    cases r with
    |nil=>exact⟨by simp,rfl⟩
    |cons m q=>
     refine⟨by simp,?_⟩
     simp only;rw[Zf];simp only[dS,if_neg hk,List.length_cons];omega
  exact P8 (by rw[e1];exact key.1) (by rw[e1];exact key.2) oS Ip
end Go.Ai.Sp
end
section
namespace Go.Ai.Sp
open Go.Ai Go.RowKit
theorem GB (t:Ex.Tok)(l:List Ex.Tok)(S:Ps):((Aq t S).e=0->A7 (t::l) S=A7 l (Aq t S))/\((Aq t S).e≠0->A7 (t::l) S=Aq t S):=by
 constructor
 ·intro h;simp only[A7,h];rfl
 ·intro h
  have:((Aq t S).e==0)=false:=by simpa using h
  simp only[A7,this,cond_false]
theorem PW {t:Ex.Tok}{l:List Ex.Tok}{S:Ps}(h:(A7 (t::l) S).e=0):(Aq t S).e=0/\(A7 l (Aq t S)).e=0:=by
 obtain⟨h1,h2⟩:=GB t l S
 have:(Aq t S).e=0:=Decidable.byContradiction fun hn=>by
  rw[h2 hn] at h;exact hn h
 rw[h1 this] at h;exact⟨this,h⟩
section
variable {K:Int}{K0 pX:List Nd}
end
theorem NM {s:List UInt8}(h:Ec s=0):∃(n:Nd) (l:List Ex.Tok) (p:Int),CJ s=n/\Bg s=.ok n/\Ex.lexM s=.ok l/\A7 l DV=⟨[n],p,0⟩:=by
 unfold Ec at h;unfold CJ
 cases hm:Bg s with
 |error x=>
  obtain⟨p,e⟩:=x;rw[hm] at h;have h:e=0:=h;subst h;unfold Bg at hm;split at hm
  ·cases hm
  ·split at hm
   ·rename_i p' e' hl
    injection hm with hm
    injection hm with _ he
    exact absurd he (Ex.gW hl)
   ·unfold NN Mg at hm
    cases he:(A7 _ DV).e==0 with
    |true=>
     rw[he] at hm;simp only[cond_true] at hm;split at hm
     ·cases hm
     ·injection hm with hm
      injection hm with _ he
      cases he
    |false=>
     rw[he] at hm;simp only[cond_false] at hm
     injection hm with hm
     injection hm with _ xZ
     rw[xZ] at he;cases he
 |ok n=>
  unfold Bg at hm;split at hm
  ·cases hm
  ·split at hm
   ·cases hm
   ·rename_i l hl;unfold NN Mg at hm
    cases he:(A7 l DV).e==0 with
    |false=>rw[he] at hm;cases hm
    |true=>
     rw[he] at hm;simp only[cond_true] at hm;split at hm
     ·rename_i m hr
      injection hm with hm
      subst hm;refine⟨m,l,(A7 l DV).pl,rfl,rfl,hl,?_⟩;have tw:=eq_of_beq he;revert hr tw
      cases A7 l DV with
      |mk rows pl e=>
       intro hr tw;simp only at hr tw;rw[hr,tw]
     ·cases hm
theorem V7 {s:List UInt8}{l:List Ex.Tok}{n:Nd}{S:Ps}(hs:s.length<=65536)(hl:Ex.lexM s=.ok l)(h:A7 l DV=S)(he:S.e=0)(hr:S.rows=[n]):Ec s=0/\CJ s=n:=by
 have:Bg s=.ok n:=by
  unfold Bg
  rw[if_neg (by omega),hl]
  simp only;unfold NN Mg;rw[h,he,hr];rfl
 unfold Ec CJ;rw[this];exact⟨rfl,rfl⟩
end Go.Ai.Sp
end
section
namespace Go.Ai.Sp
open Go.Ai Go.RowKit
end Go.Ai.Sp
end
section
namespace Go.Ai.Ex
open Go.Ai
end Go.Ai.Ex
namespace Go.Ai.Sp
open Go.Ai Go.RowKit
end Go.Ai.Sp
end
section
namespace Go.Ai.Sp
open Go.Ai Go.RowKit
def Hj (nm:List UInt8):List Go.Ai.Ak->Nat
 |[]=>0
 |a::t=>(bif a.name==nm then 1 else 0)+Hj nm t
def lZ (r:K2)(a:Go.Ai.Ak):Prop:=a.name=r.name->r.may.ok a.value=true/\LN a.value=false
theorem Ke {r:K2}:∀{al:List Go.Ai.Ak} {n m:Int},DP r al n=some m↔m=n+Hj r.name al/\∀a∈al,lZ r a
 |[],n,m=>by
  simp only[DP,Hj,Option.some.injEq,List.not_mem_nil,false_implies,implies_true,and_true];constructor
  ·intro h;rw[<-h];simp
  ·intro h;rw[h];simp
 |a::t,n,m=>by
  rw[DP,Hj]
  cases h:a.name==r.name with
  |true=>
   have hn:a.name=r.name:=by simpa using h
   simp only[cond_true]
   cases hv:r.may.ok a.value&& !LN a.value with
   |true=>
    simp only[cond_true];rw[Ke];simp only[Bool.and_eq_true,Bool.not_eq_true'] at hv;constructor
    ·rintro⟨h1,h2⟩
     refine⟨by omega,fun b hb=> ?_⟩
     rcases List.mem_cons.1 hb with rfl|hb
     ·exact fun _=>hv
     ·exact h2 b hb
    ·rintro⟨h1,h2⟩
     exact⟨by omega,fun b hb=>h2 b (List.mem_cons_of_mem _ hb)⟩
   |false=>
    simp only[cond_false];constructor
    ·intro h;cases h
    ·rintro⟨_,h2⟩
     have:=h2 a (by simp) hn
     rw[this.1,this.2] at hv;cases hv
  |false=>
   have hn:¬a.name=r.name:=by simpa using h
   simp only[cond_false,Nat.zero_add];rw[Ke];constructor
   ·rintro⟨h1,h2⟩
    refine⟨h1,fun b hb=> ?_⟩
    rcases List.mem_cons.1 hb with rfl|hb
    ·exact fun e=>absurd e hn
    ·exact h2 b hb
   ·rintro⟨h1,h2⟩
    exact⟨h1,fun b hb=>h2 b (List.mem_cons_of_mem _ hb)⟩
def Is (al:List Go.Ai.Ak):List K2->Nat
 |[]=>0
 |r::l=>Hj r.name al+Is al l
theorem S9 {al:List Go.Ai.Ak}:∀{l:List K2} {f:Int},Ca l al f=true↔f+Is al l=(al.length:Nat)/\∀r∈l,(∀a∈al,lZ r a)/\Hj r.name al<=1/\(r.Ci=true->Hj r.name al=1)
 |[],f=>by simp[Ca,Is]
 |r::l,f=>by
  rw[Dg,Is]
  cases hc:DP r al 0 with
  |none=>
   simp only[D6];constructor
   ·intro h;cases h
   ·rintro⟨_,h⟩
    have:=(Ke (r:=r) (al:=al) (n:=0) (m:=Hj r.name al)).2 ⟨by omega,(h r (by simp)).1⟩
    rw[hc] at this;cases this
  |some n=>
   obtain⟨h1,h2⟩:=Ke.1 hc;simp only[D6]
   by_cases h3:1<n
   ·rw[decide_eq_true h3];simp only[cond_true];constructor
    ·intro h;cases h
    ·rintro⟨_,h⟩
     have:=(h r (by simp)).2.1
     omega
   ·rw[decide_eq_false h3];simp only[cond_false]
    cases hz:n==0&&r.Ci with
    |true=>
     simp only[Bool.and_eq_true,beq_iff_eq] at hz;simp only[cond_true];constructor
     ·intro h;cases h
     ·rintro⟨_,h⟩
      have:=(h r (by simp)).2.2 hz.2
      omega
    |false=>
     simp only[cond_false];rw[S9];constructor
     ·rintro⟨h4,h5⟩
      refine⟨by omega,fun q hq=> ?_⟩
      rcases List.mem_cons.1 hq with rfl|hq
      ·refine⟨h2,by omega,fun hm=> ?_⟩
       rw[hm] at hz;simp at hz;omega
      ·exact h5 q hq
     ·rintro⟨h4,h5⟩
      exact⟨by omega,fun q hq=>h5 q (List.mem_cons_of_mem _ hq)⟩
def uniq :List K2->Prop
 |[]=>True
 |r::l=>(∀q∈l,q.name≠r.name)/\uniq l
theorem PT {a:Go.Ai.Ak}:∀{l:List K2},uniq l->Is [a] l<=1/\((∀r∈l,r.name≠a.name)->Is [a] l=0)
 |[],_=>⟨by simp[Is],fun _=>rfl⟩
 |r::l,⟨h1,h2⟩=>by
  obtain⟨h3,h4⟩:=PT (a:=a) h2;simp only[Is,Hj]
  cases h:a.name==r.name with
  |true=>
   have hn:a.name=r.name:=by simpa using h
   have:=h4 fun q hq e=>h1 q hq (e.trans hn)
   refine⟨by simp only[cond_true];omega,fun hh=>absurd hn.symm (hh r (by simp))⟩
  |false=>
   refine⟨by simp only[cond_false];omega,fun hh=> ?_⟩
   have:=h4 fun q hq=>hh q (List.mem_cons_of_mem _ hq)
   simp only[cond_false];omega
theorem sum_cons (a:Go.Ai.Ak)(al:List Go.Ai.Ak):∀l:List K2,Is (a::al) l=Is [a] l+Is al l
 |[]=>rfl
 |r::l=>by simp only[Is,sum_cons a al l,Hj];omega
theorem YB {l:List K2}(hu:uniq l):∀al:List Go.Ai.Ak,Is al l<=al.length
 |[]=>by
  have:∀l:List K2,Is [] l=0:=fun l=>by induction l with
   |nil=>rfl
   |cons r l ih=>simp[Is,Hj,ih]
  rw[this];exact Nat.zero_le _
 |a::al=>by
  rw[sum_cons];have:=(PT (a:=a) hu).1;have:=YB hu al;simp only[List.length_cons];omega
theorem aI {l:List K2}(hu:uniq l):∀al:List Go.Ai.Ak,Is al l=al.length->∀a∈al,∃r∈l,r.name=a.name
 |[],_,a,ha=>by cases ha
 |b::al,h,a,ha=>by
  rw[sum_cons] at h;obtain⟨h1,h2⟩:=PT (a:=b) hu;have h3:=YB hu al;simp only[List.length_cons] at h
  rcases List.mem_cons.1 ha with rfl|ha
  ·apply Classical.byContradiction;intro hn
   have:=h2 fun r hr e=>hn ⟨r,hr,e⟩
   omega
  ·exact aI hu al (by omega) a ha
theorem ez {l:List K2}(hu:uniq l):∀al:List Go.Ai.Ak,(∀a∈al,∃r∈l,r.name=a.name)->Is al l=al.length
 |[],_=>by
  have:=YB hu [];simpa using this
 |a::al,h=>by
  rw[sum_cons,ez hu al fun b hb=>h b (List.mem_cons_of_mem _ hb)]
  have h1:=(PT (a:=a) hu).1
  obtain⟨r,hr,e⟩:=h a (by simp)
  have h2:1<=Is [a] l:=by
   clear h h1 hu
   induction l with
   |nil=>cases hr
   |cons q l ih=>
    simp only[Is,Hj]
    rcases List.mem_cons.1 hr with rfl|hr
    ·rw[e];simp
    ·have:=ih hr;omega
  simp only[List.length_cons];omega
def NZ :List Go.Ai.Ak->Prop
 |[]=>True
 |a::al=>(∀b∈al,b.name≠a.name)/\NZ al
theorem KE {nm:List UInt8}:∀{al:List Go.Ai.Ak},Hj nm al=0↔∀a∈al,a.name≠nm
 |[]=>by simp[Hj]
 |a::al=>by
  rw[Hj];have:=KE (nm:=nm) (al:=al)
  cases h:a.name==nm with
  |true=>
   have hn:a.name=nm:=by simpa using h
   constructor
   ·intro h;simp at h
   ·intro h;exact absurd hn (h a (by simp))
  |false=>
   have hn:¬a.name=nm:=by simpa using h
   simp only[cond_false,Nat.zero_add,this];constructor
   ·intro h b hb
    rcases List.mem_cons.1 hb with rfl|hb
    ·exact hn
    ·exact h b hb
   ·intro h b hb;exact h b (List.mem_cons_of_mem _ hb)
theorem jM {l:List K2}:∀{al:List Go.Ai.Ak},(∀a∈al,∃r∈l,r.name=a.name)->(∀r∈l,Hj r.name al<=1)->NZ al
 |[],_,_=>trivial
 |a::al,h1,h2=>by
  obtain⟨r,hr,e⟩:=h1 a (by simp)
  refine⟨fun b hb=> ?_,jM (fun b hb=>h1 b (List.mem_cons_of_mem _ hb)) fun q hq=> ?_⟩
  ·have:=h2 r hr;rw[Hj,e,beq_self_eq_true] at this;simp only[cond_true] at this
   exact KE.1 (by omega) b hb
  ·have:=h2 q hq;rw[Hj] at this;omega
theorem Nz :∀{al:List Go.Ai.Ak},NZ al->∀nm,Hj nm al<=1
 |[],_,_=>by simp[Hj]
 |a::al,⟨h1,h2⟩,nm=>by
  rw[Hj];have:=Nz h2 nm
  cases h:a.name==nm with
  |true=>
   have hn:a.name=nm:=by simpa using h
   have:=(KE (nm:=nm) (al:=al)).2 fun b hb=>hn▸h1 b hb
   simp only[cond_true];omega
  |false=>simpa using this
theorem K5 (k:Int):uniq (BI k):=by
 unfold BI
 cases k==3<;>cases k==4<;>cases k==6<;>cases k==11<;>simp only[cond_true,cond_false,uniq]<;>decide
theorem MM {k:Int}{al:List Go.Ai.Ak}:Ca (BI k) al 0=true↔NZ al/\(∀a∈al,∃r∈BI k,r.name=a.name/\r.may.ok a.value=true/\LN a.value=false)/\∀r∈BI k,r.Ci=true->∃a∈al,a.name=r.name:=by
 rw[S9];constructor
 ·rintro⟨h1,h2⟩
  have ha:=aI (K5 k) al (by omega)
  refine⟨jM ha fun r hr=>(h2 r hr).2.1,fun a hm=> ?_,fun r hr hm=> ?_⟩
  ·obtain⟨r,hr,e⟩:=ha a hm;exact⟨r,hr,e,(h2 r hr).1 a hm e.symm⟩
  ·have:=(h2 r hr).2.2 hm;apply Classical.byContradiction;intro hn
   have:=(KE (nm:=r.name) (al:=al)).2 fun a ha e=>hn ⟨a,ha,e⟩
   omega
 ·rintro⟨h1,h2,h3⟩
  refine⟨by rw[ez (K5 k) al fun a ha=>(h2 a ha).imp fun r hr=>⟨hr.1,hr.2.1⟩];omega,fun r hr=>⟨fun a ha e=> ?_,Nz h1 _,fun hm=> ?_⟩⟩
  ·obtain⟨q,hq,e1,e2⟩:=h2 a ha
   have:q=r:=by
    have key:∀{l:List K2},uniq l->∀x∈l,∀y∈l,x.name=y.name->x=y:=by
     intro l
     induction l with
     |nil=>intro _ x hx;cases hx
     |cons z l ih=>
      rintro⟨u1,u2⟩ x hx y hy sy
      rcases List.mem_cons.1 hx with e1|h1<;>rcases List.mem_cons.1 hy with e2|h2
      ·rw[e1,e2]
      ·rw[e1] at sy;exact absurd sy.symm (u1 y h2)
      ·rw[e2] at sy;exact absurd sy (u1 x h1)
      ·exact ih u2 x h1 y h2 sy
    exact key (K5 k) q hq r hr (e1.trans e)
   rw[<-this];exact e2
  ·obtain⟨a,ha,e⟩:=h3 r hr hm;have h4:=Nz h1 r.name
   have:Hj r.name al≠0:=fun z=>KE.1 z a ha e
   omega
def Bw (k:Int):List UInt8:=
 bif k==3 then [105,110,99,108,117,100,101] else bif k==4 then Ex.CU else bif k==5 then Ex.BP else bif k==6 then [99,111,109,109,101,110,116] else
 bif k==7 then [116,114,121] else bif k==8 then [97,116,116,101,109,112,116] else bif k==9 then [101,120,99,101,112,116] else bif k==10 then [99,104,111,111,115,101] else
 bif k==11 then [119,104,101,110] else bif k==12 then [111,116,104,101,114,119,105,115,101] else [118,97,114,115]
def DG (a:Go.Ai.Ak):Ex.Ak:=⟨a.name,a.value,0⟩
def Ou (k:Int)(al:List Go.Ai.Ak):Ex.Tok:=⟨2,Bw k,al.map DG,[],0,0⟩
def SP (k:Int):Ex.Tok:=⟨4,Bw k,[],[],0,0⟩
def OL :Ex.Tok:=⟨6,[],[],Ex.BS,0,0⟩
def OW :Ex.Tok:=⟨5,[],[],[],0,0⟩
def lb (t:List UInt8):Ex.Tok:=⟨1,[],[],t,0,0⟩
mutual
def Gn :Nd->List Ex.Tok
 |.mk k _ t al ks=>
  bif k==2 then [lb t] else
  bif k==3||k==6 then [⟨3,Bw k,al.map DG,[],0,0⟩] else
  bif k==4||k==5 then [Ou k al,⟨7,[],[],t,0,0⟩,SP k] else
  bif k==14 then OW::(BR ks++[OL]) else Ou k al::(BR ks++[SP k])
def BR :List Nd->List Ex.Tok
 |[]=>[]
 |n::r=>Gn n++BR r
end
theorem Pw :∀a b:List Nd,BR (a++b)=BR a++BR b
 |[],b=>rfl
 |n::r,b=>by rw[List.cons_append,BR,BR,Pw r b,List.append_assoc]
def LZ (k:Int):Prop:=3<=k/\k<=13
theorem Kd {k:Int}(h:LZ k):k=3\/k=4\/k=5\/k=6\/k=7\/k=8\/k=9\/k=10\/k=11\/k=12\/k=13:=by
 obtain⟨h1,h2⟩:=h;omega
theorem Ix {k:Int}(h:LZ k):Ex.CX (Bw k)=true:=by
 rcases Kd h with rfl|rfl|rfl|rfl|rfl|rfl|rfl|rfl|rfl|rfl|rfl<;>decide
theorem VE {k:Int}(h:LZ k):(Bq (Bw k)).kind=k:=by
 rcases Kd h with rfl|rfl|rfl|rfl|rfl|rfl|rfl|rfl|rfl|rfl|rfl<;>decide
theorem gF {k:Int}(h:LZ k)(h4:¬k=4)(h5:¬k=5):¬(Bw k=Ex.BP\/Bw k=Ex.CU):=by
 rcases Kd h with rfl|rfl|rfl|rfl|rfl|rfl|rfl|rfl|rfl|rfl|rfl<;>first|exact absurd rfl h4|exact absurd rfl h5|decide
theorem ET {x:List UInt8}:∀{s:List UInt8},An s x=true↔∃j,j<=s.length/\x.isPrefixOf (s.drop j)=true
 |[]=>by
  simp only[An];constructor
  ·intro h
   refine⟨0,by simp,?_⟩
   cases x with
   |nil=>rfl
   |cons=>cases h
  ·rintro⟨j,hj,h⟩
   cases x with
   |nil=>rfl
   |cons=>simp at h
 |c::r=>by
  simp only[An,Bool.or_eq_true];rw[ET (s:=r)];constructor
  ·rintro(h|⟨j,hj,h⟩)
   ·exact⟨0,by simp,h⟩
   ·exact⟨j+1,by simp;omega,by simpa using h⟩
  ·rintro⟨j,hj,h⟩
   cases j with
   |zero=>exact .inl h
   |succ j=>exact .inr ⟨j,by simpa using hj,by simpa using h⟩
theorem KD {s x:List UInt8}(h:An s x=false)(j:Nat)(hj:j<=s.length):x.isPrefixOf (s.drop j)=false:=by
 rw[Bool.eq_false_iff] at h⊢
 exact fun e=>h (ET.2 ⟨j,hj,e⟩)
theorem Tb {s:List UInt8}{c:UInt8}:An s [c]=true↔c∈s:=by
 rw[ET];constructor
 ·rintro⟨j,hj,h⟩
  obtain⟨z,hz⟩:=List.isPrefixOf_iff_prefix.1 h
  exact List.mem_of_mem_drop (i:=j) (by rw[<-hz];simp)
 ·intro h;obtain⟨a,b,rfl⟩:=List.append_of_mem h
  exact⟨a.length,by simp,by simp[List.isPrefixOf]⟩
theorem aP {x y r:List UInt8}:(x++y).isPrefixOf r=true↔x.isPrefixOf r=true/\y.isPrefixOf (r.drop x.length)=true:=by
 rw[List.isPrefixOf_iff_prefix,List.isPrefixOf_iff_prefix,List.isPrefixOf_iff_prefix];constructor
 ·rintro⟨z,rfl⟩
  exact⟨⟨y++z,by simp⟩,⟨z,by simp⟩⟩
 ·rintro⟨⟨z,rfl⟩,⟨w,hw⟩⟩
  refine⟨w,?_⟩;rw[List.drop_left' rfl] at hw;rw[<-hw,List.append_assoc]
theorem bx {t:List UInt8}{hid:Bool}(h:Dx 2 t hid=true):t≠[]/\∀j,j<t.length->Ex.GX (t.drop j) hid=false:=by
 unfold Dx at h;simp only[beq_self_eq_true,cond_true,Bool.and_eq_true,Bool.not_eq_true',beq_eq_false_iff_ne] at h;obtain⟨⟨h1,h2⟩,h3⟩:=h
 refine⟨h1,fun j hj=> ?_⟩
 unfold Hn at h2;simp only[Bool.or_eq_false_iff] at h2;obtain⟨⟨a1,a2⟩,a3⟩:=h2
 refine Ex.IP.2 ⟨KD a1 j (by omega),KD a2 j (by omega),?_,?_⟩
 ·cases he:Ex.Cf.isPrefixOf (t.drop j) with
  |false=>rfl
  |true=>
   simp only[Bool.true_and]
   cases hd:(t.drop j).drop 7 with
   |nil=>rfl
   |cons c q=>
    simp only
    cases hb:Ex.blB c with
    |false=>rfl
    |true=>
     exfalso
     have key:∀b:List UInt8,b∈Fk->b=[c]->False:=fun b HD e=>by
      have:=List.any_eq_false.1 a3 b HD;apply this;rw[ET]
      refine⟨j,by omega,aP.2 ⟨he,?_⟩⟩
      show b.isPrefixOf ((t.drop j).drop 7)=true;rw[hd,e];simp[List.isPrefixOf]
     unfold Ex.blB at hb;simp only[Bool.or_eq_true,beq_iff_eq] at hb
     rcases hb with ((rfl|rfl)|rfl)|rfl
     ·exact key [32] (by decide) rfl
     ·exact key [9] (by decide) rfl
     ·exact key [10] (by decide) rfl
     ·exact key [13] (by decide) rfl
 ·cases hid with
  |false=>simp
  |true=>
   simp only[Bool.true_and] at h3;rw[Bool.and_true]
   exact KD h3 j (by omega)
theorem cG {t:List UInt8}{hid:Bool}(h0:t≠[])(h:∀j,j<t.length->Ex.GX (t.drop j) hid=false):Dx 2 t hid=true:=by
 have up:∀x:List UInt8,x≠[]->(∀j,j<t.length->x.isPrefixOf (t.drop j)=false)->An t x=false:=fun x hx hh=>by
  rw[Bool.eq_false_iff];intro e;obtain⟨j,hj,e⟩:=ET.1 e
  rcases Nat.lt_or_ge j t.length with h|h
  ·rw[hh j h] at e;cases e
  ·rw[List.drop_of_length_le h] at e
   cases x with
   |nil=>exact hx rfl
   |cons=>simp at e
 have hs:=fun j hj=>Ex.IP.1 (h j hj)
 unfold Dx;simp only[beq_self_eq_true,cond_true,Bool.and_eq_true,Bool.not_eq_true',beq_eq_false_iff_ne];refine⟨⟨h0,?_⟩,?_⟩
 ·unfold Hn;simp only[Bool.or_eq_false_iff]
  refine⟨⟨up _ (by decide) fun j hj=>(hs j hj).1,up _ (by decide) fun j hj=>(hs j hj).2.1⟩,?_⟩
  rw[List.any_eq_false];intro b hb;rw[Bool.not_eq_true]
  refine up _ (by simp[Ko]) fun j hj=> ?_
  have h3:=(hs j hj).2.2.1;rw[Bool.eq_false_iff];intro e;obtain⟨e1,e2⟩:=aP.1 e;have pN:Ex.Cf.isPrefixOf (t.drop j)=true:=e1;rw[pN] at h3;simp only[Bool.true_and] at h3;have pM:b.isPrefixOf ((t.drop j).drop 7)=true:=e2
  have HD:∃c,b=[c]/\Ex.blB c=true:=by
   simp only[Fk,List.mem_cons,List.not_mem_nil,or_false] at hb
   rcases hb with rfl|rfl|rfl|rfl<;>exact⟨_,rfl,by decide⟩
  obtain⟨c,rfl,hc⟩:=HD
  cases hd:(t.drop j).drop 7 with
  |nil=>rw[hd] at pM;simp at pM
  |cons d q=>
   rw[hd] at pM h3;simp only[List.isPrefixOf,Bool.and_true,beq_iff_eq] at pM;simp only[<-pM,hc] at h3;cases h3
 ·cases hid with
  |false=>rfl
  |true=>
   rw[Bool.true_and]
   refine up _ (by decide) fun j hj=> ?_
   have:=(hs j hj).2.2.2
   rwa [Bool.and_true] at this
theorem Uz {x t:List UInt8}(hx:∀k,1<=k->k<x.length->(x.drop k).head?≠some 60)(zP:x.head? =some 60)(h:An t x=false):Ex.Cx x (t++x)=some t.length:=by
 refine Ex.RN (by rw[List.drop_left' rfl];exact List.isPrefixOf_iff_prefix.2 (List.prefix_refl x)) (fun j hj=> ?_) (by simp)
 rw[Bool.eq_false_iff];intro e
 rw[List.drop_append_of_le_length (by omega)] at e
 rcases Ex.So e with e|⟨y,hy,e1,e2⟩
 ·have:=KD h j (by omega)
  rw[e] at this;cases this
 ·obtain⟨z,hz⟩:=List.isPrefixOf_iff_prefix.1 e2;have hl:=congrArg List.length e1;rw[List.length_append,List.length_drop] at hl;have eC:=List.length_pos_iff.2 hy
  have hd:x.drop (t.length-j)=y:=by
   rw[e1,List.drop_left' (by rw[List.length_drop])]
  have:=hx (t.length-j) (by omega) (by omega)
  rw[hd] at this;apply this
  cases y with
  |nil=>exact absurd rfl hy
  |cons c y=>
   cases x with
   |nil=>simp at zP
   |cons d x=>
    simp only[List.cons_append,List.cons.injEq] at hz;rw[hz.1];exact zP
theorem de {x t:List UInt8}(h:An t x=false)(hx:x≠[]):Ex.Cx x t=none:=by
 cases hf:Ex.Cx x t with
 |none=>rfl
 |some n=>
  have h1:=(Ex.Nq hf).1;have h2:=Ex.I9 hf
  rw[KD h n (by omega)] at h1
  cases h1
theorem Hy {k:Int}{t:List UInt8}{al:List Go.Ai.Ak}{len:Nat}{d:Int}{hid:Bool}{b:Int}:Gt k t al len d hid b=0↔
  ¬(k=14/\hid=true)/\(k=2\/d<=16)/\Ca (BI k) al 0=true/\Dx k t hid=true/\¬(k=2/\b=2)/\(Fx k=true->len=0)/\(k=7->len=2)/\(k=10->len≠0):=by
 unfold Gt;cases h1:(k==14&&hid)
 case true=>
  simp only[Bool.and_eq_true,beq_iff_eq] at h1;simp only[cond_true]
  exact⟨fun h=>(by cases h),fun h=>absurd h1 h.1⟩
 simp only[cond_false]
 have Ll:¬(k=14/\hid=true):=by
  intro⟨e1,e2⟩;rw[e1,e2] at h1;cases h1
 cases h2:(!(k==2)&&decide (16<d))
 case true=>
  simp only[Bool.and_eq_true,Bool.not_eq_true',beq_eq_false_iff_ne,decide_eq_true_eq] at h2;simp only[cond_true]
  exact⟨fun h=>(by cases h),fun h=>(by rcases h.2.1 with e|e;exact absurd e h2.1;omega)⟩
 simp only[cond_false]
 have xy:k=2\/d<=16:=by
  apply Classical.byContradiction;intro hn;simp only[not_or,Int.not_le] at hn
  rw[beq_eq_false_iff_ne.2 hn.1,decide_eq_true (by omega)] at h2
  cases h2
 cases h3:Ca (BI k) al 0
 case false=>
  simp only[Bool.not_false,cond_true]
  exact⟨fun h=>(by cases h),fun h=>(by cases h.2.2.1)⟩
 simp only[Bool.not_true,cond_false];cases h4:(!Dx k t hid||(k==2&&b==2))
 case true=>
  simp only[cond_true]
  refine⟨fun h=>(by cases h),fun h=> ?_⟩
  simp only[Bool.or_eq_true,Bool.not_eq_true',Bool.and_eq_true,beq_iff_eq] at h4
  rcases h4 with e|e
  ·rw[h.2.2.2.1] at e;cases e
  ·exact absurd e h.2.2.2.2.1
 simp only[cond_false];simp only[Bool.or_eq_false_iff,Bool.not_eq_false',Bool.and_eq_false_iff,beq_eq_false_iff_ne] at h4
 have h4':¬(k=2/\b=2):=fun e=>by rcases h4.2 with h|h;exact h e.1;exact h e.2
 cases h5:((Fx k&&decide (0<len))||(k==7&& !(len==2))||(k==10&&len==0))
 case true=>
  simp only[cond_true]
  refine⟨fun h=>(by cases h),fun h=> ?_⟩
  simp only[Bool.or_eq_true,Bool.and_eq_true,decide_eq_true_eq,Bool.not_eq_true',beq_eq_false_iff_ne,beq_iff_eq] at h5;obtain⟨_,_,_,_,_,a1,a2,a3⟩:=h
  rcases h5 with (e|e)|e
  ·have:=a1 e.1;omega
  ·exact absurd (a2 e.1) e.2
  ·exact absurd e.2 (a3 e.1)
 simp only[cond_false,true_iff];simp only[Bool.or_eq_false_iff,Bool.and_eq_false_iff,decide_eq_false_iff_not,Bool.not_eq_false',beq_iff_eq,beq_eq_false_iff_ne] at h5;obtain⟨⟨b1,b2⟩,b3⟩:=h5
 refine⟨Ll,xy,trivial,h4.1,h4',fun e=> ?_,fun e=> ?_,fun e=> ?_⟩
 ·rcases b1 with h|h
  ·rw[e] at h;cases h
  ·omega
 ·rcases b2 with h|h
  ·exact absurd e h
  ·exact h
 ·rcases b3 with h|h
  ·exact absurd e h
  ·exact h
theorem cJ {k:Int}{r:K2}(h:r∈BI k):r.name≠[]/\r.name.length<=16/\∀c∈r.name,Ex.OK c=true:=by
 unfold BI at h
 cases h3:k==3<;>rw[h3] at h<;>simp only[cond_true,cond_false] at h
 ·cases h4:k==4<;>rw[h4] at h<;>simp only[cond_true,cond_false] at h
  ·cases h6:k==6<;>rw[h6] at h<;>simp only[cond_true,cond_false] at h
   ·cases sv:k==11<;>rw[sv] at h<;>simp only[cond_true,cond_false,List.mem_cons,List.not_mem_nil,or_false] at h
    subst h;decide
   ·simp only[List.mem_cons,List.not_mem_nil,or_false] at h;subst h;decide
  ·simp only[List.mem_cons,List.not_mem_nil,or_false] at h
   rcases h with rfl|rfl<;>decide
 ·simp only[List.mem_cons,List.not_mem_nil,or_false] at h
  rcases h with rfl|rfl|rfl<;>decide
theorem Ss :∀(al:List Go.Ai.Ak) (seen:List Ex.Ak),NZ al->(∀a∈al,Ex.Su (DG a))->(∀b∈seen,∀a∈al,a.name≠b.name)->Ex.FX seen (al.map DG)
 |[],_,_,_,_=>trivial
 |a::al,seen,h1,h2,h3=>by
  refine⟨h2 a (by simp),fun b hb=>h3 b hb a (by simp),Ss al _ h1.2 (fun b hb=>h2 b (List.mem_cons_of_mem _ hb)) fun b hb c hc=> ?_⟩
  rcases List.mem_append.1 hb with hb|hb
  ·exact h3 b hb c (List.mem_cons_of_mem _ hc)
  ·rw[List.mem_singleton.1 hb];exact h1.1 c hc
theorem Jp {k:Int}{al:List Go.Ai.Ak}(h:Ca (BI k) al 0=true):Ex.FX [] (al.map DG):=by
 obtain⟨h1,h2,h3⟩:=MM.1 h
 refine Ss al [] h1 (fun a ha=> ?_) fun b hb=>by cases hb
 obtain⟨r,hr,e,_,hq⟩:=h2 a ha;obtain⟨k1,k2,k3⟩:=cJ hr;rw[e] at k1 k2 k3
 refine⟨k1,k2,k3,fun⟨q1,q2⟩=> ?_⟩
 unfold LN at hq;have q1:34∈a.value:=q1;have q2:39∈a.value:=q2;rw[Tb.2 q1,Tb.2 q2] at hq;cases hq
theorem J6 {p k i n:Int}(h:J7 p k i n=true):k=2\/k=14\/LZ k:=by
 have hk:2<=k/\k<=14:=by
  unfold J7 at h
  cases h7:p==7<;>rw[h7] at h<;>simp only[cond_true,cond_false] at h
  ·cases RJ:p==10<;>rw[RJ] at h<;>simp only[cond_true,cond_false] at h
   ·unfold KC at h;rw[List.any_eq_true] at h;obtain⟨x,hx,e⟩:=h
    have e:k=x:=by simpa using e
    subst e;simp only[Yw,List.mem_cons,List.not_mem_nil,or_false] at hx;omega
   ·simp only[Bool.or_eq_true,Bool.and_eq_true,beq_iff_eq] at h;omega
  ·simp only[Bool.and_eq_true,beq_iff_eq] at h;obtain⟨h,_⟩:=h
   split at h<;>omega
 unfold LZ;omega
theorem dL {n:Nd}(h:n.kind≠2)(x:List Ex.Tok):∀u q,Gn n++x=u::q->u.kind≠1:=by
 obtain⟨k,p,t,al,ks⟩:=n;have h2:(k==2)=false:=beq_eq_false_iff_ne.2 h;intro u q e;rw[Gn,h2] at e;simp only[cond_false] at e
 cases TM:k==3||k==6<;>rw[TM] at e<;>simp only[cond_true,cond_false] at e
 ·cases Mv:k==4||k==5<;>rw[Mv] at e<;>simp only[cond_true,cond_false] at e
  ·cases SL:k==14<;>rw[SL] at e<;>simp only[cond_true,cond_false] at e
   ·injection e with e _;rw[<-e];show¬_=(1:Int);simp[Ou,SP,OL,OW]
   ·injection e with e _;rw[<-e];show¬_=(1:Int);simp[Ou,SP,OL,OW]
  ·injection e with e _;rw[<-e];show¬_=(1:Int);simp[Ou,SP,OL,OW]
 ·injection e with e _;rw[<-e];show¬_=(1:Int);simp[Ou,SP,OL,OW]
theorem mn {k:Int}{t:List UInt8}{hid:Bool}(h:Dx k t hid=true)(hk:k=4\/k=5):An t (Ex.Ab++Bw k)=false/\(k=5->An t Ex.Al=false):=by
 unfold Dx at h
 rcases hk with rfl|rfl
 ·have h:(!An t kb)=true:=h;rw[Bool.not_eq_true'] at h
  exact⟨h,fun e=>by cases e⟩
 ·have h:(!An t cM&& !An t XN)=true:=h;rw[Bool.and_eq_true,Bool.not_eq_true',Bool.not_eq_true'] at h
  exact⟨h.1,fun _=>h.2⟩
theorem ka {k:Int}(hk:k=4\/k=5):(∀j,1<=j->j<(Ex.Ab++Bw k).length->((Ex.Ab++Bw k).drop j).head?≠some 60)/\(Ex.Ab++Bw k).head? =some 60:=by
 have key:∀x:List UInt8,(∀k:Fin 20,(k.val=0\/x.length<=k.val)\/(x.drop k.val).head?≠some 60)->x.length<=20->∀k,1<=k->k<x.length->(x.drop k).head?≠some 60:=fun x h hl k h1 h2=>by
  rcases h ⟨k,by omega⟩ with h|h
  ·simp only at h;omega
  ·exact h
 rcases hk with rfl|rfl
 ·exact⟨key _ (by decide) (by decide),by decide⟩
 ·exact⟨key _ (by decide) (by decide),by decide⟩
theorem Cy {p n:Int}{c:Nd}{r:List Nd}{i d:Int}{hid:Bool}{b:Int}:Il p n (c::r) i d hid b=0↔J7 p c.kind i n=true/\c.Mj d hid b=0/\Il p n r (i+1) d hid c.kind=0:=by
 rw[Il]
 cases J7 p c.kind i n with
 |false=>simp
 |true=>
  simp only[Bool.not_true,cond_false,true_and]
  cases h:c.Mj d hid b==0 with
  |true=>(simp only[cond_true];have:c.Mj d hid b=0:=by simpa using h);simp[this]
  |false=>(simp only[cond_false];have:¬c.Mj d hid b=0:=by simpa using h);simp[this]
theorem Gl {k p:Int}{t:List UInt8}{al:List Go.Ai.Ak}{ks:List Nd}{d:Int}{hid:Bool}{b:Int}:(Nd.mk k p t al ks).Mj d hid b=0↔Gt k t al ks.length d hid b=0/\Il k (ks.length:Nat) ks 0 (d+1) (hid||k==14) 0=0:=by
 rw[Nd.Mj]
 cases h:Gt k t al ks.length d hid b==0 with
 |true=>(simp only[cond_true];have:Gt k t al ks.length d hid b=0:=by simpa using h);simp[this]
 |false=>(simp only[cond_false];have:¬Gt k t al ks.length d hid b=0:=by simpa using h);simp[this]
mutual
theorem zo :∀(n:Nd) (d:Int) (hid:Bool) (b:Int) (rest:List Ex.Tok),n.Mj d hid b=0->(n.kind=2\/n.kind=14\/LZ n.kind)->Ex.VG hid rest->(n.kind=2->∀u q,rest=u::q->u.kind≠1)->Ex.VG hid (Gn n++rest)
 |.mk k p t al ks,d,hid,b,rest,hc,hk,hv,hn=>by
  have hk:k=2\/k=14\/LZ k:=hk;have hn:k=2->∀u q,rest=u::q->u.kind≠1:=hn;obtain⟨hf,hs⟩:=Gl.1 hc;obtain⟨f1,f2,f3,f4,f5,f6,f7,f8⟩:=Hy.1 hf;rw[Gn]
  by_cases h2:k=2
  ·rw[h2] at f4;obtain⟨t1,t2⟩:=bx f4;rw[h2];exact .text rfl rfl rfl t1 t2 (hn h2) hv
  rw[beq_eq_false_iff_ne.2 h2];simp only[cond_false]
  cases TM:k==3||k==6 with
  |true=>
   simp only[cond_true]
   have he:LZ k:=by
    simp only[Bool.or_eq_true,beq_iff_eq] at TM;unfold LZ;omega
   exact .tag (.inl rfl) (Ix he) (Jp f3) hv
  |false=>
   simp only[cond_false];simp only[Bool.or_eq_false_iff,beq_eq_false_iff_ne] at TM
   cases Mv:k==4||k==5 with
   |true=>
    simp only[cond_true];simp only[Bool.or_eq_true,beq_iff_eq] at Mv
    have he:LZ k:=by unfold LZ;omega
    obtain⟨a1,a2⟩:=ka Mv;obtain⟨b1,b2⟩:=mn f4 Mv
    refine .own rfl ?_ (Jp f3) rfl rfl rfl rfl rfl (Uz a1 a2 b1) (fun e=> ?_) (.close rfl rfl (Ix he) hv)
    ·show Bw k=_\/Bw k=_
     rcases Mv with rfl|rfl
     ·exact .inr rfl
     ·exact .inl rfl
    ·refine de (b2 ?_) (by decide)
     rcases Mv with rfl|rfl
     ·exact absurd (show Ex.CU=Ex.BP from e) (by decide)
     ·rfl
   |false=>
    simp only[cond_false];simp only[Bool.or_eq_false_iff,beq_eq_false_iff_ne] at Mv
    cases SL:k==14 with
    |true=>
     have bU:k=14:=by simpa using SL
     simp only[cond_true]
     have hh:hid=false:=by
      cases hid with
      |false=>rfl
      |true=>exact absurd ⟨bU,rfl⟩ f1
     subst hh;rw[List.cons_append,List.append_assoc];rw[SL] at hs
     exact .Us rfl rfl rfl (jt ks _ _ _ _ _ _ _ hs (.shown rfl rfl rfl rfl hv) fun u q e=>by injection e with e _;rw[<-e];show¬_=(1:Int);simp[Ou,SP,OL,OW])
    |false=>
     have bU:¬k=14:=by simpa using SL
     simp only[cond_false]
     have he:LZ k:=by rcases hk with e|e|e;exact absurd e h2;exact absurd e bU;exact e
     rw[List.cons_append,List.append_assoc];rw[SL,Bool.or_false] at hs
     have ho:Ex.D7 (Ou k al)=false:=by
      unfold Ex.D7;have:=gF he Mv.1 Mv.2;rw[not_or] at this;show((2:Int)==2&&(Bw k==_||Bw k==_))=false;rw[beq_eq_false_iff_ne.2 this.1,beq_eq_false_iff_ne.2 this.2];rfl
     exact .tag (.inr ⟨rfl,ho⟩) (Ix he) (Jp f3) (jt ks _ _ _ _ _ _ _ hs (.close rfl rfl (Ix he) hv) fun u q e=>by injection e with e _;rw[<-e];show¬_=(1:Int);simp[Ou,SP,OL,OW])
theorem jt :∀(ks:List Nd) (p n i d:Int) (hid:Bool) (b:Int) (rest:List Ex.Tok),Il p n ks i d hid b=0->Ex.VG hid rest->(∀u q,rest=u::q->u.kind≠1)->Ex.VG hid (BR ks++rest)
 |[],_,_,_,_,_,_,_,_,hv,_=>hv
 |c::r,p,n,i,d,hid,b,rest,hc,hv,hn=>by
  obtain⟨h1,h2,h3⟩:=Cy.1 hc;rw[BR,List.append_assoc]
  refine zo c d hid b _ h2 (J6 h1) (jt r _ _ _ _ _ _ _ h3 hv hn) fun e=> ?_
  cases r with
  |nil=>exact hn
  |cons c' r'=>
   obtain⟨_,h4,_⟩:=Cy.1 h3;rw[BR,List.append_assoc]
   refine dL (fun e'=> ?_) _
   obtain⟨k',p',t',yS,Um⟩:=c';have:=(Hy.1 (Gl.1 h4).1).2.2.2.2.1;exact this ⟨e',e⟩
end
theorem Tu {n:Nd}(h:n.Hi=0):n.kind=1/\Ex.VG false (BR n.kids):=by
 unfold Nd.Hi at h
 cases h1:n.kind==1 with
 |false=>rw[h1] at h;cases h
 |true=>
  rw[h1] at h;obtain⟨k,p,t,al,ks⟩:=n;have e1:k=1:=eq_of_beq h1;refine⟨e1,?_⟩;obtain⟨_,hs⟩:=(Gl (p:=p)).1 h
  have:=jt ks _ _ _ _ _ _ [] hs (by rw[e1];exact .nil) fun u q e=>by cases e
  rw[List.append_nil,e1] at this;exact this
def S8 (b:Int)(l:List Nd):Int:=match l.getLast? with
 |some n=>n.kind
 |none=>b
theorem Yu (b:Int)(x:Nd)(l:List Nd):S8 b (x::l)=S8 x.kind l:=by
 cases l with
 |nil=>rfl
 |cons y l=>
  unfold S8;rw[List.getLast?_cons_cons]
  cases h:(y::l).getLast? with
  |none=>simp at h
  |some z=>rfl
theorem Iy (l:List Nd)(k:Nd):BA (l++[k])=k.kind:=by simp[BA]
theorem Tc {p n:Int}{k:Nd}{d:Int}{hid:Bool}:∀(a:List Nd) (i b:Int),Il p n (a++[k]) i d hid b=0↔Il p n a i d hid b=0/\J7 p k.kind (i+a.length) n=true/\k.Mj d hid (S8 b a)=0
 |[],i,b=>by
  rw[List.nil_append,Cy];simp[Il,S8]
 |x::a,i,b=>by
  rw[List.cons_append,Cy,Cy,Tc a (i+1) x.kind,Yu];simp only[List.length_cons]
  rw[show i+1+(a.length:Int)=i+((a.length+1:Nat):Int) by omega]
  constructor
  ·rintro⟨h1,h2,h3,h4,h5⟩
   exact⟨⟨h1,h2,h3⟩,h4,h5⟩
  ·rintro⟨⟨h1,h2,h3⟩,h4,h5⟩
   exact⟨h1,h2,h3,h4,h5⟩
inductive mY (p d:Int) (hid:Bool):List Nd->Prop
 |nil:mY p d hid []
 |snoc {ks:List Nd} {k:Nd}:mY p d hid ks->CW p (BA ks) k.kind=true->2<=k.kind->k.kind<=14->k.Mj d hid (BA ks)=0->mY p d hid (ks++[k])
theorem gH {l x:Int}:CW 7 l x=true↔(x=8/\l=0)\/(x=9/\l=8):=by
 simp[CW]
theorem gI {l x:Int}:CW 10 l x=true↔(x=11/\l≠12)\/(x=12/\l=11):=by
 simp[CW]
theorem nq {p l x:Int}(h7:p≠7)(RJ:p≠10):CW p l x=true↔x≠8/\x≠9/\x≠11/\x≠12:=by
 have e1:(p==7)=false:=by simpa using h7
 have e2:(p==10)=false:=by simpa using RJ
 unfold CW;rw[e1,e2];simp;omega
theorem Zi {k:Int}(h1:2<=k)(h2:k<=14)(h3:k≠8/\k≠9/\k≠11/\k≠12):KC k=true:=by
 have:k=2\/k=3\/k=4\/k=5\/k=6\/k=7\/k=10\/k=13\/k=14:=by omega
 rcases this with rfl|rfl|rfl|rfl|rfl|rfl|rfl|rfl|rfl<;>rfl
theorem aw {p d:Int}{hid:Bool}{ks:List Nd}(h:mY p d hid ks):
  (BA ks=0->ks=[])/\(p=7->BA ks=8->ks.length=1)/\(p=7->BA ks=9->ks.length=2)/\(∀n:Int,n=ks.length\/BA ks≠12\/p≠10->Il p n ks 0 d hid 0=0):=by
 induction h with
 |nil=>exact⟨fun _=>rfl,fun _ h=>by simp[BA] at h,fun _ h=>by simp[BA] at h,fun _ _=>rfl⟩
 | @snoc ks k hk hm h2 SL hc ih=>
  obtain⟨i1,i2,i3,i4⟩:=ih;rw[Iy]
  refine⟨fun h=>by omega,fun hp h=> ?_,fun hp h=> ?_,fun n hn=> ?_⟩
  ·subst hp
   rcases gH.1 hm with ⟨a1,a2⟩|⟨a1,a2⟩
   ·rw[i1 a2];rfl
   ·omega
  ·subst hp
   rcases gH.1 hm with ⟨a1,a2⟩|⟨a1,a2⟩
   ·omega
   ·rw[List.length_append,i2 rfl a2];rfl
  ·rw[Tc];have hL:S8 0 ks=BA ks:=rfl;rw[hL];simp only[List.length_append,List.length_cons,List.length_nil] at hn
   by_cases h7:p=7
   ·subst h7
    refine⟨i4 n (.inr (.inr (by decide))),?_,hc⟩
    rcases gH.1 hm with ⟨a1,a2⟩|⟨a1,a2⟩
    ·rw[a1,i1 a2];rfl
    ·rw[a1,i2 rfl a2];rfl
   ·by_cases RJ:p=10
    ·subst RJ
     rcases gI.1 hm with ⟨a1,a2⟩|⟨a1,a2⟩
     ·refine⟨i4 n (.inr (.inl a2)),?_,hc⟩;rw[a1];rfl
     ·refine⟨i4 n (.inr (.inl (by omega))),?_,hc⟩
      have BM:0<ks.length:=by
       cases ks with
       |nil=>simp[BA] at a2
       |cons _ _=>simp
      have sT:n=(ks.length:Int)+1:=by
       rcases hn with h|h|h
       ·omega
       ·exact absurd a1 h
       ·exact absurd rfl h
      rw[a1];have e:J7 10 12 (0+(ks.length:Int)) n=(decide (0<0+(ks.length:Int))&&(0+(ks.length:Int))==n-1):=rfl
      rw[e,decide_eq_true (by omega),sT]
      simp
    ·refine⟨i4 n (.inr (.inr RJ)),?_,hc⟩
     have e1:(p==7)=false:=by simpa using h7
     have e2:(p==10)=false:=by simpa using RJ
     unfold J7;rw[e1,e2];exact Zi h2 SL ((nq h7 RJ).1 hm)
theorem Wp {p d:Int}{hid:Bool}{ks:List Nd}(h:mY p d hid ks):Il p ks.length ks 0 d hid 0=0:=(aw h).2.2.2 _ (.inl rfl)
theorem WQ :∀(l seen:List Ex.Ak),Ex.FX seen l->NZ (l.map JU)/\(∀a∈l,∀b∈seen,a.name≠b.name)/\∀a∈l,Ex.Su a
 |[],_,_=>⟨trivial,fun a ha=>(by cases ha),fun a ha=>(by cases ha)⟩
 |a::r,seen,h=>by
  obtain⟨h1,h2,h3⟩:=WQ r (seen++[a]) h.2.2
  refine⟨⟨fun b hb=> ?_,h1⟩,fun c hc b hb=> ?_,fun c hc=> ?_⟩
  ·obtain⟨c,hc,rfl⟩:=List.mem_map.1 hb
   exact h2 c hc a (by simp)
  ·rcases List.mem_cons.1 hc with rfl|hc
   ·exact h.2.1 b hb
   ·exact h2 c hc b (by simp[hb])
  ·rcases List.mem_cons.1 hc with rfl|hc
   ·exact h.1
   ·exact h3 c hc
theorem nQ {v:List UInt8}(h:¬(34∈v/\39∈v)):LN v=false:=by
 have key:∀(c:UInt8) (v:List UInt8),An v [c]=true->c∈v:=fun c v hv=>by
  obtain⟨j,hj,hp⟩:=ET.1 hv
  cases hd:v.drop j with
  |nil=>rw[hd] at hp;cases hp
  |cons x r=>
   rw[hd] at hp;simp only[List.isPrefixOf,Bool.and_true,beq_iff_eq] at hp
   have:x∈v.drop j:=by rw[hd];exact List.mem_cons_self ..
   rw[hp];exact List.mem_of_mem_drop this
 unfold LN
 cases h1:An v [34] with
 |false=>rfl
 |true=>
  cases h2:An v [39] with
  |false=>rfl
  |true=>exact absurd ⟨key _ _ h1,key _ _ h2⟩ h
def zS (x:El):Prop:=(∀nm v:List UInt8,x.names.any (·==nm)=true->Mx nm v=true->∃r∈BI x.kind,r.name=nm/\r.may.ok v=true)/\∀r∈BI x.kind,r.Ci=true->r.name∈x.names.take x.Ci
theorem pK (s:List UInt8):zS (Bq s):=by
 unfold Bq
 cases s==[105,110,99,108,117,100,101] with
 |true=>
  refine⟨fun nm v h1 h2=> ?_,fun r hr hm=> ?_⟩
  ·simp only[cond_true,List.any_cons,List.any_nil,Bool.or_false,Bool.or_eq_true,beq_iff_eq] at h1
   rcases h1 with rfl|rfl|rfl
   ·exact⟨Cm,List.Mem.head _,rfl,h2⟩
   ·exact⟨CV,List.Mem.tail _ (List.Mem.head _),rfl,h2⟩
   ·refine⟨Bx,List.Mem.tail _ (List.Mem.tail _ (List.Mem.head _)),rfl,?_⟩;have h3:(v==[99,111,110,116,105,110,117,101])=true:=h2;simp only[Bx,Xs.ok,List.any_cons,h3,Bool.true_or]
  ·have hr:r∈[Cm,CV,Bx]:=hr;simp only[List.mem_cons,List.not_mem_nil,or_false] at hr
   rcases hr with rfl|rfl|rfl
   ·exact List.Mem.head _
   ·cases hm
   ·cases hm
 |false=>
 simp only[cond_false]
 cases s==[105,110,108,105,110,101] with
 |true=>
  refine⟨fun nm v h1 h2=> ?_,fun r hr hm=> ?_⟩
  ·simp only[cond_true,List.any_cons,List.any_nil,Bool.or_false,Bool.or_eq_true,beq_iff_eq] at h1
   rcases h1 with rfl|rfl
   ·exact⟨Cl,List.Mem.head _,rfl,h2⟩
   ·refine⟨CI,List.Mem.tail _ (List.Mem.head _),rfl,?_⟩;have h3:(v==[121,101,115]||v==[110,111])=true:=h2;simp only[CI,Xs.ok,List.any_cons,List.any_nil,Bool.or_false];exact h3
  ·have hr:r∈[Cl,CI]:=hr;simp only[List.mem_cons,List.not_mem_nil,or_false] at hr
   rcases hr with rfl|rfl
   ·exact List.Mem.head _
   ·cases hm
 |false=>
 simp only[cond_false]
 have none:∀k:Int,BI k=[]->zS ⟨k,[],0⟩:=fun k hk=>⟨fun nm v h1=>(by cases h1),fun r hr=>(by have hr:r∈BI k:=hr;rw[hk] at hr;cases hr)⟩
 cases s==[114,101,109,111,118,101] with
 |true=>exact none 5 rfl
 |false=>
 simp only[cond_false]
 cases s==[99,111,109,109,101,110,116] with
 |true=>
  refine⟨fun nm v h1 h2=> ?_,fun r hr hm=> ?_⟩
  ·simp only[cond_true,List.any_cons,List.any_nil,Bool.or_false,beq_iff_eq] at h1;subst h1;exact⟨Dd,List.Mem.head _,rfl,rfl⟩
  ·have hr:r∈[Dd]:=hr;rw[List.mem_singleton.1 hr];exact List.Mem.head _
 |false=>
 simp only[cond_false]
 cases s==[116,114,121] with
 |true=>exact none 7 rfl
 |false=>
 simp only[cond_false]
 cases s==[97,116,116,101,109,112,116] with
 |true=>exact none 8 rfl
 |false=>
 simp only[cond_false]
 cases s==[101,120,99,101,112,116] with
 |true=>exact none 9 rfl
 |false=>
 simp only[cond_false]
 cases s==[99,104,111,111,115,101] with
 |true=>exact none 10 rfl
 |false=>
 simp only[cond_false]
 cases s==[119,104,101,110] with
 |true=>
  refine⟨fun nm v h1 h2=> ?_,fun r hr hm=> ?_⟩
  ·simp only[cond_true,List.any_cons,List.any_nil,Bool.or_false,beq_iff_eq] at h1;subst h1;exact⟨CA,List.Mem.head _,rfl,h2⟩
  ·have hr:r∈[CA]:=hr;rw[List.mem_singleton.1 hr];exact List.Mem.head _
 |false=>
 simp only[cond_false]
 cases s==[111,116,104,101,114,119,105,115,101] with
 |true=>exact none 12 rfl
 |false=>exact none 13 rfl
theorem ax {s:List UInt8}{l:List Ex.Ak}(h:G6 (Bq s) l=true)(ho:Ex.FX [] l):Ca (BI (Bq s).kind) (l.map JU) 0=true:=by
 obtain⟨r1,r2⟩:=pK s;obtain⟨n1,_,n3⟩:=WQ l [] ho;unfold G6 at h;rw[Bool.and_eq_true] at h;obtain⟨h1,h2⟩:=h;rw[List.all_eq_true] at h1 h2
 refine MM.2 ⟨n1,fun a ha=> ?_,fun r hr hm=> ?_⟩
 ·obtain⟨b,hb,rfl⟩:=List.mem_map.1 ha;have iZ:=h2 b hb;rw[Bool.and_eq_true] at iZ;obtain⟨r,hr,e1,e2⟩:=r1 b.name b.value iZ.1 iZ.2;exact⟨r,hr,e1,e2,nQ (n3 b hb).2.2.2⟩
 ·have h3:=h1 r.name (r2 r hr hm);obtain⟨b,hb,e⟩:=List.any_eq_true.1 h3;exact⟨JU b,List.mem_map.2 ⟨b,hb,rfl⟩,eq_of_beq e⟩
theorem SV {t:Ex.Tok}{n:Nd}{r:List Nd}{pl:Int}(hk:t.kind=1)(hs:(Aq t ⟨n::r,pl,0⟩).e=0):(Aq t ⟨n::r,pl,0⟩).rows=n::r\/(n.kind≠7/\n.kind≠10/\(Aq t ⟨n::r,pl,0⟩).rows=Dv n (.mk 2 t.fr t.text [] [])::r):=by
 have e1:Aq t ⟨n::r,pl,0⟩=EA t ⟨n::r,pl,0⟩:=by unfold Aq;rw[hk];rfl
 rw[e1] at hs⊢;unfold EA at hs⊢;simp only at hs⊢
 cases k2:n.kind==7||n.kind==10 with
 |true=>
  rw[k2] at hs;simp only[cond_true] at hs⊢
  cases k3:(Dm t.text).isEmpty with
  |true=>exact .inl rfl
  |false=>
   rw[k3] at hs
   exact absurd hs (Nt _ _ (by decide) _)
 |false=>
  simp only[Bool.or_eq_false_iff,beq_eq_false_iff_ne] at k2;exact .inr ⟨k2.1,k2.2,rfl⟩
theorem Mn {t:Ex.Tok}{n:Nd}{r:List Nd}{pl:Int}(hk:t.kind=2\/t.kind=3)(hs:(Aq t ⟨n::r,pl,0⟩).e=0):JQ (Bq t.name) t n r=true/\
  (Aq t ⟨n::r,pl,0⟩).rows=bif Bj (Bq t.name) then Dv n (.mk (Bq t.name).kind t.fr [] (t.attrs.map JU) [])::r else .mk (Bq t.name).kind t.fr [] (t.attrs.map JU) []::n::r:=by
 have e1:Aq t ⟨n::r,pl,0⟩=EV t ⟨n::r,pl,0⟩:=by unfold Aq;rcases hk with h|h<;>rw[h]<;>rfl
 rw[e1] at hs⊢;unfold EV at hs⊢;simp only at hs⊢;obtain⟨g1,g2⟩:=Zr (Bq t.name) t n r ⟨n::r,pl,0⟩ rfl
 have hb:JQ (Bq t.name) t n r=true:=by
  refine g1.1 ?_
  cases qJ:Bj (Bq t.name)<;>rw[qJ] at hs<;>exact hs
 refine⟨hb,?_⟩;rw[g2 hb]
 cases Bj (Bq t.name)<;>rfl
theorem TJ {t:Ex.Tok}{n:Nd}{r:List Nd}{pl:Int}(hk:t.kind=5)(hs:(Aq t ⟨n::r,pl,0⟩).e=0):CW n.kind (BA n.kids) 14=true/\r.length+1<=16/\(Aq t ⟨n::r,pl,0⟩).rows=.mk 14 t.fr [] [] []::n::r:=by
 have e1:Aq t ⟨n::r,pl,0⟩=Fa t ⟨n::r,pl,0⟩:=by unfold Aq;rw[hk];rfl
 rw[e1] at hs⊢;unfold Fa at hs⊢;simp only at hs⊢
 refine⟨?_,?_,by trivial⟩
 ·cases h1:CW n.kind (BA n.kids) 14 with
  |true=>rfl
  |false=>
   rw[h1] at hs;exfalso;simp only[Bool.not_false,cond_true] at hs;have e1:Fz t.fr 13 ⟨n::r,pl,0⟩=⟨n::r,t.fr,13⟩:=rfl;rw[e1] at hs
   cases h2:decide (16<r.length+1) with
   |true=>rw[h2] at hs;cases hs
   |false=>rw[h2] at hs;cases hs
 ·refine Nat.le_of_not_lt fun h=> ?_
  rw[decide_eq_true (show 16<r.length+1 from h)] at hs
  exact absurd hs (Nt _ _ (by decide) _)
theorem Md {t:Ex.Tok}{n:Nd}{r:List Nd}{pl:Int}(hk:t.kind=4\/t.kind=6)(hs:(Aq t ⟨n::r,pl,0⟩).e=0):Ee t n=false/\(Aq t ⟨n::r,pl,0⟩).rows=match r with
  |[]=>[n]
  |m::q=>Dv m n::q:=by
 have e1:Aq t ⟨n::r,pl,0⟩=En t ⟨n::r,pl,0⟩:=by unfold Aq;rcases hk with h|h<;>rw[h]<;>rfl
 rw[e1] at hs⊢;unfold En at hs⊢;simp only at hs⊢
 cases hb:Ee t n with
 |true=>
  rw[hb] at hs
  exact absurd hs (Nt _ _ (by decide) _)
 |false=>
  refine⟨rfl,?_⟩
  cases r<;>rfl
theorem QS {t:Ex.Tok}{n:Nd}{r:List Nd}{pl:Int}(hk:t.kind=7):Aq t ⟨n::r,pl,0⟩=⟨.mk n.kind n.pl t.text n.attrs n.kids::r,pl,0⟩:=by
 unfold Aq;rw[hk];rfl
theorem gh (s:List UInt8):((Bq s).kind=4->s=Ex.CU)/\((Bq s).kind=5->s=Ex.BP):=by
 unfold Bq
 cases s==[105,110,99,108,117,100,101] with
 |true=>exact⟨fun h=>(by cases h),fun h=>(by cases h)⟩
 |false=>
 simp only[cond_false]
 cases h:s==[105,110,108,105,110,101] with
 |true=>exact⟨fun _=>eq_of_beq h,fun h=>(by cases h)⟩
 |false=>
 simp only[cond_false]
 cases h:s==[114,101,109,111,118,101] with
 |true=>exact⟨fun h=>(by cases h),fun _=>eq_of_beq h⟩
 |false=>
 simp only[cond_false]
 repeat' (first|(cases (s==_)<;>simp only[cond_true,cond_false])|exact⟨fun h=>(by cases h),fun h=>(by cases h)⟩)
def mm (r:List Nd)(k:Int):Prop:=match r with
 |m::_=>CW m.kind (BA m.kids) k=true
 |[]=>False
inductive RI:Bool->List Nd->Prop
 |base {n:Nd}:n.kind=1->n.text=[]->n.attrs=[]->mY 1 1 false n.kids->RI false [n]
 |up {hid:Bool} {n:Nd} {r:List Nd}:RI hid r->7<=n.kind->n.kind<=14->(n.kind=14->hid=false)->n.text=[]->Ca (BI n.kind) n.attrs 0=true->r.length<=16->mm r n.kind->mY n.kind ((r.length:Int)+1) (hid||n.kind==14) n.kids->RI (hid||n.kind==14) (n::r)
theorem RI.ne {hid:Bool}{r:List Nd}(h:RI hid r):r≠[]:=by cases h<;>simp
theorem RI.add {hid:Bool}{n k:Nd}{r:List Nd}(h:RI hid (n::r))(hm:CW n.kind (BA n.kids) k.kind=true)(h2:2<=k.kind)(SL:k.kind<=14)(hc:k.Mj ((r.length:Int)+1) hid (BA n.kids)=0):RI hid (Dv n k::r):=by
 cases h with
 |base a1 a2 a3 a4=>exact .base a1 a2 a3 (.snoc a4 (by rw[a1] at hm;exact hm) h2 SL hc)
 |up b1 b2 b3 b4 b5 b6 b7 b8 b9=>exact .up (n:=Dv n k) b1 b2 b3 b4 b5 b6 b7 b8 (.snoc b9 hm h2 SL hc)
def au (r:List Nd):Int:=match r with
 |m::_=>BA m.kids
 |[]=>0
theorem KU (n k:Nd)(r:List Nd):au (Dv n k::r)=k.kind:=Iy _ _
theorem Rj {k p:Int}{t:List UInt8}{al:List Go.Ai.Ak}{d:Int}{hid:Bool}{b:Int}(h:Gt k t al 0 d hid b=0):(Nd.mk k p t al []).Mj d hid b=0:=Gl.2 ⟨h,rfl⟩
theorem XC {x:List UInt8}:∀{s:List UInt8},Ex.Cx x s=none->x≠[]->An s x=false
 |[],h,hx=>by
  cases x with
  |nil=>exact absurd rfl hx
  |cons c y=>rfl
 |c::s,h,hx=>by
  unfold Ex.Cx at h;split at h
  ·cases h
  ·rename_i h1
   have h2:Ex.Cx x s=none:=by simpa using h
   have ih:=XC h2 hx
   cases hc:An (c::s) x with
   |false=>rfl
   |true=>
    obtain⟨j,hj,hp⟩:=ET.1 hc
    cases j with
    |zero=>exact absurd hp h1
    |succ j=>
     have:An s x=true:=ET.2 ⟨j,by simpa using hj,by simpa using hp⟩
     rw[ih] at this;cases this
theorem fb {x t:List UInt8}(hx:x≠[])(h:Ex.Cx x (t++x)=some t.length):An t x=false:=by
 cases hc:An t x with
 |false=>rfl
 |true=>
  obtain⟨j,hj,hp⟩:=ET.1 hc;have wZ:=List.isPrefixOf_iff_prefix.1 hp
  have BC:j<t.length:=by
   refine Nat.lt_of_le_of_ne hj fun e=> ?_
   rw[e,List.drop_length] at wZ;exact hx (List.prefix_nil.1 wZ)
  have:=(Ex.Nq h).2 j BC;rw[List.drop_append_of_le_length hj] at this;rw[List.isPrefixOf_iff_prefix.2 (wZ.trans (List.prefix_append _ _))] at this;cases this
theorem Pj {k:Int}{t:List UInt8}{al:List Go.Ai.Ak}{len:Nat}{d:Int}{hid:Bool}{b:Int}(h1:k=14->hid=false)(h2:k≠2)(h3:d<=16)(h4:Ca (BI k) al 0=true)(h5:Dx k t hid=true)(h6:Fx k=true->len=0)(h7:k=7->len=2)(RJ:k=10->len≠0):Gt k t al len d hid b=0:=
 Hy.2 ⟨fun e=>(by rw[h1 e.1] at e;cases e.2),.inr h3,h4,h5,fun e=>h2 e.1,h6,h7,RJ⟩
theorem SY {k:Int}{hid:Bool}(h2:k≠2)(h4:k≠4)(h5:k≠5):Dx k [] hid=true:=by
 have e1:(k==2)=false:=by simpa using h2
 have e2:(k==4)=false:=by simpa using h4
 have e3:(k==5)=false:=by simpa using h5
 unfold Dx;rw[e1,e2,e3];rfl
theorem RX {x:El}(h:Bj x=true):x.kind=3\/x.kind=6:=by
 unfold Bj at h;simpa using h
theorem Ki {x:El}{t:Ex.Tok}{n:Nd}{r:List Nd}(h:JQ x t n r=true):Bj x=(t.kind==3)/\CW n.kind (BA n.kids) x.kind=true/\r.length+1<=16/\G6 x t.attrs=true:=by
 unfold JQ at h;simp only[Bool.and_eq_true,decide_eq_true_eq,Bool.not_eq_true',Bool.or_eq_false_iff,bne_eq_false_iff_eq,Bool.not_eq_false'] at h;exact⟨h.1.1,h.1.2,h.2.1,h.2.2⟩
theorem RI.close {hid:Bool}{n m:Nd}{q:List Nd}(h:RI hid (n::m::q))(h7:n.kind=7->BA n.kids=9)(RJ:n.kind=10->BA n.kids≠0):∃ZC,RI ZC (Dv m n::q)/\hid=(ZC||n.kind==14)/\(n.kind=14->ZC=false):=by
 cases h with
 | @up ZC _ _ b1 b2 b3 b4 b5 b6 b7 b8 b9=>
  refine⟨ZC,?_,rfl,b4⟩;obtain⟨k,p,t,al,ks⟩:=n;simp only[Nd.kind,Nd.text,Nd.attrs,Nd.kids] at *
  refine b1.add b8 (by show 2<=k;omega) b3 (Gl.2 ⟨?_,?_⟩)
  ·subst b5
   refine Pj b4 (by omega) (by simp only[List.length_cons] at b7;omega) b6 (SY (by omega) (by omega) (by omega)) (fun hl=> ?_) (fun e=> ?_) (fun e=> ?_)
   ·exfalso;unfold Fx at hl;simp only[Bool.and_eq_true,decide_eq_true_eq] at hl;omega
   ·subst e;exact(aw b9).2.2.1 rfl (h7 rfl)
   ·intro e0;have:ks=[]:=List.eq_nil_of_length_eq_zero e0;subst this;exact RJ e rfl
  ·have:=Wp b9
   have e:(((m::q).length:Nat):Int)=(q.length:Int)+1:=by simp
   rw[e] at this;exact this
theorem VO {t:Ex.Tok}{n:Nd}(h:Ee t n=false):n.kind=Eo t/\(Eo t=7->BA n.kids=9)/\(Eo t=10->BA n.kids≠0):=by
 unfold Ee at h;simp only[Bool.or_eq_false_iff,Bool.not_eq_false',beq_iff_eq,Bool.and_eq_false_iff,beq_eq_false_iff_ne] at h;obtain⟨h1,h2,h3⟩:=h
 exact⟨h1,fun e=>h2.resolve_left (fun h=>h e),fun e=>h3.resolve_left (fun h=>h e)⟩
theorem RI.one {hid:Bool}{R:List Nd}(h:RI hid R):∀n,R=[n]->hid=false/\n.kind=1/\n.text=[]/\n.attrs=[]/\mY 1 1 false n.kids:=by
 cases h with
 |base a1 a2 a3 a4=>
  intro n e
  injection e with e _
  subst e;exact⟨rfl,a1,a2,a3,a4⟩
 |up b1=>
  intro n e
  injection e with _ e
  subst e;exact absurd rfl b1.ne
theorem UK {S:Ps}{R:List Nd}(h1:S.rows=R)(h2:S.e=0):S=⟨R,S.pl,0⟩:=by
 obtain⟨rows,pl,e⟩:=S;simp only at h1 h2;rw[h1,h2]
theorem Uh :∀(N:Nat) (l:List Ex.Tok) (hid:Bool) (rows:List Nd) (pl:Int),l.length<=N->Ex.VG hid l->RI hid rows->(∀u q,l=u::q->u.kind=1->au rows≠2)->(A7 l ⟨rows,pl,0⟩).e=0->RI false (A7 l ⟨rows,pl,0⟩).rows
 |N,[],hid,rows,pl,_,hv,hr,_,_=>by
  cases hv;exact hr
 |0,_::_,_,_,_,hN,_,_,_,_=>by simp at hN
 |N+1,t::l,hid,rows,pl,hN,hv,hr,ht,h=>by
  obtain⟨n,r,rfl⟩:=List.exists_cons_of_ne_nil hr.ne;obtain⟨h1,h2⟩:=PW h;rw[(GB t l _).1 h1]
  have hl:l.length<=N:=by simpa using hN
  have go:∀(Ft:Bool) (rows':List Nd),Ex.VG Ft l->(Aq t ⟨n::r,pl,0⟩).rows=rows'->RI Ft rows'->(∀u q,l=u::q->u.kind=1->au rows'≠2)->RI false (A7 l (Aq t ⟨n::r,pl,0⟩)).rows:=by
   intro Ft rows' g1 g2 g3 g4;rw[UK g2 h1] at h2⊢;exact Uh N l Ft rows' _ hl g1 g3 g4 h2
  cases hv with
  |text v1 v2 v3 v4 v5 v6 v7=>
   rcases SV v1 h1 with e|⟨e7,e10,e⟩
   ·exact go hid _ v7 e hr (fun u q hu hk=>absurd hk (v6 u q hu))
   ·refine go hid _ v7 e (hr.add ((nq e7 e10).2 ⟨by show(2:Int)≠8;decide,by show(2:Int)≠9;decide,by show(2:Int)≠11;decide,by show(2:Int)≠12;decide⟩) (by show(2:Int)<=2;decide) (by show(2:Int)<=14;decide) (Rj ?_)) (fun u q hu hk=>absurd hk (v6 u q hu))
    exact Hy.2 ⟨fun e=>(by cases e.1),.inl rfl,rfl,cG v4 v5,fun e=>ht _ _ rfl v1 e.2,fun _=>rfl,fun e=>(by cases e),fun e=>(by cases e)⟩
  |tag v1 v2 v3 v4=>
   have hk:t.kind=2\/t.kind=3:=by
    rcases v1 with h|⟨h,_⟩
    ·exact .inr h
    ·exact .inl h
   obtain⟨hb,e⟩:=Mn hk h1;obtain⟨b1,b2,b3,b4⟩:=Ki hb;have TI:=ax b4 v3;have RB:=GJ t.name
   cases he:Bj (Bq t.name) with
   |true=>
    rw[he] at e;have TM:=RX he
    refine go hid _ v4 e (hr.add b2 (by show 2<=(Bq t.name).kind;omega) (by show(Bq t.name).kind<=14;omega) (Rj ?_)) (fun u q _ _=>by
     show au (Dv n _::r)≠2;rw[KU];show(Bq t.name).kind≠2
     omega)
    exact Pj (fun e=>by omega) (by omega) (by omega) TI (SY (by omega) (by omega) (by omega)) (fun _=>rfl) (fun e=>by omega) (fun e=>by omega)
   |false=>
    rw[he] at e b1
    have Lk:t.kind=2:=by
     rcases hk with h|h
     ·exact h
     ·rw[h] at b1;cases b1
    have Cc:Ex.D7 t=false:=by
     rcases v1 with h|⟨_,h⟩
     ·omega
     ·exact h
    have BM:¬(t.name=Ex.BP\/t.name=Ex.CU):=fun hn=>by
     unfold Ex.D7 at Cc;rw[Lk] at Cc
     rcases hn with hn|hn<;>rw[hn] at Cc<;>cases Cc
    have h4:(Bq t.name).kind≠4:=fun h=>BM (.inr ((gh _).1 h))
    have h5:(Bq t.name).kind≠5:=fun h=>BM (.inl ((gh _).2 h))
    have h3:(Bq t.name).kind≠3/\(Bq t.name).kind≠6:=by
     unfold Bj at he;simpa using he
    have bU:((Bq t.name).kind==14)=false:=by
     rw[beq_eq_false_iff_ne];omega
    have hx:hid=(hid||(Bq t.name).kind==14):=by rw[bU,Bool.or_false]
    have pt:=RI.up (n:=.mk (Bq t.name).kind t.fr [] (t.attrs.map JU) []) hr (by show 7<=(Bq t.name).kind;omega) (by show(Bq t.name).kind<=14;omega) (fun e=>by have e:(Bq t.name).kind=14:=e;omega) rfl TI (by simpa using b3) b2 .nil
    refine go hid _ v4 e ?_ (fun u q _ _=>by show BA []≠2;decide)
    have pt:RI (hid||(Bq t.name).kind==14) _:=pt;rw[<-hx] at pt;exact pt
  | @own _ _ a c q v1 v2 v3 v4 v5 v6 v7 v8 v9 v10 v11=>
   obtain⟨hb,e⟩:=Mn (.inl v1) h1;obtain⟨b1,b2,b3,b4⟩:=Ki hb;have TI:=ax b4 v3
   have he:Bj (Bq t.name)=false:=by rw[b1,v1];rfl
   rw[he] at e;simp only[cond_false] at e
   have Mv:(Bq t.name).kind=4/\t.name=Ex.CU\/(Bq t.name).kind=5/\t.name=Ex.BP:=by
    rcases v2 with h|h<;>rw[h]
    ·exact .inr ⟨rfl,rfl⟩
    ·exact .inl ⟨rfl,rfl⟩
   rw[UK e h1] at h2⊢;obtain⟨h3,h4⟩:=PW h2;rw[(GB a _ _).1 h3];rw[QS v4] at h3 h4⊢;obtain⟨h5,h6⟩:=PW h4;rw[(GB c _ _).1 h5];obtain⟨c1,c2⟩:=Md (.inl v7) h5;simp only at c2;rw[UK c2 h5] at h6⊢
   have sC:Ex.VG hid q:=by
    cases v11 with
    |text w1=>omega
    |tag w1=>omega
    |own w1=>omega
    |close w1 w2 w3 w4=>exact w4
    |Us w1=>omega
    |shown w1=>omega
   have RB:=GJ t.name
   have ib:RI hid (Dv n (.mk (Bq t.name).kind t.fr a.text (t.attrs.map JU) [])::r):=by
    refine hr.add b2 (by show 2<=(Bq t.name).kind;omega) (by show(Bq t.name).kind<=14;omega) (Rj ?_)
    refine Pj (fun e=>by omega) (by omega) (by omega) TI ?_ (fun _=>rfl) (fun e=>by omega) (fun e=>by omega)
    rcases Mv with ⟨k4,hn⟩|⟨k5,hn⟩
    ·rw[k4];rw[hn] at v9;show(!An a.text kb)=true
     rw[fb (x:=kb) (by decide) v9]
     rfl
    ·rw[k5];rw[hn] at v9;show(!An a.text cM&& !An a.text XN)=true
     rw[fb (x:=cM) (by decide) v9,XC (x:=XN) (v10 hn) (by decide)]
     rfl
   refine Uh N q hid _ _ (by simp only[List.length_cons] at hl;omega) sC ib (fun u q' _ _=> ?_) h6
   rw[KU];show(Bq t.name).kind≠2;omega
  |close v1 v2 v3 v4=>
   obtain⟨c1,c2⟩:=Md (.inl v1) h1;obtain⟨d1,d2,d3⟩:=VO c1
   have ek:Eo t=(Bq t.name).kind:=by unfold Eo;rw[v1];rfl
   have RB:=GJ t.name
   cases r with
   |nil=>
    have:=(hr.one _ rfl).2.1;omega
   |cons m q=>
    obtain⟨ZC,x1,x2,x3⟩:=hr.close (by rw[d1];exact d2) (by rw[d1];exact d3)
    have bU:(n.kind==14)=false:=by
     rw[beq_eq_false_iff_ne];omega
    rw[bU,Bool.or_false] at x2;subst x2
    refine go hid _ v4 c2 x1 (fun u q' _ _=> ?_)
    rw[KU];omega
  |Us v1 v2 v3 v4=>
   obtain⟨c1,c2,c3⟩:=TJ v1 h1
   have pt:=RI.up (n:=.mk 14 t.fr [] [] []) hr (by show(7:Int)<=14;decide) (by show(14:Int)<=14;decide) (fun _=>rfl) rfl rfl (by simpa using c2) c1 .nil
   exact go true _ v4 c3 pt (fun u q _ _=>by show BA []≠2;decide)
  |shown v1 v2 v3 v4 v5=>
   obtain⟨c1,c2⟩:=Md (.inr v1) h1;obtain⟨d1,d2,d3⟩:=VO c1
   have ek:Eo t=14:=by unfold Eo;rw[v1];rfl
   cases r with
   |nil=>have:=(hr.one _ rfl).1;cases this
   |cons m q=>
    obtain⟨ZC,x1,x2,x3⟩:=hr.close (by rw[d1];exact d2) (by rw[d1];exact d3)
    rw[x3 (by omega)] at x1
    refine go false _ v5 c2 x1 (fun u q' _ _=> ?_)
    rw[KU];omega
theorem WY {s:List UInt8}{n:Nd}(h:Bg s=.ok n):n.Hi=0:=by
 have he:Ec s=0:=by unfold Ec;rw[h];rfl
 obtain⟨n',l,p,hn,hm,hl,hp⟩:=NM he;rw[h] at hm
 injection hm with hm
 subst hm
 have hr:=Uh l.length l false DV.rows 0 (Nat.le_refl _) (Ex.Nb hl) (.base rfl rfl rfl .nil) (fun _ _ _ _=>by show BA []≠2;decide) (by show(A7 l DV).e=0;rw[hp])
 have hr:RI false (A7 l DV).rows:=hr;rw[hp] at hr;obtain⟨_,a1,a2,a3,a4⟩:=hr.one _ rfl;obtain⟨k,pp,t,al,ks⟩:=n;simp only[Nd.kind,Nd.text,Nd.attrs,Nd.kids] at a1 a2 a3 a4;subst a1 a2 a3;unfold Nd.Hi;show(Nd.mk 1 pp [] [] ks).Mj 0 false 0=0
 refine Gl.2 ⟨Pj (fun e=>rfl) (by decide) (by decide) rfl rfl (fun e=>by cases e) (fun e=>by cases e) (fun e=>by cases e),Wp a4⟩
def zT (x:El):Prop:=(∀r∈BI x.kind,∀v:List UInt8,r.may.ok v=true->x.names.any (·==r.name)=true/\Mx r.name v=true)/\∀nm∈x.names.take x.Ci,∃r∈BI x.kind,r.name=nm/\r.Ci=true
theorem pL {k:Int}(h:LZ k):zT (Bq (Bw k)):=by
 have none:∀k:Int,BI k=[]->zT ⟨k,[],0⟩:=fun k hk=>⟨fun r hr=>(by have hr:r∈BI k:=hr;rw[hk] at hr;cases hr),fun nm hn=>(by cases hn)⟩
 rcases Kd h with rfl|rfl|rfl|rfl|rfl|rfl|rfl|rfl|rfl|rfl|rfl
 ·refine⟨fun r hr v hv=> ?_,fun nm hn=> ?_⟩
  ·have hr:r∈[Cm,CV,Bx]:=hr;simp only[List.mem_cons,List.not_mem_nil,or_false] at hr
   rcases hr with rfl|rfl|rfl
   ·exact⟨rfl,hv⟩
   ·exact⟨rfl,hv⟩
   ·refine⟨rfl,?_⟩;simp only[Bx,Xs.ok,List.any_cons,List.any_nil,Bool.or_false] at hv;exact hv
  ·have hn:nm∈[[115,114,99]]:=hn;rw[List.mem_singleton.1 hn];exact⟨Cm,List.Mem.head _,rfl,rfl⟩
 ·refine⟨fun r hr v hv=> ?_,fun nm hn=> ?_⟩
  ·have hr:r∈[Cl,CI]:=hr;simp only[List.mem_cons,List.not_mem_nil,or_false] at hr
   rcases hr with rfl|rfl
   ·exact⟨rfl,hv⟩
   ·refine⟨rfl,?_⟩;simp only[CI,Xs.ok,List.any_cons,List.any_nil,Bool.or_false] at hv;exact hv
  ·have hn:nm∈[[110,97,109,101]]:=hn;rw[List.mem_singleton.1 hn];exact⟨Cl,List.Mem.head _,rfl,rfl⟩
 ·exact none 5 rfl
 ·refine⟨fun r hr v hv=> ?_,fun nm hn=> ?_⟩
  ·have hr:r∈[Dd]:=hr;rw[List.mem_singleton.1 hr];exact⟨rfl,rfl⟩
  ·have hn:nm∈[[116,101,120,116]]:=hn;rw[List.mem_singleton.1 hn];exact⟨Dd,List.Mem.head _,rfl,rfl⟩
 ·exact none 7 rfl
 ·exact none 8 rfl
 ·exact none 9 rfl
 ·exact none 10 rfl
 ·refine⟨fun r hr v hv=> ?_,fun nm hn=> ?_⟩
  ·have hr:r∈[CA]:=hr;rw[List.mem_singleton.1 hr] at hv⊢;exact⟨rfl,hv⟩
  ·have hn:nm∈[[116,101,115,116]]:=hn;rw[List.mem_singleton.1 hn];exact⟨CA,List.Mem.head _,rfl,rfl⟩
 ·exact none 12 rfl
 ·exact none 13 rfl
theorem YN {a:List Ex.Ak}:∀{b:List Ex.Ak},Ex.sameAs a b->(∀x∈b,∃y∈a,y.name=x.name/\y.value=x.value)/\∀y∈a,∃x∈b,x.name=y.name:=by
 induction a with
 |nil=>
  intro b h
  cases b with
  |nil=>exact⟨fun x hx=>(by cases hx),fun y hy=>(by cases hy)⟩
  |cons _ _=>exact h.elim
 |cons u a ih=>
  intro b h
  cases b with
  |nil=>exact h.elim
  |cons v b=>
   obtain⟨h1,h2,h3⟩:=h;obtain⟨i1,i2⟩:=ih h3
   refine⟨fun x hx=> ?_,fun y hy=> ?_⟩
   ·rcases List.mem_cons.1 hx with rfl|hx
    ·exact⟨u,List.mem_cons_self ..,h1,h2⟩
    ·obtain⟨y,hy,e⟩:=i1 x hx;exact⟨y,List.mem_cons_of_mem _ hy,e⟩
   ·rcases List.mem_cons.1 hy with rfl|hy
    ·exact⟨v,List.mem_cons_self ..,h1.symm⟩
    ·obtain⟨x,hx,e⟩:=i2 y hy;exact⟨x,List.mem_cons_of_mem _ hx,e⟩
theorem kY {k:Int}(hk:LZ k){al:List Go.Ai.Ak}{l:List Ex.Ak}(h:Ca (BI k) al 0=true)(hl:Ex.sameAs (al.map DG) l):G6 (Bq (Bw k)) l=true:=by
 obtain⟨_,h2,h3⟩:=MM.1 h;obtain⟨b1,b2⟩:=pL hk;rw[VE hk] at b1 b2;obtain⟨s1,s2⟩:=YN hl;unfold G6;rw[Bool.and_eq_true,List.all_eq_true,List.all_eq_true]
 refine⟨fun nm hn=> ?_,fun a ha=> ?_⟩
 ·obtain⟨r,hr,e1,e2⟩:=b2 nm hn;obtain⟨a,ha,e3⟩:=h3 r hr e2;obtain⟨x,hx,e4⟩:=s2 (DG a) (List.mem_map.2 ⟨a,ha,rfl⟩);refine List.any_eq_true.2 ⟨x,hx,?_⟩;rw[beq_iff_eq,e4,<-e1,<-e3];rfl
 ·obtain⟨y,hy,e1,e2⟩:=s1 a ha;obtain⟨c,hc,rfl⟩:=List.mem_map.1 hy;obtain⟨r,hr,e3,e4,_⟩:=h2 c hc;obtain⟨f1,f2⟩:=b1 r hr c.value e4
  have e5:a.name=r.name:=by rw[<-e1,e3];rfl
  have e6:a.value=c.value:=by rw[<-e2];rfl
  rw[e5,e6,f1,f2];rfl
theorem Kk :∀{al:List Go.Ai.Ak} {l:List Ex.Ak},Ex.sameAs (al.map DG) l->Du (l.map JU) al=true
 |[],[],_=>rfl
 |[],_::_,h=>h.elim
 |_::_,[],h=>h.elim
 |a::al,b::l,h=>by
  obtain⟨h1,h2,h3⟩:=h;simp only[List.map_cons,Du,Kk h3,Bool.and_true];have h1:a.name=b.name:=h1;have h2:a.value=b.value:=h2;simp[alike,JU,h1,h2]
theorem Hr :∀{a b m:List Ex.Tok},Ex.JI (a++b) m->∃m1 m2,m=m1++m2/\Ex.JI a m1/\Ex.JI b m2
 |[],b,m,h=>⟨[],m,rfl,trivial,h⟩
 |x::a,b,[],h=>h.elim
 |x::a,b,y::m,h=>by
  obtain⟨m1,m2,rfl,h1,h2⟩:=Hr h.2;exact⟨y::m1,m2,rfl,⟨h.1,h1⟩,h2⟩
theorem Qm {k:Int}(hk:BI k=[]){al:List Go.Ai.Ak}(h:Ca (BI k) al 0=true):al=[]:=by
 obtain⟨_,h2,_⟩:=MM.1 h
 cases al with
 |nil=>rfl
 |cons a al=>
  obtain⟨r,hr,_⟩:=h2 a (List.mem_cons_self ..);rw[hk] at hr;cases hr
theorem IK {k:Int}{t:List UInt8}{hid:Bool}(h2:k≠2)(h4:k≠4)(h5:k≠5)(h:Dx k t hid=true):t=[]:=by
 have e1:(k==2)=false:=by simpa using h2
 have e2:(k==4)=false:=by simpa using h4
 have e3:(k==5)=false:=by simpa using h5
 unfold Dx at h;rw[e1,e2,e3] at h;simpa using h
theorem Zt {t:Ex.Tok}{n:Nd}{r:List Nd}{pl:Int}(hk:t.kind=2\/t.kind=3)(hb:JQ (Bq t.name) t n r=true):
  Aq t ⟨n::r,pl,0⟩=bif Bj (Bq t.name) then⟨Dv n (.mk (Bq t.name).kind t.fr [] (t.attrs.map JU) [])::r,pl,0⟩ else⟨.mk (Bq t.name).kind t.fr [] (t.attrs.map JU) []::n::r,pl,0⟩:=by
 have e1:Aq t ⟨n::r,pl,0⟩=EV t ⟨n::r,pl,0⟩:=by unfold Aq;rcases hk with h|h<;>rw[h]<;>rfl
 rw[e1];unfold EV;simp only;rw[(Zr (Bq t.name) t n r ⟨n::r,pl,0⟩ rfl).2 hb]
theorem Zc {t:Ex.Tok}{n m:Nd}{q:List Nd}{pl:Int}(hk:t.kind=4\/t.kind=6)(hb:Ee t n=false):Aq t ⟨n::m::q,pl,0⟩=⟨Dv m n::q,pl,0⟩:=by
 have e1:Aq t ⟨n::m::q,pl,0⟩=En t ⟨n::m::q,pl,0⟩:=by unfold Aq;rcases hk with h|h<;>rw[h]<;>rfl
 rw[e1];unfold En;simp only;rw[hb];rfl
theorem kt {t:Ex.Tok}{n:Nd}{r:List Nd}{pl:Int}(hk:t.kind=5)(h1:CW n.kind (BA n.kids) 14=true)(h2:r.length+1<=16):Aq t ⟨n::r,pl,0⟩=⟨.mk 14 t.fr [] [] []::n::r,pl,0⟩:=by
 have e1:Aq t ⟨n::r,pl,0⟩=Fa t ⟨n::r,pl,0⟩:=by unfold Aq;rw[hk];rfl
 rw[e1];unfold Fa;simp only
 rw[h1,decide_eq_false (by omega)]
 rfl
theorem jz {t:Ex.Tok}{n:Nd}{r:List Nd}{pl:Int}(hk:t.kind=1)(h7:n.kind≠7)(RJ:n.kind≠10):Aq t ⟨n::r,pl,0⟩=⟨Dv n (.mk 2 t.fr t.text [] [])::r,pl,0⟩:=by
 have e1:Aq t ⟨n::r,pl,0⟩=EA t ⟨n::r,pl,0⟩:=by unfold Aq;rw[hk];rfl
 have x1:(n.kind==7)=false:=by simpa using h7
 have x2:(n.kind==10)=false:=by simpa using RJ
 rw[e1];unfold EA;simp only;rw[x1,x2];rfl
theorem go_on {t:Ex.Tok}{l:List Ex.Tok}{S:Ps}{R:List Nd}{pl:Int}(h:Aq t S=⟨R,pl,0⟩):A7 (t::l) S=A7 l ⟨R,pl,0⟩:=by
 rw[(GB t l S).1 (by rw[h]),h]
theorem Zs {k:Int}(hk:LZ k){t:Ex.Tok}{n:Nd}{r:List Nd}{al:List Go.Ai.Ak}(hn:t.name=Bw k)(he:Bj (Bq (Bw k))=(t.kind==3))(hm:CW n.kind (BA n.kids) k=true)(hd:r.length+1<=16)(TI:Ca (BI k) al 0=true)(hl:Ex.sameAs (al.map DG) t.attrs):JQ (Bq t.name) t n r=true:=by
 rw[hn];unfold JQ;rw[he,VE hk,hm,decide_eq_true hd,kY hk TI hl];simp
theorem VN {t:Ex.Tok}{n:Nd}(h1:n.kind=Eo t)(h7:n.kind=7->BA n.kids=9)(RJ:n.kind=10->BA n.kids≠0):Ee t n=false:=by
 unfold Ee;rw[<-h1];have e0:(n.kind==n.kind)=true:=beq_self_eq_true _;rw[e0];simp only[Bool.not_true,Bool.false_or,Bool.or_eq_false_iff,Bool.and_eq_false_iff,beq_eq_false_iff_ne,Bool.not_eq_false',beq_iff_eq];refine⟨?_,?_⟩
 ·by_cases e:n.kind=7
  ·exact .inr (h7 e)
  ·exact .inl e
 ·by_cases e:n.kind=10
  ·exact .inr (RJ e)
  ·exact .inl e
def gE (p:Int)(done todo:List Nd):Prop:=(p=7->done.length=1->BA done=8)/\(p=10->done≠[]->todo≠[]->BA done=11)
theorem lE {p k i n:Int}{done:List Nd}{c:Nd}{todo:List Nd}(h:J7 p k i n=true)(hi:i=done.length)(ho:gE p done (c::todo)):CW p (BA done) k=true/\(k=2->p≠7/\p≠10):=by
 unfold J7 at h
 by_cases h7:p=7
 ·subst h7;simp only[beq_self_eq_true,cond_true,Bool.and_eq_true,beq_iff_eq,decide_eq_true_eq] at h;obtain⟨a1,a2⟩:=h
  by_cases h0:i=0
  ·rw[if_pos h0] at a1
   have:done=[]:=List.eq_nil_of_length_eq_zero (by omega)
   subst this
   exact⟨gH.2 (.inl ⟨a1,rfl⟩),fun e=>by omega⟩
  ·rw[if_neg h0] at a1
   exact⟨gH.2 (.inr ⟨a1,ho.1 rfl (by omega)⟩),fun e=>by omega⟩
 ·have x7:(p==7)=false:=by simpa using h7
  rw[x7] at h;simp only[cond_false] at h
  by_cases RJ:p=10
  ·subst RJ;simp only[beq_self_eq_true,cond_true,Bool.or_eq_true,Bool.and_eq_true,beq_iff_eq,decide_eq_true_eq] at h
   rcases h with a1|⟨⟨a1,a2⟩,a3⟩
   ·refine⟨gI.2 (.inl ⟨a1,fun e=> ?_⟩),fun e=>by omega⟩
    have BM:done≠[]:=fun e2=>by rw[e2] at e;cases e
    have:=ho.2 rfl BM (by simp)
    omega
   ·have BM:done≠[]:=fun e2=>by rw[e2] at hi;simp at hi;omega
    exact⟨gI.2 (.inr ⟨a1,ho.2 rfl BM (by simp)⟩),fun e=>by omega⟩
  ·have zm:(p==10)=false:=by simpa using RJ
   rw[zm] at h;simp only[cond_false] at h
   refine⟨(nq h7 RJ).2 ?_,fun _=>⟨h7,RJ⟩⟩
   refine⟨?_,?_,?_,?_⟩<;>(rintro rfl;cases h)
theorem G8 {m:List Ex.Tok}(h:Ex.JI [] m):m=[]:=by
 cases m with
 |nil=>rfl
 |cons _ _=>exact h.elim
theorem Dc {a:Ex.Tok}{l m:List Ex.Tok}(h:Ex.JI (a::l) m):∃u q,m=u::q/\Ex.fM a u/\Ex.JI l q:=by
 cases m with
 |nil=>exact h.elim
 |cons u q=>exact⟨u,q,rfl,h.1,h.2⟩
theorem aq {p N d:Int}{hid:Bool}:∀{ks:List Nd} {i b:Int},Il p N ks i d hid b=0->ks≠[]->BA ks≠0
 |[],_,_,_,h=>absurd rfl h
 |[c],i,b,h,_=>by
  have h1:=(Cy.1 h).1;have:=J6 h1;show c.kind≠0;unfold LZ at this;omega
 |c::x::ks,i,b,h,_=>by
  have:=aq (ks:=x::ks) (Cy.1 h).2.2 (by simp)
  simpa[BA] using this
theorem nn (n:Nd):Nd.mk n.kind n.pl n.text n.attrs n.kids=n:=by cases n;rfl
theorem Ij {k:Int}(h:LZ k):(Bq (Bw k)).kind=k:=VE h
mutual
theorem pY :∀(c:Nd) (d:Int) (hid:Bool) (b:Int),c.Mj d hid b=0->(c.kind=2\/c.kind=14\/LZ c.kind)->∀(n:Nd) (r:List Nd) (pl:Int) (m rest:List Ex.Tok),Ex.JI (Gn c) m->d=(r.length:Int)+1->CW n.kind (BA n.kids) c.kind=true->(c.kind=2->n.kind≠7/\n.kind≠10)->
  ∃c',c'.same c=true/\A7 (m++rest) ⟨n::r,pl,0⟩=A7 rest ⟨Dv n c'::r,pl,0⟩
 |.mk k p t al ks,d,hid,b,hc,hk,n,r,pl,m,rest,hm,hd,dG,uB=>by
  have hk:k=2\/k=14\/LZ k:=hk;have dG:CW n.kind (BA n.kids) k=true:=dG;have uB:k=2->n.kind≠7/\n.kind≠10:=uB;obtain⟨hf,hs⟩:=Gl.1 hc;obtain⟨f1,f2,f3,f4,f5,f6,f7,f8⟩:=Hy.1 hf;rw[Gn] at hm
  by_cases h2:k=2
  ·subst h2;obtain⟨u,q,rfl,⟨u1,u2,u3,u4⟩,hq⟩:=Dc hm;obtain rfl:=G8 hq;obtain rfl:=Qm rfl f3;obtain rfl:ks=[]:=List.eq_nil_of_length_eq_zero (f6 rfl);have hu:u.text=t:=u3;exact⟨.mk 2 u.fr u.text [] [],Dn.2 ⟨rfl,hu,rfl,rfl⟩,go_on (jz u1.symm (uB rfl).1 (uB rfl).2)⟩
  rw[beq_eq_false_iff_ne.2 h2] at hm;simp only[cond_false] at hm
  have bK:r.length+1<=16:=by
   rcases f2 with h|h
   ·exact absurd h h2
   ·omega
  cases TM:k==3||k==6 with
  |true=>
   rw[TM] at hm;simp only[cond_true] at hm;simp only[Bool.or_eq_true,beq_iff_eq] at TM
   have he:LZ k:=by unfold LZ;omega
   obtain⟨u,q,rfl,⟨u1,u2,u3,u4⟩,hq⟩:=Dc hm;obtain rfl:=G8 hq
   obtain rfl:ks=[]:=List.eq_nil_of_length_eq_zero (f6 (by unfold Fx;rcases TM with rfl|rfl<;>rfl))
   obtain rfl:=IK h2 (by omega) (by omega) f4
   have u2:u.name=Bw k:=u2.symm;have u1:u.kind=3:=u1.symm
   have mJ:Bj (Bq (Bw k))=true:=by rcases TM with rfl|rfl<;>rfl
   have hb:=Zs he (t:=u) (n:=n) (r:=r) u2 (by rw[mJ,u1];rfl) dG bK f3 u4
   have DH:=Zt (pl:=pl) (.inr u1) hb;rw[u2,mJ,Ij he] at DH;exact⟨.mk k u.fr [] (u.attrs.map JU) [],Dn.2 ⟨rfl,rfl,Kk u4,rfl⟩,go_on DH⟩
  |false=>
   rw[TM] at hm;simp only[cond_false] at hm;simp only[Bool.or_eq_false_iff,beq_eq_false_iff_ne] at TM
   cases Mv:k==4||k==5 with
   |true=>
    rw[Mv] at hm;simp only[cond_true] at hm;simp only[Bool.or_eq_true,beq_iff_eq] at Mv
    have he:LZ k:=by unfold LZ;omega
    obtain⟨u,q,rfl,⟨u1,u2,u3,u4⟩,hq⟩:=Dc hm;obtain⟨a,q2,rfl,⟨a1,a2,a3,a4⟩,sP⟩:=Dc hq;obtain⟨w,q3,rfl,⟨w1,w2,w3,w4⟩,sO⟩:=Dc sP;obtain rfl:=G8 sO
    obtain rfl:ks=[]:=List.eq_nil_of_length_eq_zero (f6 (by unfold Fx;rcases Mv with rfl|rfl<;>rfl))
    have u2:u.name=Bw k:=u2.symm;have u1:u.kind=2:=u1.symm;have a1:a.kind=7:=a1.symm;have a3:a.text=t:=a3;have w1:w.kind=4:=w1.symm;have w2:w.name=Bw k:=w2.symm
    have mJ:Bj (Bq (Bw k))=false:=by rcases Mv with rfl|rfl<;>rfl
    have hb:=Zs he (t:=u) (n:=n) (r:=r) u2 (by rw[mJ,u1];rfl) dG bK f3 u4
    have DH:=Zt (pl:=pl) (.inl u1) hb;rw[u2,mJ,Ij he] at DH;refine⟨.mk k u.fr a.text (u.attrs.map JU) [],Dn.2 ⟨rfl,a3,Kk u4,rfl⟩,?_⟩;show A7 (u::a::w::rest) _=_
    rw[go_on DH,go_on (QS a1),go_on (Zc (.inl w1) (VN ?_ (fun e=> ?_) (fun e=> ?_)))]
    ·rfl
    ·show k=Eo w;unfold Eo;rw[w1,w2,Ij he];rfl
    ·have e:k=7:=e;omega
    ·have e:k=10:=e;omega
   |false=>
    rw[Mv] at hm;simp only[cond_false] at hm;simp only[Bool.or_eq_false_iff,beq_eq_false_iff_ne] at Mv;obtain rfl:=IK h2 Mv.1 Mv.2 f4
    have hL7:k=7->BA ks=9:=fun e=>by
     subst e;have hlen:=f7 rfl
     match ks,hlen,hs with
     |[x,y],_,hs=>
      have h1:=(Cy.1 (Cy.1 hs).2.2).1;unfold J7 at h1;simp only[beq_self_eq_true,cond_true,Bool.and_eq_true,beq_iff_eq] at h1;exact h1.1
    have xq:k=10->BA ks≠0:=fun e=>aq hs (fun e2=>f8 e (by rw[e2];rfl))
    cases SL:k==14 with
    |true=>
     rw[SL] at hm hs;simp only[cond_true] at hm;have bU:=eq_of_beq SL;subst bU;obtain⟨u,q,rfl,⟨u1,u2,u3,u4⟩,hq⟩:=Dc hm;obtain⟨m1,m2,rfl,h3,h4⟩:=Hr hq;obtain⟨w,q3,rfl,⟨w1,w2,w3,w4⟩,sO⟩:=Dc h4;obtain rfl:=G8 sO;obtain rfl:=Qm rfl f3;have u1:u.kind=5:=u1.symm;have w1:w.kind=6:=w1.symm
     obtain⟨Um,s1,s2⟩:=VP ks 14 (ks.length:Nat) 0 (d+1) (hid||true) 0 hs (.mk 14 u.fr [] [] []) (n::r) pl m1 (w::rest) h3 (by simp only[List.length_cons];omega) rfl rfl (by simp[Nd.kids]) ⟨fun e=>(by cases e),fun e=>(by cases e)⟩
     refine⟨.mk 14 u.fr [] [] Um,Dn.2 ⟨rfl,rfl,rfl,s1⟩,?_⟩;show A7 (u::(m1++[w]++rest)) _=_;rw[go_on (kt u1 dG bK),List.append_assoc];show A7 (m1++(w::rest)) _=_;rw[s2]
     exact go_on (Zc (.inr w1) (VN (by show(14:Int)=Eo w;unfold Eo;rw[w1];rfl) (fun e=>by cases e) (fun e=>by cases e)))
    |false=>
     rw[SL] at hm;simp only[cond_false] at hm
     have z8:k≠14:=by simpa using SL
     have he:LZ k:=by
      rcases hk with h|h|h
      ·exact absurd h h2
      ·exact absurd h z8
      ·exact h
     obtain⟨u,q,rfl,⟨u1,u2,u3,u4⟩,hq⟩:=Dc hm;obtain⟨m1,m2,rfl,h3,h4⟩:=Hr hq;obtain⟨w,q3,rfl,⟨w1,w2,w3,w4⟩,sO⟩:=Dc h4;obtain rfl:=G8 sO;have u2:u.name=Bw k:=u2.symm;have u1:u.kind=2:=u1.symm;have w1:w.kind=4:=w1.symm;have w2:w.name=Bw k:=w2.symm
     have mJ:Bj (Bq (Bw k))=false:=by
      unfold Bj;rw[Ij he];simp only[Bool.or_eq_false_iff,beq_eq_false_iff_ne];exact TM
     have hb:=Zs he (t:=u) (n:=n) (r:=r) u2 (by rw[mJ,u1];rfl) dG bK f3 u4
     have DH:=Zt (pl:=pl) (.inl u1) hb;rw[u2,mJ,Ij he] at DH
     obtain⟨Um,s1,s2⟩:=VP ks k (ks.length:Nat) 0 (d+1) (hid||k==14) 0 hs (.mk k u.fr [] (u.attrs.map JU) []) (n::r) pl m1 (w::rest) h3 (by simp only[List.length_cons];omega) rfl rfl (by simp[Nd.kids]) ⟨fun _ e=>by simp[Nd.kids] at e,fun _ e=>absurd rfl e⟩
     refine⟨.mk k u.fr [] (u.attrs.map JU) Um,Dn.2 ⟨rfl,rfl,Kk u4,s1⟩,?_⟩;show A7 (u::(m1++[w]++rest)) _=_;rw[go_on DH,List.append_assoc];show A7 (m1++(w::rest)) _=_;rw[s2]
     refine go_on (Zc (.inl w1) (VN ?_ (fun e=> ?_) (fun e=> ?_)))
     ·show k=Eo w;unfold Eo;rw[w1,w2,Ij he];rfl
     ·show BA ([]++Um)=9;rw[List.nil_append,LH s1];exact hL7 e
     ·show BA ([]++Um)≠0;rw[List.nil_append,LH s1];exact xq e
theorem VP :∀(ks:List Nd) (p N i d:Int) (hid:Bool) (b:Int),Il p N ks i d hid b=0->∀(n:Nd) (r:List Nd) (pl:Int) (m rest:List Ex.Tok),Ex.JI (BR ks) m->d=(r.length:Int)+1->n.kind=p->i=(n.kids.length:Nat)->N=(n.kids.length:Int)+ks.length->gE p n.kids ks->
  ∃Um,Ei Um ks=true/\A7 (m++rest) ⟨n::r,pl,0⟩=A7 rest ⟨.mk n.kind n.pl n.text n.attrs (n.kids++Um)::r,pl,0⟩
 |[],p,N,i,d,hid,b,_,n,r,pl,m,rest,hm,_,_,_,_,_=>by
  obtain rfl:=G8 hm
  exact⟨[],rfl,by rw[List.append_nil,nn];rfl⟩
 |c::ks,p,N,i,d,hid,b,hc,n,r,pl,m,rest,hm,hd,hp,hi,hN,ho=>by
  obtain⟨h1,h2,h3⟩:=Cy.1 hc;rw[BR] at hm;obtain⟨m1,m2,rfl,h4,h5⟩:=Hr hm;subst hp;obtain⟨g1,g2⟩:=lE h1 hi ho;obtain⟨c',s1,s2⟩:=pY c d hid b h2 (J6 h1) n r pl m1 (m2++rest) h4 hd g1 g2;have ck:c'.kind=c.kind:=(Dn.1 s1).1;simp only[List.length_cons] at hN
  obtain⟨Um,s3,s4⟩:=VP ks n.kind N (i+1) d hid c.kind h3 (Dv n c') r pl m2 rest h5 hd rfl (by rw[Cw,List.length_append];simp only[List.length_cons,List.length_nil];omega) (by rw[Cw,List.length_append];simp only[List.length_cons,List.length_nil];omega) (by
   rw[Cw]
   refine⟨fun e e1=> ?_,fun e _ e2=> ?_⟩
   ·rw[Iy,ck];simp only[List.length_append,List.length_cons,List.length_nil] at e1;unfold J7 at h1;rw[e] at h1;simp only[beq_self_eq_true,cond_true,Bool.and_eq_true,beq_iff_eq] at h1
    rw[if_pos (by omega)] at h1
    exact h1.1
   ·rw[Iy,ck];have BM:0<ks.length:=List.length_pos_iff.2 e2;unfold J7 at h1;rw[e] at h1;have h1:(c.kind==11||(c.kind==12&&decide (0<i)&&i==N-1))=true:=h1;simp only[Bool.or_eq_true,Bool.and_eq_true,beq_iff_eq,decide_eq_true_eq] at h1
    rcases h1 with h|⟨_,h⟩
    ·exact h
    ·omega)
  refine⟨c'::Um,by simp only[Ei,Bool.and_eq_true];exact⟨s1,s3⟩,?_⟩
  rw[List.append_assoc,s2,s4,Cw,List.append_assoc];rfl
end
theorem cW {n:Nd}(h:n.Hi=0)(hlen:(Ex.Bh (BR n.kids)).length<=65536):∃n',Bg (Ex.Bh (BR n.kids))=.ok n'/\n'.same n=true:=by
 obtain⟨hk,hv⟩:=Tu h;obtain⟨k,p,t,al,ks⟩:=n;have hk:k=1:=hk;subst hk;have hc:(Nd.mk 1 p t al ks).Mj 0 false 0=0:=h;obtain⟨hf,hs⟩:=Gl.1 hc;obtain⟨f1,f2,f3,f4,f5,f6,f7,f8⟩:=Hy.1 hf;obtain rfl:=Qm rfl f3
 obtain rfl:=IK (by decide) (by decide) (by decide) f4
 show ∃n',Bg (Ex.Bh (BR ks))=.ok n'/\n'.same (.mk 1 p [] [] ks)=true;have hlen:(Ex.Bh (BR ks)).length<=65536:=hlen;have hv:Ex.VG false (BR ks):=hv
 obtain⟨m,h1,h2⟩:=Ex.cw (s:=Ex.Bh (BR ks)) hv ((Ex.Bh (BR ks)).length+1) 0 none rfl (Nat.zero_le _) rfl (by omega)
 obtain⟨Um,s1,s2⟩:=VP ks 1 (ks.length:Nat) 0 (0+1) (false||(1:Int)==14) 0 hs (.mk 1 0 [] [] []) [] 0 m [] h2 rfl rfl rfl (by simp[Nd.kids]) ⟨fun e=>(by cases e),fun e=>(by cases e)⟩
 rw[List.append_nil] at s2;refine⟨.mk 1 0 [] [] Um,?_,Dn.2 ⟨rfl,rfl,rfl,s1⟩⟩;unfold Bg;have hl:Ex.lexM (Ex.Bh (BR ks))=.ok m:=h1
 rw[if_neg (by omega),hl]
 simp only;unfold NN;have e:A7 m DV=⟨[.mk 1 0 [] [] Um],0,0⟩:=s2;rw[e];rfl
theorem aY {s:List UInt8}(h:Ex.CX s=true):Bw (Bq s).kind=s:=by
 unfold Ex.CX Ex.LQ at h;simp only[List.any_cons,List.any_nil,Bool.or_false,Bool.or_eq_true,beq_iff_eq] at h
 rcases h with h|h|h|h|h|h|h|h|h|h|h<;>rw[<-h]<;>decide
theorem Lg :∀l:List Ex.Ak,Ex.AP ((l.map JU).map DG)=Ex.AP l
 |[]=>rfl
 |a::l=>by
  simp only[List.map_cons,Ex.AP,Lg l];rfl
def Yv (t:Ex.Tok):Prop:=(t.kind=2\/t.kind=3\/t.kind=4->Ex.CX t.name=true)/\(t.kind=6->t.text=Ex.BS)/\(t.kind=1\/t.kind=2\/t.kind=3\/t.kind=4\/t.kind=5\/t.kind=6\/t.kind=7)
theorem cY {s:List UInt8}(h:s=Ex.BP\/s=Ex.CU):Ex.CX s=true:=by rcases h with rfl|rfl<;>decide
theorem eI {hid:Bool}{l:List Ex.Tok}(h:Ex.VG hid l):∀t∈l,Yv t:=by
 induction h with
 |nil=>exact fun t ht=>(by cases ht)
 |text h1 _ _ _ _ _ _ ih=>
  intro u hu
  rcases List.mem_cons.1 hu with rfl|hu
  ·exact⟨fun e=>by omega,fun e=>by omega,.inl h1⟩
  ·exact ih u hu
 |tag h1 h2 _ _ ih=>
  intro u hu
  rcases List.mem_cons.1 hu with rfl|hu
  ·exact⟨fun _=>h2,fun e=>by omega,by omega⟩
  ·exact ih u hu
 |own h1 h2 _ h4 _ _ h7 h8 _ _ _ ih=>
  intro u hu
  rcases List.mem_cons.1 hu with rfl|hu
  ·exact⟨fun _=>cY h2,fun e=>by omega,by omega⟩
  ·rcases List.mem_cons.1 hu with rfl|hu
   ·exact⟨fun e=>by omega,fun e=>by omega,by omega⟩
   ·exact ih u hu
 |close h1 _ h3 _ ih=>
  intro u hu
  rcases List.mem_cons.1 hu with rfl|hu
  ·exact⟨fun _=>h3,fun e=>by omega,by omega⟩
  ·exact ih u hu
 |Us h1 _ _ _ ih=>
  intro u hu
  rcases List.mem_cons.1 hu with rfl|hu
  ·exact⟨fun e=>by omega,fun e=>by omega,by omega⟩
  ·exact ih u hu
 |shown h1 _ _ h4 _ ih=>
  intro u hu
  rcases List.mem_cons.1 hu with rfl|hu
  ·exact⟨fun e=>by omega,fun _=>h4,by omega⟩
  ·exact ih u hu
def wL (l:List Nd):Nat:=(Ex.Bh (BR l)).length
def wN (n:Nd):Nat:=(Ex.Bh (Gn n)).length
theorem mh (l:List Nd)(k:Nd):wL (l++[k])=wL l+wN k:=by
 unfold wL wN;rw[Pw,Ex.IX,List.length_append];simp only[BR,List.append_nil]
def MQ (k:Int)(al:List Go.Ai.Ak):Nat:=if k=1 then 0 else if k=14 then 8 else 6+(Bw k).length+(Ex.AP (al.map DG)).length
def UB (n:Nd):Nat:=MQ n.kind n.attrs+n.text.length+wL n.kids
def Fw :List Nd->Nat
 |[]=>0
 |n::r=>UB n+Fw r
theorem QM (n k:Nd):UB (Dv n k)=UB n+wN k:=by
 unfold UB;rw[Cw,mh];show MQ n.kind n.attrs+n.text.length+(wL n.kids+wN k)=_;omega
theorem VI {n:Nd}(h3:3<=n.kind)(SL:n.kind<=14):wN n<=UB n+(if n.kind=14 then 3 else 7+(Bw n.kind).length):=by
 obtain⟨k,p,t,al,ks⟩:=n;have h3:3<=k:=h3;have SL:k<=14:=SL
 show(Ex.Bh (Gn (.mk k p t al ks))).length<=MQ k al+t.length+wL ks+(if k=14 then 3 else 7+(Bw k).length)
 unfold MQ
 rw[if_neg (by omega:¬k=1),Gn]
 rw[beq_eq_false_iff_ne.2 (by omega:k≠2)]
 simp only[cond_false]
 by_cases bU:k=14
 ·subst bU
  simp only[show((14:Int)==3||(14:Int)==6)=false from rfl,show((14:Int)==4||(14:Int)==5)=false from rfl,show((14:Int)==14)=true from rfl,cond_false,cond_true,Ex.Bh,Ex.IX,List.length_append,if_true]
  have a1:(Ex.written OW).length=8:=rfl;have a2:(Ex.written OL).length=3:=rfl;unfold wL;simp only[List.length_nil];omega
 ·rw[if_neg bU,if_neg bU]
  cases TM:k==3||k==6 with
  |true=>
   simp only[cond_true,Ex.Bh,List.append_nil];have:Ex.written ⟨3,Bw k,al.map DG,[],0,0⟩=Ex.Al++(Bw k++(Ex.AP (al.map DG)++[47,62])):=rfl;rw[this];simp only[List.length_append,Ex.Al,List.length_cons,List.length_nil];omega
  |false=>
   have a1:(Ex.written (Ou k al)).length=6+(Bw k).length+(Ex.AP (al.map DG)).length:=by
    have:Ex.written (Ou k al)=Ex.Al++(Bw k++(Ex.AP (al.map DG)++[62])):=rfl;rw[this];simp only[List.length_append,Ex.Al,List.length_cons,List.length_nil];omega
   have a2:(Ex.written (SP k)).length=7+(Bw k).length:=by
    have:Ex.written (SP k)=Ex.Ab++(Bw k++[62]):=rfl;rw[this];simp only[List.length_append,Ex.Ab,List.length_cons,List.length_nil];omega
   simp only[cond_false]
   cases Mv:k==4||k==5 with
   |true=>
    simp only[cond_true,Ex.Bh,List.append_nil,List.length_append];have a3:(Ex.written ⟨7,[],[],t,0,0⟩).length=t.length:=rfl;omega
   |false=>
    have qS:(k==14)=false:=by simpa using bU
    simp only[cond_false,qS,Ex.Bh,Ex.IX,List.append_nil,List.length_append,List.length_nil];unfold wL;omega
theorem qV {t:Ex.Tok}(h:t.kind=2):(Ex.written t).length=6+t.name.length+(Ex.AP t.attrs).length:=by
 unfold Ex.written;rw[h]
 simp only[show¬((2:Int)=4) from by decide,show¬((2:Int)=5) from by decide,if_false,if_true,List.length_append,Ex.Al,List.length_cons,List.length_nil]
 omega
theorem lY {t:Ex.Tok}(h:t.kind=3):(Ex.written t).length=7+t.name.length+(Ex.AP t.attrs).length:=by
 unfold Ex.written;rw[h]
 simp only[show¬((3:Int)=4) from by decide,show¬((3:Int)=5) from by decide,show¬((3:Int)=2) from by decide,if_false,if_true,List.length_append,Ex.Al,List.length_cons,List.length_nil]
 omega
theorem qU {t:Ex.Tok}(h:t.kind=4):(Ex.written t).length=7+t.name.length:=by
 unfold Ex.written;rw[h];simp only[if_true,List.length_append,Ex.Ab,List.length_cons,List.length_nil];omega
theorem Xx {t:Ex.Tok}(h:t.kind=1\/t.kind=6\/t.kind=7):(Ex.written t).length=t.text.length:=by rw[Ex.FP h]
theorem mg {t:Ex.Tok}(h:t.kind=5):(Ex.written t).length=8:=by
 unfold Ex.written;rw[h];rfl
theorem mf {t:Ex.Tok}{n:Nd}{r:List Nd}{pl:Int}(hk:Yv t)(hs:(Aq t ⟨n::r,pl,0⟩).e=0)(oR:t.kind=7->n.text=[]):Fw (Aq t ⟨n::r,pl,0⟩).rows<=Fw (n::r)+(Ex.written t).length:=by
 obtain⟨k1,k2,k3⟩:=hk
 by_cases c1:t.kind=1
 ·rcases SV c1 hs with e|⟨_,_,e⟩
  ·rw[e];omega
  ·rw[e,Xx (.inl c1)];simp only[Fw,QM]
   have:wN (.mk 2 t.fr t.text [] [])=t.text.length:=by
    unfold wN;show(Ex.written (lb t.text)++[]).length=_;rw[List.append_nil];rfl
   omega
 by_cases c7:t.kind=7
 ·rw[QS c7,Xx (.inr (.inr c7))];have:=oR c7;simp only[Fw];have e:UB (.mk n.kind n.pl t.text n.attrs n.kids)=MQ n.kind n.attrs+t.text.length+wL n.kids:=rfl;have e2:UB n=MQ n.kind n.attrs+n.text.length+wL n.kids:=rfl;omega
 by_cases tQ:t.kind=2\/t.kind=3
 ·obtain⟨hb,e⟩:=Mn tQ hs;obtain⟨b1,b2,b3,b4⟩:=Ki hb
  have hn:=aY (k1 (by rcases tQ with h|h;exact .inl h;exact .inr (.inl h)))
  have RB:=GJ t.name;rw[e]
  cases he:Bj (Bq t.name) with
  |true=>
   rw[he] at b1
   have c3:t.kind=3:=by
    have:(t.kind==3)=true:=b1.symm;exact eq_of_beq this
   simp only[cond_true,Fw,QM];rw[lY c3]
   have DS:=VI (n:=.mk (Bq t.name).kind t.fr [] (t.attrs.map JU) []) (by show 3<=(Bq t.name).kind;omega) (by show(Bq t.name).kind<=14;omega)
   have:wN (.mk (Bq t.name).kind t.fr [] (t.attrs.map JU) [])=7+t.name.length+(Ex.AP t.attrs).length:=by
    unfold wN;rw[Gn];have TM:=RX he
    have x2:((Bq t.name).kind==2)=false:=by rw[beq_eq_false_iff_ne];omega
    have zl:((Bq t.name).kind==3||(Bq t.name).kind==6)=true:=by rcases TM with h|h<;>rw[h]<;>rfl
    rw[x2,zl];simp only[cond_false,cond_true,Ex.Bh,List.append_nil];rw[lY rfl];show 7+(Bw (Bq t.name).kind).length+(Ex.AP ((t.attrs.map JU).map DG)).length=_;rw[hn,Lg]
   omega
  |false=>
   rw[he] at b1
   have c2:t.kind=2:=by
    rcases tQ with h|h
    ·exact h
    ·rw[h] at b1;cases b1
   simp only[cond_false,Fw];rw[qV c2]
   have:UB (.mk (Bq t.name).kind t.fr [] (t.attrs.map JU) [])=6+t.name.length+(Ex.AP t.attrs).length:=by
    show MQ (Bq t.name).kind (t.attrs.map JU)+0+0=_;unfold MQ
    rw[if_neg (by omega),if_neg (by omega),hn,Lg]
    rfl
   omega
 by_cases c5:t.kind=5
 ·obtain⟨_,_,e⟩:=TJ c5 hs;rw[e,mg c5];have:UB (.mk 14 t.fr [] [] [])=8:=rfl;simp only[Fw];omega
 have jr:t.kind=4\/t.kind=6:=by omega
 obtain⟨d,e⟩:=Md jr hs;obtain⟨d1,_,_⟩:=VO d;rw[e]
 cases r with
 |nil=>simp only[Fw];omega
 |cons m q=>
  simp only[Fw,QM];have RB:=GJ t.name
  rcases jr with c4|c6
  ·have ek:Eo t=(Bq t.name).kind:=by unfold Eo;rw[c4];rfl
   have hn:=aY (k1 (.inr (.inr c4)))
   have DS:=VI (n:=n) (by omega) (by omega)
   rw[if_neg (by omega),d1,ek,hn] at DS
   rw[qU c4];omega
  ·have ek:Eo t=14:=by unfold Eo;rw[c6];rfl
   have DS:=VI (n:=n) (by omega) (by omega)
   rw[if_pos (by omega)] at DS
   rw[Xx (.inr (.inl c6)),k2 c6];show _<=_+3;omega
theorem lX :∀(l:List Ex.Tok) (b:Bool) (rows:List Nd) (pl:Int),fc b l->(b=true->∀n r,rows=n::r->n.text=[])->rows≠[]->(∀t∈l,Yv t)->(A7 l ⟨rows,pl,0⟩).e=0->Fw (A7 l ⟨rows,pl,0⟩).rows<=Fw rows+(Ex.Bh l).length
 |[],b,rows,pl,_,_,_,_,_=>Nat.le_add_right _ _
 |t::l,b,rows,pl,hr,hb,BM,hk,h=>by
  obtain⟨n,r,rfl⟩:=List.exists_cons_of_ne_nil BM;obtain⟨h1,h2⟩:=PW h;have h3:=zr (S:=⟨n::r,pl,0⟩) BM rfl h1
  have h4:=mf (hk t (List.mem_cons_self ..)) h1 (fun e=>hb (hr.1 e) n r rfl)
  rw[(GB t l _).1 h1];have e:=UK (S:=Aq t ⟨n::r,pl,0⟩) rfl h1;rw[e] at h2⊢
  have ih:=lX l (Ex.D7 t) _ _ hr.2 (fun ho n' r' e'=> ?_) h3.ne (fun u hu=>hk u (List.mem_cons_of_mem _ hu)) h2
  ·rw[Ex.Bh,List.length_append];omega
  ·have k2:t.kind=2:=by
    unfold Ex.D7 at ho;simp only[Bool.and_eq_true,beq_iff_eq] at ho;exact ho.1
   obtain⟨bL,e5⟩:=Mn (.inl k2) h1;obtain⟨b1,_⟩:=Ki bL
   have he:Bj (Bq t.name)=false:=by rw[b1,k2];rfl
   rw[he] at e5;rw[e5] at e';simp only[cond_false] at e'
   injection e' with e' _
   rw[<-e'];rfl
theorem Sv {s:List UInt8}{n:Nd}(h:Bg s=.ok n):(Ex.Bh (BR n.kids)).length<=s.length:=by
 have he:Ec s=0:=by unfold Ec;rw[h];rfl
 obtain⟨n',l,p,hn,hm,hl,hp⟩:=NM he;rw[h] at hm
 injection hm with hm
 subst hm;have hg:=Ex.Nb hl
 have h1:=lX l false DV.rows 0 (mi hg) (fun e=>by cases e) (by show [Nd.mk 1 0 [] [] []]≠[];simp) (eI hg) (by show(A7 l DV).e=0;rw[hp])
 have h2:Fw (A7 l DV).rows<=Fw DV.rows+(Ex.Bh l).length:=h1;rw[hp] at h2;have h2:Fw [n]<=Fw DV.rows+(Ex.Bh l).length:=h2;have h3:=Ex.jh l 0 none false (Ex.LS hl) (Ex.Qv hl) (Nat.zero_le _);have h4:Fw DV.rows=0:=rfl;have h5:Fw [n]=MQ n.kind n.attrs+n.text.length+wL n.kids+0:=rfl;have h6:wL n.kids=(Ex.Bh (BR n.kids)).length:=rfl;omega
theorem WN :∀{a b:List Go.Ai.Ak},Du a b=true->a.map DG=b.map DG
 |[],[],_=>rfl
 |[],_::_,h=>by cases h
 |_::_,[],h=>by cases h
 |x::a,y::b,h=>by
  simp only[Du,Bool.and_eq_true] at h;obtain⟨h1,h2⟩:=h;unfold alike at h1;simp only[Bool.and_eq_true,beq_iff_eq] at h1;simp only[List.map_cons,WN h2,DG,h1.1,h1.2]
mutual
theorem bw :∀(a b:Nd),a.same b=true->Gn a=Gn b
 |.mk k p t al ks,.mk k' p' t' yS Um,h=>by
  have hh:=Dn.1 h;have g1:k=k':=hh.1;have g2:t=t':=hh.2.1;have e1:al.map DG=yS.map DG:=WN hh.2.2.1;have e2:BR ks=BR Um:=K9 ks Um hh.2.2.2;simp only[Gn,e1,e2,Ou,g1,g2]
theorem K9 :∀(a b:List Nd),Ei a b=true->BR a=BR b
 |[],[],_=>rfl
 |[],_::_,h=>by cases h
 |_::_,[],h=>by cases h
 |x::a,y::b,h=>by
  simp only[Ei,Bool.and_eq_true] at h;simp only[BR,bw x y h.1,K9 a b h.2]
end
def Sr (k:Int)(al:List Go.Ai.Ak):List UInt8:=
 bif k==1||k==2 then [] else bif k==14 then Ex.Cf++[32] else bif k==3||k==6 then Ex.Al++(Bw k++(Ex.AP (al.map DG)++[47,62])) else Ex.Al++(Bw k++(Ex.AP (al.map DG)++[62]))
def lH (k:Int):List UInt8:=
 bif k==1||k==2 then [] else bif k==14 then Ex.BS else bif k==3||k==6 then [] else Ex.Ab++(Bw k++[62])
mutual
def Fp :Nd->List UInt8
 |.mk k _ t al ks=>Sr k al++(t++(FA ks++lH k))
def FA :List Nd->List UInt8
 |[]=>[]
 |n::r=>Fp n++FA r
end
mutual
theorem rZ :∀(c:Nd) (d:Int) (hid:Bool) (b:Int),c.Mj d hid b=0->(c.kind=2\/c.kind=14\/LZ c.kind)->Fp c=Ex.Bh (Gn c)
 |.mk k p t al ks,d,hid,b,hc,hk=>by
  have hk:k=2\/k=14\/LZ k:=hk;obtain⟨hf,hs⟩:=Gl.1 hc;obtain⟨f1,f2,f3,f4,f5,f6,f7,f8⟩:=Hy.1 hf;rw[Fp,Gn];unfold Sr lH
  by_cases h2:k=2
  ·subst h2;obtain rfl:ks=[]:=List.eq_nil_of_length_eq_zero (f6 rfl);show []++(t++([]++[]))=t++[];simp
  have n1:k≠1:=by
   rcases hk with h|h|h
   ·omega
   ·omega
   ·unfold LZ at h;omega
  have x1:(k==1)=false:=by simpa using n1
  have x2:(k==2)=false:=by simpa using h2
  rw[x1,x2];simp only[Bool.or_self,cond_false]
  cases TM:k==3||k==6 with
  |true=>
   simp only[Bool.or_eq_true,beq_iff_eq] at TM
   obtain rfl:ks=[]:=List.eq_nil_of_length_eq_zero (f6 (by unfold Fx;rcases TM with rfl|rfl<;>rfl))
   obtain rfl:=IK h2 (by omega) (by omega) f4
   have qS:(k==14)=false:=by rw[beq_eq_false_iff_ne];omega
   rw[qS];simp only[cond_true,cond_false,FA,List.append_nil,List.nil_append,Ex.Bh];rfl
  |false=>
   simp only[cond_false];simp only[Bool.or_eq_false_iff,beq_eq_false_iff_ne] at TM
   cases Mv:k==4||k==5 with
   |true=>
    simp only[Bool.or_eq_true,beq_iff_eq] at Mv
    obtain rfl:ks=[]:=List.eq_nil_of_length_eq_zero (f6 (by unfold Fx;rcases Mv with rfl|rfl<;>rfl))
    have qS:(k==14)=false:=by rw[beq_eq_false_iff_ne];omega
    rw[qS];simp only[cond_true,cond_false,FA,List.nil_append,Ex.Bh,List.append_nil];rfl
   |false=>
    simp only[Bool.or_eq_false_iff,beq_eq_false_iff_ne] at Mv;obtain rfl:=IK h2 Mv.1 Mv.2 f4;have e:=fu ks _ _ _ _ _ _ hs
    cases SL:k==14 with
    |true=>
     simp only[cond_true,cond_false,List.nil_append,Ex.Bh,Ex.IX,List.append_nil,e];rfl
    |false=>
     simp only[cond_false,List.nil_append,Ex.Bh,Ex.IX,List.append_nil,e];rfl
theorem fu :∀(ks:List Nd) (p N i d:Int) (hid:Bool) (b:Int),Il p N ks i d hid b=0->FA ks=Ex.Bh (BR ks)
 |[],_,_,_,_,_,_,_=>rfl
 |c::ks,p,N,i,d,hid,b,h=>by
  obtain⟨h1,h2,h3⟩:=Cy.1 h;rw[FA,BR,Ex.IX,rZ c d hid b h2 (J6 h1),fu ks p N (i+1) d hid c.kind h3]
end
theorem Qe {n:Nd}(h:n.Hi=0):Fp n=Ex.Bh (BR n.kids):=by
 obtain⟨hk,_⟩:=Tu h;obtain⟨k,p,t,al,ks⟩:=n;have hk:k=1:=hk;subst hk;have hc:(Nd.mk 1 p t al ks).Mj 0 false 0=0:=h;obtain⟨hf,hs⟩:=Gl.1 hc;obtain⟨f1,f2,f3,f4,f5,f6,f7,f8⟩:=Hy.1 hf
 obtain rfl:=IK (by decide) (by decide) (by decide) f4
 rw[Fp];show []++([]++(FA ks++[]))=Ex.Bh (BR ks);rw[fu ks _ _ _ _ _ _ hs];simp
def GU (n:Nd):List UInt8×Int:=bif n.Hi==0 then(bif decide (65536<(Fp n).length) then([],3) else(Fp n,0)) else([],n.Hi)
theorem Oo :∀{a b:List Go.Ai.Ak},Du a b=true->Du b a=true
 |[],[],_=>rfl
 |[],_::_,h=>by cases h
 |_::_,[],h=>by cases h
 |x::a,y::b,h=>by
  simp only[Du,Bool.and_eq_true] at h⊢;obtain⟨h1,h2⟩:=h;refine⟨?_,Oo h2⟩;unfold alike at h1⊢;simp only[Bool.and_eq_true,beq_iff_eq] at h1⊢;exact⟨h1.1.symm,h1.2.symm⟩
mutual
theorem Si :∀(a b:Nd),a.same b=true->b.same a=true
 |.mk k p t al ks,.mk k' p' t' yS Um,h=>by
  have hh:=Dn.1 h;exact Dn.2 ⟨hh.1.symm,hh.2.1.symm,Oo hh.2.2.1,QI ks Um hh.2.2.2⟩
theorem QI :∀(a b:List Nd),Ei a b=true->Ei b a=true
 |[],[],_=>rfl
 |[],_::_,h=>by cases h
 |_::_,[],h=>by cases h
 |x::a,y::b,h=>by
  simp only[Ei,Bool.and_eq_true] at h⊢;exact⟨Si x y h.1,QI a b h.2⟩
end
theorem Tx {n:Nd}(h:n.Hi=0)(hl:(Ex.Bh (BR n.kids)).length<=65536):GU n=(Ex.Bh (BR n.kids),0):=by
 unfold GU
 rw[h,Qe h,decide_eq_false (by omega)]
 rfl
theorem gY {n:Nd}{s:List UInt8}(h:GU n=(s,0)):∃m,Bg s=.ok m/\n.same m=true/\GU m=(s,0):=by
 have hp:n.Hi=0:=by
  unfold GU at h
  cases hn:n.Hi==0 with
  |true=>exact eq_of_beq hn
  |false=>
   rw[hn] at h;simp only[cond_false] at h;exact congrArg Prod.snd h
 have hl:(Fp n).length<=65536:=by
  unfold GU at h;rw[hp] at h
  refine Nat.le_of_not_lt fun BC=> ?_
  rw[decide_eq_true BC] at h;have:(3:Int)=0:=congrArg Prod.snd h;cases this
 rw[Qe hp] at hl;rw[Tx hp hl] at h;have hs:Ex.Bh (BR n.kids)=s:=congrArg Prod.fst h;obtain⟨m,h1,h2⟩:=cW hp hl;rw[hs] at h1;have e:BR m.kids=BR n.kids:=K9 _ _ (Dn.1 h2).2.2.2;refine⟨m,h1,Si _ _ h2,?_⟩
 rw[Tx (WY h1) (by rw[e];exact hl),e,hs]
theorem cz {s:List UInt8}{n:Nd}(h:Bg s=.ok n)(hs:s.length<=65536):∃t,GU n=(t,0)/\t.length<=s.length:=by
 have h1:=Sv h
 exact⟨_,Tx (WY h) (by omega),h1⟩
def rb (s:List UInt8):List (List AV):=s.map fun(b:UInt8)=>[AV.int IntKind.u8 ((UInt8.toNat b:Nat):Int)]
theorem UE (s:List UInt8):(rb s).length=s.length:=by simp[rb]
theorem nO (a b:List UInt8):rb (a++b)=rb a++rb b:=by simp[rb]
theorem UI :∀s:List UInt8,AO.BJ (rb s)=true
 |[]=>rfl
 |c::r=>by
  have:rb (c::r)=[AV.int .u8 ((c.toNat:Nat):Int)]::rb r:=rfl;rw[this];simp only[AO.BJ,AO.Ad,AO,UI r,Bool.and_true]
theorem F7 (n:Nat)(h:Hp)(l:List UInt8):AE n h (rb l)=rb l:=As _ _ _ (UI l)
theorem M6 {h:Hp}{n sz e id:Nat}(hh:h[id]?=some (.grow n sz e)):E7 h n sz e (some id)=true:=by
 simp[E7,hh,Nat.beq_refl]
theorem Th :∀s:List UInt8,GK (rb s)=some s
 |[]=>rfl
 |c::r=>by
  have ih:=Th r;have hc:=c.toNat_lt;have e:rb (c::r)=[AV.int .u8 ((c.toNat:Nat):Int)]::rb r:=rfl
  have b:On [AV.int .u8 ((c.toNat:Nat):Int)]=some c:=by
   simp only[On]
   rw[decide_eq_true (by omega),decide_eq_true (by omega)]
   simp
  rw[e];simp only[GK,b,ih]
def Im :Nat:=1000000
def Av :AV:=.fn (.func 27) [] [.ptr 2 0,.ptr 3 0]
def hB (c0:List AV)(acc:List UInt8)(p:AV):Hp:=[.mem 26 c0,.grow acc.length 1 5,.mem 69 [p,.sl 1 (rb acc) (some 1)],.mem 70 [Av]]
def Oz (p:AV):Prop:=p=.Gb\/p=.ptr 2 0
def jH :Ce:=fun vs h K=>match h with
 |[b0,b1,b2,b3,b4]=>∃(c0 c4:List AV) (acc:List UInt8) (p:AV),AO.Ad c0=true/\AO.Ad c4=true/\Oz p/\vs=[.ptr 2 0]/\[b0,b1,b2,b3]=hB c0 acc p/\b4=.mem 26 c4/\K (.tup []) (hB c0 acc (.ptr 2 0)++[b4])
 |_=>False
def Tt :Ce:=fun vs h K=>match h with
 |[b0,b1,b2,b3,b4]=>∃(c0 c4:List AV) (acc x:List UInt8) (p:AV),AO.Ad c0=true/\AO.Ad c4=true/\Oz p/\acc.length+x.length<=Im/\vs=[.ptr 2 0,.str x]/\[b0,b1,b2,b3]=hB c0 acc p/\b4=.mem 26 c4/\
  K (.tup [.int .i64 ((x.length:Nat):Int),.JX]) (hB c0 (acc++x) (.ptr 2 0)++[b4])
 |_=>False
def rj :Ce:=fun vs h K=>∃(c0:List AV) (acc:List UInt8),AO.Ad c0=true/\vs=[.ptr 2 0]/\h=hB c0 acc (.ptr 2 0)/\K (.int .i64 ((acc.length:Nat):Int)) (hB c0 acc (.ptr 2 0))
def rN :Ce:=fun vs h K=>∃(c0:List AV) (acc:List UInt8),vs=[.ptr 2 0]/\h=hB c0 acc (.ptr 2 0)/\K (.str acc) [.mem 26 c0,.dead,.mem 69 [.ptr 2 0,.sl 1 (rb acc) (some 1)],.mem 70 [Av]]
def Gv :Ce:=fun vs h K=>∃l:List Go.Ai.Ak,(Ex.AP (l.map DG)).length<=Im/\(∀a∈l,a.value.length<=BH)/\vs=[.sl 3 (l.map Go.Ai.Ao) none]/\K (.str (Ex.AP (l.map DG))) h
mutual
def pq :Nd->Prop
 |.mk k _ _ _ ks=>(1<=k/\k<=14)/\dB ks
def dB :List Nd->Prop
 |[]=>True
 |n::r=>pq n/\dB r
end
def Vy (N:Nat):Ce:=fun vs h K=>match h with
 |b0::b1::b2::b3::r=>∃(nd:Nd) (c0:List AV) (acc:List UInt8) (p:AV),AO.Ad c0=true/\nd.size<N/\pq nd/\nd.Km/\Oz p/\acc.length+(Fp nd).length<=Im/\MB 4 (hB c0 acc p++r)=true/\
  vs=[.agg (ES nd),.ptr 2 0,.ptr 3 0]/\[b0,b1,b2,b3]=hB c0 acc p/\K (.tup []) (hB c0 (acc++Fp nd) (.ptr 2 0)++r)
 |_=>False
def Hm (N:Nat):Ce:=fun vs h K=>∃n:Nd,n.size<N/\n.Km/\N<=1000000/\(n.Hi=0->(Fp n).length<=Im)/\vs=[.agg (ES n)]/\K (.tup [.str (GU n).1,.int .i64 (GU n).2]) h
end Go.Ai.Sp
end
