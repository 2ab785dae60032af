/-
  What pieces, trees and the parser are, in plain terms, and the laws of them that the row wants. No statement about the program is made here.
-/
import Derived.Test.YtopjpnhgnopbiaaGreatDoorTJA
import Derived.Test.YtopjpnhgnopbiaaGreatDoorTAiSymP
import Derived.Test.YtopjpnhgnopbiaaGreatDoorTAiPrims
import Derived.Test.YtopjpnhgnopbiaaGreatDoorTAiMono
set_option linter.unusedVariables false
set_option linter.unusedSimpArgs false
set_option linter.unnecessarySimpa false
section
namespace Go.Ai.Sp
open Go.Ai Go.RowKit Go.Ai.Ex
abbrev Row :=Nat×List AV
abbrev Bp :Nat:=1000000000000
def hP (g:Nat)(rows:List Row)(pl e:Int):Hp:=[.grow 0 3 80,.grow 0 5 26,.mem 26 [.int .i64 0,.int .i64 0,.str [],.sl 3 [] (some 0),.sl 5 [] (some 1)],.grow 0 3 80,.dead,.stk g 26 5 4 26 5 rows,.grow 0 5 26,
 .mem 46 [.CI 5 g 0 5 rows.length,.int .i64 pl,.int .i64 e]]
def BG (v0 v1 v2 v3:AV)(es:List (List AV)):Row:=(es.length,[v0,v1,v2,v3,.sl 5 es none])
def _root_.Ak.okW (rows:List Row)(r:Hp):Prop:=∀(n:Nat) (g:Hp),8+r.length<=n->rows.map (fun x=>(x.1,AP n g x.2))=rows/\r.map (AL n g)=r
def Jr :Ci:=fun vs h K=>∃(g:Nat) (row:Row) (rows:List Row) (pl e:Int) (r:Hp),Ak.okW (row::rows) r/\(row::rows).length<=Bp/\vs=[.ptr 7 0]/\h=hP g (row::rows) pl e++r/\K (.BW 5 g 0 0) h
def fE (p x pl e:Int):Int×Int:=bif e==0 then(p,x) else(pl,e)
def Ch :Ci:=fun vs h K=>∃(p x:Int) (g:Nat) (rows:List Row) (pl e:Int) (r:Hp),Ak.okW rows r/\vs=[.ptr 7 0,.int .i64 p,.int .i64 x]/\h=hP g rows pl e++r/\K (.tup []) (hP g rows (fE p x pl e).1 (fE p x pl e).2++r)
def Ea (es:List (List AV)):Int:=match es.getLast? with
 |some (.int _ k::_)=>k
 |_=>0
def MD (es:List (List AV)):Prop:=es.length<=Bp/\∀x∈es,∃k v1 v2 v3 v4,x=[AV.int .i64 k,v1,v2,v3,v4]
def UM :Ci:=fun vs h K=>∃(g:Nat) (v0 v1 v2 v3:AV) (es:List (List AV)) (rows:List Row) (pl e:Int) (r:Hp),Ak.okW (BG v0 v1 v2 v3 es::rows) r/\(BG v0 v1 v2 v3 es::rows).length<=Bp/\MD es/\
 vs=[.ptr 7 0]/\h=hP g (BG v0 v1 v2 v3 es::rows) pl e++r/\K (.int .i64 (Ea es)) h
def Du (k l x:Int):Bool:=bif k==7 then(x==8&&l==0)||(x==9&&l==8) else bif k==10 then(x==11&&l !=12)||(x==12&&l==11) else !(x==8||x==9||x==11||x==12)
def cI :Ci:=fun vs h K=>∃(g:Nat) (k x:Int) (v1 v2 v3:AV) (es:List (List AV)) (rows:List Row) (pl e:Int) (r:Hp),Ak.okW (BG (.int .i64 k) v1 v2 v3 es::rows) r/\(BG (.int .i64 k) v1 v2 v3 es::rows).length<=Bp/\MD es/\
 vs=[.ptr 7 0,.int .i64 x]/\h=hP g (BG (.int .i64 k) v1 v2 v3 es::rows) pl e++r/\K (.bool (Du k (Ea es) x)) h
def kH :Ci:=fun vs h K=>∃(l:List Int) (x:Int),vs=[.sl 1 (l.map fun n=>[.int .i64 n]) none,.int .i64 x]/\l.length<=Bp/\K (.bool (l.any (·==x))) h
def im :Ci:=fun vs h K=>∃(l:List Int) (x:Int),vs=[.sl 1 (l.map fun n=>[.int .i64 n]) none,.int .i64 x]/\l.length<=Bp/\∀z:Int,decide (z>=0)=(l.any (·==x))->K (.int .i64 z) h
def kI :Ci:=fun vs h K=>∃(l:List (List UInt8)) (x:List UInt8),vs=[.sl 1 (l.map fun n=>[.str n]) none,.str x]/\l.length<=Bp/\K (.bool (l.any (·==x))) h
def cw :Ci:=fun vs h K=>∃(l:List (List UInt8)) (x:List UInt8),vs=[.sl 1 (l.map fun n=>[.str n]) none,.str x]/\l.length<=Bp/\∀z:Int,decide (z>=0)=(l.any (·==x))->K (.int .i64 z) h
structure El where
 kind:Int
 names:List (List UInt8)
 JZ:Nat
def C6 (s:List UInt8):El:=
 bif s==[105,110,99,108,117,100,101] then⟨3,[[115,114,99],[97,108,116],[111,110,101,114,114,111,114]],1⟩ else
 bif s==[105,110,108,105,110,101] then⟨4,[[110,97,109,101],[102,101,116,99,104,97,98,108,101]],1⟩ else
 bif s==[114,101,109,111,118,101] then⟨5,[],0⟩ else
 bif s==[99,111,109,109,101,110,116] then⟨6,[[116,101,120,116]],1⟩ else
 bif s==[116,114,121] then⟨7,[],0⟩ else
 bif s==[97,116,116,101,109,112,116] then⟨8,[],0⟩ else
 bif s==[101,120,99,101,112,116] then⟨9,[],0⟩ else
 bif s==[99,104,111,111,115,101] then⟨10,[],0⟩ else
 bif s==[119,104,101,110] then⟨11,[[116,101,115,116]],1⟩ else
 bif s==[111,116,104,101,114,119,105,115,101] then⟨12,[],0⟩ else⟨13,[],0⟩
def IQ (x:El):List AV:=[.int .i64 x.kind,.sl 1 (x.names.map fun n=>[.str n]) none,.int .i64 (x.JZ:Nat)]
def rn :Ci:=fun vs h K=>∃s:List UInt8,vs=[.str s]/\K (.agg (IQ (C6 s))) h
def Jo (x y:List UInt8):Bool:=
 bif x==[111,110,101,114,114,111,114] then y==[99,111,110,116,105,110,117,101] else
 bif x==[102,101,116,99,104,97,98,108,101] then y==[121,101,115]||y==[110,111] else
 bif x==[116,101,120,116] then true else !(y==[])
def jV :Ci:=fun vs h K=>∃x y:List UInt8,vs=[.str x,.str y]/\K (.bool (Jo x y)) h
def CT (k a:Int)(t:List UInt8)(aa:List (List AV))(oa:Option Nat)(ks:List (List AV))(ow:Option Nat):List AV:=[.int .i64 k,.int .i64 a,.str t,.sl 3 aa oa,.sl 5 ks ow]
def Sv (m:Nat):Ci:=fun vs h K=>∃(g:Nat) (v0 v1 v2 v3:AV) (es:List (List AV)) (rows:List Row) (pl e:Int) (r:Hp) (nk na:Int) (nt:List UInt8) (aa:List (List AV)) (oa:Option Nat) (ks:List (List AV)) (ow:Option Nat),
 Ak.okW (BG v0 v1 v2 v3 es::rows) r/\(BG v0 v1 v2 v3 es::rows).length<=Bp/\es.length<Bp/\(∀n g,8+m<=n->AP n g (CT nk na nt aa oa ks ow)=CT nk na nt aa oa ks ow)/\r.length=m/\
 vs=[.ptr 7 0,.agg (CT nk na nt aa oa ks ow)]/\h=hP g (BG v0 v1 v2 v3 es::rows) pl e++r/\K (.tup []) (hP g (BG v0 v1 v2 v3 (es++[CT nk na nt aa oa ks ow])::rows) pl e++r)
def A7 (x:El)(fr:Int)(l:List A8)(s:Int×Int):Int×Int:=
 l.foldl (fun s a=>bif !(x.names.any (·==a.name))|| !Jo a.name a.value then fE a.at' 12 s.1 s.2 else s) ((x.names.take x.JZ).foldl (fun s nm=>bif !(l.any fun a=>a.name==nm) then fE fr 12 s.1 s.2 else s) s)
def Jt (tk fr to:Int)(nm tx:List UInt8)(aa:List (List AV)):List AV:=[.int .i64 tk,.str nm,.sl 3 aa none,.str tx,.int .i64 fr,.int .i64 to]
def Fl (t:List AV)(x:El):Hp:=[.grow 0 3 80,.mem 50 t,.mem 50 t,.grow 0 1 9,.mem 114 (IQ x)]
def _root_.Ak.gG (rows:List Row):Prop:=∀r∈rows,∀n,4<=n->CA n r.2=true
def lR :Ci:=fun vs h K=>∃(g:Nat) (rows:List Row) (pl e:Int) (x:El) (tk fr to:Int) (nm tx:List UInt8) (l:List A8),Ak.gG rows/\x.JZ<=x.names.length/\x.names.length<=Bp/\l.length<=Bp/\
 vs=[.ptr 7 0,.agg (IQ x),.agg (Jt tk fr to nm tx (encAs l))]/\h=hP g rows pl e++Fl (Jt tk fr to nm tx (encAs l)) x/\K (.tup []) (hP g rows (A7 x fr l (pl,e)).1 (A7 x fr l (pl,e)).2++Fl (Jt tk fr to nm tx (encAs l)) x)
def YD :Ci:=fun vs h K=>∃(g:Nat) (rows:List Row) (pl e:Int) (b0 b1 b2 b3 b4 b5 b6:Blk) (wd an av:List UInt8) (ap:Int),Ak.okW rows [b0,b1,b2,b3,b4,b5,b6,.mem 9 [.str wd]]/\
 vs=[.agg [.str an,.str av,.int .i64 ap],.ptr 15 0]/\h=hP g rows pl e++[b0,b1,b2,b3,b4,b5,b6,.mem 9 [.str wd]]/\K (.bool (an==wd)) h
def jK :Ci:=fun vs h K=>∃(g:Nat) (rows:List Row) (pl e:Int) (b0 b1 b2 b3 b4 b5 b6:Blk) (wd:List UInt8) (l:List A8),Ak.okW rows [b0,b1,b2,b3,b4,b5,b6,.mem 9 [.str wd]]/\l.length<=Bp/\
 vs=[.sl 3 (encAs l) none,.fn (.func 100) [] [.ptr 15 0]]/\h=hP g rows pl e++[b0,b1,b2,b3,b4,b5,b6,.mem 9 [.str wd]]/\∀z:Int,decide (z>=0)=(l.any fun a=>a.name==wd)->K (.int .i64 z) h
def dn :Ci:=fun vs h K=>∃(g:Nat) (rows:List Row) (pl e:Int) (b0 b1 b2 b3 b4 b5 b6:Blk) (wd:List UInt8) (l:List A8),Ak.okW rows [b0,b1,b2,b3,b4,b5,b6,.mem 9 [.str wd]]/\l.length<=Bp/\
 vs=[.sl 3 (encAs l) none,.fn (.func 100) [] [.ptr 15 0]]/\h=hP g rows pl e++[b0,b1,b2,b3,b4,b5,b6,.mem 9 [.str wd]]/\K (.bool (l.any fun a=>a.name==wd)) h
def BZ (s:List UInt8):List UInt8:=s.dropWhile blB
def aO :Ci:=fun vs h K=>∃s:List UInt8,s.length<=Bp/\vs=[.str s,.str [32,9,10,13]]/\K (.str (BZ s)) h
def Mu (g:Nat)(rows:List Row)(r:Hp):Ci:=fun vs h K=>∃(p x:Int) (pl e:Int),vs=[.ptr 7 0,.int .i64 p,.int .i64 x]/\h=hP g rows pl e++r/\K (.tup []) (hP g rows (fE p x pl e).1 (fE p x pl e).2++r)
def jL (g:Nat)(rows:List Row)(b0 b1 b2 b3 b4 b5 b6:Blk):Ci:=fun vs h K=>∃(p x:Int) (pl e:Int) (w:List UInt8),vs=[.ptr 7 0,.int .i64 p,.int .i64 x]/\h=hP g rows pl e++[b0,b1,b2,b3,b4,b5,b6,.mem 9 [.str w]]/\
 K (.tup []) (hP g rows (fE p x pl e).1 (fE p x pl e).2++[b0,b1,b2,b3,b4,b5,b6,.mem 9 [.str w]])
def jM (g:Nat)(rows:List Row)(b0 b1 b2 b3 b4 b5 b6:Blk):Ci:=fun vs h K=>∃(p x:Int) (pl e:Int) (w v:List UInt8) (q:Int),vs=[.ptr 7 0,.int .i64 p,.int .i64 x]/\h=hP g rows pl e++[b0,b1,b2,b3,b4,b5,b6,.mem 80 [.str w,.str v,.int .i64 q]]/\
 K (.tup []) (hP g rows (fE p x pl e).1 (fE p x pl e).2++[b0,b1,b2,b3,b4,b5,b6,.mem 80 [.str w,.str v,.int .i64 q]])
def ue (s:List UInt8):Ci:=fun vs h K=>vs=[.str s]/\K (.agg (IQ (C6 s))) h
def pC (b0 b1:Blk)(t:List AV)(x:El):Hp:=[b0,b1,.mem 50 t,.grow 0 1 9,.mem 114 (IQ x)]
def ez (g:Nat)(rows:List Row)(x:El)(tk fr to:Int)(nm tx:List UInt8)(l:List A8):Ci:=fun vs h K=>∃(pl e:Int),vs=[.ptr 7 0,.agg (IQ x),.agg (Jt tk fr to nm tx (encAs l))]/\
 h=hP g rows pl e++Fl (Jt tk fr to nm tx (encAs l)) x/\K (.tup []) (hP g rows (A7 x fr l (pl,e)).1 (A7 x fr l (pl,e)).2++Fl (Jt tk fr to nm tx (encAs l)) x)
end Go.Ai.Sp
end
section
namespace Go.Ai
open Go.RowKit
structure A8 where
 name:List UInt8
 value:List UInt8
 pl:Int
inductive Nd where
 |mk (kind pl:Int) (text:List UInt8) (attrs:List A8) (kids:List Nd)
 deriving Inhabited
def Nd.kind :Nd->Int|.mk k _ _ _ _=>k
def Nd.pl :Nd->Int|.mk _ p _ _ _=>p
def Nd.text :Nd->List UInt8|.mk _ _ t _ _=>t
def Nd.attrs :Nd->List A8|.mk _ _ _ a _=>a
def Nd.kids :Nd->List Nd|.mk _ _ _ _ l=>l
def Ao (a:A8):List AV:=[.str a.name,.str a.value,.int .i64 a.pl]
mutual
def PW :Nd->List AV
 |.mk k p t al ks=>[.int .i64 k,.int .i64 p,.str t,.sl 3 (al.map Ao) none,.sl 5 (Ac ks) none]
def Ac :List Nd->List (List AV)
 |[]=>[]
 |n::r=>PW n::Ac r
end
theorem Dx :∀l:List Nd,Ac l=l.map PW
 |[]=>rfl
 |n::r=>by rw[Ac,Dx r];rfl
mutual
def Nd.size :Nd->Nat
 |.mk _ _ _ _ ks=>1+Dc ks
def Dc :List Nd->Nat
 |[]=>0
 |n::r=>n.size+Dc r
end
mutual
theorem JD :∀n:Nd,AZ.Aw (PW n)=true
 |.mk k p t al ks=>by
  simp only[PW,AZ.Aw,AZ,Option.isNone_none,Bool.true_and,Bool.and_true,Bool.and_eq_true];refine⟨?_,FI ks⟩
  induction al with
  |nil=>rfl
  |cons a r ih=>simp only[List.map_cons,AZ.BX,Ao,AZ.Aw,AZ,ih,Bool.true_and]
theorem FI :∀l:List Nd,AZ.BX (Ac l)=true
 |[]=>rfl
 |n::r=>by simp only[Ac,AZ.BX,JD n,FI r,Bool.true_and]
end
theorem FJ (l:List A8):AZ.BX (l.map Ao)=true:=by
 induction l with
 |nil=>rfl
 |cons a r ih=>simp only[List.map_cons,AZ.BX,Ao,AZ.Aw,AZ,ih,Bool.true_and]
mutual
theorem UE (n:Nat):∀v,AZ v=true->Dv n v=true
 |.top,_=>rfl
 |.bool _,_=>rfl
 |.int _ _,_=>rfl
 |.str _,_=>rfl
 |.G9,_=>rfl
 |.ptr _ _,hp=>by simp[AZ] at hp
 |.ro cs,hp=>by rw[Dv];exact EY n cs (by simpa[AZ] using hp)
 |.sl sz es own,hp=>by
  simp only[AZ,Bool.and_eq_true] at hp
  cases own with
  |none=>simp only[Dv,Di n es hp.2,Bool.and_true]
  |some _=>simp at hp
 |.JW _ _ _ _,hp=>by simp[AZ] at hp
 |.NN _ vs,hp=>by first|(simp[AZ] at hp;done)|(rw[Dv];exact Di n vs (by simpa[AZ] using hp))
 |.fn f a c,hp=>by
  simp only[AZ,Bool.and_eq_true] at hp;rw[Dv,EY n a hp.1,EY n c hp.2];rfl
 |.GV,_=>rfl
 |.Cs cs,hp=>by first|(simp[AZ] at hp;done)|(rw[Dv];exact EY n cs (by simpa[AZ] using hp))
 |.iface t v,hp=>by rw[Dv];exact UE n v (by simpa[AZ] using hp)
 |.JY,_=>rfl
 |.agg cs,hp=>by rw[Dv];exact EY n cs (by simpa[AZ] using hp)
 |.tup cs,hp=>by rw[Dv];exact EY n cs (by simpa[AZ] using hp)
theorem EY (n:Nat):∀xs,AZ.Aw xs=true->CA n xs=true
 |[],_=>rfl
 |x::xs,hp=>by
  simp only[AZ.Aw,Bool.and_eq_true] at hp;rw[CA,UE n x hp.1,EY n xs hp.2];rfl
theorem Di (n:Nat):∀xs,AZ.BX xs=true->Aa n xs=true
 |[],_=>rfl
 |x::xs,hp=>by
  simp only[AZ.BX,Bool.and_eq_true] at hp;rw[Aa,EY n x hp.1,Di n xs hp.2];rfl
end
theorem CF {α:Type}(f:α->List AV)(l:List α){i:Nat}(h:i<l.length):Bm (l.map f) (i:Int)=f l[i]:=by
 unfold Bm;simp[h]
theorem Kf :∀a b:List Nd,Dc (a++b)=Dc a+Dc b
 |[],b=>by simp[Dc]
 |n::r,b=>by simp only[List.cons_append,Dc,Kf r b];omega
theorem dt {α:Type}(f:α->List AV)(pre:List α)(x:α)(r:List α):Bm ((pre++x::r).map f) (pre.length:Int)=f x:=by
 unfold Bm;simp
theorem Wj (pre:List Nd)(x:Nd)(r:List Nd):Bm (Ac (pre++x::r)) (pre.length:Int)=PW x:=by
 rw[Dx];exact dt _ _ _ _
theorem Be (l:List Nd):(Ac l).length=l.length:=by rw[Dx];simp
theorem Qi (n:Nat)(l:List A8):Aa n (l.map Ao)=true:=Di n _ (FJ l)
theorem Qh (n:Nat)(l:List Nd):Aa n (Ac l)=true:=Di n _ (FI l)
def nR :Nat:=9223372036854775807
def A8.fit (a:A8):Prop:=a.name.length<=nR/\a.value.length<=nR
mutual
def Nd.fit :Nd->Prop
 |.mk _ _ t al ks=>t.length<=nR/\al.length<=nR/\(∀a∈al,a.fit)/\ks.length<=nR/\fits ks
def fits :List Nd->Prop
 |[]=>True
 |n::r=>n.fit/\fits r
end
def alike (a b:A8):Bool:=a.name==b.name&&a.value==b.value
def fI :List A8->List A8->Bool
 |[],[]=>true
 |a::r,b::s=>alike a b&&fI r s
 |_,_=>false
mutual
def Nd.same :Nd->Nd->Bool
 |.mk k _ t al ks,n=>k==n.kind&&t==n.text&&fI al n.attrs&&iW ks n.kids
def iW :List Nd->List Nd->Bool
 |[],[]=>true
 |a::r,b::s=>a.same b&&iW r s
 |_,_=>false
end
theorem Gt (n:Nd):PW n=[.int .i64 n.kind,.int .i64 n.pl,.str n.text,.sl 3 (n.attrs.map Ao) none,.sl 5 (Ac n.kids) none]:=by
 obtain⟨k,p,t,al,ks⟩:=n;rfl
theorem Nd.size_eq (n:Nd):n.size=1+Dc n.kids:=by
 obtain⟨k,p,t,al,ks⟩:=n;rfl
def encT (l:List (List UInt8)):List (List AV):=l.map fun x=>[.str x]
def oY :List UInt8:=[60,101,115,105,58]
def uB :List UInt8:=[60,47,101,115,105,58]
def uA :List UInt8:=[60,33,45,45,101,115,105]
def iD :List (List UInt8):=[[32],[9],[10],[13]]
def fc (s:List UInt8):Bool:=Iw s oY||Iw s uB||iD.any fun b=>Iw s (uA++b)
def r9 :List UInt8:=[60,47,101,115,105,58,105,110,108,105,110,101]
def qw :List UInt8:=[60,47,101,115,105,58,114,101,109,111,118,101]
def iR (k:Int)(t:List UInt8)(hid:Bool):Bool:=
 bif k==2 then !(t==[])&& !fc t&& !(hid&&Iw t [45,45,62])
 else bif k==4 then !Iw t r9
 else bif k==5 then !Iw t qw&& !Iw t oY
 else t==[]
inductive pI where
 |full
 |one (l:List (List UInt8))
 |any
structure zF where
 name:List UInt8
 JZ:Bool
 may:pI
def pI.ok :pI->List UInt8->Bool
 |.full,v=>!(v==[])
 |.one l,v=>l.any fun x=>v==x
 |.any,_=>true
def pI.enc :pI->AV
 |.full=>.fn (.func 58) [] []
 |.one l=>.fn (.func 59) [.sl 1 (encT l) none] []
 |.any=>.fn (.func 60) [] []
end Go.Ai
end
section
namespace Go.Ai.Sp
open Go.Ai Go.RowKit
def XQ (a:Ex.A8):Go.Ai.A8:=⟨a.name,a.value,(a.at':Nat)⟩
def lZ :Nd:=.mk 0 0 [] [] []
def EJ (n k:Nd):Nd:=.mk n.kind n.pl n.text n.attrs (n.kids++[k])
def Vn (o:Option Nat)(n:Nd):Row:=BG (.int .i64 n.kind) (.int .i64 n.pl) (.str n.text) (.sl 3 (n.attrs.map Go.Ai.Ao) o) (Ac n.kids)
def Ln :List Nd->Option Nat
 |[]=>some 3
 |_=>none
def AY :List Nd->List Row
 |[]=>[]
 |n::r=>Vn (Ln r) n::AY r
def DB (l:List Nd):Int:=match l.getLast? with
 |some n=>n.kind
 |none=>0
structure Ps where
 rows:List Nd
 pl:Int
 e:Int
def Ir (p x:Int)(s:Ps):Ps:=⟨s.rows,(fE p x s.pl s.e).1,(fE p x s.pl s.e).2⟩
def FX (t:Ex.Tok)(s:Ps):Ps:=match s.rows with
 |[]=>s
 |n::r=>bif n.kind==7||n.kind==10 then(bif (BZ t.text).isEmpty then s else Ir ((t.to:Int)-(BZ t.text).length) 13 s) else⟨EJ n (.mk 2 t.fr t.text [] [])::r,s.pl,s.e⟩
def OM (t:Ex.Tok)(s:Ps):Ps:=match s.rows with
 |[]=>s
 |n::r=>⟨.mk n.kind n.pl t.text n.attrs n.kids::r,s.pl,s.e⟩
def FR (x:El):Bool:=x.kind==3||x.kind==6
def Nt (x:El)(t:Ex.Tok)(n:Nd)(r:List Nd)(s:Ps):Ps:=
 let s1:=bif (FR x !=(t.kind==3))|| !Du n.kind (DB n.kids) x.kind then Ir t.fr 13 s else s
 let s2:=bif decide (16<r.length+1) then Ir t.fr 3 s1 else s1
 ⟨s2.rows,(A7 x t.fr t.attrs (s2.pl,s2.e)).1,(A7 x t.fr t.attrs (s2.pl,s2.e)).2⟩
def GA (t:Ex.Tok)(s:Ps):Ps:=match s.rows with
 |[]=>s
 |n::r=>
  let x:=C6 t.name
  let s2:=Nt x t n r s
  bif FR x then⟨EJ n (.mk x.kind t.fr [] (t.attrs.map XQ) [])::r,s2.pl,s2.e⟩ else⟨.mk x.kind t.fr [] (t.attrs.map XQ) []::n::r,s2.pl,s2.e⟩
def HX (t:Ex.Tok)(s:Ps):Ps:=match s.rows with
 |[]=>s
 |n::r=>
  let s1:=bif !Du n.kind (DB n.kids) 14 then Ir t.fr 13 s else s
  let s2:=bif decide (16<r.length+1) then Ir t.fr 3 s1 else s1
  ⟨.mk 14 t.fr [] [] []::n::r,s2.pl,s2.e⟩
def Ja (t:Ex.Tok):Int:=bif t.kind==4 then(C6 t.name).kind else 14
def Hx (t:Ex.Tok)(n:Nd):Bool:=!(n.kind==Ja t)||((Ja t==7&& !(DB n.kids==9))||(Ja t==10&&DB n.kids==0))
def Et (t:Ex.Tok)(s:Ps):Ps:=match s.rows with
 |[]=>s
 |n::r=>bif Hx t n then Ir t.fr 13 s else match r with
  |[]=>s
  |m::q=>⟨EJ m n::q,s.pl,s.e⟩
def CS (t:Ex.Tok)(s:Ps):Ps:=
 bif t.kind==1 then FX t s else bif t.kind==7 then OM t s else bif t.kind==2||t.kind==3 then GA t s else bif t.kind==5 then HX t s else Et t s
def Bi :List Ex.Tok->Ps->Ps
 |[],s=>s
 |t::l,s=>bif (CS t s).e==0 then Bi l (CS t s) else CS t s
def Je :Ps:=⟨[.mk 1 0 [] [] []],0,0⟩
def Iv (len:Int)(s:Ps):Except (Int×Int) Nd:=
 bif s.e==0 then(match s.rows with
  |[n]=>.ok n
  |_=>.error (len,14)) else .error (s.pl,s.e)
def Vs (len:Int)(l:List Ex.Tok):Except (Int×Int) Nd:=Iv len (Bi l Je)
def Bz (s:List UInt8):Except (Int×Int) Nd:=
 if 65536<s.length then .error (65536,3) else
 match Ex.lexM s with
 |.error (p,e)=>.error ((p:Nat),e)
 |.ok l=>Vs s.length l
end Go.Ai.Sp
namespace Go.Ai.Sp
def aR (t:Ex.Tok):Prop:=t.text.length<=Bp/\t.to<=Bp/\t.fr<=Bp/\t.attrs.length<=Bp/\t.to>=t.text.length
def Hl (l:List Nd):Prop:=l.length<Bp/\∀n∈l,n.kids.length<Bp
def CO (t:Ex.Tok):Hp:=[.grow 0 3 80,.mem 50 (Ex.encT t)]
def H9 (M:Ex.Tok->Ps->Ps)(pre:Ex.Tok->Ps->Prop):Ci:=fun vs h K=>∃(g:Nat) (s:Ps) (t:Ex.Tok),s.rows≠[]/\Hl s.rows/\aR t/\pre t s/\vs=[.ptr 7 0,.agg (Ex.encT t)]/\h=hP g (AY s.rows) s.pl s.e++CO t/\
 ∀g':Nat,K (.tup []) (hP g' (AY (M t s).rows) (M t s).pl (M t s).e++CO t)
def EM :AV:=.NN [1,7,2,3,5,4,6] [[.fn (.func 40) [] []],[.fn (.func 41) [] []],[.fn (.func 42) [] []],[.fn (.func 42) [] []],[.fn (.func 43) [] []],[.fn (.func 44) [] []],[.fn (.func 44) [] []]]
def Vf :Ci:=fun vs h K=>vs.isEmpty=true/\K EM h
def Gr (_:Ex.Tok)(_:Ps):Prop:=True
def Xf (s:Ps):Prop:=∀n,s.rows=[n]->n.kind=1
def WD (_:Ex.Tok)(s:Ps):Prop:=Xf s
def j0 :Ci:=fun vs h K=>∃s:List UInt8,vs=[.str s]/\(∀n,Bz s=.ok n->K (.tup [.agg (PW n),.int .i64 0,.int .i64 0]) h)/\
 (∀p e,Bz s=.error (p,e)->∀z1 z2:Nat,(z1=3/\z2=5)\/(z1=0/\z2=0)->K (.tup [.agg [.int .i64 0,.int .i64 0,.str [],.sl z1 [] none,.sl z2 [] none],.int .i64 p,.int .i64 e]) h)
def Rt :Except (Int×Int) Nd->Nd×Int×Int
 |.ok n=>(n,0,0)
 |.error (p,e)=>(lZ,p,e)
def Bb (s:List UInt8):Nd:=(Rt (Bz s)).1
def G8 (s:List UInt8):Int:=(Rt (Bz s)).2.1
def G7 (s:List UInt8):Int:=(Rt (Bz s)).2.2
def Xc :Ci:=fun vs h K=>∃s:List UInt8,vs=[.str s]/\
 K (.tup [.agg [.int .i64 (Bb s).kind,.int .i64 (Bb s).pl,.str (Bb s).text,.sl 3 ((Bb s).attrs.map Go.Ai.Ao) none,.sl 5 (Ac (Bb s).kids) none],.int .i64 (G8 s),.int .i64 (G7 s)]) h
end Go.Ai.Sp
end
section
namespace Go.Ai.Sp
open Go.Ai Go.RowKit
def Zz :List Nd->Prop
 |[]=>False
 |[n]=>n.kind=1
 |_::r=>Zz r
theorem Zz.ne {l:List Nd}(h:Zz l):l≠[]:=by
 rintro rfl
 exact h
theorem Zz.push {l:List Nd}(h:Zz l)(n:Nd):Zz (n::l):=by
 cases l with
 |nil=>exact h.elim
 |cons=>exact h
theorem Zz.same {n m:Nd}{l:List Nd}(h:Zz (n::l))(e:m.kind=n.kind):Zz (m::l):=by
 cases l with
 |nil=>exact e.trans h
 |cons=>exact h
theorem Zz.pop {n m:Nd}{l:List Nd}(h:Zz (n::m::l)):Zz (m::l):=h
structure Inv (i:Nat) (l:List Nd):Prop where
 bot:Zz l
 len:l.length<=i+1
 kids:∀n∈l,n.kids.length<=i
theorem Qm (n k:Nd):(EJ n k).kind=n.kind:=rfl
theorem Cn (n k:Nd):(EJ n k).kids=n.kids++[k]:=rfl
theorem Inv.up {i:Nat}{l:List Nd}(h:Inv i l):Inv (i+1) l:=⟨h.bot,by have:=h.len;omega,fun n hn=>by have:=h.kids n hn;omega⟩
theorem Inv.add {i:Nat}{n:Nd}{l:List Nd}(h:Inv i (n::l))(k:Nd):Inv (i+1) (EJ n k::l):=by
 refine⟨h.bot.same (Qm n k),by have:=h.len;simp only[List.length_cons] at this⊢;omega,fun m hm=> ?_⟩
 rcases List.mem_cons.1 hm with rfl|hm
 ·have:=h.kids n (by simp)
  rw[Cn,List.length_append];simp only[List.length_cons,List.length_nil];omega
 ·have:=h.kids m (List.mem_cons_of_mem _ hm);omega
theorem Inv.push {i:Nat}{l:List Nd}(h:Inv i l){n:Nd}(hn:n.kids=[]):Inv (i+1) (n::l):=by
 refine⟨h.bot.push n,by have:=h.len;simp only[List.length_cons];omega,fun m hm=> ?_⟩
 rcases List.mem_cons.1 hm with rfl|hm
 ·rw[hn];simp
 ·have:=h.kids m hm;omega
theorem Inv.same {i:Nat}{n m:Nd}{l:List Nd}(h:Inv i (n::l))(e:m.kind=n.kind)(e2:m.kids=n.kids):Inv (i+1) (m::l):=by
 refine⟨h.bot.same e,by have:=h.len;simp only[List.length_cons] at this⊢;omega,fun x hx=> ?_⟩
 rcases List.mem_cons.1 hx with rfl|hx
 ·rw[e2];have:=h.kids n (by simp);omega
 ·have:=h.kids x (List.mem_cons_of_mem _ hx);omega
theorem Inv.pop {i:Nat}{n m:Nd}{l:List Nd}(h:Inv i (n::m::l)):Inv i (m::l):=
 ⟨h.bot.pop,by have:=h.len;simp only[List.length_cons] at this⊢;omega,fun x hx=>h.kids x (List.mem_cons_of_mem _ hx)⟩
theorem cu {i:Nat}{s:Ps}(h:Inv i s.rows)(t:Ex.Tok):Inv (i+1) (CS t s).rows:=by
 obtain⟨rows,pl,e⟩:=s
 cases rows with
 |nil=>exact(h.bot).elim
 |cons n r=>
  unfold CS
  cases t.kind==1 with
  |true=>
   simp only[cond_true];unfold FX;simp only
   cases n.kind==7||n.kind==10 with
   |true=>simp only[cond_true];cases (BZ t.text).isEmpty<;>exact h.up
   |false=>simp only[cond_false];exact h.add _
  |false=>
   simp only[cond_false]
   cases t.kind==7 with
   |true=>simp only[cond_true];exact h.same (m:=.mk n.kind n.pl t.text n.attrs n.kids) rfl rfl
   |false=>
    simp only[cond_false]
    cases t.kind==2||t.kind==3 with
    |true=>
     simp only[cond_true];unfold GA;simp only
     cases FR (C6 t.name) with
     |true=>simp only[cond_true];exact h.add _
     |false=>simp only[cond_false];exact h.push rfl
    |false=>
     simp only[cond_false]
     cases t.kind==5 with
     |true=>simp only[cond_true];exact h.push (n:=.mk 14 t.fr [] [] []) rfl
     |false=>
      simp only[cond_false];unfold Et;simp only
      cases Hx t n with
      |true=>simp only[cond_true];exact h.up
      |false=>
       simp only[cond_false]
       cases r with
       |nil=>exact h.up
       |cons m q=>exact h.pop.add _
theorem rz :Inv 0 Je.rows:=⟨rfl,by decide,fun n hn=>by
 rw[List.mem_singleton.1 hn];exact Nat.le_refl 0⟩
theorem XN {hid:Bool}{l:List Ex.Tok}(h:Ex.VG hid l):∀t∈l,t.kind=1\/t.kind=2\/t.kind=3\/t.kind=4\/t.kind=5\/t.kind=6\/t.kind=7:=by
 induction h with
 |nil=>intro t ht;cases ht
 |text k1 _ _ _ _ _ _ ih=>
  intro t ht
  rcases List.mem_cons.1 ht with rfl|ht
  ·exact .inl k1
  ·exact ih t ht
 |tag k1 _ _ _ ih=>
  intro t ht
  rcases List.mem_cons.1 ht with rfl|ht
  ·rcases k1 with k|k
   ·exact .inr (.inr (.inl k))
   ·exact .inr (.inl k.1)
  ·exact ih t ht
 |own k1 _ _ a1 _ _ c1 _ _ _ _ ih=>
  intro t ht
  rcases List.mem_cons.1 ht with rfl|ht
  ·exact .inr (.inl k1)
  ·rcases List.mem_cons.1 ht with rfl|ht
   ·exact .inr (.inr (.inr (.inr (.inr (.inr a1)))))
   ·exact ih t ht
 |close k1 _ _ _ ih=>
  intro t ht
  rcases List.mem_cons.1 ht with rfl|ht
  ·exact .inr (.inr (.inr (.inl k1)))
  ·exact ih t ht
 |kh k1 _ _ _ ih=>
  intro t ht
  rcases List.mem_cons.1 ht with rfl|ht
  ·exact .inr (.inr (.inr (.inr (.inl k1))))
  ·exact ih t ht
 |shown k1 _ _ _ _ ih=>
  intro t ht
  rcases List.mem_cons.1 ht with rfl|ht
  ·exact .inr (.inr (.inr (.inr (.inr (.inl k1)))))
  ·exact ih t ht
theorem RV {s:List UInt8}:∀(r:List Ex.Tok) (a:Nat) (prev:Option Ex.Tok) (hid:Bool),Ex.WG s a prev hid r->∀t∈r,t.fr<=t.to/\t.to<=s.length/\t.text.length<=t.to
 |[],_,_,_,_,t,ht=>by cases ht
 |u::r,a,prev,hid,h,t,ht=>by
  unfold Ex.WG at h;obtain⟨h1,h2,h3,h4,_,_,_,_,_,_,h5⟩:=h
  rcases List.mem_cons.1 ht with rfl|ht
  ·refine⟨by omega,h3,?_⟩
   rw[<-h4];unfold Ex.cut;simp only[List.length_take,List.length_drop];omega
  ·exact RV r _ _ _ h5 t ht
theorem gP {s:List UInt8}{l:List Ex.Tok}(hs:s.length<=65536)(h:Ex.lexM s=.ok l):l.length<=131074/\∀t∈l,aR t/\(t.kind=1\/t.kind=2\/t.kind=3\/t.kind=4\/t.kind=5\/t.kind=6\/t.kind=7):=by
 have hw:=Ex.Hn h
 refine⟨?_,fun t ht=>⟨?_,XN (Ex.JJ h) t ht⟩⟩
 ·rcases Ex.XJ l 0 none false hw (Nat.zero_le _) with h|⟨_,h⟩<;>omega
 ·obtain⟨h1,h2,h3⟩:=RV l 0 none false hw t ht;have hf:=Ex.Oo h t ht;have hc:=Ex.PL hf;have:=hf.1;unfold aR Bp
  exact⟨by omega,by omega,by omega,by omega,h3⟩
mutual
def bG (M:Nat):Nd->Prop
 |.mk _ _ t al ks=>t.length<=M/\al.length<=M/\(∀a∈al,a.name.length<=M/\a.value.length<=M)/\ks.length<=M/\OD M ks
def OD (M:Nat):List Nd->Prop
 |[]=>True
 |n::r=>bG M n/\OD M r
end
theorem OC {M:Nat}:∀{a b:List Nd},OD M (a++b)↔OD M a/\OD M b
 |[],b=>by simp[OD]
 |n::r,b=>by simp only[List.cons_append,OD,OC (a:=r),and_assoc]
theorem Re {M:Nat}(n:Nd):bG M n=(n.text.length<=M/\n.attrs.length<=M/\(∀a∈n.attrs,a.name.length<=M/\a.value.length<=M)/\n.kids.length<=M/\OD M n.kids):=by
 obtain⟨k,p,t,al,ks⟩:=n;rfl
def fb (M:Nat)(t:Ex.Tok):Prop:=t.text.length<=M/\t.attrs.length<=M/\∀a∈t.attrs,a.name.length<=M/\a.value.length<=M
theorem fC {l:List Ex.A8}{a:Ex.A8}(h:a∈l):a.name.length<=(Ex.DR l).length/\a.value.length<=(Ex.DR l).length:=by
 induction l with
 |nil=>cases h
 |cons b l ih=>
  simp only[Ex.DR,List.length_cons,List.length_append]
  rcases List.mem_cons.1 h with rfl|h
  ·constructor<;>omega
  ·have:=ih h
   constructor<;>omega
theorem iP {s:List UInt8}{l:List Ex.Tok}(h:Ex.lexM s=.ok l):l.length<=2*s.length/\∀t∈l,fb (2*s.length+1) t:=by
 have hw:=Ex.Hn h
 refine⟨?_,fun t ht=> ?_⟩
 ·rcases Ex.XJ l 0 none false hw (Nat.zero_le _) with h|⟨⟨p,h,_⟩,_⟩
  ·omega
  ·cases h
 ·obtain⟨h1,h2,h3⟩:=RV l 0 none false hw t ht;have hf:=Ex.Oo h t ht;have hc:=Ex.PL hf;have:=hf.1
  refine⟨by omega,by omega,fun a ha=> ?_⟩
  have vK:=fC ha
  have nc:(Ex.DR t.attrs).length<=(Ex.written t).length:=by
   rcases hf.2 with h|h|h
   ·rw[h] at ha;cases ha
   ·unfold Ex.written
    rw[if_neg (by omega),if_neg (by omega),if_pos h]
    simp only[List.length_append];omega
   ·unfold Ex.written
    rw[if_neg (by omega),if_neg (by omega),if_neg (by omega),if_pos h]
    simp only[List.length_append];omega
  omega
structure Sz (M i:Nat) (l:List Nd):Prop where
 sm:OD M l
 kids:∀n∈l,n.kids.length<=i
 size:Dc l<=i+1
theorem Sz.up {M i:Nat}{l:List Nd}(h:Sz M i l):Sz M (i+1) l:=⟨h.sm,fun n hn=>by have:=h.kids n hn;omega,by have:=h.size;omega⟩
theorem QX (n k:Nd):(EJ n k).size=n.size+k.size:=by
 obtain⟨a,b,c,d,e⟩:=n;simp only[EJ,Nd.size,Nd.kids,Kf,Dc];omega
theorem Sz.add {M i:Nat}{n:Nd}{l:List Nd}(h:Sz M i (n::l)){k:Nd}(hk:bG M k)(hs:k.size<=1)(hi:i+1<=M):Sz M (i+1) (EJ n k::l):=by
 obtain⟨⟨h1,h2⟩,h3,h4⟩:=h
 have hn:=h3 n (by simp)
 refine⟨⟨?_,h2⟩,fun m hm=> ?_,?_⟩
 ·rw[Re] at h1⊢;obtain⟨a1,a2,a3,a4,a5⟩:=h1;refine⟨a1,a2,a3,?_,?_⟩
  ·rw[Cn,List.length_append];simp only[List.length_cons,List.length_nil];omega
  ·rw[Cn,OC];exact⟨a5,hk,trivial⟩
 ·rcases List.mem_cons.1 hm with rfl|hm
  ·rw[Cn,List.length_append];simp only[List.length_cons,List.length_nil];omega
  ·have:=h3 m (List.mem_cons_of_mem _ hm);omega
 ·simp only[Dc,QX] at h4⊢;omega
theorem Sz.push {M i:Nat}{l:List Nd}(h:Sz M i l){n:Nd}(hn:bG M n)(hk:n.kids=[]):Sz M (i+1) (n::l):=by
 obtain⟨h1,h3,h4⟩:=h
 refine⟨⟨hn,h1⟩,fun m hm=> ?_,?_⟩
 ·rcases List.mem_cons.1 hm with rfl|hm
  ·rw[hk];simp
  ·have:=h3 m hm;omega
 ·rw[Dc,n.size_eq,hk];simp only[Dc];omega
theorem Sz.text {M i:Nat}{n:Nd}{l:List Nd}(h:Sz M i (n::l)){t:List UInt8}(ht:t.length<=M):Sz M (i+1) (.mk n.kind n.pl t n.attrs n.kids::l):=by
 obtain⟨⟨h1,h2⟩,h3,h4⟩:=h;rw[Re] at h1;obtain⟨a1,a2,a3,a4,a5⟩:=h1
 refine⟨⟨⟨ht,a2,a3,a4,a5⟩,h2⟩,fun m hm=> ?_,?_⟩
 ·rcases List.mem_cons.1 hm with rfl|hm
  ·have:=h3 n (by simp)
   show n.kids.length<=_;omega
  ·have:=h3 m (List.mem_cons_of_mem _ hm);omega
 ·simp only[Dc,Nd.size_eq,Nd.kids] at h4⊢;omega
theorem Sz.pop {M i:Nat}{n m:Nd}{l:List Nd}(h:Sz M i (n::m::l))(hi:i+1<=M):Sz M (i+1) (EJ m n::l):=by
 obtain⟨⟨h1,h2,h5⟩,h3,h4⟩:=h
 have hm:=h3 m (by simp)
 refine⟨⟨?_,h5⟩,fun x hx=> ?_,?_⟩
 ·rw[Re] at h2⊢;obtain⟨a1,a2,a3,a4,a5⟩:=h2;refine⟨a1,a2,a3,?_,?_⟩
  ·rw[Cn,List.length_append];simp only[List.length_cons,List.length_nil];omega
  ·rw[Cn,OC];exact⟨a5,h1,trivial⟩
 ·rcases List.mem_cons.1 hx with rfl|hx
  ·rw[Cn,List.length_append];simp only[List.length_cons,List.length_nil];omega
  ·have:=h3 x (by simp[hx]);omega
 ·simp only[Dc,QX] at h4⊢;omega
theorem bF {M:Nat}{t:Ex.Tok}(h:fb M t)(k p:Int):bG M (.mk k p [] (t.attrs.map XQ) []):=by
 refine⟨Nat.zero_le _,by rw[List.length_map];exact h.2.1,fun a ha=> ?_,Nat.zero_le _,trivial⟩
 obtain⟨b,hb,rfl⟩:=List.mem_map.1 ha;exact h.2.2 b hb
theorem fg {M i:Nat}{s:Ps}{t:Ex.Tok}(h:Sz M i s.rows)(ht:fb M t)(hi:i+1<=M):Sz M (i+1) (CS t s).rows:=by
 obtain⟨rows,pl,e⟩:=s
 cases rows with
 |nil=>
  have:(CS t ⟨[],pl,e⟩).rows=[]:=by
   unfold CS
   cases t.kind==1<;>cases t.kind==7<;>cases t.kind==2||t.kind==3<;>cases t.kind==5<;>rfl
  rw[this]
  exact⟨trivial,fun n hn=>(by cases hn),by simp[Dc]⟩
 |cons n r=>
  unfold CS
  cases t.kind==1 with
  |true=>
   simp only[cond_true];unfold FX;simp only
   cases n.kind==7||n.kind==10 with
   |true=>simp only[cond_true];cases (BZ t.text).isEmpty<;>exact h.up
   |false=>simp only[cond_false];exact h.add ⟨ht.1,Nat.zero_le _,fun a ha=>(by cases ha),Nat.zero_le _,trivial⟩ (by simp[Nd.size,Dc]) hi
  |false=>
   simp only[cond_false]
   cases t.kind==7 with
   |true=>simp only[cond_true];exact h.text ht.1
   |false=>
    simp only[cond_false]
    cases t.kind==2||t.kind==3 with
    |true=>
     simp only[cond_true];unfold GA;simp only
     cases FR (C6 t.name) with
     |true=>simp only[cond_true];exact h.add (bF ht _ _) (by simp[Nd.size,Dc]) hi
     |false=>simp only[cond_false];exact h.push (bF ht _ _) rfl
    |false=>
     simp only[cond_false]
     cases t.kind==5 with
     |true=>simp only[cond_true];exact h.push (n:=.mk 14 t.fr [] [] []) ⟨Nat.zero_le _,Nat.zero_le _,fun a ha=>(by cases ha),Nat.zero_le _,trivial⟩ rfl
     |false=>
      simp only[cond_false];unfold Et;simp only
      cases Hx t n with
      |true=>simp only[cond_true];exact h.up
      |false=>
       simp only[cond_false]
       cases r with
       |nil=>exact h.up
       |cons m q=>exact h.pop hi
theorem TI {M:Nat}:∀(l:List Ex.Tok) (i:Nat) (s:Ps),Sz M i s.rows->(∀t∈l,fb M t)->i+l.length<=M->Sz M (i+l.length) (Bi l s).rows
 |[],i,s,h,_,_=>h
 |t::l,i,s,h,ht,hi=>by
  simp only[List.length_cons] at hi⊢
  have h1:=fg h (ht t (by simp)) (by omega)
  rw[Bi]
  cases (CS t s).e==0 with
  |true=>
   have:=TI l (i+1) _ h1 (fun u hu=>ht u (List.mem_cons_of_mem _ hu)) (by omega)
   simp only[cond_true]
   rw[show i+(l.length+1)=i+1+l.length by omega]
   exact this
  |false=>
   simp only[cond_false]
   exact⟨h1.sm,fun n hn=>by have:=h1.kids n hn;omega,by have:=h1.size;omega⟩
theorem Td {s:List UInt8}{n:Nd}(h:Bz s=.ok n):s.length<=65536/\bG (2*s.length+1) n/\n.size<=2*s.length+1:=by
 unfold Bz at h;split at h
 ·cases h
 ·rename_i hs;split at h
  ·cases h
  ·rename_i l hl;obtain⟨h1,h2⟩:=iP hl
   have h3:=TI l 0 Je ⟨⟨⟨Nat.zero_le _,Nat.zero_le _,fun a ha=>(by cases ha),Nat.zero_le _,trivial⟩,trivial⟩,fun n hn=>(by rw[List.mem_singleton.1 hn];exact Nat.zero_le _),by simp[Je,Dc,Nd.size]⟩ h2 (by omega)
   unfold Vs Iv at h
   cases he:(Bi l Je).e==0 with
   |false=>rw[he] at h;cases h
   |true=>
    rw[he] at h;simp only[cond_true] at h;split at h
    ·rename_i m hm
     injection h with h
     subst h;rw[hm] at h3;have:=h3.size;simp only[Dc] at this
     exact⟨by omega,h3.sm.1,by omega⟩
    ·cases h
theorem fj (M:Nat):bG M lZ:=⟨Nat.zero_le _,Nat.zero_le _,fun a ha=>(by cases ha),Nat.zero_le _,trivial⟩
theorem Km (s:List UInt8):bG (2*s.length+1) (Bb s)/\(Bb s).size<=2*s.length+1/\(65536<s.length->Bb s=lZ):=by
 unfold Bb
 cases h:Bz s with
 |ok n=>
  obtain⟨h1,h2,h3⟩:=Td h
  exact⟨h2,h3,fun hs=>by omega⟩
 |error x=>exact⟨fj _,by simp[Rt,lZ,Nd.size,Dc],fun _=>rfl⟩
theorem Te (s:List UInt8):(Bb s).size<=131073:=by
 obtain⟨_,h1,h2⟩:=Km s
 by_cases hs:65536<s.length
 ·rw[h2 hs];decide
 ·omega
end Go.Ai.Sp
end
