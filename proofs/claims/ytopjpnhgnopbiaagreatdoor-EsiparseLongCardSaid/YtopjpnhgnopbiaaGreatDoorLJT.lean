/-
  What pieces, trees and the parser are, in plain terms, and the laws of them that the row wants. No statement about the program is made here.
-/
import Derived.Test.YtopjpnhgnopbiaaGreatDoorLJA
import Derived.Test.YtopjpnhgnopbiaaGreatDoorLAiSymP
import Derived.Test.YtopjpnhgnopbiaaGreatDoorLAiPrims
import Derived.Test.YtopjpnhgnopbiaaGreatDoorLAiMono
set_option linter.unusedVariables false
set_option linter.unusedSimpArgs false
set_option linter.unnecessarySimpa false
section
namespace Go.Ai.Sp
open Go.Ai Go.RowKit Go.Ai.Ex
abbrev Row :=Nat×List AV
abbrev Bp :Nat:=1000000000000
def hP (g:Nat)(rows:List Row)(pl e:Int):Hp:=[.grow 0 3 80,.grow 0 5 26,.mem 26 [.int .i64 0,.int .i64 0,.str [],.sl 3 [] (some 0),.sl 5 [] (some 1)],.grow 0 3 80,.dead,.stk g 26 5 4 26 5 rows,.grow 0 5 26,
 .mem 46 [.CI 5 g 0 5 rows.length,.int .i64 pl,.int .i64 e]]
def BH (v0 v1 v2 v3:AV)(es:List (List AV)):Row:=(es.length,[v0,v1,v2,v3,.sl 5 es none])
def _root_.Ak.okW (rows:List Row)(r:Hp):Prop:=∀(n:Nat) (g:Hp),8+r.length<=n->rows.map (fun x=>(x.1,AQ n g x.2))=rows/\r.map (AN n g)=r
def Jt :Ci:=fun vs h K=>∃(g:Nat) (row:Row) (rows:List Row) (pl e:Int) (r:Hp),Ak.okW (row::rows) r/\(row::rows).length<=Bp/\vs=[.ptr 7 0]/\h=hP g (row::rows) pl e++r/\K (.BX 5 g 0 0) h
def fE (p x pl e:Int):Int×Int:=bif e==0 then(p,x) else(pl,e)
def Ch :Ci:=fun vs h K=>∃(p x:Int) (g:Nat) (rows:List Row) (pl e:Int) (r:Hp),Ak.okW rows r/\vs=[.ptr 7 0,.int .i64 p,.int .i64 x]/\h=hP g rows pl e++r/\K (.tup []) (hP g rows (fE p x pl e).1 (fE p x pl e).2++r)
def Ea (es:List (List AV)):Int:=match es.getLast? with
 |some (.int _ k::_)=>k
 |_=>0
def MI (es:List (List AV)):Prop:=es.length<=Bp/\∀x∈es,∃k v1 v2 v3 v4,x=[AV.int .i64 k,v1,v2,v3,v4]
def UR :Ci:=fun vs h K=>∃(g:Nat) (v0 v1 v2 v3:AV) (es:List (List AV)) (rows:List Row) (pl e:Int) (r:Hp),Ak.okW (BH v0 v1 v2 v3 es::rows) r/\(BH v0 v1 v2 v3 es::rows).length<=Bp/\MI es/\
 vs=[.ptr 7 0]/\h=hP g (BH v0 v1 v2 v3 es::rows) pl e++r/\K (.int .i64 (Ea es)) h
def Dv (k l x:Int):Bool:=bif k==7 then(x==8&&l==0)||(x==9&&l==8) else bif k==10 then(x==11&&l !=12)||(x==12&&l==11) else !(x==8||x==9||x==11||x==12)
def cO :Ci:=fun vs h K=>∃(g:Nat) (k x:Int) (v1 v2 v3:AV) (es:List (List AV)) (rows:List Row) (pl e:Int) (r:Hp),Ak.okW (BH (.int .i64 k) v1 v2 v3 es::rows) r/\(BH (.int .i64 k) v1 v2 v3 es::rows).length<=Bp/\MI es/\
 vs=[.ptr 7 0,.int .i64 x]/\h=hP g (BH (.int .i64 k) v1 v2 v3 es::rows) pl e++r/\K (.bool (Dv k (Ea es) x)) h
def kS :Ci:=fun vs h K=>∃(l:List Int) (x:Int),vs=[.sl 1 (l.map fun n=>[.int .i64 n]) none,.int .i64 x]/\l.length<=Bp/\K (.bool (l.any (·==x))) h
def jD :Ci:=fun vs h K=>∃(l:List Int) (x:Int),vs=[.sl 1 (l.map fun n=>[.int .i64 n]) none,.int .i64 x]/\l.length<=Bp/\∀z:Int,decide (z>=0)=(l.any (·==x))->K (.int .i64 z) h
def kT :Ci:=fun vs h K=>∃(l:List (List UInt8)) (x:List UInt8),vs=[.sl 1 (l.map fun n=>[.str n]) none,.str x]/\l.length<=Bp/\K (.bool (l.any (·==x))) h
def dE :Ci:=fun vs h K=>∃(l:List (List UInt8)) (x:List UInt8),vs=[.sl 1 (l.map fun n=>[.str n]) none,.str x]/\l.length<=Bp/\∀z:Int,decide (z>=0)=(l.any (·==x))->K (.int .i64 z) h
structure El where
 kind:Int
 names:List (List UInt8)
 Jb:Nat
def C7 (s:List UInt8):El:=
 bif s==[105,110,99,108,117,100,101] then⟨3,[[115,114,99],[97,108,116],[111,110,101,114,114,111,114]],1⟩ else
 bif s==[105,110,108,105,110,101] then⟨4,[[110,97,109,101],[102,101,116,99,104,97,98,108,101]],1⟩ else
 bif s==[114,101,109,111,118,101] then⟨5,[],0⟩ else
 bif s==[99,111,109,109,101,110,116] then⟨6,[[116,101,120,116]],1⟩ else
 bif s==[116,114,121] then⟨7,[],0⟩ else
 bif s==[97,116,116,101,109,112,116] then⟨8,[],0⟩ else
 bif s==[101,120,99,101,112,116] then⟨9,[],0⟩ else
 bif s==[99,104,111,111,115,101] then⟨10,[],0⟩ else
 bif s==[119,104,101,110] then⟨11,[[116,101,115,116]],1⟩ else
 bif s==[111,116,104,101,114,119,105,115,101] then⟨12,[],0⟩ else⟨13,[],0⟩
def IU (x:El):List AV:=[.int .i64 x.kind,.sl 1 (x.names.map fun n=>[.str n]) none,.int .i64 (x.Jb:Nat)]
def sF :Ci:=fun vs h K=>∃s:List UInt8,vs=[.str s]/\K (.agg (IU (C7 s))) h
def Jq (x y:List UInt8):Bool:=
 bif x==[111,110,101,114,114,111,114] then y==[99,111,110,116,105,110,117,101] else
 bif x==[102,101,116,99,104,97,98,108,101] then y==[121,101,115]||y==[110,111] else
 bif x==[116,101,120,116] then true else !(y==[])
def jf :Ci:=fun vs h K=>∃x y:List UInt8,vs=[.str x,.str y]/\K (.bool (Jq x y)) h
def CT (k a:Int)(t:List UInt8)(aa:List (List AV))(oa:Option Nat)(ks:List (List AV))(ow:Option Nat):List AV:=[.int .i64 k,.int .i64 a,.str t,.sl 3 aa oa,.sl 5 ks ow]
def S8 (m:Nat):Ci:=fun vs h K=>∃(g:Nat) (v0 v1 v2 v3:AV) (es:List (List AV)) (rows:List Row) (pl e:Int) (r:Hp) (nk na:Int) (nt:List UInt8) (aa:List (List AV)) (oa:Option Nat) (ks:List (List AV)) (ow:Option Nat),
 Ak.okW (BH v0 v1 v2 v3 es::rows) r/\(BH v0 v1 v2 v3 es::rows).length<=Bp/\es.length<Bp/\(∀n g,8+m<=n->AQ n g (CT nk na nt aa oa ks ow)=CT nk na nt aa oa ks ow)/\r.length=m/\
 vs=[.ptr 7 0,.agg (CT nk na nt aa oa ks ow)]/\h=hP g (BH v0 v1 v2 v3 es::rows) pl e++r/\K (.tup []) (hP g (BH v0 v1 v2 v3 (es++[CT nk na nt aa oa ks ow])::rows) pl e++r)
def A8 (x:El)(fr:Int)(l:List A9)(s:Int×Int):Int×Int:=
 l.foldl (fun s a=>bif !(x.names.any (·==a.name))|| !Jq a.name a.value then fE a.at' 12 s.1 s.2 else s) ((x.names.take x.Jb).foldl (fun s nm=>bif !(l.any fun a=>a.name==nm) then fE fr 12 s.1 s.2 else s) s)
def Jv (tk fr to:Int)(nm tx:List UInt8)(aa:List (List AV)):List AV:=[.int .i64 tk,.str nm,.sl 3 aa none,.str tx,.int .i64 fr,.int .i64 to]
def Fp (t:List AV)(x:El):Hp:=[.grow 0 3 80,.mem 50 t,.mem 50 t,.grow 0 1 9,.mem 114 (IU x)]
def _root_.Ak.gQ (rows:List Row):Prop:=∀r∈rows,∀n,4<=n->CA n r.2=true
def ld :Ci:=fun vs h K=>∃(g:Nat) (rows:List Row) (pl e:Int) (x:El) (tk fr to:Int) (nm tx:List UInt8) (l:List A9),Ak.gQ rows/\x.Jb<=x.names.length/\x.names.length<=Bp/\l.length<=Bp/\
 vs=[.ptr 7 0,.agg (IU x),.agg (Jv tk fr to nm tx (encAs l))]/\h=hP g rows pl e++Fp (Jv tk fr to nm tx (encAs l)) x/\K (.tup []) (hP g rows (A8 x fr l (pl,e)).1 (A8 x fr l (pl,e)).2++Fp (Jv tk fr to nm tx (encAs l)) x)
def YH :Ci:=fun vs h K=>∃(g:Nat) (rows:List Row) (pl e:Int) (b0 b1 b2 b3 b4 b5 b6:Blk) (wd an av:List UInt8) (ap:Int),Ak.okW rows [b0,b1,b2,b3,b4,b5,b6,.mem 9 [.str wd]]/\
 vs=[.agg [.str an,.str av,.int .i64 ap],.ptr 15 0]/\h=hP g rows pl e++[b0,b1,b2,b3,b4,b5,b6,.mem 9 [.str wd]]/\K (.bool (an==wd)) h
def jU :Ci:=fun vs h K=>∃(g:Nat) (rows:List Row) (pl e:Int) (b0 b1 b2 b3 b4 b5 b6:Blk) (wd:List UInt8) (l:List A9),Ak.okW rows [b0,b1,b2,b3,b4,b5,b6,.mem 9 [.str wd]]/\l.length<=Bp/\
 vs=[.sl 3 (encAs l) none,.fn (.func 100) [] [.ptr 15 0]]/\h=hP g rows pl e++[b0,b1,b2,b3,b4,b5,b6,.mem 9 [.str wd]]/\∀z:Int,decide (z>=0)=(l.any fun a=>a.name==wd)->K (.int .i64 z) h
def dx :Ci:=fun vs h K=>∃(g:Nat) (rows:List Row) (pl e:Int) (b0 b1 b2 b3 b4 b5 b6:Blk) (wd:List UInt8) (l:List A9),Ak.okW rows [b0,b1,b2,b3,b4,b5,b6,.mem 9 [.str wd]]/\l.length<=Bp/\
 vs=[.sl 3 (encAs l) none,.fn (.func 100) [] [.ptr 15 0]]/\h=hP g rows pl e++[b0,b1,b2,b3,b4,b5,b6,.mem 9 [.str wd]]/\K (.bool (l.any fun a=>a.name==wd)) h
def Ba (s:List UInt8):List UInt8:=s.dropWhile blB
def aW :Ci:=fun vs h K=>∃s:List UInt8,s.length<=Bp/\vs=[.str s,.str [32,9,10,13]]/\K (.str (Ba s)) h
def Mz (g:Nat)(rows:List Row)(r:Hp):Ci:=fun vs h K=>∃(p x:Int) (pl e:Int),vs=[.ptr 7 0,.int .i64 p,.int .i64 x]/\h=hP g rows pl e++r/\K (.tup []) (hP g rows (fE p x pl e).1 (fE p x pl e).2++r)
def jV (g:Nat)(rows:List Row)(b0 b1 b2 b3 b4 b5 b6:Blk):Ci:=fun vs h K=>∃(p x:Int) (pl e:Int) (w:List UInt8),vs=[.ptr 7 0,.int .i64 p,.int .i64 x]/\h=hP g rows pl e++[b0,b1,b2,b3,b4,b5,b6,.mem 9 [.str w]]/\
 K (.tup []) (hP g rows (fE p x pl e).1 (fE p x pl e).2++[b0,b1,b2,b3,b4,b5,b6,.mem 9 [.str w]])
def jW (g:Nat)(rows:List Row)(b0 b1 b2 b3 b4 b5 b6:Blk):Ci:=fun vs h K=>∃(p x:Int) (pl e:Int) (w v:List UInt8) (q:Int),vs=[.ptr 7 0,.int .i64 p,.int .i64 x]/\h=hP g rows pl e++[b0,b1,b2,b3,b4,b5,b6,.mem 80 [.str w,.str v,.int .i64 q]]/\
 K (.tup []) (hP g rows (fE p x pl e).1 (fE p x pl e).2++[b0,b1,b2,b3,b4,b5,b6,.mem 80 [.str w,.str v,.int .i64 q]])
def ux (s:List UInt8):Ci:=fun vs h K=>vs=[.str s]/\K (.agg (IU (C7 s))) h
def pQ (b0 b1:Blk)(t:List AV)(x:El):Hp:=[b0,b1,.mem 50 t,.grow 0 1 9,.mem 114 (IU x)]
def fK (g:Nat)(rows:List Row)(x:El)(tk fr to:Int)(nm tx:List UInt8)(l:List A9):Ci:=fun vs h K=>∃(pl e:Int),vs=[.ptr 7 0,.agg (IU x),.agg (Jv tk fr to nm tx (encAs l))]/\
 h=hP g rows pl e++Fp (Jv tk fr to nm tx (encAs l)) x/\K (.tup []) (hP g rows (A8 x fr l (pl,e)).1 (A8 x fr l (pl,e)).2++Fp (Jv tk fr to nm tx (encAs l)) x)
end Go.Ai.Sp
end
section
namespace Go.Ai
open Go.RowKit
structure A9 where
 name:List UInt8
 value:List UInt8
 pl:Int
inductive Nd where
 |mk (kind pl:Int) (text:List UInt8) (attrs:List A9) (kids:List Nd)
 deriving Inhabited
def Nd.kind :Nd->Int|.mk k _ _ _ _=>k
def Nd.pl :Nd->Int|.mk _ p _ _ _=>p
def Nd.text :Nd->List UInt8|.mk _ _ t _ _=>t
def Nd.attrs :Nd->List A9|.mk _ _ _ a _=>a
def Nd.kids :Nd->List Nd|.mk _ _ _ _ l=>l
def Ao (a:A9):List AV:=[.str a.name,.str a.value,.int .i64 a.pl]
mutual
def Pc :Nd->List AV
 |.mk k p t al ks=>[.int .i64 k,.int .i64 p,.str t,.sl 3 (al.map Ao) none,.sl 5 (AY ks) none]
def AY :List Nd->List (List AV)
 |[]=>[]
 |n::r=>Pc n::AY r
end
theorem Dy :∀l:List Nd,AY l=l.map Pc
 |[]=>rfl
 |n::r=>by rw[AY,Dy r];rfl
mutual
def Nd.size :Nd->Nat
 |.mk _ _ _ _ ks=>1+Dd ks
def Dd :List Nd->Nat
 |[]=>0
 |n::r=>n.size+Dd r
end
mutual
theorem JG :∀n:Nd,Aa.Ax (Pc n)=true
 |.mk k p t al ks=>by
  simp only[Pc,Aa.Ax,Aa,Option.isNone_none,Bool.true_and,Bool.and_true,Bool.and_eq_true];refine⟨?_,FK ks⟩
  induction al with
  |nil=>rfl
  |cons a r ih=>simp only[List.map_cons,Aa.BZ,Ao,Aa.Ax,Aa,ih,Bool.true_and]
theorem FK :∀l:List Nd,Aa.BZ (AY l)=true
 |[]=>rfl
 |n::r=>by simp only[AY,Aa.BZ,JG n,FK r,Bool.true_and]
end
theorem FL (l:List A9):Aa.BZ (l.map Ao)=true:=by
 induction l with
 |nil=>rfl
 |cons a r ih=>simp only[List.map_cons,Aa.BZ,Ao,Aa.Ax,Aa,ih,Bool.true_and]
mutual
theorem UJ (n:Nat):∀v,Aa v=true->Dw n v=true
 |.top,_=>rfl
 |.bool _,_=>rfl
 |.int _ _,_=>rfl
 |.str _,_=>rfl
 |.HA,_=>rfl
 |.ptr _ _,hp=>by simp[Aa] at hp
 |.ro cs,hp=>by rw[Dw];exact EY n cs (by simpa[Aa] using hp)
 |.sl sz es own,hp=>by
  simp only[Aa,Bool.and_eq_true] at hp
  cases own with
  |none=>simp only[Dw,Dj n es hp.2,Bool.and_true]
  |some _=>simp at hp
 |.IP _ _ _ _,hp=>by simp[Aa] at hp
 |.NT _ vs,hp=>by first|(simp[Aa] at hp;done)|(rw[Dw];exact Dj n vs (by simpa[Aa] using hp))
 |.fn f a c,hp=>by
  simp only[Aa,Bool.and_eq_true] at hp;rw[Dw,EY n a hp.1,EY n c hp.2];rfl
 |.GX,_=>rfl
 |.Cs cs,hp=>by first|(simp[Aa] at hp;done)|(rw[Dw];exact EY n cs (by simpa[Aa] using hp))
 |.iface t v,hp=>by rw[Dw];exact UJ n v (by simpa[Aa] using hp)
 |.Ja,_=>rfl
 |.agg cs,hp=>by rw[Dw];exact EY n cs (by simpa[Aa] using hp)
 |.tup cs,hp=>by rw[Dw];exact EY n cs (by simpa[Aa] using hp)
theorem EY (n:Nat):∀xs,Aa.Ax xs=true->CA n xs=true
 |[],_=>rfl
 |x::xs,hp=>by
  simp only[Aa.Ax,Bool.and_eq_true] at hp;rw[CA,UJ n x hp.1,EY n xs hp.2];rfl
theorem Dj (n:Nat):∀xs,Aa.BZ xs=true->Ab n xs=true
 |[],_=>rfl
 |x::xs,hp=>by
  simp only[Aa.BZ,Bool.and_eq_true] at hp;rw[Ab,EY n x hp.1,Dj n xs hp.2];rfl
end
theorem CF {α:Type}(f:α->List AV)(l:List α){i:Nat}(h:i<l.length):Bm (l.map f) (i:Int)=f l[i]:=by
 unfold Bm;simp[h]
theorem Ki :∀a b:List Nd,Dd (a++b)=Dd a+Dd b
 |[],b=>by simp[Dd]
 |n::r,b=>by simp only[List.cons_append,Dd,Ki r b];omega
theorem eA {α:Type}(f:α->List AV)(pre:List α)(x:α)(r:List α):Bm ((pre++x::r).map f) (pre.length:Int)=f x:=by
 unfold Bm;simp
theorem Wp (pre:List Nd)(x:Nd)(r:List Nd):Bm (AY (pre++x::r)) (pre.length:Int)=Pc x:=by
 rw[Dy];exact eA _ _ _ _
theorem Be (l:List Nd):(AY l).length=l.length:=by rw[Dy];simp
theorem Qn (n:Nat)(l:List A9):Ab n (l.map Ao)=true:=Dj n _ (FL l)
theorem Qm (n:Nat)(l:List Nd):Ab n (AY l)=true:=Dj n _ (FK l)
def nh :Nat:=9223372036854775807
def A9.fit (a:A9):Prop:=a.name.length<=nh/\a.value.length<=nh
mutual
def Nd.fit :Nd->Prop
 |.mk _ _ t al ks=>t.length<=nh/\al.length<=nh/\(∀a∈al,a.fit)/\ks.length<=nh/\fits ks
def fits :List Nd->Prop
 |[]=>True
 |n::r=>n.fit/\fits r
end
def alike (a b:A9):Bool:=a.name==b.name&&a.value==b.value
def fR :List A9->List A9->Bool
 |[],[]=>true
 |a::r,b::s=>alike a b&&fR r s
 |_,_=>false
mutual
def Nd.same :Nd->Nd->Bool
 |.mk k _ t al ks,n=>k==n.kind&&t==n.text&&fR al n.attrs&&im ks n.kids
def im :List Nd->List Nd->Bool
 |[],[]=>true
 |a::r,b::s=>a.same b&&im r s
 |_,_=>false
end
theorem Gw (n:Nd):Pc n=[.int .i64 n.kind,.int .i64 n.pl,.str n.text,.sl 3 (n.attrs.map Ao) none,.sl 5 (AY n.kids) none]:=by
 obtain⟨k,p,t,al,ks⟩:=n;rfl
theorem Nd.size_eq (n:Nd):n.size=1+Dd n.kids:=by
 obtain⟨k,p,t,al,ks⟩:=n;rfl
def encT (l:List (List UInt8)):List (List AV):=l.map fun x=>[.str x]
def o6 :List UInt8:=[60,101,115,105,58]
def uO :List UInt8:=[60,47,101,115,105,58]
def uN :List UInt8:=[60,33,45,45,101,115,105]
def iP :List (List UInt8):=[[32],[9],[10],[13]]
def fp (s:List UInt8):Bool:=Iz s o6||Iz s uO||iP.any fun b=>Iz s (uN++b)
def sP :List UInt8:=[60,47,101,115,105,58,105,110,108,105,110,101]
def rG :List UInt8:=[60,47,101,115,105,58,114,101,109,111,118,101]
def ib (k:Int)(t:List UInt8)(hid:Bool):Bool:=
 bif k==2 then !(t==[])&& !fp t&& !(hid&&Iz t [45,45,62])
 else bif k==4 then !Iz t sP
 else bif k==5 then !Iz t rG&& !Iz t o6
 else t==[]
inductive pV where
 |full
 |one (l:List (List UInt8))
 |any
structure zW where
 name:List UInt8
 Jb:Bool
 may:pV
def pV.ok :pV->List UInt8->Bool
 |.full,v=>!(v==[])
 |.one l,v=>l.any fun x=>v==x
 |.any,_=>true
def pV.enc :pV->AV
 |.full=>.fn (.func 58) [] []
 |.one l=>.fn (.func 59) [.sl 1 (encT l) none] []
 |.any=>.fn (.func 60) [] []
end Go.Ai
end
section
namespace Go.Ai.Sp
open Go.Ai Go.RowKit
def XV (a:Ex.A9):Go.Ai.A9:=⟨a.name,a.value,(a.at':Nat)⟩
def lr :Nd:=.mk 0 0 [] [] []
def EK (n k:Nd):Nd:=.mk n.kind n.pl n.text n.attrs (n.kids++[k])
def Vt (o:Option Nat)(n:Nd):Row:=BH (.int .i64 n.kind) (.int .i64 n.pl) (.str n.text) (.sl 3 (n.attrs.map Go.Ai.Ao) o) (AY n.kids)
def Lu :List Nd->Option Nat
 |[]=>some 3
 |_=>none
def AZ :List Nd->List Row
 |[]=>[]
 |n::r=>Vt (Lu r) n::AZ r
def DC (l:List Nd):Int:=match l.getLast? with
 |some n=>n.kind
 |none=>0
structure Ps where
 rows:List Nd
 pl:Int
 e:Int
def Iu (p x:Int)(s:Ps):Ps:=⟨s.rows,(fE p x s.pl s.e).1,(fE p x s.pl s.e).2⟩
def FZ (t:Ex.Tok)(s:Ps):Ps:=match s.rows with
 |[]=>s
 |n::r=>bif n.kind==7||n.kind==10 then(bif (Ba t.text).isEmpty then s else Iu ((t.to:Int)-(Ba t.text).length) 13 s) else⟨EK n (.mk 2 t.fr t.text [] [])::r,s.pl,s.e⟩
def OS (t:Ex.Tok)(s:Ps):Ps:=match s.rows with
 |[]=>s
 |n::r=>⟨.mk n.kind n.pl t.text n.attrs n.kids::r,s.pl,s.e⟩
def FU (x:El):Bool:=x.kind==3||x.kind==6
def Nz (x:El)(t:Ex.Tok)(n:Nd)(r:List Nd)(s:Ps):Ps:=
 let s1:=bif (FU x !=(t.kind==3))|| !Dv n.kind (DC n.kids) x.kind then Iu t.fr 13 s else s
 let s2:=bif decide (16<r.length+1) then Iu t.fr 3 s1 else s1
 ⟨s2.rows,(A8 x t.fr t.attrs (s2.pl,s2.e)).1,(A8 x t.fr t.attrs (s2.pl,s2.e)).2⟩
def GC (t:Ex.Tok)(s:Ps):Ps:=match s.rows with
 |[]=>s
 |n::r=>
  let x:=C7 t.name
  let s2:=Nz x t n r s
  bif FU x then⟨EK n (.mk x.kind t.fr [] (t.attrs.map XV) [])::r,s2.pl,s2.e⟩ else⟨.mk x.kind t.fr [] (t.attrs.map XV) []::n::r,s2.pl,s2.e⟩
def HY (t:Ex.Tok)(s:Ps):Ps:=match s.rows with
 |[]=>s
 |n::r=>
  let s1:=bif !Dv n.kind (DC n.kids) 14 then Iu t.fr 13 s else s
  let s2:=bif decide (16<r.length+1) then Iu t.fr 3 s1 else s1
  ⟨.mk 14 t.fr [] [] []::n::r,s2.pl,s2.e⟩
def Jc (t:Ex.Tok):Int:=bif t.kind==4 then(C7 t.name).kind else 14
def Hz (t:Ex.Tok)(n:Nd):Bool:=!(n.kind==Jc t)||((Jc t==7&& !(DC n.kids==9))||(Jc t==10&&DC n.kids==0))
def Ev (t:Ex.Tok)(s:Ps):Ps:=match s.rows with
 |[]=>s
 |n::r=>bif Hz t n then Iu t.fr 13 s else match r with
  |[]=>s
  |m::q=>⟨EK m n::q,s.pl,s.e⟩
def CS (t:Ex.Tok)(s:Ps):Ps:=
 bif t.kind==1 then FZ t s else bif t.kind==7 then OS t s else bif t.kind==2||t.kind==3 then GC t s else bif t.kind==5 then HY t s else Ev t s
def Bi :List Ex.Tok->Ps->Ps
 |[],s=>s
 |t::l,s=>bif (CS t s).e==0 then Bi l (CS t s) else CS t s
def Jg :Ps:=⟨[.mk 1 0 [] [] []],0,0⟩
def Iy (len:Int)(s:Ps):Except (Int×Int) Nd:=
 bif s.e==0 then(match s.rows with
  |[n]=>.ok n
  |_=>.error (len,14)) else .error (s.pl,s.e)
def Vy (len:Int)(l:List Ex.Tok):Except (Int×Int) Nd:=Iy len (Bi l Jg)
def Bz (s:List UInt8):Except (Int×Int) Nd:=
 if 65536<s.length then .error (65536,3) else
 match Ex.lexM s with
 |.error (p,e)=>.error ((p:Nat),e)
 |.ok l=>Vy s.length l
end Go.Ai.Sp
namespace Go.Ai.Sp
def aZ (t:Ex.Tok):Prop:=t.text.length<=Bp/\t.to<=Bp/\t.fr<=Bp/\t.attrs.length<=Bp/\t.to>=t.text.length
def Hm (l:List Nd):Prop:=l.length<Bp/\∀n∈l,n.kids.length<Bp
def CP (t:Ex.Tok):Hp:=[.grow 0 3 80,.mem 50 (Ex.encT t)]
def IB (M:Ex.Tok->Ps->Ps)(pre:Ex.Tok->Ps->Prop):Ci:=fun vs h K=>∃(g:Nat) (s:Ps) (t:Ex.Tok),s.rows≠[]/\Hm s.rows/\aZ t/\pre t s/\vs=[.ptr 7 0,.agg (Ex.encT t)]/\h=hP g (AZ s.rows) s.pl s.e++CP t/\
 ∀g':Nat,K (.tup []) (hP g' (AZ (M t s).rows) (M t s).pl (M t s).e++CP t)
def EN :AV:=.NT [1,7,2,3,5,4,6] [[.fn (.func 40) [] []],[.fn (.func 41) [] []],[.fn (.func 42) [] []],[.fn (.func 42) [] []],[.fn (.func 43) [] []],[.fn (.func 44) [] []],[.fn (.func 44) [] []]]
def Vm :Ci:=fun vs h K=>vs.isEmpty=true/\K EN h
def Gu (_:Ex.Tok)(_:Ps):Prop:=True
def Xi (s:Ps):Prop:=∀n,s.rows=[n]->n.kind=1
def WL (_:Ex.Tok)(s:Ps):Prop:=Xi s
def kC :Ci:=fun vs h K=>∃s:List UInt8,vs=[.str s]/\(∀n,Bz s=.ok n->K (.tup [.agg (Pc n),.int .i64 0,.int .i64 0]) h)/\
 (∀p e,Bz s=.error (p,e)->∀z1 z2:Nat,(z1=3/\z2=5)\/(z1=0/\z2=0)->K (.tup [.agg [.int .i64 0,.int .i64 0,.str [],.sl z1 [] none,.sl z2 [] none],.int .i64 p,.int .i64 e]) h)
def Ry :Except (Int×Int) Nd->Nd×Int×Int
 |.ok n=>(n,0,0)
 |.error (p,e)=>(lr,p,e)
def A7 (s:List UInt8):Nd:=(Ry (Bz s)).1
def Eo (s:List UInt8):Int:=(Ry (Bz s)).2.1
def En (s:List UInt8):Int:=(Ry (Bz s)).2.2
def Rz :Ci:=fun vs h K=>∃s:List UInt8,vs=[.str s]/\
 K (.tup [.agg [.int .i64 (A7 s).kind,.int .i64 (A7 s).pl,.str (A7 s).text,.sl 3 ((A7 s).attrs.map Go.Ai.Ao) none,.sl 5 (AY (A7 s).kids) none],.int .i64 (Eo s),.int .i64 (En s)]) h
end Go.Ai.Sp
end
section
namespace Go.Ai.Sp
open Go.Ai Go.RowKit
def Z7 :List Nd->Prop
 |[]=>False
 |[n]=>n.kind=1
 |_::r=>Z7 r
theorem Z7.ne {l:List Nd}(h:Z7 l):l≠[]:=by
 rintro rfl
 exact h
theorem Z7.push {l:List Nd}(h:Z7 l)(n:Nd):Z7 (n::l):=by
 cases l with
 |nil=>exact h.elim
 |cons=>exact h
theorem Z7.same {n m:Nd}{l:List Nd}(h:Z7 (n::l))(e:m.kind=n.kind):Z7 (m::l):=by
 cases l with
 |nil=>exact e.trans h
 |cons=>exact h
theorem Z7.pop {n m:Nd}{l:List Nd}(h:Z7 (n::m::l)):Z7 (m::l):=h
structure Inv (i:Nat) (l:List Nd):Prop where
 bot:Z7 l
 len:l.length<=i+1
 kids:∀n∈l,n.kids.length<=i
theorem Qr (n k:Nd):(EK n k).kind=n.kind:=rfl
theorem Cn (n k:Nd):(EK n k).kids=n.kids++[k]:=rfl
theorem Inv.up {i:Nat}{l:List Nd}(h:Inv i l):Inv (i+1) l:=⟨h.bot,by have:=h.len;omega,fun n hn=>by have:=h.kids n hn;omega⟩
theorem Inv.add {i:Nat}{n:Nd}{l:List Nd}(h:Inv i (n::l))(k:Nd):Inv (i+1) (EK n k::l):=by
 refine⟨h.bot.same (Qr n k),by have:=h.len;simp only[List.length_cons] at this⊢;omega,fun m hm=> ?_⟩
 rcases List.mem_cons.1 hm with rfl|hm
 ·have:=h.kids n (by simp)
  rw[Cn,List.length_append];simp only[List.length_cons,List.length_nil];omega
 ·have:=h.kids m (List.mem_cons_of_mem _ hm);omega
theorem Inv.push {i:Nat}{l:List Nd}(h:Inv i l){n:Nd}(hn:n.kids=[]):Inv (i+1) (n::l):=by
 refine⟨h.bot.push n,by have:=h.len;simp only[List.length_cons];omega,fun m hm=> ?_⟩
 rcases List.mem_cons.1 hm with rfl|hm
 ·rw[hn];simp
 ·have:=h.kids m hm;omega
theorem Inv.same {i:Nat}{n m:Nd}{l:List Nd}(h:Inv i (n::l))(e:m.kind=n.kind)(e2:m.kids=n.kids):Inv (i+1) (m::l):=by
 refine⟨h.bot.same e,by have:=h.len;simp only[List.length_cons] at this⊢;omega,fun x hx=> ?_⟩
 rcases List.mem_cons.1 hx with rfl|hx
 ·rw[e2];have:=h.kids n (by simp);omega
 ·have:=h.kids x (List.mem_cons_of_mem _ hx);omega
theorem Inv.pop {i:Nat}{n m:Nd}{l:List Nd}(h:Inv i (n::m::l)):Inv i (m::l):=
 ⟨h.bot.pop,by have:=h.len;simp only[List.length_cons] at this⊢;omega,fun x hx=>h.kids x (List.mem_cons_of_mem _ hx)⟩
theorem dD {i:Nat}{s:Ps}(h:Inv i s.rows)(t:Ex.Tok):Inv (i+1) (CS t s).rows:=by
 obtain⟨rows,pl,e⟩:=s
 cases rows with
 |nil=>exact(h.bot).elim
 |cons n r=>
  unfold CS
  cases t.kind==1 with
  |true=>
   simp only[cond_true];unfold FZ;simp only
   cases n.kind==7||n.kind==10 with
   |true=>simp only[cond_true];cases (Ba t.text).isEmpty<;>exact h.up
   |false=>simp only[cond_false];exact h.add _
  |false=>
   simp only[cond_false]
   cases t.kind==7 with
   |true=>simp only[cond_true];exact h.same (m:=.mk n.kind n.pl t.text n.attrs n.kids) rfl rfl
   |false=>
    simp only[cond_false]
    cases t.kind==2||t.kind==3 with
    |true=>
     simp only[cond_true];unfold GC;simp only
     cases FU (C7 t.name) with
     |true=>simp only[cond_true];exact h.add _
     |false=>simp only[cond_false];exact h.push rfl
    |false=>
     simp only[cond_false]
     cases t.kind==5 with
     |true=>simp only[cond_true];exact h.push (n:=.mk 14 t.fr [] [] []) rfl
     |false=>
      simp only[cond_false];unfold Ev;simp only
      cases Hz t n with
      |true=>simp only[cond_true];exact h.up
      |false=>
       simp only[cond_false]
       cases r with
       |nil=>exact h.up
       |cons m q=>exact h.pop.add _
theorem sO :Inv 0 Jg.rows:=⟨rfl,by decide,fun n hn=>by
 rw[List.mem_singleton.1 hn];exact Nat.le_refl 0⟩
theorem XR {hid:Bool}{l:List Ex.Tok}(h:Ex.VG hid l):∀t∈l,t.kind=1\/t.kind=2\/t.kind=3\/t.kind=4\/t.kind=5\/t.kind=6\/t.kind=7:=by
 induction h with
 |nil=>intro t ht;cases ht
 |text k1 _ _ _ _ _ _ ih=>
  intro t ht
  rcases List.mem_cons.1 ht with rfl|ht
  ·exact .inl k1
  ·exact ih t ht
 |tag k1 _ _ _ ih=>
  intro t ht
  rcases List.mem_cons.1 ht with rfl|ht
  ·rcases k1 with k|k
   ·exact .inr (.inr (.inl k))
   ·exact .inr (.inl k.1)
  ·exact ih t ht
 |own k1 _ _ a1 _ _ c1 _ _ _ _ ih=>
  intro t ht
  rcases List.mem_cons.1 ht with rfl|ht
  ·exact .inr (.inl k1)
  ·rcases List.mem_cons.1 ht with rfl|ht
   ·exact .inr (.inr (.inr (.inr (.inr (.inr a1)))))
   ·exact ih t ht
 |close k1 _ _ _ ih=>
  intro t ht
  rcases List.mem_cons.1 ht with rfl|ht
  ·exact .inr (.inr (.inr (.inl k1)))
  ·exact ih t ht
 |kv k1 _ _ _ ih=>
  intro t ht
  rcases List.mem_cons.1 ht with rfl|ht
  ·exact .inr (.inr (.inr (.inr (.inl k1))))
  ·exact ih t ht
 |shown k1 _ _ _ _ ih=>
  intro t ht
  rcases List.mem_cons.1 ht with rfl|ht
  ·exact .inr (.inr (.inr (.inr (.inr (.inl k1)))))
  ·exact ih t ht
theorem Ra {s:List UInt8}:∀(r:List Ex.Tok) (a:Nat) (prev:Option Ex.Tok) (hid:Bool),Ex.WG s a prev hid r->∀t∈r,t.fr<=t.to/\t.to<=s.length/\t.text.length<=t.to
 |[],_,_,_,_,t,ht=>by cases ht
 |u::r,a,prev,hid,h,t,ht=>by
  unfold Ex.WG at h;obtain⟨h1,h2,h3,h4,_,_,_,_,_,_,h5⟩:=h
  rcases List.mem_cons.1 ht with rfl|ht
  ·refine⟨by omega,h3,?_⟩
   rw[<-h4];unfold Ex.cut;simp only[List.length_take,List.length_drop];omega
  ·exact Ra r _ _ _ h5 t ht
theorem gZ {s:List UInt8}{l:List Ex.Tok}(hs:s.length<=65536)(h:Ex.lexM s=.ok l):l.length<=131074/\∀t∈l,aZ t/\(t.kind=1\/t.kind=2\/t.kind=3\/t.kind=4\/t.kind=5\/t.kind=6\/t.kind=7):=by
 have hw:=Ex.Hq h
 refine⟨?_,fun t ht=>⟨?_,XR (Ex.JM h) t ht⟩⟩
 ·rcases Ex.XN l 0 none false hw (Nat.zero_le _) with h|⟨_,h⟩<;>omega
 ·obtain⟨h1,h2,h3⟩:=Ra l 0 none false hw t ht;have hf:=Ex.Ow h t ht;have hc:=Ex.PR hf;have:=hf.1;unfold aZ Bp
  exact⟨by omega,by omega,by omega,by omega,h3⟩
mutual
def Z8 (M:Nat):Nd->Prop
 |.mk _ _ t al ks=>t.length<=M/\al.length<=M/\(∀a∈al,a.name.length<=M/\a.value.length<=M)/\ks.length<=M/\OJ M ks
def OJ (M:Nat):List Nd->Prop
 |[]=>True
 |n::r=>Z8 M n/\OJ M r
end
theorem OI {M:Nat}:∀{a b:List Nd},OJ M (a++b)↔OJ M a/\OJ M b
 |[],b=>by simp[OJ]
 |n::r,b=>by simp only[List.cons_append,OJ,OI (a:=r),and_assoc]
theorem Rk {M:Nat}(n:Nd):Z8 M n=(n.text.length<=M/\n.attrs.length<=M/\(∀a∈n.attrs,a.name.length<=M/\a.value.length<=M)/\n.kids.length<=M/\OJ M n.kids):=by
 obtain⟨k,p,t,al,ks⟩:=n;rfl
def fo (M:Nat)(t:Ex.Tok):Prop:=t.text.length<=M/\t.attrs.length<=M/\∀a∈t.attrs,a.name.length<=M/\a.value.length<=M
theorem fL {l:List Ex.A9}{a:Ex.A9}(h:a∈l):a.name.length<=(Ex.DS l).length/\a.value.length<=(Ex.DS l).length:=by
 induction l with
 |nil=>cases h
 |cons b l ih=>
  simp only[Ex.DS,List.length_cons,List.length_append]
  rcases List.mem_cons.1 h with rfl|h
  ·constructor<;>omega
  ·have:=ih h
   constructor<;>omega
theorem iZ {s:List UInt8}{l:List Ex.Tok}(h:Ex.lexM s=.ok l):l.length<=2*s.length/\∀t∈l,fo (2*s.length+1) t:=by
 have hw:=Ex.Hq h
 refine⟨?_,fun t ht=> ?_⟩
 ·rcases Ex.XN l 0 none false hw (Nat.zero_le _) with h|⟨⟨p,h,_⟩,_⟩
  ·omega
  ·cases h
 ·obtain⟨h1,h2,h3⟩:=Ra l 0 none false hw t ht;have hf:=Ex.Ow h t ht;have hc:=Ex.PR hf;have:=hf.1
  refine⟨by omega,by omega,fun a ha=> ?_⟩
  have vY:=fL ha
  have nz:(Ex.DS t.attrs).length<=(Ex.written t).length:=by
   rcases hf.2 with h|h|h
   ·rw[h] at ha;cases ha
   ·unfold Ex.written
    rw[if_neg (by omega),if_neg (by omega),if_pos h]
    simp only[List.length_append];omega
   ·unfold Ex.written
    rw[if_neg (by omega),if_neg (by omega),if_neg (by omega),if_pos h]
    simp only[List.length_append];omega
  omega
structure Sz (M i:Nat) (l:List Nd):Prop where
 sm:OJ M l
 kids:∀n∈l,n.kids.length<=i
 size:Dd l<=i+1
theorem Sz.up {M i:Nat}{l:List Nd}(h:Sz M i l):Sz M (i+1) l:=⟨h.sm,fun n hn=>by have:=h.kids n hn;omega,by have:=h.size;omega⟩
theorem Qc (n k:Nd):(EK n k).size=n.size+k.size:=by
 obtain⟨a,b,c,d,e⟩:=n;simp only[EK,Nd.size,Nd.kids,Ki,Dd];omega
theorem Sz.add {M i:Nat}{n:Nd}{l:List Nd}(h:Sz M i (n::l)){k:Nd}(hk:Z8 M k)(hs:k.size<=1)(hi:i+1<=M):Sz M (i+1) (EK n k::l):=by
 obtain⟨⟨h1,h2⟩,h3,h4⟩:=h
 have hn:=h3 n (by simp)
 refine⟨⟨?_,h2⟩,fun m hm=> ?_,?_⟩
 ·rw[Rk] at h1⊢;obtain⟨a1,a2,a3,a4,a5⟩:=h1;refine⟨a1,a2,a3,?_,?_⟩
  ·rw[Cn,List.length_append];simp only[List.length_cons,List.length_nil];omega
  ·rw[Cn,OI];exact⟨a5,hk,trivial⟩
 ·rcases List.mem_cons.1 hm with rfl|hm
  ·rw[Cn,List.length_append];simp only[List.length_cons,List.length_nil];omega
  ·have:=h3 m (List.mem_cons_of_mem _ hm);omega
 ·simp only[Dd,Qc] at h4⊢;omega
theorem Sz.push {M i:Nat}{l:List Nd}(h:Sz M i l){n:Nd}(hn:Z8 M n)(hk:n.kids=[]):Sz M (i+1) (n::l):=by
 obtain⟨h1,h3,h4⟩:=h
 refine⟨⟨hn,h1⟩,fun m hm=> ?_,?_⟩
 ·rcases List.mem_cons.1 hm with rfl|hm
  ·rw[hk];simp
  ·have:=h3 m hm;omega
 ·rw[Dd,n.size_eq,hk];simp only[Dd];omega
theorem Sz.text {M i:Nat}{n:Nd}{l:List Nd}(h:Sz M i (n::l)){t:List UInt8}(ht:t.length<=M):Sz M (i+1) (.mk n.kind n.pl t n.attrs n.kids::l):=by
 obtain⟨⟨h1,h2⟩,h3,h4⟩:=h;rw[Rk] at h1;obtain⟨a1,a2,a3,a4,a5⟩:=h1
 refine⟨⟨⟨ht,a2,a3,a4,a5⟩,h2⟩,fun m hm=> ?_,?_⟩
 ·rcases List.mem_cons.1 hm with rfl|hm
  ·have:=h3 n (by simp)
   show n.kids.length<=_;omega
  ·have:=h3 m (List.mem_cons_of_mem _ hm);omega
 ·simp only[Dd,Nd.size_eq,Nd.kids] at h4⊢;omega
theorem Sz.pop {M i:Nat}{n m:Nd}{l:List Nd}(h:Sz M i (n::m::l))(hi:i+1<=M):Sz M (i+1) (EK m n::l):=by
 obtain⟨⟨h1,h2,h5⟩,h3,h4⟩:=h
 have hm:=h3 m (by simp)
 refine⟨⟨?_,h5⟩,fun x hx=> ?_,?_⟩
 ·rw[Rk] at h2⊢;obtain⟨a1,a2,a3,a4,a5⟩:=h2;refine⟨a1,a2,a3,?_,?_⟩
  ·rw[Cn,List.length_append];simp only[List.length_cons,List.length_nil];omega
  ·rw[Cn,OI];exact⟨a5,h1,trivial⟩
 ·rcases List.mem_cons.1 hx with rfl|hx
  ·rw[Cn,List.length_append];simp only[List.length_cons,List.length_nil];omega
  ·have:=h3 x (by simp[hx]);omega
 ·simp only[Dd,Qc] at h4⊢;omega
theorem bN {M:Nat}{t:Ex.Tok}(h:fo M t)(k p:Int):Z8 M (.mk k p [] (t.attrs.map XV) []):=by
 refine⟨Nat.zero_le _,by rw[List.length_map];exact h.2.1,fun a ha=> ?_,Nat.zero_le _,trivial⟩
 obtain⟨b,hb,rfl⟩:=List.mem_map.1 ha;exact h.2.2 b hb
theorem fu {M i:Nat}{s:Ps}{t:Ex.Tok}(h:Sz M i s.rows)(ht:fo M t)(hi:i+1<=M):Sz M (i+1) (CS t s).rows:=by
 obtain⟨rows,pl,e⟩:=s
 cases rows with
 |nil=>
  have:(CS t ⟨[],pl,e⟩).rows=[]:=by
   unfold CS
   cases t.kind==1<;>cases t.kind==7<;>cases t.kind==2||t.kind==3<;>cases t.kind==5<;>rfl
  rw[this]
  exact⟨trivial,fun n hn=>(by cases hn),by simp[Dd]⟩
 |cons n r=>
  unfold CS
  cases t.kind==1 with
  |true=>
   simp only[cond_true];unfold FZ;simp only
   cases n.kind==7||n.kind==10 with
   |true=>simp only[cond_true];cases (Ba t.text).isEmpty<;>exact h.up
   |false=>simp only[cond_false];exact h.add ⟨ht.1,Nat.zero_le _,fun a ha=>(by cases ha),Nat.zero_le _,trivial⟩ (by simp[Nd.size,Dd]) hi
  |false=>
   simp only[cond_false]
   cases t.kind==7 with
   |true=>simp only[cond_true];exact h.text ht.1
   |false=>
    simp only[cond_false]
    cases t.kind==2||t.kind==3 with
    |true=>
     simp only[cond_true];unfold GC;simp only
     cases FU (C7 t.name) with
     |true=>simp only[cond_true];exact h.add (bN ht _ _) (by simp[Nd.size,Dd]) hi
     |false=>simp only[cond_false];exact h.push (bN ht _ _) rfl
    |false=>
     simp only[cond_false]
     cases t.kind==5 with
     |true=>simp only[cond_true];exact h.push (n:=.mk 14 t.fr [] [] []) ⟨Nat.zero_le _,Nat.zero_le _,fun a ha=>(by cases ha),Nat.zero_le _,trivial⟩ rfl
     |false=>
      simp only[cond_false];unfold Ev;simp only
      cases Hz t n with
      |true=>simp only[cond_true];exact h.up
      |false=>
       simp only[cond_false]
       cases r with
       |nil=>exact h.up
       |cons m q=>exact h.pop hi
theorem TO {M:Nat}:∀(l:List Ex.Tok) (i:Nat) (s:Ps),Sz M i s.rows->(∀t∈l,fo M t)->i+l.length<=M->Sz M (i+l.length) (Bi l s).rows
 |[],i,s,h,_,_=>h
 |t::l,i,s,h,ht,hi=>by
  simp only[List.length_cons] at hi⊢
  have h1:=fu h (ht t (by simp)) (by omega)
  rw[Bi]
  cases (CS t s).e==0 with
  |true=>
   have:=TO l (i+1) _ h1 (fun u hu=>ht u (List.mem_cons_of_mem _ hu)) (by omega)
   simp only[cond_true]
   rw[show i+(l.length+1)=i+1+l.length by omega]
   exact this
  |false=>
   simp only[cond_false]
   exact⟨h1.sm,fun n hn=>by have:=h1.kids n hn;omega,by have:=h1.size;omega⟩
theorem Tj {s:List UInt8}{n:Nd}(h:Bz s=.ok n):s.length<=65536/\Z8 (2*s.length+1) n/\n.size<=2*s.length+1:=by
 unfold Bz at h;split at h
 ·cases h
 ·rename_i hs;split at h
  ·cases h
  ·rename_i l hl;obtain⟨h1,h2⟩:=iZ hl
   have h3:=TO l 0 Jg ⟨⟨⟨Nat.zero_le _,Nat.zero_le _,fun a ha=>(by cases ha),Nat.zero_le _,trivial⟩,trivial⟩,fun n hn=>(by rw[List.mem_singleton.1 hn];exact Nat.zero_le _),by simp[Jg,Dd,Nd.size]⟩ h2 (by omega)
   unfold Vy Iy at h
   cases he:(Bi l Jg).e==0 with
   |false=>rw[he] at h;cases h
   |true=>
    rw[he] at h;simp only[cond_true] at h;split at h
    ·rename_i m hm
     injection h with h
     subst h;rw[hm] at h3;have:=h3.size;simp only[Dd] at this
     exact⟨by omega,h3.sm.1,by omega⟩
    ·cases h
theorem fx (M:Nat):Z8 M lr:=⟨Nat.zero_le _,Nat.zero_le _,fun a ha=>(by cases ha),Nat.zero_le _,trivial⟩
theorem Ho (s:List UInt8):Z8 (2*s.length+1) (A7 s)/\(A7 s).size<=2*s.length+1/\(65536<s.length->A7 s=lr):=by
 unfold A7
 cases h:Bz s with
 |ok n=>
  obtain⟨h1,h2,h3⟩:=Tj h
  exact⟨h2,h3,fun hs=>by omega⟩
 |error x=>exact⟨fx _,by simp[Ry,lr,Nd.size,Dd],fun _=>rfl⟩
theorem Mn (s:List UInt8):(A7 s).size<=131073:=by
 obtain⟨_,h1,h2⟩:=Ho s
 by_cases hs:65536<s.length
 ·rw[h2 hs];decide
 ·omega
end Go.Ai.Sp
end
