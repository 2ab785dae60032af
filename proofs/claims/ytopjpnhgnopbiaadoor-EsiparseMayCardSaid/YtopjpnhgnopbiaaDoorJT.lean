/-
  Trees out of pieces: contracts of the parser's functions. No statement about the program is made here.
  Trees of nodes, in plain terms: what they are as abstract values, how many nodes, how deep, the same. No statement about the program is made here.
  Which trees are pages, in plain terms; contracts of the functions that look. No statement about the program is made here.
  Which trees are pages, in plain terms. No statement about the program is made here.
  The parser in plain terms: what a page's text is as a tree, or what is wrong and where. No statement about the program is made here.
  The parser in plain terms: what stays while tokens are taken; what tokens are. No statement about the program is made here.
  The parser in plain terms: how great its trees are. No statement about the program is made here.
  A text between two others, and a text in an element: their pieces, and what the statement says of their trees. No statement about the program is made here.
  The parser on tokens that stand in another text: step by step as on their own. No statement about the program is made here.
  The parser on tokens that stand in another text: one step, and how deep it goes. No statement about the program is made here.
  The parser on tokens that stand in another text: all steps, and the one that goes too deep. No statement about the program is made here.
  A text between two others, and a text in an element: the plain law of their trees. No statement about the program is made here.
  The places of a text's tree rise, parents ahead of children. No statement about the program is made here.
  Where a text has no tree, the place that is told lies in the text. No statement about the program is made here.
  Trees and their pieces: what the rules say of attributes. No statement about the program is made here.
  Trees and their pieces: the pieces of a tree that may be, written one behind the other. No statement about the program is made here.
  Trees and their pieces: the pieces of a tree that may be are good ones. No statement about the program is made here.
  Children that came one by one, each allowed behind the one before: the check lets them pass. No statement about the program is made here.
  The tree that is told may be: the check lets it pass. No statement about the program is made here.
  The tree that is told may be: all steps. No statement about the program is made here.
-/
import Derived.Test.YtopjpnhgnopbiaaDoorJA
import Derived.Test.YtopjpnhgnopbiaaDoorAiSymP
import Derived.Test.YtopjpnhgnopbiaaDoorAiPrims
import Derived.Test.YtopjpnhgnopbiaaDoorAiMono
set_option linter.unusedVariables false
set_option linter.unusedSimpArgs false
set_option linter.unnecessarySimpa false
section
namespace Go.Ai.Sp
open Go.Ai Go.RowKit Go.Ai.Ex
abbrev Row :=Nat×List AV
abbrev limS :Nat:=1000000000000
def hP (g:Nat)(rows:List Row)(pl e:Int):Hp:=[.grow 0 3 32,.grow 0 5 28,.mem 28 [.int .i64 0,.int .i64 0,.str [],.sl 3 [] (some 0),.sl 5 [] (some 1)],.grow 0 3 32,.dead,.stk g 28 5 4 28 5 rows,.grow 0 5 28,
 .mem 49 [.ssl 5 g 0 5 rows.length,.int .i64 pl,.int .i64 e]]
def rw' (v0 v1 v2 v3:AV)(es:List (List AV)):Row:=(es.length,[v0,v1,v2,v3,.sl 5 es none])
def _root_.Keep.okW (rows:List Row)(r:Hp):Prop:=∀(n:Nat) (g:Hp),8+r.length≤n→rows.map (fun x=>(x.1,strips n g x.2))=rows∧r.map (stripB n g)=r
def topC :Con:=fun vs h K=>∃(g:Nat) (row:Row) (rows:List Row) (pl e:Int) (r:Hp),Keep.okW (row::rows) r∧(row::rows).length≤limS∧vs=[.ptr 7 0]∧h=hP g (row::rows) pl e++r∧K (.spt 5 g 0 0) h
def fE (p x pl e:Int):Int×Int:=bif e==0 then(p,x) else(pl,e)
def failC :Con:=fun vs h K=>∃(p x:Int) (g:Nat) (rows:List Row) (pl e:Int) (r:Hp),Keep.okW rows r∧vs=[.ptr 7 0,.int .i64 p,.int .i64 x]∧h=hP g rows pl e++r∧K (.tup []) (hP g rows (fE p x pl e).1 (fE p x pl e).2++r)
def lastK (es:List (List AV)):Int:=match es.getLast? with
 |some (.int _ k::_)=>k
 |_=>0
def kidsOk (es:List (List AV)):Prop:=es.length≤limS∧∀x∈es,∃k v1 v2 v3 v4,x=[AV.int .i64 k,v1,v2,v3,v4]
def lastC :Con:=fun vs h K=>∃(g:Nat) (v0 v1 v2 v3:AV) (es:List (List AV)) (rows:List Row) (pl e:Int) (r:Hp),Keep.okW (rw' v0 v1 v2 v3 es::rows) r∧(rw' v0 v1 v2 v3 es::rows).length≤limS∧kidsOk es∧
 vs=[.ptr 7 0]∧h=hP g (rw' v0 v1 v2 v3 es::rows) pl e++r∧K (.int .i64 (lastK es)) h
def mayB (k l x:Int):Bool:=bif k==7 then(x==8&&l==0)||(x==9&&l==8) else bif k==10 then(x==11&&l !=12)||(x==12&&l==11) else !(x==8||x==9||x==11||x==12)
def mayC :Con:=fun vs h K=>∃(g:Nat) (k x:Int) (v1 v2 v3:AV) (es:List (List AV)) (rows:List Row) (pl e:Int) (r:Hp),Keep.okW (rw' (.int .i64 k) v1 v2 v3 es::rows) r∧(rw' (.int .i64 k) v1 v2 v3 es::rows).length≤limS∧kidsOk es∧
 vs=[.ptr 7 0,.int .i64 x]∧h=hP g (rw' (.int .i64 k) v1 v2 v3 es::rows) pl e++r∧K (.bool (mayB k (lastK es) x)) h
def inNC :Con:=fun vs h K=>∃(l:List Int) (x:Int),vs=[.sl 1 (l.map fun n=>[.int .i64 n]) none,.int .i64 x]∧l.length≤limS∧K (.bool (l.any (·==x))) h
def inNIC :Con:=fun vs h K=>∃(l:List Int) (x:Int),vs=[.sl 1 (l.map fun n=>[.int .i64 n]) none,.int .i64 x]∧l.length≤limS∧∀z:Int,decide (z≥0)=(l.any (·==x))→K (.int .i64 z) h
def inC :Con:=fun vs h K=>∃(l:List (List UInt8)) (x:List UInt8),vs=[.sl 1 (l.map fun n=>[.str n]) none,.str x]∧l.length≤limS∧K (.bool (l.any (·==x))) h
def inIC :Con:=fun vs h K=>∃(l:List (List UInt8)) (x:List UInt8),vs=[.sl 1 (l.map fun n=>[.str n]) none,.str x]∧l.length≤limS∧∀z:Int,decide (z≥0)=(l.any (·==x))→K (.int .i64 z) h
structure El where
 kind:Int
 names:List (List UInt8)
 must:Nat
def elM (s:List UInt8):El:=
 bif s==[105,110,99,108,117,100,101] then⟨3,[[115,114,99],[97,108,116],[111,110,101,114,114,111,114]],1⟩ else
 bif s==[105,110,108,105,110,101] then⟨4,[[110,97,109,101],[102,101,116,99,104,97,98,108,101]],1⟩ else
 bif s==[114,101,109,111,118,101] then⟨5,[],0⟩ else
 bif s==[99,111,109,109,101,110,116] then⟨6,[[116,101,120,116]],1⟩ else
 bif s==[116,114,121] then⟨7,[],0⟩ else
 bif s==[97,116,116,101,109,112,116] then⟨8,[],0⟩ else
 bif s==[101,120,99,101,112,116] then⟨9,[],0⟩ else
 bif s==[99,104,111,111,115,101] then⟨10,[],0⟩ else
 bif s==[119,104,101,110] then⟨11,[[116,101,115,116]],1⟩ else
 bif s==[111,116,104,101,114,119,105,115,101] then⟨12,[],0⟩ else⟨13,[],0⟩
def encE (x:El):List AV:=[.int .i64 x.kind,.sl 1 (x.names.map fun n=>[.str n]) none,.int .i64 (x.must:Nat)]
def ofC :Con:=fun vs h K=>∃s:List UInt8,vs=[.str s]∧K (.agg (encE (elM s))) h
def valM (x y:List UInt8):Bool:=
 bif x==[111,110,101,114,114,111,114] then y==[99,111,110,116,105,110,117,101] else
 bif x==[102,101,116,99,104,97,98,108,101] then y==[121,101,115]||y==[110,111] else
 bif x==[116,101,120,116] then true else !(y==[])
def valC :Con:=fun vs h K=>∃x y:List UInt8,vs=[.str x,.str y]∧K (.bool (valM x y)) h
def nodeV (k a:Int)(t:List UInt8)(aa:List (List AV))(oa:Option Nat)(ks:List (List AV))(ow:Option Nat):List AV:=[.int .i64 k,.int .i64 a,.str t,.sl 3 aa oa,.sl 5 ks ow]
def addC (m:Nat):Con:=fun vs h K=>∃(g:Nat) (v0 v1 v2 v3:AV) (es:List (List AV)) (rows:List Row) (pl e:Int) (r:Hp) (nk na:Int) (nt:List UInt8) (aa:List (List AV)) (oa:Option Nat) (ks:List (List AV)) (ow:Option Nat),
 Keep.okW (rw' v0 v1 v2 v3 es::rows) r∧(rw' v0 v1 v2 v3 es::rows).length≤limS∧es.length<limS∧(∀n g,8+m≤n→strips n g (nodeV nk na nt aa oa ks ow)=nodeV nk na nt aa oa ks ow)∧r.length=m∧
 vs=[.ptr 7 0,.agg (nodeV nk na nt aa oa ks ow)]∧h=hP g (rw' v0 v1 v2 v3 es::rows) pl e++r∧K (.tup []) (hP g (rw' v0 v1 v2 v3 (es++[nodeV nk na nt aa oa ks ow])::rows) pl e++r)
def attrsM (x:El)(fr:Int)(l:List Att)(s:Int×Int):Int×Int:=
 l.foldl (fun s a=>bif !(x.names.any (·==a.name))|| !valM a.name a.value then fE a.at' 12 s.1 s.2 else s) ((x.names.take x.must).foldl (fun s nm=>bif !(l.any fun a=>a.name==nm) then fE fr 12 s.1 s.2 else s) s)
def tkB (tk fr to:Int)(nm tx:List UInt8)(aa:List (List AV)):List AV:=[.int .i64 tk,.str nm,.sl 3 aa none,.str tx,.int .i64 fr,.int .i64 to]
def begH (t:List AV)(x:El):Hp:=[.grow 0 3 32,.mem 53 t,.mem 53 t,.grow 0 1 9,.mem 89 (encE x)]
def _root_.Keep.okR (rows:List Row):Prop:=∀r∈rows,∀n,4≤n→lowVs n r.2=true
def attrsC :Con:=fun vs h K=>∃(g:Nat) (rows:List Row) (pl e:Int) (x:El) (tk fr to:Int) (nm tx:List UInt8) (l:List Att),Keep.okR rows∧x.must≤x.names.length∧x.names.length≤limS∧l.length≤limS∧
 vs=[.ptr 7 0,.agg (encE x),.agg (tkB tk fr to nm tx (encAs l))]∧h=hP g rows pl e++begH (tkB tk fr to nm tx (encAs l)) x∧K (.tup []) (hP g rows (attrsM x fr l (pl,e)).1 (attrsM x fr l (pl,e)).2++begH (tkB tk fr to nm tx (encAs l)) x)
def hasNC :Con:=fun vs h K=>∃(g:Nat) (rows:List Row) (pl e:Int) (b0 b1 b2 b3 b4 b5 b6:Blk) (wd an av:List UInt8) (ap:Int),Keep.okW rows [b0,b1,b2,b3,b4,b5,b6,.mem 9 [.str wd]]∧
 vs=[.agg [.str an,.str av,.int .i64 ap],.ptr 15 0]∧h=hP g rows pl e++[b0,b1,b2,b3,b4,b5,b6,.mem 9 [.str wd]]∧K (.bool (an==wd)) h
def hasIC :Con:=fun vs h K=>∃(g:Nat) (rows:List Row) (pl e:Int) (b0 b1 b2 b3 b4 b5 b6:Blk) (wd:List UInt8) (l:List Att),Keep.okW rows [b0,b1,b2,b3,b4,b5,b6,.mem 9 [.str wd]]∧l.length≤limS∧
 vs=[.sl 3 (encAs l) none,.fn (.func 71) [] [.ptr 15 0]]∧h=hP g rows pl e++[b0,b1,b2,b3,b4,b5,b6,.mem 9 [.str wd]]∧∀z:Int,decide (z≥0)=(l.any fun a=>a.name==wd)→K (.int .i64 z) h
def hasAC :Con:=fun vs h K=>∃(g:Nat) (rows:List Row) (pl e:Int) (b0 b1 b2 b3 b4 b5 b6:Blk) (wd:List UInt8) (l:List Att),Keep.okW rows [b0,b1,b2,b3,b4,b5,b6,.mem 9 [.str wd]]∧l.length≤limS∧
 vs=[.sl 3 (encAs l) none,.fn (.func 71) [] [.ptr 15 0]]∧h=hP g rows pl e++[b0,b1,b2,b3,b4,b5,b6,.mem 9 [.str wd]]∧K (.bool (l.any fun a=>a.name==wd)) h
def trimM (s:List UInt8):List UInt8:=s.dropWhile blB
def trimC :Con:=fun vs h K=>∃s:List UInt8,s.length≤limS∧vs=[.str s,.str [32,9,10,13]]∧K (.str (trimM s)) h
def failW (g:Nat)(rows:List Row)(r:Hp):Con:=fun vs h K=>∃(p x:Int) (pl e:Int),vs=[.ptr 7 0,.int .i64 p,.int .i64 x]∧h=hP g rows pl e++r∧K (.tup []) (hP g rows (fE p x pl e).1 (fE p x pl e).2++r)
def failN (g:Nat)(rows:List Row)(b0 b1 b2 b3 b4 b5 b6:Blk):Con:=fun vs h K=>∃(p x:Int) (pl e:Int) (w:List UInt8),vs=[.ptr 7 0,.int .i64 p,.int .i64 x]∧h=hP g rows pl e++[b0,b1,b2,b3,b4,b5,b6,.mem 9 [.str w]]∧
 K (.tup []) (hP g rows (fE p x pl e).1 (fE p x pl e).2++[b0,b1,b2,b3,b4,b5,b6,.mem 9 [.str w]])
def failA (g:Nat)(rows:List Row)(b0 b1 b2 b3 b4 b5 b6:Blk):Con:=fun vs h K=>∃(p x:Int) (pl e:Int) (w v:List UInt8) (q:Int),vs=[.ptr 7 0,.int .i64 p,.int .i64 x]∧h=hP g rows pl e++[b0,b1,b2,b3,b4,b5,b6,.mem 32 [.str w,.str v,.int .i64 q]]∧
 K (.tup []) (hP g rows (fE p x pl e).1 (fE p x pl e).2++[b0,b1,b2,b3,b4,b5,b6,.mem 32 [.str w,.str v,.int .i64 q]])
def ofW (s:List UInt8):Con:=fun vs h K=>vs=[.str s]∧K (.agg (encE (elM s))) h
def begX (b0 b1:Blk)(t:List AV)(x:El):Hp:=[b0,b1,.mem 53 t,.grow 0 1 9,.mem 89 (encE x)]
def attrsV (g:Nat)(rows:List Row)(x:El)(tk fr to:Int)(nm tx:List UInt8)(l:List Att):Con:=fun vs h K=>∃(pl e:Int),vs=[.ptr 7 0,.agg (encE x),.agg (tkB tk fr to nm tx (encAs l))]∧
 h=hP g rows pl e++begH (tkB tk fr to nm tx (encAs l)) x∧K (.tup []) (hP g rows (attrsM x fr l (pl,e)).1 (attrsM x fr l (pl,e)).2++begH (tkB tk fr to nm tx (encAs l)) x)
end Go.Ai.Sp
end
section
namespace Go.Ai
open Go.RowKit
structure Att where
 name:List UInt8
 value:List UInt8
 pl:Int
inductive Nd where
 |mk (kind pl:Int) (text:List UInt8) (attrs:List Att) (kids:List Nd)
 deriving Inhabited
def Nd.kind :Nd→Int|.mk k _ _ _ _=>k
def Nd.pl :Nd→Int|.mk _ p _ _ _=>p
def Nd.text :Nd→List UInt8|.mk _ _ t _ _=>t
def Nd.attrs :Nd→List Att|.mk _ _ _ a _=>a
def Nd.kids :Nd→List Nd|.mk _ _ _ _ l=>l
def encA (a:Att):List AV:=[.str a.name,.str a.value,.int .i64 a.pl]
mutual
def encN :Nd→List AV
 |.mk k p t al ks=>[.int .i64 k,.int .i64 p,.str t,.sl 3 (al.map encA) none,.sl 5 (encNs ks) none]
def encNs :List Nd→List (List AV)
 |[]=>[]
 |n::r=>encN n::encNs r
end
theorem encNs_map :∀l:List Nd,encNs l=l.map encN
 |[]=>rfl
 |n::r=>by rw[encNs,encNs_map r];rfl
mutual
def Nd.size :Nd→Nat
 |.mk _ _ _ _ ks=>1+sizes ks
def sizes :List Nd→Nat
 |[]=>0
 |n::r=>n.size+sizes r
end
mutual
def Nd.depth :Nd→Nat
 |.mk _ _ _ _ ks=>depths ks
def depths :List Nd→Nat
 |[]=>0
 |n::r=>max (n.depth+if n.kind=2 then 0 else 1) (depths r)
end
mutual
theorem pure_encN :∀n:Nd,pureV.pureVs (encN n)=true
 |.mk k p t al ks=>by
  simp only[encN,pureV.pureVs,pureV,Option.isNone_none,Bool.true_and,Bool.and_true,Bool.and_eq_true];refine⟨?_,pure_encNs ks⟩
  induction al with
  |nil=>rfl
  |cons a r ih=>simp only[List.map_cons,pureV.pureVss,encA,pureV.pureVs,pureV,ih,Bool.true_and]
theorem pure_encNs :∀l:List Nd,pureV.pureVss (encNs l)=true
 |[]=>rfl
 |n::r=>by simp only[encNs,pureV.pureVss,pure_encN n,pure_encNs r,Bool.true_and]
end
theorem pure_encAs (l:List Att):pureV.pureVss (l.map encA)=true:=by
 induction l with
 |nil=>rfl
 |cons a r ih=>simp only[List.map_cons,pureV.pureVss,encA,pureV.pureVs,pureV,ih,Bool.true_and]
mutual
theorem low_pure (n:Nat):∀v,pureV v=true→lowV n v=true
 |.top,_=>rfl
 |.bool _,_=>rfl
 |.int _ _,_=>rfl
 |.str _,_=>rfl
 |.nilp,_=>rfl
 |.ptr _ _,hp=>by simp[pureV] at hp
 |.ro cs,hp=>by rw[lowV];exact lows_pure n cs (by simpa[pureV] using hp)
 |.sl sz es own,hp=>by
  simp only[pureV,Bool.and_eq_true] at hp
  cases own with
  |none=>simp only[lowV,lowss_pure n es hp.2,Bool.and_true]
  |some _=>simp at hp
 |.osl _ _ _ _,hp=>by simp[pureV] at hp
 |.mpv _ vs,hp=>by first|(simp[pureV] at hp;done)|(rw[lowV];exact lowss_pure n vs (by simpa[pureV] using hp))
 |.fn f a c,hp=>by
  simp only[pureV,Bool.and_eq_true] at hp;rw[lowV,lows_pure n a hp.1,lows_pure n c hp.2];rfl
 |.nilf,_=>rfl
 |.dfr cs,hp=>by first|(simp[pureV] at hp;done)|(rw[lowV];exact lows_pure n cs (by simpa[pureV] using hp))
 |.iface t v,hp=>by rw[lowV];exact low_pure n v (by simpa[pureV] using hp)
 |.nili,_=>rfl
 |.agg cs,hp=>by rw[lowV];exact lows_pure n cs (by simpa[pureV] using hp)
 |.tup cs,hp=>by rw[lowV];exact lows_pure n cs (by simpa[pureV] using hp)
theorem lows_pure (n:Nat):∀xs,pureV.pureVs xs=true→lowVs n xs=true
 |[],_=>rfl
 |x::xs,hp=>by
  simp only[pureV.pureVs,Bool.and_eq_true] at hp;rw[lowVs,low_pure n x hp.1,lows_pure n xs hp.2];rfl
theorem lowss_pure (n:Nat):∀xs,pureV.pureVss xs=true→lowVss n xs=true
 |[],_=>rfl
 |x::xs,hp=>by
  simp only[pureV.pureVss,Bool.and_eq_true] at hp;rw[lowVss,lows_pure n x hp.1,lowss_pure n xs hp.2];rfl
end
theorem getE_map {α:Type}(f:α→List AV)(l:List α){i:Nat}(h:i<l.length):getE (l.map f) (i:Int)=f l[i]:=by
 unfold getE;simp[h]
mutual
theorem Nd.depth_le :∀n:Nd,n.depth<n.size
 |.mk _ _ _ _ ks=>by
  simp only[Nd.depth,Nd.size];have:=depths_le ks;omega
theorem depths_le :∀l:List Nd,depths l≤sizes l
 |[]=>Nat.le_refl _
 |n::r=>by
  simp only[depths,sizes];have h1:=n.depth_le;have h2:=depths_le r
  split<;>omega
end
theorem sizes_append :∀a b:List Nd,sizes (a++b)=sizes a+sizes b
 |[],b=>by simp[sizes]
 |n::r,b=>by simp only[List.cons_append,sizes,sizes_append r b];omega
theorem sizes_mem {l:List Nd}{n:Nd}(h:n∈l):n.size≤sizes l:=by
 induction l with
 |nil=>cases h
 |cons m r ih=>
  simp only[sizes]
  rcases List.mem_cons.1 h with rfl|h
  ·omega
  ·have:=ih h;omega
theorem sizes_len :∀l:List Nd,l.length≤sizes l
 |[]=>Nat.le_refl _
 |n::r=>by
  simp only[List.length_cons,sizes];have h1:=n.depth_le;have h2:=sizes_len r;omega
theorem getE_pre {α:Type}(f:α→List AV)(pre:List α)(x:α)(r:List α):getE ((pre++x::r).map f) (pre.length:Int)=f x:=by
 unfold getE;simp
theorem getE_encNs (pre:List Nd)(x:Nd)(r:List Nd):getE (encNs (pre++x::r)) (pre.length:Int)=encN x:=by
 rw[encNs_map];exact getE_pre _ _ _ _
theorem encNs_length (l:List Nd):(encNs l).length=l.length:=by rw[encNs_map];simp
theorem stripss_encAs (l:List Att):stripss 0 [] (l.map encA)=l.map encA:=stripss_pure _ _ _ (pure_encAs l)
theorem stripss_encNs (l:List Nd):stripss 0 [] (encNs l)=encNs l:=stripss_pure _ _ _ (pure_encNs l)
theorem low_encAs (n:Nat)(l:List Att):lowVss n (l.map encA)=true:=lowss_pure n _ (pure_encAs l)
theorem low_encNs (n:Nat)(l:List Nd):lowVss n (encNs l)=true:=lowss_pure n _ (pure_encNs l)
def lim :Nat:=9223372036854775807
def Att.fit (a:Att):Prop:=a.name.length≤lim∧a.value.length≤lim
mutual
def Nd.fit :Nd→Prop
 |.mk _ _ t al ks=>t.length≤lim∧al.length≤lim∧(∀a∈al,a.fit)∧ks.length≤lim∧fits ks
def fits :List Nd→Prop
 |[]=>True
 |n::r=>n.fit∧fits r
end
def attG (a:Att)(l:Int):Int:=l-1-(a.name.length/20:Nat)-(a.value.length/20:Nat)
def attsG :List Att→Int→Int
 |[],l=>l
 |a::r,l=>if 0<l then attsG r (attG a l) else l
mutual
def Nd.left :Nd→Int→Int
 |.mk _ _ t al ks,l=>lefts ks (attsG al (l-1-(t.length/20:Nat)))
def lefts :List Nd→Int→Int
 |[],l=>l
 |n::r,l=>if 0<l then lefts r (n.left l) else l
end
def alike (a b:Att):Bool:=a.name==b.name&&a.value==b.value
def alikes :List Att→List Att→Bool
 |[],[]=>true
 |a::r,b::s=>alike a b&&alikes r s
 |_,_=>false
mutual
def Nd.same :Nd→Nd→Bool
 |.mk k _ t al ks,n=>k==n.kind&&t==n.text&&alikes al n.attrs&&sames ks n.kids
def sames :List Nd→List Nd→Bool
 |[],[]=>true
 |a::r,b::s=>a.same b&&sames r s
 |_,_=>false
end
theorem alikes_refl :∀l:List Att,alikes l l=true
 |[]=>rfl
 |a::r=>by simp[alikes,alike,alikes_refl r]
mutual
theorem Nd.same_refl :∀n:Nd,n.same n=true
 |.mk k _ t al ks=>by simp[Nd.same,Nd.kind,Nd.text,Nd.attrs,Nd.kids,alikes_refl,sames_refl ks]
theorem sames_refl :∀l:List Nd,sames l l=true
 |[]=>rfl
 |n::r=>by simp[sames,n.same_refl,sames_refl r]
end
def sameC (N:Nat):Con:=fun vs h K=>∃a b:Nd,a.size<N∧a.fit∧b.fit∧vs=[.agg (encN a),.agg (encN b)]∧K (.bool (a.same b)) h
def samesC (k N:Nat):Con:=fun vs h K=>∃al bl:List Nd,sizes al<N∧fits al∧fits bl∧al.length≤lim∧bl.length≤lim∧vs=[.sl 5 (encNs al) none,.sl 5 (encNs bl) none,.fn (.func k) [] []]∧K (.bool (sames al bl)) h
def alikeC :Con:=fun vs h K=>∃a b:Att,vs=[.agg (encA a),.agg (encA b)]∧K (.bool (alike a b)) h
def alikesC (k:Nat):Con:=fun vs h K=>∃al bl:List Att,al.length≤lim∧bl.length≤lim∧vs=[.sl 3 (al.map encA) none,.sl 3 (bl.map encA) none,.fn (.func k) [] []]∧K (.bool (alikes al bl)) h
theorem encN_eq (n:Nd):encN n=[.int .i64 n.kind,.int .i64 n.pl,.str n.text,.sl 3 (n.attrs.map encA) none,.sl 5 (encNs n.kids) none]:=by
 obtain⟨k,p,t,al,ks⟩:=n;rfl
theorem Nd.size_eq (n:Nd):n.size=1+sizes n.kids:=by
 obtain⟨k,p,t,al,ks⟩:=n;rfl
theorem Nd.fit_eq (n:Nd):n.fit=(n.text.length≤lim∧n.attrs.length≤lim∧(∀a∈n.attrs,a.fit)∧n.kids.length≤lim∧fits n.kids):=by
 obtain⟨k,p,t,al,ks⟩:=n;rfl
theorem Nd.same_eq (a b:Nd):a.same b=(a.kind==b.kind&&a.text==b.text&&alikes a.attrs b.attrs&&sames a.kids b.kids):=by
 obtain⟨k,p,t,al,ks⟩:=a;rfl
end Go.Ai
end
section
namespace Go.Ai
open Go.RowKit
def ixOf {α:Type}(p:α→Bool):List α→Int→Int
 |[],_=> -1
 |a::r,i=>bif p a then i else ixOf p r (i+1)
theorem ixOf_ge {α:Type}(p:α→Bool):∀(l:List α) (i:Int),0≤i→decide (0≤ixOf p l i)=l.any p
 |[],i,_=>rfl
 |a::r,i,hi=>by
  rw[ixOf,List.any_cons]
  cases p a with
  |true=>simp[hi]
  |false=>simpa using ixOf_ge p r (i+1) (by omega)
def encI (l:List Int):List (List AV):=l.map fun x=>[.int .i64 x]
def encT (l:List (List UInt8)):List (List AV):=l.map fun x=>[.str x]
def tlim :Nat:=100000
def containsC :Con:=fun vs h K=>∃s x:List UInt8,s.length≤tlim∧vs=[.str s,.str x]∧K (.bool (contB s x)) h
def ixIC :Con:=fun vs h K=>∃(l:List Int) (k:Int),l.length≤lim∧vs=[.sl 1 (encI l) none,.int .i64 k]∧K (.int .i64 (ixOf (fun x=>k==x) l 0)) h
def hasTC :Con:=fun vs h K=>∃(l:List Int) (k:Int),l.length≤lim∧vs=[.sl 1 (encI l) none,.int .i64 k]∧K (.bool (l.any fun x=>k==x)) h
def ixSC :Con:=fun vs h K=>∃(l:List (List UInt8)) (k:List UInt8),l.length≤lim∧vs=[.sl 1 (encT l) none,.str k]∧K (.int .i64 (ixOf (fun x=>k==x) l 0)) h
def hasSC :Con:=fun vs h K=>∃(l:List (List UInt8)) (k:List UInt8),l.length≤lim∧vs=[.sl 1 (encT l) none,.str k]∧K (.bool (l.any fun x=>k==x)) h
def kindsL :List Int:=[2,3,4,5,6,7,10,13,14]
def contentB (k:Int):Bool:=kindsL.any fun x=>k==x
def contentC :Con:=fun vs h K=>∃k:Int,vs=[.int .i64 k]∧K (.bool (contentB k)) h
def leafB (k:Int):Bool:=decide (2≤k)&&decide (k≤6)
def leafC :Con:=fun vs h K=>∃k:Int,vs=[.int .i64 k]∧K (.bool (leafB k)) h
def fitB (p k i n:Int):Bool:=
 bif p==7 then(k==(if i=0 then 8 else 9))&&decide (i<2)
 else bif p==10 then(k==11)||(k==12&&decide (0<i)&&i==n-1)
 else contentB k
def fitC :Con:=fun vs h K=>∃p k i n:Int,0≤i∧i<n∧n≤lim∧vs=[.int .i64 p,.int .i64 k,.int .i64 i,.int .i64 n]∧K (.bool (fitB p k i n)) h
def esi1 :List UInt8:=[60,101,115,105,58]
def esi2 :List UInt8:=[60,47,101,115,105,58]
def esi3 :List UInt8:=[60,33,45,45,101,115,105]
def blanksL :List (List UInt8):=[[32],[9],[10],[13]]
def taggedB (s:List UInt8):Bool:=contB s esi1||contB s esi2||blanksL.any fun b=>contB s (esi3++b)
def taggedC :Con:=fun vs h K=>∃s:List UInt8,s.length≤tlim∧vs=[.str s]∧K (.bool (taggedB s)) h
def fullC :Con:=fun vs h K=>∃s:List UInt8,vs=[.str s]∧K (.bool (!(s==[]))) h
def anyC :Con:=fun vs h K=>∃s:List UInt8,vs=[.str s]∧K (.bool true) h
def tag1C :Con:=fun vs h K=>∃s b:List UInt8,s.length≤tlim∧b.length≤10∧h=[.mem 9 [.str s],.grow 4 1 9]∧vs=[.str b,.ptr 0 0]∧K (.bool (contB s (esi3++b))) [.mem 9 [.str s],.grow 4 1 9]
def tagIxC :Con:=fun vs h K=>∃s:List UInt8,s.length≤tlim∧h=[.mem 9 [.str s],.grow 4 1 9]∧vs=[.sl 1 [[.str [32]],[.str [9]],[.str [10]],[.str [13]]] (some 1),.fn (.func 47) [] [.ptr 0 0]]∧K (.int .i64 (ixOf (fun b=>contB s (esi3++b)) blanksL 0)) [.mem 9 [.str s],.grow 4 1 9]
def tagAnyC :Con:=fun vs h K=>∃s:List UInt8,s.length≤tlim∧h=[.mem 9 [.str s],.grow 4 1 9]∧vs=[.sl 1 [[.str [32]],[.str [9]],[.str [10]],[.str [13]]] (some 1),.fn (.func 47) [] [.ptr 0 0]]∧K (.bool (blanksL.any fun b=>contB s (esi3++b))) [.mem 9 [.str s],.grow 4 1 9]
def inl1 :List UInt8:=[60,47,101,115,105,58,105,110,108,105,110,101]
def rem1 :List UInt8:=[60,47,101,115,105,58,114,101,109,111,118,101]
def textB (k:Int)(t:List UInt8)(hid:Bool):Bool:=
 bif k==2 then !(t==[])&& !taggedB t&& !(hid&&contB t [45,45,62])
 else bif k==4 then !contB t inl1
 else bif k==5 then !contB t rem1&& !contB t esi1
 else t==[]
def textC :Con:=fun vs h K=>∃(n:Nd) (hid:Bool),n.text.length≤tlim∧vs=[.agg (encN n),.bool hid]∧K (.bool (textB n.kind n.text hid)) h
inductive May where
 |full
 |one (l:List (List UInt8))
 |any
structure Rul where
 name:List UInt8
 must:Bool
 may:May
def May.ok :May→List UInt8→Bool
 |.full,v=>!(v==[])
 |.one l,v=>l.any fun x=>v==x
 |.any,_=>true
def May.enc :May→AV
 |.full=>.fn (.func 39) [] []
 |.one l=>.fn (.func 40) [.sl 1 (encT l) none] []
 |.any=>.fn (.func 41) [] []
def encR (r:Rul):List AV:=[.str r.name,.bool r.must,r.may.enc]
def quoB (v:List UInt8):Bool:=contB v [34]&&contB v [39]
def cntR (r:Rul):List Att→Int→Option Int
 |[],n=>some n
 |a::t,n=>bif a.name==r.name then(bif r.may.ok a.value&& !quoB a.value then cntR r t (n+1) else none) else cntR r t n
def keepR :List Rul→List Att→Int→Bool
 |[],al,f=>f==(al.length:Nat)
 |r::t,al,f=>match cntR r al 0 with
  |none=>false
  |some n=>bif decide (1<n) then false else bif n==0&&r.must then false else keepR t al (f+n)
def resR (m:Bool)(t:List Rul)(al:List Att)(f:Int):Option Int→Bool
 |none=>false
 |some n=>bif decide (1<n) then false else bif n==0&&m then false else keepR t al (f+n)
theorem keepR_cons (r:Rul)(t:List Rul)(al:List Att)(f:Int):keepR (r::t) al f=resR r.must t al f (cntR r al 0):=by
 rw[keepR,resR.eq_def]
def rul3_0 :Rul:=⟨[115,114,99],true,.full⟩
def rul3_1 :Rul:=⟨[97,108,116],false,.full⟩
def rul3_2 :Rul:=⟨[111,110,101,114,114,111,114],false,.one [[99,111,110,116,105,110,117,101]]⟩
def rul4_0 :Rul:=⟨[110,97,109,101],true,.full⟩
def rul4_1 :Rul:=⟨[102,101,116,99,104,97,98,108,101],false,.one [[121,101,115],[110,111]]⟩
def rul6_0 :Rul:=⟨[116,101,120,116],true,.any⟩
def rul11_0 :Rul:=⟨[116,101,115,116],true,.full⟩
def rulesL (k:Int):List Rul:=
 bif k==3 then [rul3_0,rul3_1,rul3_2] else bif k==4 then [rul4_0,rul4_1] else bif k==6 then [rul6_0] else bif k==11 then [rul11_0] else []
def rulesC :Con:=fun vs h K=>∃k:Int,vs=[.int .i64 k]∧K (.sl 3 ((rulesL k).map encR) none) h
def keepC :Con:=fun vs h K=>∃(k:Int) (al:List Att),al.length≤tlim∧(∀a∈al,a.value.length≤tlim)∧vs=[.agg [.sl 3 (al.map encA) none],.sl 3 ((rulesL k).map encR) none]∧K (.bool (keepR (rulesL k) al 0)) h
end Go.Ai
end
section
namespace Go.Ai
open Go.RowKit
def formE (k:Int)(t:List UInt8)(al:List Att)(len:Nat)(d:Int)(hid:Bool)(b:Int):Int:=
 bif k==14&&hid then 13
 else bif !(k==2)&&decide (16<d) then 3
 else bif !keepR (rulesL k) al 0 then 12
 else bif !textB k t hid||(k==2&&b==2) then 4
 else bif (leafB k&&decide (0<len))||(k==7&& !(len==2))||(k==10&&len==0) then 13
 else 0
mutual
def Nd.chk :Nd→Int→Bool→Int→Int
 |.mk k _ t al ks,d,hid,b=>bif formE k t al ks.length d hid b==0 then chks k (ks.length:Nat) ks 0 (d+1) (hid||k==14) 0 else formE k t al ks.length d hid b
def chks (p n:Int):List Nd→Int→Int→Bool→Int→Int
 |[],_,_,_,_=>0
 |c::r,i,d,hid,b=>bif !fitB p c.kind i n then 13 else bif c.chk d hid b==0 then chks p n r (i+1) d hid c.kind else c.chk d hid b
end
mutual
def Nd.tfit :Nd→Prop
 |.mk _ _ t al ks=>t.length≤tlim∧al.length≤tlim∧(∀a∈al,a.value.length≤tlim)∧ks.length≤tlim∧tfits ks
def tfits :List Nd→Prop
 |[]=>True
 |n::r=>n.tfit∧tfits r
end
def checkC (N:Nat):Con:=fun vs h K=>∃(n:Nd) (d b:Int) (hid:Bool),n.size<N∧n.tfit∧0≤d∧d+N≤1000000∧vs=[.agg (encN n),.agg [.int .i64 d,.bool hid],.int .i64 b]∧K (.int .i64 (n.chk d hid b)) h
def Nd.page (n:Nd):Int:=bif n.kind==1 then n.chk 0 false 0 else 13
def pageC (N:Nat):Con:=fun vs h K=>∃n:Nd,n.size<N∧n.tfit∧N≤1000000∧vs=[.agg (encN n)]∧K (.int .i64 n.page) h
end Go.Ai
end
section
namespace Go.Ai.Sp
open Go.Ai Go.RowKit
def toA (a:Ex.Att):Go.Ai.Att:=⟨a.name,a.value,(a.at':Nat)⟩
def nd0 :Nd:=.mk 0 0 [] [] []
def addK (n k:Nd):Nd:=.mk n.kind n.pl n.text n.attrs (n.kids++[k])
def rowO (o:Option Nat)(n:Nd):Row:=rw' (.int .i64 n.kind) (.int .i64 n.pl) (.str n.text) (.sl 3 (n.attrs.map Go.Ai.encA) o) (encNs n.kids)
def ownP :List Nd→Option Nat
 |[]=>some 3
 |_=>none
def rowsP :List Nd→List Row
 |[]=>[]
 |n::r=>rowO (ownP r) n::rowsP r
def lastN (l:List Nd):Int:=match l.getLast? with
 |some n=>n.kind
 |none=>0
structure Ps where
 rows:List Nd
 pl:Int
 e:Int
def failP (p x:Int)(s:Ps):Ps:=⟨s.rows,(fE p x s.pl s.e).1,(fE p x s.pl s.e).2⟩
def textP (t:Ex.Tok)(s:Ps):Ps:=match s.rows with
 |[]=>s
 |n::r=>bif n.kind==7||n.kind==10 then(bif (trimM t.text).isEmpty then s else failP ((t.to:Int)-(trimM t.text).length) 13 s) else⟨addK n (.mk 2 t.fr t.text [] [])::r,s.pl,s.e⟩
def rawP (t:Ex.Tok)(s:Ps):Ps:=match s.rows with
 |[]=>s
 |n::r=>⟨.mk n.kind n.pl t.text n.attrs n.kids::r,s.pl,s.e⟩
def emptyB (x:El):Bool:=x.kind==3||x.kind==6
def begFail (x:El)(t:Ex.Tok)(n:Nd)(r:List Nd)(s:Ps):Ps:=
 let s1:=bif (emptyB x !=(t.kind==3))|| !mayB n.kind (lastN n.kids) x.kind then failP t.fr 13 s else s
 let s2:=bif decide (16<r.length+1) then failP t.fr 3 s1 else s1
 ⟨s2.rows,(attrsM x t.fr t.attrs (s2.pl,s2.e)).1,(attrsM x t.fr t.attrs (s2.pl,s2.e)).2⟩
def begP (t:Ex.Tok)(s:Ps):Ps:=match s.rows with
 |[]=>s
 |n::r=>
  let x:=elM t.name
  let s2:=begFail x t n r s
  bif emptyB x then⟨addK n (.mk x.kind t.fr [] (t.attrs.map toA) [])::r,s2.pl,s2.e⟩ else⟨.mk x.kind t.fr [] (t.attrs.map toA) []::n::r,s2.pl,s2.e⟩
def hideP (t:Ex.Tok)(s:Ps):Ps:=match s.rows with
 |[]=>s
 |n::r=>
  let s1:=bif !mayB n.kind (lastN n.kids) 14 then failP t.fr 13 s else s
  let s2:=bif decide (16<r.length+1) then failP t.fr 3 s1 else s1
  ⟨.mk 14 t.fr [] [] []::n::r,s2.pl,s2.e⟩
def endK (t:Ex.Tok):Int:=bif t.kind==4 then(elM t.name).kind else 14
def endBad (t:Ex.Tok)(n:Nd):Bool:=!(n.kind==endK t)||((endK t==7&& !(lastN n.kids==9))||(endK t==10&&lastN n.kids==0))
def endP (t:Ex.Tok)(s:Ps):Ps:=match s.rows with
 |[]=>s
 |n::r=>bif endBad t n then failP t.fr 13 s else match r with
  |[]=>s
  |m::q=>⟨addK m n::q,s.pl,s.e⟩
def stepP (t:Ex.Tok)(s:Ps):Ps:=
 bif t.kind==1 then textP t s else bif t.kind==7 then rawP t s else bif t.kind==2||t.kind==3 then begP t s else bif t.kind==5 then hideP t s else endP t s
def parseL :List Ex.Tok→Ps→Ps
 |[],s=>s
 |t::l,s=>bif (stepP t s).e==0 then parseL l (stepP t s) else stepP t s
def page0 :Ps:=⟨[.mk 1 0 [] [] []],0,0⟩
def doneT (len:Int)(s:Ps):Except (Int×Int) Nd:=
 bif s.e==0 then(match s.rows with
  |[n]=>.ok n
  |_=>.error (len,14)) else .error (s.pl,s.e)
def parseT (len:Int)(l:List Ex.Tok):Except (Int×Int) Nd:=doneT len (parseL l page0)
def parseM (s:List UInt8):Except (Int×Int) Nd:=
 if 65536<s.length then .error (65536,3) else
 match Ex.lexM s with
 |.error (p,e)=>.error ((p:Nat),e)
 |.ok l=>parseT s.length l
end Go.Ai.Sp
namespace Go.Ai.Sp
def tokB (t:Ex.Tok):Prop:=t.text.length≤limS∧t.to≤limS∧t.fr≤limS∧t.attrs.length≤limS∧t.to≥t.text.length
def smallR (l:List Nd):Prop:=l.length<limS∧∀n∈l,n.kids.length<limS
def tokH (t:Ex.Tok):Hp:=[.grow 0 3 32,.mem 53 (Ex.encT t)]
def stepC (M:Ex.Tok→Ps→Ps)(pre:Ex.Tok→Ps→Prop):Con:=fun vs h K=>∃(g:Nat) (s:Ps) (t:Ex.Tok),s.rows≠[]∧smallR s.rows∧tokB t∧pre t s∧vs=[.ptr 7 0,.agg (Ex.encT t)]∧h=hP g (rowsP s.rows) s.pl s.e++tokH t∧
 ∀g':Nat,K (.tup []) (hP g' (rowsP (M t s).rows) (M t s).pl (M t s).e++tokH t)
def stepsV :AV:=.mpv [1,7,2,3,5,4,6] [[.fn (.func 26) [] []],[.fn (.func 27) [] []],[.fn (.func 28) [] []],[.fn (.func 28) [] []],[.fn (.func 29) [] []],[.fn (.func 30) [] []],[.fn (.func 30) [] []]]
def stepsC :Con:=fun vs h K=>vs.isEmpty=true∧K stepsV h
def noPre (_:Ex.Tok)(_:Ps):Prop:=True
def onePage (s:Ps):Prop:=∀n,s.rows=[n]→n.kind=1
def onePre (_:Ex.Tok)(s:Ps):Prop:=onePage s
def parseC :Con:=fun vs h K=>∃s:List UInt8,vs=[.str s]∧(∀n,parseM s=.ok n→K (.tup [.agg (encN n),.int .i64 0,.int .i64 0]) h)∧
 (∀p e,parseM s=.error (p,e)→∀z1 z2:Nat,(z1=3∧z2=5)∨(z1=0∧z2=0)→K (.tup [.agg [.int .i64 0,.int .i64 0,.str [],.sl z1 [] none,.sl z2 [] none],.int .i64 p,.int .i64 e]) h)
mutual
def kindsN :Nd→List UInt8
 |.mk k _ _ _ ks=>bif ks.isEmpty then [UInt8.ofNat (97+k.tmod 26).toNat] else [UInt8.ofNat (97+k.tmod 26).toNat,40]++kindsNs ks++[41]
def kindsNs :List Nd→List UInt8
 |[]=>[]
 |n::r=>kindsN n++kindsNs r
end
def kindsC (N:Nat):Con:=fun vs h K=>∃nd:Nd,nd.size<N∧vs=[.agg (encN nd)]∧K (.str (kindsN nd)) h
def parseV :Except (Int×Int) Nd→Nd×Int×Int
 |.ok n=>(n,0,0)
 |.error (p,e)=>(nd0,p,e)
def parseN (s:List UInt8):Nd:=(parseV (parseM s)).1
def parseA (s:List UInt8):Int:=(parseV (parseM s)).2.1
def parseE (s:List UInt8):Int:=(parseV (parseM s)).2.2
def parse3C :Con:=fun vs h K=>∃s:List UInt8,vs=[.str s]∧
 K (.tup [.agg [.int .i64 (parseN s).kind,.int .i64 (parseN s).pl,.str (parseN s).text,.sl 3 ((parseN s).attrs.map Go.Ai.encA) none,.sl 5 (encNs (parseN s).kids) none],.int .i64 (parseA s),.int .i64 (parseE s)]) h
end Go.Ai.Sp
end
section
namespace Go.Ai.Sp
open Go.Ai Go.RowKit
def Bot :List Nd→Prop
 |[]=>False
 |[n]=>n.kind=1
 |_::r=>Bot r
theorem Bot.ne {l:List Nd}(h:Bot l):l≠[]:=by
 rintro rfl
 exact h
theorem Bot.push {l:List Nd}(h:Bot l)(n:Nd):Bot (n::l):=by
 cases l with
 |nil=>exact h.elim
 |cons=>exact h
theorem Bot.same {n m:Nd}{l:List Nd}(h:Bot (n::l))(e:m.kind=n.kind):Bot (m::l):=by
 cases l with
 |nil=>exact e.trans h
 |cons=>exact h
theorem Bot.pop {n m:Nd}{l:List Nd}(h:Bot (n::m::l)):Bot (m::l):=h
structure Inv (i:Nat) (l:List Nd):Prop where
 bot:Bot l
 len:l.length≤i+1
 kids:∀n∈l,n.kids.length≤i
theorem kind_addK (n k:Nd):(addK n k).kind=n.kind:=rfl
theorem kids_addK (n k:Nd):(addK n k).kids=n.kids++[k]:=rfl
theorem Inv.up {i:Nat}{l:List Nd}(h:Inv i l):Inv (i+1) l:=⟨h.bot,by have:=h.len;omega,fun n hn=>by have:=h.kids n hn;omega⟩
theorem Inv.add {i:Nat}{n:Nd}{l:List Nd}(h:Inv i (n::l))(k:Nd):Inv (i+1) (addK n k::l):=by
 refine⟨h.bot.same (kind_addK n k),by have:=h.len;simp only[List.length_cons] at this⊢;omega,fun m hm=> ?_⟩
 rcases List.mem_cons.1 hm with rfl|hm
 ·have:=h.kids n (by simp)
  rw[kids_addK,List.length_append];simp only[List.length_cons,List.length_nil];omega
 ·have:=h.kids m (List.mem_cons_of_mem _ hm);omega
theorem Inv.push {i:Nat}{l:List Nd}(h:Inv i l){n:Nd}(hn:n.kids=[]):Inv (i+1) (n::l):=by
 refine⟨h.bot.push n,by have:=h.len;simp only[List.length_cons];omega,fun m hm=> ?_⟩
 rcases List.mem_cons.1 hm with rfl|hm
 ·rw[hn];simp
 ·have:=h.kids m hm;omega
theorem Inv.same {i:Nat}{n m:Nd}{l:List Nd}(h:Inv i (n::l))(e:m.kind=n.kind)(e2:m.kids=n.kids):Inv (i+1) (m::l):=by
 refine⟨h.bot.same e,by have:=h.len;simp only[List.length_cons] at this⊢;omega,fun x hx=> ?_⟩
 rcases List.mem_cons.1 hx with rfl|hx
 ·rw[e2];have:=h.kids n (by simp);omega
 ·have:=h.kids x (List.mem_cons_of_mem _ hx);omega
theorem Inv.pop {i:Nat}{n m:Nd}{l:List Nd}(h:Inv i (n::m::l)):Inv i (m::l):=
 ⟨h.bot.pop,by have:=h.len;simp only[List.length_cons] at this⊢;omega,fun x hx=>h.kids x (List.mem_cons_of_mem _ hx)⟩
theorem inv_step {i:Nat}{s:Ps}(h:Inv i s.rows)(t:Ex.Tok):Inv (i+1) (stepP t s).rows:=by
 obtain⟨rows,pl,e⟩:=s
 cases rows with
 |nil=>exact(h.bot).elim
 |cons n r=>
  unfold stepP
  cases t.kind==1 with
  |true=>
   simp only[cond_true];unfold textP;simp only
   cases n.kind==7||n.kind==10 with
   |true=>simp only[cond_true];cases (trimM t.text).isEmpty<;>exact h.up
   |false=>simp only[cond_false];exact h.add _
  |false=>
   simp only[cond_false]
   cases t.kind==7 with
   |true=>simp only[cond_true];exact h.same (m:=.mk n.kind n.pl t.text n.attrs n.kids) rfl rfl
   |false=>
    simp only[cond_false]
    cases t.kind==2||t.kind==3 with
    |true=>
     simp only[cond_true];unfold begP;simp only
     cases emptyB (elM t.name) with
     |true=>simp only[cond_true];exact h.add _
     |false=>simp only[cond_false];exact h.push rfl
    |false=>
     simp only[cond_false]
     cases t.kind==5 with
     |true=>simp only[cond_true];exact h.push (n:=.mk 14 t.fr [] [] []) rfl
     |false=>
      simp only[cond_false];unfold endP;simp only
      cases endBad t n with
      |true=>simp only[cond_true];exact h.up
      |false=>
       simp only[cond_false]
       cases r with
       |nil=>exact h.up
       |cons m q=>exact h.pop.add _
theorem inv0 :Inv 0 page0.rows:=⟨rfl,by decide,fun n hn=>by
 rw[List.mem_singleton.1 hn];exact Nat.le_refl 0⟩
theorem vg_kind {hid:Bool}{l:List Ex.Tok}(h:Ex.VG hid l):∀t∈l,t.kind=1∨t.kind=2∨t.kind=3∨t.kind=4∨t.kind=5∨t.kind=6∨t.kind=7:=by
 induction h with
 |nil=>intro t ht;cases ht
 |text k1 _ _ _ _ _ _ ih=>
  intro t ht
  rcases List.mem_cons.1 ht with rfl|ht
  ·exact .inl k1
  ·exact ih t ht
 |tag k1 _ _ _ ih=>
  intro t ht
  rcases List.mem_cons.1 ht with rfl|ht
  ·rcases k1 with k|k
   ·exact .inr (.inr (.inl k))
   ·exact .inr (.inl k.1)
  ·exact ih t ht
 |own k1 _ _ a1 _ _ c1 _ _ _ _ ih=>
  intro t ht
  rcases List.mem_cons.1 ht with rfl|ht
  ·exact .inr (.inl k1)
  ·rcases List.mem_cons.1 ht with rfl|ht
   ·exact .inr (.inr (.inr (.inr (.inr (.inr a1)))))
   ·exact ih t ht
 |close k1 _ _ _ ih=>
  intro t ht
  rcases List.mem_cons.1 ht with rfl|ht
  ·exact .inr (.inr (.inr (.inl k1)))
  ·exact ih t ht
 |hide k1 _ _ _ ih=>
  intro t ht
  rcases List.mem_cons.1 ht with rfl|ht
  ·exact .inr (.inr (.inr (.inr (.inl k1))))
  ·exact ih t ht
 |shown k1 _ _ _ _ ih=>
  intro t ht
  rcases List.mem_cons.1 ht with rfl|ht
  ·exact .inr (.inr (.inr (.inr (.inr (.inl k1)))))
  ·exact ih t ht
theorem wg_mem {s:List UInt8}:∀(r:List Ex.Tok) (a:Nat) (prev:Option Ex.Tok) (hid:Bool),Ex.WG s a prev hid r→∀t∈r,t.fr≤t.to∧t.to≤s.length∧t.text.length≤t.to
 |[],_,_,_,_,t,ht=>by cases ht
 |u::r,a,prev,hid,h,t,ht=>by
  unfold Ex.WG at h;obtain⟨h1,h2,h3,h4,_,_,_,_,_,_,h5⟩:=h
  rcases List.mem_cons.1 ht with rfl|ht
  ·refine⟨by omega,h3,?_⟩
   rw[←h4];unfold Ex.cut;simp only[List.length_take,List.length_drop];omega
  ·exact wg_mem r _ _ _ h5 t ht
theorem lex_tok {s:List UInt8}{l:List Ex.Tok}(hs:s.length≤65536)(h:Ex.lexM s=.ok l):l.length≤131074∧∀t∈l,tokB t∧(t.kind=1∨t.kind=2∨t.kind=3∨t.kind=4∨t.kind=5∨t.kind=6∨t.kind=7):=by
 have hw:=Ex.lexM_whole h
 refine⟨?_,fun t ht=>⟨?_,vg_kind (Ex.lexM_good h) t ht⟩⟩
 ·rcases Ex.WG_len l 0 none false hw (Nat.zero_le _) with h|⟨_,h⟩<;>omega
 ·obtain⟨h1,h2,h3⟩:=wg_mem l 0 none false hw t ht;have hf:=Ex.lexM_fit h t ht;have hc:=Ex.fits_count hf;have:=hf.1;unfold tokB limS
  exact⟨by omega,by omega,by omega,by omega,h3⟩
end Go.Ai.Sp
end
section
namespace Go.Ai.Sp
open Go.Ai Go.RowKit
mutual
def smN (M:Nat):Nd→Prop
 |.mk _ _ t al ks=>t.length≤M∧al.length≤M∧(∀a∈al,a.name.length≤M∧a.value.length≤M)∧ks.length≤M∧smNs M ks
def smNs (M:Nat):List Nd→Prop
 |[]=>True
 |n::r=>smN M n∧smNs M r
end
theorem smNs_app {M:Nat}:∀{a b:List Nd},smNs M (a++b)↔smNs M a∧smNs M b
 |[],b=>by simp[smNs]
 |n::r,b=>by simp only[List.cons_append,smNs,smNs_app (a:=r),and_assoc]
theorem smN_eq {M:Nat}(n:Nd):smN M n=(n.text.length≤M∧n.attrs.length≤M∧(∀a∈n.attrs,a.name.length≤M∧a.value.length≤M)∧n.kids.length≤M∧smNs M n.kids):=by
 obtain⟨k,p,t,al,ks⟩:=n;rfl
mutual
theorem smN_fit {M:Nat}(hM:M≤lim):∀n:Nd,smN M n→n.fit
 |.mk _ _ t al ks,⟨h1,h2,h3,h4,h5⟩=>⟨by omega,by omega,fun a ha=>by have:=h3 a ha;exact⟨by omega,by omega⟩,by omega,smNs_fits hM ks h5⟩
theorem smNs_fits {M:Nat}(hM:M≤lim):∀l:List Nd,smNs M l→fits l
 |[],_=>trivial
 |n::r,⟨h1,h2⟩=>⟨smN_fit hM n h1,smNs_fits hM r h2⟩
end
mutual
theorem smN_tfit {M:Nat}(hM:M≤tlim):∀n:Nd,smN M n→n.tfit
 |.mk _ _ t al ks,⟨h1,h2,h3,h4,h5⟩=>⟨by omega,by omega,fun a ha=>by have:=h3 a ha;omega,by omega,smNs_tfits hM ks h5⟩
theorem smNs_tfits {M:Nat}(hM:M≤tlim):∀l:List Nd,smNs M l→tfits l
 |[],_=>trivial
 |n::r,⟨h1,h2⟩=>⟨smN_tfit hM n h1,smNs_tfits hM r h2⟩
end
def tokM (M:Nat)(t:Ex.Tok):Prop:=t.text.length≤M∧t.attrs.length≤M∧∀a∈t.attrs,a.name.length≤M∧a.value.length≤M
theorem attr_len {l:List Ex.Att}{a:Ex.Att}(h:a∈l):a.name.length≤(Ex.attrsS l).length∧a.value.length≤(Ex.attrsS l).length:=by
 induction l with
 |nil=>cases h
 |cons b l ih=>
  simp only[Ex.attrsS,List.length_cons,List.length_append]
  rcases List.mem_cons.1 h with rfl|h
  ·constructor<;>omega
  ·have:=ih h
   constructor<;>omega
theorem tok_M {s:List UInt8}{l:List Ex.Tok}(h:Ex.lexM s=.ok l):l.length≤2*s.length∧∀t∈l,tokM (2*s.length+1) t:=by
 have hw:=Ex.lexM_whole h
 refine⟨?_,fun t ht=> ?_⟩
 ·rcases Ex.WG_len l 0 none false hw (Nat.zero_le _) with h|⟨⟨p,h,_⟩,_⟩
  ·omega
  ·cases h
 ·obtain⟨h1,h2,h3⟩:=wg_mem l 0 none false hw t ht;have hf:=Ex.lexM_fit h t ht;have hc:=Ex.fits_count hf;have:=hf.1
  refine⟨by omega,by omega,fun a ha=> ?_⟩
  have hal:=attr_len ha
  have hwr:(Ex.attrsS t.attrs).length≤(Ex.written t).length:=by
   rcases hf.2 with h|h|h
   ·rw[h] at ha;cases ha
   ·unfold Ex.written
    rw[if_neg (by omega),if_neg (by omega),if_pos h]
    simp only[List.length_append];omega
   ·unfold Ex.written
    rw[if_neg (by omega),if_neg (by omega),if_neg (by omega),if_pos h]
    simp only[List.length_append];omega
  omega
structure Sz (M i:Nat) (l:List Nd):Prop where
 sm:smNs M l
 kids:∀n∈l,n.kids.length≤i
 size:sizes l≤i+1
theorem Sz.up {M i:Nat}{l:List Nd}(h:Sz M i l):Sz M (i+1) l:=⟨h.sm,fun n hn=>by have:=h.kids n hn;omega,by have:=h.size;omega⟩
theorem size_addK (n k:Nd):(addK n k).size=n.size+k.size:=by
 obtain⟨a,b,c,d,e⟩:=n;simp only[addK,Nd.size,Nd.kids,sizes_append,sizes];omega
theorem Sz.add {M i:Nat}{n:Nd}{l:List Nd}(h:Sz M i (n::l)){k:Nd}(hk:smN M k)(hs:k.size≤1)(hi:i+1≤M):Sz M (i+1) (addK n k::l):=by
 obtain⟨⟨h1,h2⟩,h3,h4⟩:=h
 have hn:=h3 n (by simp)
 refine⟨⟨?_,h2⟩,fun m hm=> ?_,?_⟩
 ·rw[smN_eq] at h1⊢;obtain⟨a1,a2,a3,a4,a5⟩:=h1;refine⟨a1,a2,a3,?_,?_⟩
  ·rw[kids_addK,List.length_append];simp only[List.length_cons,List.length_nil];omega
  ·rw[kids_addK,smNs_app];exact⟨a5,hk,trivial⟩
 ·rcases List.mem_cons.1 hm with rfl|hm
  ·rw[kids_addK,List.length_append];simp only[List.length_cons,List.length_nil];omega
  ·have:=h3 m (List.mem_cons_of_mem _ hm);omega
 ·simp only[sizes,size_addK] at h4⊢;omega
theorem Sz.push {M i:Nat}{l:List Nd}(h:Sz M i l){n:Nd}(hn:smN M n)(hk:n.kids=[]):Sz M (i+1) (n::l):=by
 obtain⟨h1,h3,h4⟩:=h
 refine⟨⟨hn,h1⟩,fun m hm=> ?_,?_⟩
 ·rcases List.mem_cons.1 hm with rfl|hm
  ·rw[hk];simp
  ·have:=h3 m hm;omega
 ·rw[sizes,n.size_eq,hk];simp only[sizes];omega
theorem Sz.text {M i:Nat}{n:Nd}{l:List Nd}(h:Sz M i (n::l)){t:List UInt8}(ht:t.length≤M):Sz M (i+1) (.mk n.kind n.pl t n.attrs n.kids::l):=by
 obtain⟨⟨h1,h2⟩,h3,h4⟩:=h;rw[smN_eq] at h1;obtain⟨a1,a2,a3,a4,a5⟩:=h1
 refine⟨⟨⟨ht,a2,a3,a4,a5⟩,h2⟩,fun m hm=> ?_,?_⟩
 ·rcases List.mem_cons.1 hm with rfl|hm
  ·have:=h3 n (by simp)
   show n.kids.length≤_;omega
  ·have:=h3 m (List.mem_cons_of_mem _ hm);omega
 ·simp only[sizes,Nd.size_eq,Nd.kids] at h4⊢;omega
theorem Sz.pop {M i:Nat}{n m:Nd}{l:List Nd}(h:Sz M i (n::m::l))(hi:i+1≤M):Sz M (i+1) (addK m n::l):=by
 obtain⟨⟨h1,h2,h5⟩,h3,h4⟩:=h
 have hm:=h3 m (by simp)
 refine⟨⟨?_,h5⟩,fun x hx=> ?_,?_⟩
 ·rw[smN_eq] at h2⊢;obtain⟨a1,a2,a3,a4,a5⟩:=h2;refine⟨a1,a2,a3,?_,?_⟩
  ·rw[kids_addK,List.length_append];simp only[List.length_cons,List.length_nil];omega
  ·rw[kids_addK,smNs_app];exact⟨a5,h1,trivial⟩
 ·rcases List.mem_cons.1 hx with rfl|hx
  ·rw[kids_addK,List.length_append];simp only[List.length_cons,List.length_nil];omega
  ·have:=h3 x (by simp[hx]);omega
 ·simp only[sizes,size_addK] at h4⊢;omega
theorem sm_tok {M:Nat}{t:Ex.Tok}(h:tokM M t)(k p:Int):smN M (.mk k p [] (t.attrs.map toA) []):=by
 refine⟨Nat.zero_le _,by rw[List.length_map];exact h.2.1,fun a ha=> ?_,Nat.zero_le _,trivial⟩
 obtain⟨b,hb,rfl⟩:=List.mem_map.1 ha;exact h.2.2 b hb
theorem sz_step {M i:Nat}{s:Ps}{t:Ex.Tok}(h:Sz M i s.rows)(ht:tokM M t)(hi:i+1≤M):Sz M (i+1) (stepP t s).rows:=by
 obtain⟨rows,pl,e⟩:=s
 cases rows with
 |nil=>
  have:(stepP t ⟨[],pl,e⟩).rows=[]:=by
   unfold stepP
   cases t.kind==1<;>cases t.kind==7<;>cases t.kind==2||t.kind==3<;>cases t.kind==5<;>rfl
  rw[this]
  exact⟨trivial,fun n hn=>(by cases hn),by simp[sizes]⟩
 |cons n r=>
  unfold stepP
  cases t.kind==1 with
  |true=>
   simp only[cond_true];unfold textP;simp only
   cases n.kind==7||n.kind==10 with
   |true=>simp only[cond_true];cases (trimM t.text).isEmpty<;>exact h.up
   |false=>simp only[cond_false];exact h.add ⟨ht.1,Nat.zero_le _,fun a ha=>(by cases ha),Nat.zero_le _,trivial⟩ (by simp[Nd.size,sizes]) hi
  |false=>
   simp only[cond_false]
   cases t.kind==7 with
   |true=>simp only[cond_true];exact h.text ht.1
   |false=>
    simp only[cond_false]
    cases t.kind==2||t.kind==3 with
    |true=>
     simp only[cond_true];unfold begP;simp only
     cases emptyB (elM t.name) with
     |true=>simp only[cond_true];exact h.add (sm_tok ht _ _) (by simp[Nd.size,sizes]) hi
     |false=>simp only[cond_false];exact h.push (sm_tok ht _ _) rfl
    |false=>
     simp only[cond_false]
     cases t.kind==5 with
     |true=>simp only[cond_true];exact h.push (n:=.mk 14 t.fr [] [] []) ⟨Nat.zero_le _,Nat.zero_le _,fun a ha=>(by cases ha),Nat.zero_le _,trivial⟩ rfl
     |false=>
      simp only[cond_false];unfold endP;simp only
      cases endBad t n with
      |true=>simp only[cond_true];exact h.up
      |false=>
       simp only[cond_false]
       cases r with
       |nil=>exact h.up
       |cons m q=>exact h.pop hi
theorem sz_parse {M:Nat}:∀(l:List Ex.Tok) (i:Nat) (s:Ps),Sz M i s.rows→(∀t∈l,tokM M t)→i+l.length≤M→Sz M (i+l.length) (parseL l s).rows
 |[],i,s,h,_,_=>h
 |t::l,i,s,h,ht,hi=>by
  simp only[List.length_cons] at hi⊢
  have h1:=sz_step h (ht t (by simp)) (by omega)
  rw[parseL]
  cases (stepP t s).e==0 with
  |true=>
   have:=sz_parse l (i+1) _ h1 (fun u hu=>ht u (List.mem_cons_of_mem _ hu)) (by omega)
   simp only[cond_true]
   rw[show i+(l.length+1)=i+1+l.length by omega]
   exact this
  |false=>
   simp only[cond_false]
   exact⟨h1.sm,fun n hn=>by have:=h1.kids n hn;omega,by have:=h1.size;omega⟩
theorem parse_small {s:List UInt8}{n:Nd}(h:parseM s=.ok n):s.length≤65536∧smN (2*s.length+1) n∧n.size≤2*s.length+1:=by
 unfold parseM at h;split at h
 ·cases h
 ·rename_i hs;split at h
  ·cases h
  ·rename_i l hl;obtain⟨h1,h2⟩:=tok_M hl
   have h3:=sz_parse l 0 page0 ⟨⟨⟨Nat.zero_le _,Nat.zero_le _,fun a ha=>(by cases ha),Nat.zero_le _,trivial⟩,trivial⟩,fun n hn=>(by rw[List.mem_singleton.1 hn];exact Nat.zero_le _),by simp[page0,sizes,Nd.size]⟩ h2 (by omega)
   unfold parseT doneT at h
   cases he:(parseL l page0).e==0 with
   |false=>rw[he] at h;cases h
   |true=>
    rw[he] at h;simp only[cond_true] at h;split at h
    ·rename_i m hm
     injection h with h
     subst h;rw[hm] at h3;have:=h3.size;simp only[sizes] at this
     exact⟨by omega,h3.sm.1,by omega⟩
    ·cases h
theorem smN_nd0 (M:Nat):smN M nd0:=⟨Nat.zero_le _,Nat.zero_le _,fun a ha=>(by cases ha),Nat.zero_le _,trivial⟩
theorem parseN_small (s:List UInt8):smN (2*s.length+1) (parseN s)∧(parseN s).size≤2*s.length+1∧(65536<s.length→parseN s=nd0):=by
 unfold parseN
 cases h:parseM s with
 |ok n=>
  obtain⟨h1,h2,h3⟩:=parse_small h
  exact⟨h2,h3,fun hs=>by omega⟩
 |error x=>exact⟨smN_nd0 _,by simp[parseV,nd0,Nd.size,sizes],fun _=>rfl⟩
theorem parseN_size (s:List UInt8):(parseN s).size≤131073:=by
 obtain⟨_,h1,h2⟩:=parseN_small s
 by_cases hs:65536<s.length
 ·rw[h2 hs];decide
 ·omega
end Go.Ai.Sp
end
section
namespace Go.Ai.Sp
open Go.Ai Go.RowKit
end Go.Ai.Sp
end
section
namespace Go.Ai.Sp
open Go.Ai Go.RowKit
theorem depths_app :∀(a b:List Nd),depths (a++b)=max (depths a) (depths b)
 |[],b=>by simp[depths]
 |n::a,b=>by
  simp only[List.cons_append,depths,depths_app a b];omega
theorem depth_mk (k p:Int)(t:List UInt8)(al:List Go.Ai.Att)(ks:List Nd):(Nd.mk k p t al ks).depth=depths ks:=rfl
theorem depth_kids (n:Nd):n.depth=depths n.kids:=by
 obtain⟨k,p,t,al,ks⟩:=n;rfl
theorem depth_addK (n k:Nd):(addK n k).depth=max n.depth (k.depth+if k.kind=2 then 0 else 1):=by
 unfold addK;rw[depth_mk,depths_app,depth_kids n];simp only[depths,Nat.max_zero]
inductive Ctx (K:Int) (K0 bel:List Nd):List Nd→List Nd→Prop
 |base {n' n:Nd} {ks:List Nd}:n'.kind=K→n.kind=1→n'.text=[]→n.text=[]→n'.attrs=[]→n.attrs=[]→n'.kids=K0++ks→sames ks n.kids=true→Ctx K K0 bel (n'::bel) [n]
 |up {n' n:Nd} {r' r:List Nd}:n'.same n=true→Ctx K K0 bel r' r→Ctx K K0 bel (n'::r') (n::r)
section
variable {K:Int}{K0 bel:List Nd}
end
def dS :List Nd→Nat
 |[]=>0
 |n::r=>max (r.length+n.depth) (dS r)
def attrsOk (x:El)(l:List Ex.Att):Bool:=(x.names.take x.must).all (fun nm=>l.any fun a=>a.name==nm)&&l.all fun a=>x.names.any (·==a.name)&&valM a.name a.value
theorem fold_ne {α:Type}{c:α→Bool}{f:α→Int}:∀(l:List α) (p e:Int),e≠0→l.foldl (fun s a=>bif c a then fE (f a) 12 s.1 s.2 else s) (p,e)=(p,e)
 |[],_,_,_=>rfl
 |a::l,p,e,h=>by
  simp only[List.foldl_cons]
  have:(bif c a then fE (f a) 12 p e else(p,e))=(p,e):=by
   cases c a with
   |false=>rfl
   |true=>
    have h0:(e==0)=false:=by simpa using h
    simp only[cond_true,fE,h0,cond_false]
  rw[this];exact fold_ne l p e h
theorem attrs_ne {x:El}{fr:Int}{l:List Ex.Att}{p e:Int}(h:e≠0):attrsM x fr l (p,e)=(p,e):=by
 unfold attrsM
 rw[fold_ne (c:=fun nm:List UInt8=>!(l.any fun a=>a.name==nm)) (f:=fun _=>fr) _ _ _ h,fold_ne (c:=fun a:Ex.Att=>!(x.names.any (·==a.name))|| !valM a.name a.value) (f:=fun a=>(a.at':Int)) _ _ _ h]
theorem fold_iff {α:Type}{c:α→Bool}{f:α→Int}:∀(l:List α) (p:Int),((l.foldl (fun s a=>bif c a then fE (f a) 12 s.1 s.2 else s) (p,0)).2=0↔l.all (fun a=>!c a)=true)∧(l.all (fun a=>!c a)=true→l.foldl (fun s a=>bif c a then fE (f a) 12 s.1 s.2 else s) (p,0)=(p,0))
 |[],p=>⟨⟨fun _=>rfl,fun _=>rfl⟩,fun _=>rfl⟩
 |a::l,p=>by
  simp only[List.foldl_cons,List.all_cons]
  cases h:c a with
  |false=>
   simp only[cond_false,Bool.not_false,Bool.true_and];exact fold_iff l p
  |true=>
   have:(bif true then fE (f a) 12 p 0 else(p,0))=(f a,12):=rfl
   rw[this,fold_ne l (f a) 12 (by decide)]
   simp
theorem attrs_iff (x:El)(fr:Int)(l:List Ex.Att)(p:Int):((attrsM x fr l (p,0)).2=0↔attrsOk x l=true)∧(attrsOk x l=true→attrsM x fr l (p,0)=(p,0)):=by
 unfold attrsM attrsOk
 obtain⟨h1,h2⟩:=fold_iff (c:=fun nm:List UInt8=>!(l.any fun a=>a.name==nm)) (f:=fun _=>fr) (x.names.take x.must) p
 simp only[Bool.not_not] at h1 h2
 obtain⟨h3,h4⟩:=fold_iff (c:=fun a:Ex.Att=>!(x.names.any (·==a.name))|| !valM a.name a.value) (f:=fun a=>(a.at':Int)) l p
 have e:(l.all fun a=>!(!(x.names.any (·==a.name))|| !valM a.name a.value))=l.all fun a=>x.names.any (·==a.name)&&valM a.name a.value:=by
  congr 1
  funext a
  simp
 rw[e] at h3 h4;rw[Bool.and_eq_true]
 cases hh:(x.names.take x.must).all (fun nm=>l.any fun a=>a.name==nm) with
 |true=>
  rw[h2 hh]
  exact⟨⟨fun h=>⟨rfl,h3.1 h⟩,fun h=>h3.2 h.2⟩,fun h=>h4 h.2⟩
 |false=>
  refine⟨⟨fun h=> ?_,fun h=>by cases h.1⟩,fun h=>by cases h.1⟩
  generalize hs:(x.names.take x.must).foldl (fun s nm=>bif !(l.any fun a=>a.name==nm) then fE fr 12 s.1 s.2 else s) (p,0)=s at h h1
  have hne:s.2≠0:=fun e2=>by
   have:=h1.1 e2;rw[hh] at this;cases this
  obtain⟨s1,s2⟩:=s;rw[fold_ne l s1 s2 hne] at h;exact absurd h hne
end Go.Ai.Sp
end
section
namespace Go.Ai.Sp
open Go.Ai Go.RowKit
theorem fail_e (p x:Int)(hx:x≠0)(s:Ps):(failP p x s).e≠0:=by
 unfold failP fE;simp only
 cases h:s.e==0 with
 |true=>exact hx
 |false=>
  intro h2;simp only[cond_false] at h2;rw[h2] at h;cases h
def begOk (x:El)(t:Ex.Tok)(n:Nd)(r:List Nd):Bool:=!((emptyB x !=(t.kind==3))|| !mayB n.kind (lastN n.kids) x.kind)&&(decide (r.length+1≤16)&&attrsOk x t.attrs)
theorem beg_ok (x:El)(t:Ex.Tok)(n:Nd)(r:List Nd)(s:Ps)(he:s.e=0):((begFail x t n r s).e=0↔begOk x t n r=true)∧(begOk x t n r=true→begFail x t n r s=s):=by
 obtain⟨rows,pl,e⟩:=s;simp only at he;subst he;unfold begFail begOk
 cases h1:(emptyB x !=(t.kind==3))|| !mayB n.kind (lastN n.kids) x.kind with
 |true=>
  simp only[cond_true,Bool.not_true,Bool.false_and]
  refine⟨⟨fun h=> ?_,fun h=>by cases h⟩,fun h=>by cases h⟩
  exfalso;have e1:failP t.fr 13 ⟨rows,pl,0⟩=⟨rows,t.fr,13⟩:=rfl
  have e2:(bif decide (16<r.length+1) then failP t.fr 3 (failP t.fr 13 ⟨rows,pl,0⟩) else failP t.fr 13 ⟨rows,pl,0⟩)=⟨rows,t.fr,13⟩:=by
   rw[e1]
   cases decide (16<r.length+1)<;>rfl
  rw[e2] at h
  simp only[attrs_ne (by decide:(13:Int)≠0),attrs_ne (by decide:(3:Int)≠0)] at h
  cases h
 |false=>
  simp only[cond_false,Bool.not_false,Bool.true_and]
  by_cases h2:16<r.length+1
  ·rw[decide_eq_true h2,decide_eq_false (by omega)]
   simp only[cond_true,Bool.false_and]
   refine⟨⟨fun h=> ?_,fun h=>by cases h⟩,fun h=>by cases h⟩
   exfalso;have e1:failP t.fr 3 ⟨rows,pl,0⟩=⟨rows,t.fr,3⟩:=rfl;rw[e1] at h
   simp only[attrs_ne (by decide:(13:Int)≠0),attrs_ne (by decide:(3:Int)≠0)] at h
   cases h
  ·rw[decide_eq_false h2,decide_eq_true (by omega)]
   simp only[cond_false,Bool.true_and];obtain⟨h3,h4⟩:=attrs_iff x t.fr t.attrs pl
   exact⟨h3,fun h=>by rw[h4 h]⟩
theorem elM_kinds (s:List UInt8):3≤(elM s).kind∧(elM s).kind≤13:=by
 unfold elM
 repeat' (first|(cases (s==_)<;>simp only[cond_true,cond_false])|exact⟨by decide,by decide⟩)
section
variable {K:Int}{K0 bel:List Nd}
end
end Go.Ai.Sp
end
section
namespace Go.Ai.Sp
open Go.Ai Go.RowKit
theorem dS_add (n c:Nd)(r:List Nd):dS (addK n c::r)=max (dS (n::r)) (r.length+(c.depth+if c.kind=2 then 0 else 1)):=by
 simp only[dS,depth_addK];omega
def tagB (t:Ex.Tok):Prop:=t.kind=2∨t.kind=3∨t.kind=5
structure Stp (t:Ex.Tok) (S:Ps):Prop where
 ne:(stepP t S).rows≠[]
 le:dS S.rows≤dS (stepP t S).rows
 tag:tagB t→S.rows.length≤dS (stepP t S).rows∧dS (stepP t S).rows≤max (dS S.rows) S.rows.length∧S.rows.length≤16
 no:¬tagB t→dS (stepP t S).rows≤dS S.rows
 own:Ex.ownB t=true→2≤(stepP t S).rows.length
theorem stp_same {t:Ex.Tok}{S:Ps}(h1:(stepP t S).rows≠[])(h2:dS (stepP t S).rows=dS S.rows)(hnt:¬tagB t)(hno:Ex.ownB t≠true):Stp t S:=
 ⟨h1,Nat.le_of_eq h2.symm,fun h=>absurd h hnt,fun _=>Nat.le_of_eq h2,fun h=>absurd h hno⟩
theorem stp {t:Ex.Tok}{S:Ps}(hne:S.rows≠[])(he:S.e=0)(hs:(stepP t S).e=0):Stp t S:=by
 obtain⟨rows,pl,e⟩:=S;simp only at he hne;subst he;obtain⟨n,r,rfl⟩:=List.exists_cons_of_ne_nil hne
 cases k1:t.kind==1 with
 |true=>
  have k1':=eq_of_beq k1
  have hnt:¬tagB t:=fun h=>by unfold tagB at h;omega
  have hno:Ex.ownB t≠true:=fun h=>by
   unfold Ex.ownB at h;rw[k1'] at h;cases h
  have e1:stepP t ⟨n::r,pl,0⟩=textP t ⟨n::r,pl,0⟩:=by unfold stepP;rw[k1];rfl
  rw[e1] at hs
  have key:(textP t ⟨n::r,pl,0⟩).rows≠[]∧dS (textP t ⟨n::r,pl,0⟩).rows=dS (n::r):=by
   unfold textP at hs⊢;simp only at hs⊢
   cases k2:n.kind==7||n.kind==10 with
   |true=>
    rw[k2] at hs;simp only[cond_true] at hs⊢
    cases k3:(trimM t.text).isEmpty with
    |true=>simp only[cond_true];exact⟨by simp,trivial⟩
    |false=>
     rw[k3] at hs
     exact absurd hs (fail_e _ _ (by decide) _)
   |false=>
    simp only[cond_false]
    refine⟨by simp,?_⟩
    rw[dS_add,depth_mk];simp only[Nd.kind,depths,if_true,dS];omega
  exact stp_same (by rw[e1];exact key.1) (by rw[e1];exact key.2) hnt hno
 |false=>
 cases k7:t.kind==7 with
 |true=>
  have k7':=eq_of_beq k7
  have hnt:¬tagB t:=fun h=>by unfold tagB at h;omega
  have hno:Ex.ownB t≠true:=fun h=>by
   unfold Ex.ownB at h;rw[k7'] at h;cases h
  have e1:stepP t ⟨n::r,pl,0⟩=rawP t ⟨n::r,pl,0⟩:=by unfold stepP;rw[k1,k7];rfl
  have e2:dS (rawP t ⟨n::r,pl,0⟩).rows=dS (n::r):=by
   unfold rawP;simp only[dS,depth_mk,depth_kids n]
  exact stp_same (by rw[e1];unfold rawP;simp) (by rw[e1];exact e2) hnt hno
 |false=>
 cases k2:t.kind==2||t.kind==3 with
 |true=>
  have ht:tagB t:=by
   simp only[Bool.or_eq_true,beq_iff_eq] at k2
   rcases k2 with h|h
   ·exact .inl h
   ·exact .inr (.inl h)
  have e1:stepP t ⟨n::r,pl,0⟩=begP t ⟨n::r,pl,0⟩:=by unfold stepP;rw[k1,k7,k2];rfl
  rw[e1] at hs;obtain⟨g1,g2⟩:=beg_ok (elM t.name) t n r ⟨n::r,pl,0⟩ rfl
  have hb:begOk (elM t.name) t n r=true:=by
   refine g1.1 ?_;unfold begP at hs;simp only at hs
   cases he3:emptyB (elM t.name)<;>rw[he3] at hs<;>exact hs
  have hl:r.length+1≤16:=by
   unfold begOk at hb;simp only[Bool.and_eq_true,decide_eq_true_eq] at hb;exact hb.2.1
  have hk:=elM_kinds t.name
  have e2:begP t ⟨n::r,pl,0⟩=bif emptyB (elM t.name) then⟨addK n (.mk (elM t.name).kind t.fr [] (t.attrs.map toA) [])::r,pl,0⟩ else⟨.mk (elM t.name).kind t.fr [] (t.attrs.map toA) []::n::r,pl,0⟩:=by
   unfold begP;simp only;rw[g2 hb]
  have key:(begP t ⟨n::r,pl,0⟩).rows≠[]∧dS (begP t ⟨n::r,pl,0⟩).rows=max (dS (n::r)) (r.length+1)∧(Ex.ownB t=true→2≤(begP t ⟨n::r,pl,0⟩).rows.length):=by
   rw[e2]
   cases he3:emptyB (elM t.name) with
   |true=>
    simp only[cond_true]
    refine⟨by simp,?_,fun ho=> ?_⟩
    ·have hk2:(Nd.mk (elM t.name).kind t.fr [] (t.attrs.map toA) []).kind≠2:=by
      show(elM t.name).kind≠2;omega
     rw[dS_add,depth_mk,if_neg hk2];simp only[depths,Nat.zero_add]
    ·exfalso;unfold Ex.ownB at ho;simp only[Bool.and_eq_true,Bool.or_eq_true,beq_iff_eq] at ho
     rcases ho.2 with h|h<;>rw[h] at he3<;>cases he3
   |false=>
    simp only[cond_false]
    refine⟨by simp,?_,fun _=>by simp⟩
    simp only[dS,depth_mk,depths,List.length_cons,Nat.add_zero];omega
  refine⟨by rw[e1];exact key.1,by rw[e1,key.2.1];exact Nat.le_max_left _ _,fun _=>⟨?_,?_,hl⟩,fun h=>absurd ht h,fun h=>by rw[e1];exact key.2.2 h⟩
  ·rw[e1,key.2.1];exact Nat.le_max_right _ _
  ·rw[e1,key.2.1];exact Nat.le_refl _
 |false=>
 have k2':¬(t.kind=2∨t.kind=3):=by simpa using k2
 have hno:Ex.ownB t≠true:=fun h=>by
  unfold Ex.ownB at h;simp only[Bool.and_eq_true,beq_iff_eq] at h;exact k2' (.inl h.1)
 cases k5:t.kind==5 with
 |true=>
  have ht:tagB t:=.inr (.inr (eq_of_beq k5))
  have e1:stepP t ⟨n::r,pl,0⟩=hideP t ⟨n::r,pl,0⟩:=by unfold stepP;rw[k1,k7,k2,k5];rfl
  rw[e1] at hs;have e3:(hideP t ⟨n::r,pl,0⟩).rows=.mk 14 t.fr [] [] []::n::r:=rfl
  have hl:r.length+1≤16:=by
   unfold hideP at hs;simp only at hs
   refine Nat.le_of_not_lt fun h=> ?_
   rw[decide_eq_true (show 16<r.length+1 from h)] at hs
   simp only[cond_true] at hs
   exact absurd hs (fail_e _ _ (by decide) _)
  have e2:dS (Nd.mk 14 t.fr [] [] []::n::r)=max (dS (n::r)) (r.length+1):=by
   simp only[dS,depth_mk,depths,List.length_cons,Nat.add_zero];omega
  refine⟨by rw[e1,e3];simp,by rw[e1,e3,e2];exact Nat.le_max_left _ _,fun _=>⟨?_,?_,hl⟩,fun h=>absurd ht h,fun h=>absurd h hno⟩
  ·rw[e1,e3,e2];exact Nat.le_max_right _ _
  ·rw[e1,e3,e2];exact Nat.le_refl _
 |false=>
  have hnt:¬tagB t:=fun h=>by
   unfold tagB at h
   have k5':t.kind≠5:=by simpa using k5
   omega
  have e1:stepP t ⟨n::r,pl,0⟩=endP t ⟨n::r,pl,0⟩:=by unfold stepP;rw[k1,k7,k2,k5];rfl
  rw[e1] at hs
  have key:(endP t ⟨n::r,pl,0⟩).rows≠[]∧dS (endP t ⟨n::r,pl,0⟩).rows=dS (n::r):=by
   unfold endP at hs⊢;simp only at hs⊢
   cases hb:endBad t n with
   |true=>
    rw[hb] at hs
    exact absurd hs (fail_e _ _ (by decide) _)
   |false=>
    have hk:n.kind≠2:=fun h2=>by
     unfold endBad at hb;simp only[Bool.or_eq_false_iff,Bool.not_eq_false',beq_iff_eq] at hb;have h3:=hb.1;rw[h2] at h3;unfold endK at h3;have:=elM_kinds t.name
     cases h4:t.kind==4 with
     |true=>rw[h4] at h3;simp only[cond_true] at h3;omega
     |false=>rw[h4] at h3;simp at h3
    simp only[cond_false]
    cases r with
    |nil=>exact⟨by simp,rfl⟩
    |cons m q=>
     refine⟨by simp,?_⟩
     simp only;rw[dS_add];simp only[dS,if_neg hk,List.length_cons];omega
  exact stp_same (by rw[e1];exact key.1) (by rw[e1];exact key.2) hnt hno
end Go.Ai.Sp
end
section
namespace Go.Ai.Sp
open Go.Ai Go.RowKit
theorem parse_cons (t:Ex.Tok)(l:List Ex.Tok)(S:Ps):((stepP t S).e=0→parseL (t::l) S=parseL l (stepP t S))∧((stepP t S).e≠0→parseL (t::l) S=stepP t S):=by
 constructor
 ·intro h;simp only[parseL,h];rfl
 ·intro h
  have:((stepP t S).e==0)=false:=by simpa using h
  simp only[parseL,this,cond_false]
theorem parse_e {t:Ex.Tok}{l:List Ex.Tok}{S:Ps}(h:(parseL (t::l) S).e=0):(stepP t S).e=0∧(parseL l (stepP t S)).e=0:=by
 obtain⟨h1,h2⟩:=parse_cons t l S
 have:(stepP t S).e=0:=Decidable.byContradiction fun hn=>by
  rw[h2 hn] at h;exact hn h
 rw[h1 this] at h;exact⟨this,h⟩
section
variable {K:Int}{K0 bel:List Nd}
end
theorem parse_has {s:List UInt8}(h:parseE s=0):∃(n:Nd) (l:List Ex.Tok) (p:Int),parseN s=n∧parseM s=.ok n∧Ex.lexM s=.ok l∧parseL l page0=⟨[n],p,0⟩:=by
 unfold parseE at h;unfold parseN
 cases hm:parseM s with
 |error x=>
  obtain⟨p,e⟩:=x;rw[hm] at h;have h:e=0:=h;subst h;unfold parseM at hm;split at hm
  ·cases hm
  ·split at hm
   ·rename_i p' e' hl
    injection hm with hm
    injection hm with _ he
    exact absurd he (Ex.lexM_e hl)
   ·unfold parseT doneT at hm
    cases he:(parseL _ page0).e==0 with
    |true=>
     rw[he] at hm;simp only[cond_true] at hm;split at hm
     ·cases hm
     ·injection hm with hm
      injection hm with _ he
      cases he
    |false=>
     rw[he] at hm;simp only[cond_false] at hm
     injection hm with hm
     injection hm with _ he2
     rw[he2] at he;cases he
 |ok n=>
  unfold parseM at hm;split at hm
  ·cases hm
  ·split at hm
   ·cases hm
   ·rename_i l hl;unfold parseT doneT at hm
    cases he:(parseL l page0).e==0 with
    |false=>rw[he] at hm;cases hm
    |true=>
     rw[he] at hm;simp only[cond_true] at hm;split at hm
     ·rename_i m hr
      injection hm with hm
      subst hm;refine⟨m,l,(parseL l page0).pl,rfl,rfl,hl,?_⟩;have he0:=eq_of_beq he;revert hr he0
      cases parseL l page0 with
      |mk rows pl e=>
       intro hr he0;simp only at hr he0;rw[hr,he0]
     ·cases hm
end Go.Ai.Sp
end
section
namespace Go.Ai.Sp
open Go.Ai Go.RowKit
mutual
def plsN :Nd→List Int
 |.mk _ p _ _ ks=>p::plsL ks
def plsL :List Nd→List Int
 |[]=>[]
 |n::r=>plsN n++plsL r
end
theorem plsL_app :∀(a b:List Nd),plsL (a++b)=plsL a++plsL b
 |[],b=>rfl
 |n::a,b=>by simp only[List.cons_append,plsL,plsL_app a b,List.append_assoc]
theorem plsN_add (n k:Nd):plsN (addK n k)=plsN n++plsN k:=by
 obtain⟨a,p,t,l,ks⟩:=n;simp only[addK,Nd.kids,Nd.pl,plsN,plsL_app,plsL,List.append_nil,List.cons_append]
def plsR :List Nd→List Int
 |[]=>[]
 |n::r=>plsR r++plsN n
theorem pls_step {t:Ex.Tok}{S:Ps}(hs:(stepP t S).e=0)(he:S.e=0)(hne:S.rows≠[]):plsR (stepP t S).rows=plsR S.rows∨(t.kind≠7∧plsR (stepP t S).rows=plsR S.rows++[(t.fr:Int)]):=by
 obtain⟨rows,pl,e⟩:=S;simp only at he hne;subst he;obtain⟨n,r,rfl⟩:=List.exists_cons_of_ne_nil hne;unfold stepP at hs⊢
 cases k1:t.kind==1 with
 |true=>
  have k1':=eq_of_beq k1;simp only[cond_true];unfold textP;simp only
  cases n.kind==7||n.kind==10 with
  |true=>
   simp only[cond_true]
   cases (trimM t.text).isEmpty<;>exact .inl rfl
  |false=>
   simp only[cond_false]
   exact .inr ⟨by omega,by simp only[plsR,plsN_add,plsN,plsL,List.append_assoc]⟩
 |false=>
 simp only[cond_false]
 cases k7:t.kind==7 with
 |true=>
  simp only[cond_true];obtain⟨a,p,x,l,ks⟩:=n;exact .inl rfl
 |false=>
 have h7:t.kind≠7:=by simpa using k7
 rw[k1,k7] at hs;simp only[cond_false] at hs⊢
 cases k2:t.kind==2||t.kind==3 with
 |true=>
  simp only[cond_true];unfold begP;simp only
  cases emptyB (elM t.name) with
  |true=>
   simp only[cond_true]
   exact .inr ⟨h7,by simp only[plsR,plsN_add,plsN,plsL,List.append_assoc]⟩
  |false=>
   simp only[cond_false]
   exact .inr ⟨h7,by simp only[plsR,plsN,plsL]⟩
 |false=>
 rw[k2] at hs;simp only[cond_false] at hs⊢
 cases k5:t.kind==5 with
 |true=>
  simp only[cond_true]
  exact .inr ⟨h7,by simp only[hideP,plsR,plsN,plsL]⟩
 |false=>
  simp only[cond_false];unfold endP;simp only
  cases endBad t n with
  |true=>exact .inl rfl
  |false=>
   simp only[cond_false]
   cases r with
   |nil=>exact .inl rfl
   |cons m q=>exact .inl (by simp only[plsR,plsN_add,List.append_assoc])
def begs :List Ex.Tok→List Int
 |[]=>[]
 |t::l=>bif t.kind==7 then begs l else(t.fr:Int)::begs l
theorem pls_run :∀(l:List Ex.Tok) (S:Ps),S.rows≠[]→S.e=0→(parseL l S).e=0→∃q,q.Sublist (begs l)∧plsR (parseL l S).rows=plsR S.rows++q
 |[],S,_,_,_=>⟨[],List.Sublist.refl _,by simp[parseL]⟩
 |t::l,S,hne,he,h=>by
  obtain⟨h1,h2⟩:=parse_e h;obtain⟨q,q1,q2⟩:=pls_run l _ (stp hne he h1).ne h1 h2;rw[(parse_cons t l S).1 h1,q2];unfold begs
  rcases pls_step h1 he hne with h3|⟨h3,h4⟩
  ·rw[h3]
   cases t.kind==7 with
   |true=>exact⟨q,q1,rfl⟩
   |false=>exact⟨q,q1.cons _,rfl⟩
  ·have:(t.kind==7)=false:=by simpa using h3
   rw[h4,this]
   exact⟨t.fr::q,q1.cons_cons _,by simp⟩
def riseL (m:Int):Int→List Int→Prop
 |_,[]=>True
 |a,x::l=>a<x∧x≤m∧riseL m x l
theorem rise_le {m:Int}:∀{a b:Int} {l:List Int},a≤b→riseL m b l→riseL m a l
 |_,_,[],_,_=>trivial
 |_,_,_::_,h,h2=>⟨by have:=h2.1;omega,h2.2⟩
theorem rise_sub {m:Int}{q l:List Int}(h:q.Sublist l):∀{a:Int},riseL m a l→riseL m a q:=by
 induction h with
 |slnil=>intro a h;exact h
 |cons x _ ih=>intro a h;exact ih (rise_le (Int.le_of_lt h.1) h.2.2)
 |cons_cons x _ ih=>intro a h;exact⟨h.1,h.2.1,ih h.2.2⟩
theorem wg_rise {s:List UInt8}:∀(r:List Ex.Tok) (a:Nat) (prev:Option Ex.Tok) (hid:Bool),Ex.WG s a prev hid r→riseL s.length ((a:Int)-1) (begs r)
 |[],_,_,_,_=>trivial
 |u::r,a,prev,hid,h=>by
  unfold Ex.WG at h;obtain⟨h1,h2,h3,h4,h5,_,_,_,_,_,h6⟩:=h;have ih:=wg_rise r _ _ _ h6;unfold begs
  cases k7:u.kind==7 with
  |true=>
   simp only[cond_true]
   exact rise_le (by omega) ih
  |false=>
   simp only[cond_false]
   have hne:u.text≠[]:=fun e=>by
    have:=h5 e;rw[this] at k7;cases k7
   have hlt:a<u.to:=by
    refine Nat.lt_of_le_of_ne h2 fun e=>hne ?_
    rw[←h4,←e];unfold Ex.cut;simp
   refine⟨by omega,by omega,rise_le (by omega) ih⟩
def placesOk (m:Int):Int→List Int→Prop
 |_,[]=>True
 |a,x::l=>¬(x<a)∧¬(x=a∧x≠0)∧¬(m<x)∧placesOk m x l
theorem rise_places {m:Int}:∀{a:Int} {l:List Int},riseL m a l→placesOk m a l
 |_,[],_=>trivial
 |_,_::_,h=>⟨by have:=h.1;omega,by have:=h.1;omega,by have:=h.2.1;omega,rise_places h.2.2⟩
theorem may_places {s:List UInt8}{n:Nd}(h:parseM s=.ok n):placesOk s.length (-1) (plsN n):=by
 have he:parseE s=0:=by unfold parseE;rw[h];rfl
 obtain⟨n',l,p,hn,hm,hl,hp⟩:=parse_has he;rw[h] at hm
 injection hm with hm
 subst hm
 obtain⟨q,q1,q2⟩:=pls_run l page0 (by simp[page0]) rfl (by rw[hp])
 rw[hp] at q2
 have e1:plsN n=0::q:=by simpa[plsR,page0,plsN,plsL] using q2
 have hr:=rise_sub q1 (wg_rise l 0 none false (Ex.lexM_whole hl));rw[e1]
 refine⟨by omega,by omega,by omega,?_⟩
 cases q with
 |nil=>trivial
 |cons x q=>
  have h1:=hr.1;have h2:=hr.2.1
  exact⟨by omega,fun h=>h.2 h.1,by omega,rise_places hr.2.2⟩
end Go.Ai.Sp
end
section
namespace Go.Ai.Ex
open Go.Ai
theorem attrsM_at' {s:List UInt8}{tag:Nat}:∀(f p:Nat) (l l':List Att) (b:Nat),p≤s.length→(∀a∈l,a.at'≤s.length)→attrsM s tag f p l=.ok (l',b)→∀a∈l',a.at'≤s.length
 |0,p,l,l',b,hp,hl,h=>by simp[attrsM] at h
 |f+1,p,l,l',b,hp,hl,h=>by
  have hq:=past_le hp;unfold attrsM at h;simp only at h;split at h
  ·cases h
  split at h
  ·simp only[Except.ok.injEq,Prod.mk.injEq] at h;obtain⟨rfl,_⟩:=h;exact hl
  split at h
  ·cases h
  cases hm:attrM s (past s p) tag l with
  |error e=>rw[hm] at h;cases h
  |ok r=>
   obtain⟨a,b1⟩:=r;rw[hm] at h;simp only at h;have h1:=attrM_ok hm
   have ha:a.at'=past s p:=by
    unfold attrM at hm;simp only at hm;split at hm
    ·cases hm
    split at hm
    ·cases hm
    split at hm
    ·cases hm
    split at hm
    ·cases hm
    split at hm
    ·cases hm
    split at hm
    ·cases hm
    ·simp only[Except.ok.injEq,Prod.mk.injEq] at hm;rw[←hm.1]
   refine attrsM_at' f b1 (l++[a]) l' b h1.2 (fun c hc=> ?_) h
   rcases List.mem_append.1 hc with hc|hc
   ·exact hl c hc
   ·rw[List.mem_singleton.1 hc,ha];exact hq.2
theorem openM_at' {s:List UInt8}{tag:Nat}{t:Tok}(hl:tag+5≤s.length)(h:openM s tag=.ok t):∀a∈t.attrs,a.at'≤s.length:=by
 unfold openM at h;simp only at h;have hle:=lets_le s (tag+5);split at h
 ·cases h
 cases hm:attrsM s tag (s.length+1) (tag+5+lets s (tag+5)) [] with
 |error e=>rw[hm] at h;cases h
 |ok r=>
  obtain⟨l,b⟩:=r;rw[hm] at h;simp only at h
  have h1:=attrsM_at' _ _ _ _ _ (by omega) (fun a ha=>by cases ha) hm
  unfold tagEnd at h;simp only at h
  generalize (if s.getD b 0=47 then 1 else 0)=k at h
  split at h
  ·cases h
  split at h
  ·cases h
  simp only[Except.ok.injEq] at h;subst h;exact h1
theorem nextM_at' {s:List UInt8}{p:Nat}{hid hid2:Option Nat}{l:List Tok}(hp:p<s.length)(h:nextM s p hid=.ok (l,hid2)):∀t∈l,∀a∈t.attrs,a.at'≤s.length:=by
 unfold nextM at h;split at h
 ·rename_i ho
  have hl:p+5≤s.length:=has_le ho (by decide)
  cases hm:openM s p with
  |error e=>rw[hm] at h;cases h
  |ok t=>
   rw[hm] at h;simp only at h
   cases hr:rawM s t with
   |error e=>rw[hr] at h;cases h
   |ok l1=>
    rw[hr] at h;simp only[Except.ok.injEq,Prod.mk.injEq] at h;obtain⟨rfl,_⟩:=h;have h1:=openM_at' hl hm
    rcases rawM_ok hr with ⟨_,rfl⟩|⟨_,_,n,hn,rfl⟩
    ·intro u hu;rw[List.mem_singleton.1 hu];exact h1
    ·intro u hu
     rcases List.mem_cons.1 hu with rfl|hu
     ·exact h1
     ·rw[List.mem_singleton.1 hu];intro a ha;cases ha
 ·split at h
  ·cases hm:closeM s p with
   |error e=>rw[hm] at h;cases h
   |ok t=>
    rw[hm] at h;simp only[Except.ok.injEq,Prod.mk.injEq] at h;obtain⟨rfl,_⟩:=h;intro u hu;rw[List.mem_singleton.1 hu,closeM_att hm];intro a ha;cases ha
  ·split at h
   ·split at h
    ·cases h
    simp only[Except.ok.injEq,Prod.mk.injEq] at h;obtain⟨rfl,_⟩:=h;intro u hu;rw[List.mem_singleton.1 hu];intro a ha;cases ha
   ·simp only[Except.ok.injEq,Prod.mk.injEq] at h;obtain⟨rfl,_⟩:=h;intro u hu;rw[List.mem_singleton.1 hu];intro a ha;cases ha
theorem lexG_at' {s:List UInt8}:∀(f p:Nat) (hid:Option Nat) (l:List Tok),lexG s f p hid=.ok l→∀t∈l,∀a∈t.attrs,a.at'≤s.length
 |0,p,hid,l,h=>by
  simp only[lexG,Except.ok.injEq] at h;subst h;intro t ht;cases ht
 |f+1,p,hid,l,h=>by
  unfold lexG at h;split at h
  ·cases hid with
   |some k=>cases h
   |none=>
    simp only[Except.ok.injEq] at h;subst h;intro t ht;cases ht
  ·rename_i hp;split at h
   ·cases hn:nextM s p hid with
    |error e=>rw[hn] at h;cases h
    |ok r=>
     obtain⟨l1,hid2⟩:=r;rw[hn] at h;simp only at h
     cases hg:lexG s f (lastTo l1 (p+1)) hid2 with
     |error e=>rw[hg] at h;cases h
     |ok l2=>
      rw[hg] at h;simp only[Except.ok.injEq] at h;subst h;intro t ht
      rcases List.mem_append.1 ht with ht|ht
      ·exact nextM_at' (Nat.lt_of_not_le hp) hn t ht
      ·exact lexG_at' f _ _ _ hg t ht
   ·simp only at h
    cases hg:lexG s f (textTo s hid.isSome (s.length-p) p) hid with
    |error e=>rw[hg] at h;cases h
    |ok l2=>
     rw[hg] at h;simp only[Except.ok.injEq] at h;subst h;intro t ht
     rcases List.mem_cons.1 ht with rfl|ht
     ·intro a ha;cases ha
     ·exact lexG_at' f _ _ _ hg t ht
end Go.Ai.Ex
namespace Go.Ai.Sp
open Go.Ai Go.RowKit
theorem fold_pl {α:Type}{c:α→Bool}{f:α→Int}(P:Int→Prop):∀(l:List α) (p e:Int),(∀a∈l,P (f a))→(e≠0→P p)→(l.foldl (fun s a=>bif c a then fE (f a) 12 s.1 s.2 else s) (p,e)).2≠0→P (l.foldl (fun s a=>bif c a then fE (f a) 12 s.1 s.2 else s) (p,e)).1
 |[],p,e,_,h,h2=>h h2
 |a::l,p,e,hl,h,h2=>by
  simp only[List.foldl_cons] at h2⊢
  have hl':∀b∈l,P (f b):=fun b hb=>hl b (List.mem_cons_of_mem _ hb)
  cases hc:c a with
  |false=>
   rw[hc] at h2;exact fold_pl P l p e hl' h h2
  |true=>
   rw[hc] at h2;simp only[cond_true,fE] at h2⊢
   cases he:e==0 with
   |true=>
    rw[he] at h2
    exact fold_pl P l (f a) 12 hl' (fun _=>hl a (List.mem_cons_self ..)) h2
   |false=>
    rw[he] at h2;exact fold_pl P l p e hl' h h2
theorem fail_pl {P:Int→Prop}{p x:Int}{s:Ps}(hp:P p)(hs:s.e≠0→P s.pl):P (failP p x s).pl:=by
 unfold failP fE;simp only
 cases h:s.e==0 with
 |true=>exact hp
 |false=>exact hs (by simpa using h)
theorem step_pl {t:Ex.Tok}{S:Ps}{P:Int→Prop}(he:S.e=0)(h1:P t.fr)(h2:P ((t.to:Int)-(trimM t.text).length))(h3:∀a∈t.attrs,P (a.at':Nat))(hs:(stepP t S).e≠0):P (stepP t S).pl:=by
 obtain⟨rows,pl,e⟩:=S;simp only at he;subst he
 have h0:(0:Int)≠0→P pl:=fun h=>absurd rfl h
 unfold stepP at hs⊢
 cases k1:t.kind==1 with
 |true=>
  rw[k1] at hs;simp only[cond_true] at hs⊢;unfold textP at hs⊢
  cases rows with
  |nil=>exact absurd rfl hs
  |cons n r=>
   simp only at hs⊢
   cases k:n.kind==7||n.kind==10 with
   |false=>rw[k] at hs;exact absurd rfl hs
   |true=>
    rw[k] at hs;simp only[cond_true] at hs⊢
    cases k3:(trimM t.text).isEmpty with
    |true=>rw[k3] at hs;exact absurd rfl hs
    |false=>exact fail_pl h2 h0
 |false=>
 rw[k1] at hs;simp only[cond_false] at hs⊢
 cases k7:t.kind==7 with
 |true=>
  rw[k7] at hs
  cases rows with
  |nil=>exact absurd rfl hs
  |cons n r=>exact absurd rfl hs
 |false=>
 rw[k7] at hs;simp only[cond_false] at hs⊢
 cases k2:t.kind==2||t.kind==3 with
 |true=>
  rw[k2] at hs;simp only[cond_true] at hs⊢;unfold begP at hs⊢
  cases rows with
  |nil=>exact absurd rfl hs
  |cons n r=>
   simp only at hs⊢
   have key:(begFail (elM t.name) t n r ⟨n::r,pl,0⟩).e≠0→P (begFail (elM t.name) t n r ⟨n::r,pl,0⟩).pl:=by
    unfold begFail;simp only;generalize hA:(bif (emptyB (elM t.name) !=(t.kind==3))|| !mayB n.kind (lastN n.kids) (elM t.name).kind then failP t.fr 13 ⟨n::r,pl,0⟩ else⟨n::r,pl,0⟩)=A
    have hA1:A.e≠0→P A.pl:=by
     rw[←hA]
     cases (emptyB (elM t.name) !=(t.kind==3))|| !mayB n.kind (lastN n.kids) (elM t.name).kind with
     |true=>exact fun _=>fail_pl h1 h0
     |false=>exact h0
    generalize hB:(bif decide (16<r.length+1) then failP t.fr 3 A else A)=B
    have hB1:B.e≠0→P B.pl:=by
     rw[←hB]
     cases decide (16<r.length+1) with
     |true=>exact fun _=>fail_pl h1 hA1
     |false=>exact hA1
    obtain⟨br,bp,be⟩:=B;simp only at hB1⊢;unfold attrsM
    generalize hC:((elM t.name).names.take (elM t.name).must).foldl (fun s nm=>bif !(t.attrs.any fun a=>a.name==nm) then fE t.fr 12 s.1 s.2 else s) (bp,be)=C
    have hC1:C.2≠0→P C.1:=by
     rw[←hC]
     exact fold_pl (c:=fun nm:List UInt8=>!(t.attrs.any fun a=>a.name==nm)) (f:=fun _=>(t.fr:Int)) P _ _ _ (fun _ _=>h1) hB1
    obtain⟨cp,ce⟩:=C
    exact fold_pl (c:=fun a:Ex.Att=>!((elM t.name).names.any (·==a.name))|| !valM a.name a.value) (f:=fun a=>(a.at':Int)) P _ _ _ h3 hC1
   cases hq:emptyB (elM t.name) with
   |true=>rw[hq] at hs;exact key hs
   |false=>rw[hq] at hs;exact key hs
 |false=>
 rw[k2] at hs;simp only[cond_false] at hs⊢
 cases k5:t.kind==5 with
 |true=>
  rw[k5] at hs;simp only[cond_true] at hs⊢;unfold hideP at hs⊢
  cases rows with
  |nil=>exact absurd rfl hs
  |cons n r=>
   simp only at hs⊢;generalize hA:(bif !mayB n.kind (lastN n.kids) 14 then failP t.fr 13 ⟨n::r,pl,0⟩ else⟨n::r,pl,0⟩)=A at hs⊢
   have hA1:A.e≠0→P A.pl:=by
    rw[←hA]
    cases mayB n.kind (lastN n.kids) 14 with
    |true=>exact h0
    |false=>exact fun _=>fail_pl h1 h0
   cases hd:decide (16<r.length+1) with
   |true=>exact fail_pl h1 hA1
   |false=>rw[hd] at hs;exact hA1 hs
 |false=>
  rw[k5] at hs;simp only[cond_false] at hs⊢;unfold endP at hs⊢
  cases rows with
  |nil=>exact absurd rfl hs
  |cons n r=>
   simp only at hs⊢
   cases hb:endBad t n with
   |true=>exact fail_pl h1 h0
   |false=>
    rw[hb] at hs
    cases r with
    |nil=>exact absurd rfl hs
    |cons m q=>exact absurd rfl hs
theorem run_pl {P:Int→Prop}:∀(l:List Ex.Tok) (S:Ps),S.e=0→(∀t∈l,P t.fr∧P ((t.to:Int)-(trimM t.text).length)∧∀a∈t.attrs,P (a.at':Nat))→(parseL l S).e≠0→P (parseL l S).pl
 |[],S,he,_,h=>absurd he h
 |t::l,S,he,hl,h=>by
  obtain⟨h1,h2,h3⟩:=hl t (List.mem_cons_self ..)
  by_cases hs:(stepP t S).e=0
  ·rw[(parse_cons t l S).1 hs] at h⊢
   exact run_pl l _ hs (fun u hu=>hl u (List.mem_cons_of_mem _ hu)) h
  ·rw[(parse_cons t l S).2 hs];exact step_pl he h1 h2 h3 hs
theorem bad_place {s:List UInt8}{p e:Int}(h:parseM s=.error (p,e)):0≤p∧p≤s.length:=by
 unfold parseM at h;split at h
 ·injection h with h
  injection h with h1 _
  omega
 ·split at h
  ·rename_i p' e' hl
   injection h with h
   injection h with h1 _
   have:=Ex.lexM_bad hl;omega
  ·rename_i l hl;unfold parseT doneT at h
   cases he:(parseL l page0).e==0 with
   |true=>
    rw[he] at h;simp only[cond_true] at h;split at h
    ·cases h
    ·injection h with h
     injection h with h1 _
     omega
   |false=>
    rw[he] at h;simp only[cond_false] at h
    injection h with h
    injection h with h1 _
    have hw:=wg_mem l 0 none false (Ex.lexM_whole hl);have ha:=Ex.lexG_at' _ _ _ _ hl
    have:=run_pl (P:=fun z=>0≤z∧z≤s.length) l page0 rfl (fun t ht=>by
     obtain⟨w1,w2,w3⟩:=hw t ht;have ht2:(trimM t.text).length≤t.text.length:=(List.dropWhile_suffix _).length_le
     exact⟨⟨by omega,by omega⟩,⟨by omega,by omega⟩,fun a hm=>⟨by omega,by have:=ha t ht a hm;omega⟩⟩) (by simpa using he)
    rw[h1] at this;exact this
end Go.Ai.Sp
end
section
namespace Go.Ai.Sp
open Go.Ai Go.RowKit
def cntN (nm:List UInt8):List Go.Ai.Att→Nat
 |[]=>0
 |a::t=>(bif a.name==nm then 1 else 0)+cntN nm t
def valOk (r:Rul)(a:Go.Ai.Att):Prop:=a.name=r.name→r.may.ok a.value=true∧quoB a.value=false
theorem cntR_some {r:Rul}:∀{al:List Go.Ai.Att} {n m:Int},cntR r al n=some m↔m=n+cntN r.name al∧∀a∈al,valOk r a
 |[],n,m=>by
  simp only[cntR,cntN,Option.some.injEq,List.not_mem_nil,false_implies,implies_true,and_true];constructor
  ·intro h;rw[←h];simp
  ·intro h;rw[h];simp
 |a::t,n,m=>by
  rw[cntR,cntN]
  cases h:a.name==r.name with
  |true=>
   have hn:a.name=r.name:=by simpa using h
   simp only[cond_true]
   cases hv:r.may.ok a.value&& !quoB a.value with
   |true=>
    simp only[cond_true];rw[cntR_some];simp only[Bool.and_eq_true,Bool.not_eq_true'] at hv;constructor
    ·rintro⟨h1,h2⟩
     refine⟨by omega,fun b hb=> ?_⟩
     rcases List.mem_cons.1 hb with rfl|hb
     ·exact fun _=>hv
     ·exact h2 b hb
    ·rintro⟨h1,h2⟩
     exact⟨by omega,fun b hb=>h2 b (List.mem_cons_of_mem _ hb)⟩
   |false=>
    simp only[cond_false];constructor
    ·intro h;cases h
    ·rintro⟨_,h2⟩
     have:=h2 a (by simp) hn
     rw[this.1,this.2] at hv;cases hv
  |false=>
   have hn:¬a.name=r.name:=by simpa using h
   simp only[cond_false,Nat.zero_add];rw[cntR_some];constructor
   ·rintro⟨h1,h2⟩
    refine⟨h1,fun b hb=> ?_⟩
    rcases List.mem_cons.1 hb with rfl|hb
    ·exact fun e=>absurd e hn
    ·exact h2 b hb
   ·rintro⟨h1,h2⟩
    exact⟨h1,fun b hb=>h2 b (List.mem_cons_of_mem _ hb)⟩
def sumN (al:List Go.Ai.Att):List Rul→Nat
 |[]=>0
 |r::l=>cntN r.name al+sumN al l
theorem keepR_iff {al:List Go.Ai.Att}:∀{l:List Rul} {f:Int},keepR l al f=true↔f+sumN al l=(al.length:Nat)∧∀r∈l,(∀a∈al,valOk r a)∧cntN r.name al≤1∧(r.must=true→cntN r.name al=1)
 |[],f=>by simp[keepR,sumN]
 |r::l,f=>by
  rw[keepR_cons,sumN]
  cases hc:cntR r al 0 with
  |none=>
   simp only[resR];constructor
   ·intro h;cases h
   ·rintro⟨_,h⟩
    have:=(cntR_some (r:=r) (al:=al) (n:=0) (m:=cntN r.name al)).2 ⟨by omega,(h r (by simp)).1⟩
    rw[hc] at this;cases this
  |some n=>
   obtain⟨h1,h2⟩:=cntR_some.1 hc;simp only[resR]
   by_cases h3:1<n
   ·rw[decide_eq_true h3];simp only[cond_true];constructor
    ·intro h;cases h
    ·rintro⟨_,h⟩
     have:=(h r (by simp)).2.1
     omega
   ·rw[decide_eq_false h3];simp only[cond_false]
    cases hz:n==0&&r.must with
    |true=>
     simp only[Bool.and_eq_true,beq_iff_eq] at hz;simp only[cond_true];constructor
     ·intro h;cases h
     ·rintro⟨_,h⟩
      have:=(h r (by simp)).2.2 hz.2
      omega
    |false=>
     simp only[cond_false];rw[keepR_iff];constructor
     ·rintro⟨h4,h5⟩
      refine⟨by omega,fun q hq=> ?_⟩
      rcases List.mem_cons.1 hq with rfl|hq
      ·refine⟨h2,by omega,fun hm=> ?_⟩
       rw[hm] at hz;simp at hz;omega
      ·exact h5 q hq
     ·rintro⟨h4,h5⟩
      exact⟨by omega,fun q hq=>h5 q (List.mem_cons_of_mem _ hq)⟩
def uniq :List Rul→Prop
 |[]=>True
 |r::l=>(∀q∈l,q.name≠r.name)∧uniq l
theorem sum_one {a:Go.Ai.Att}:∀{l:List Rul},uniq l→sumN [a] l≤1∧((∀r∈l,r.name≠a.name)→sumN [a] l=0)
 |[],_=>⟨by simp[sumN],fun _=>rfl⟩
 |r::l,⟨h1,h2⟩=>by
  obtain⟨h3,h4⟩:=sum_one (a:=a) h2;simp only[sumN,cntN]
  cases h:a.name==r.name with
  |true=>
   have hn:a.name=r.name:=by simpa using h
   have:=h4 fun q hq e=>h1 q hq (e.trans hn)
   refine⟨by simp only[cond_true];omega,fun hh=>absurd hn.symm (hh r (by simp))⟩
  |false=>
   refine⟨by simp only[cond_false];omega,fun hh=> ?_⟩
   have:=h4 fun q hq=>hh q (List.mem_cons_of_mem _ hq)
   simp only[cond_false];omega
theorem sum_cons (a:Go.Ai.Att)(al:List Go.Ai.Att):∀l:List Rul,sumN (a::al) l=sumN [a] l+sumN al l
 |[]=>rfl
 |r::l=>by simp only[sumN,sum_cons a al l,cntN];omega
theorem sum_le {l:List Rul}(hu:uniq l):∀al:List Go.Ai.Att,sumN al l≤al.length
 |[]=>by
  have:∀l:List Rul,sumN [] l=0:=fun l=>by induction l with
   |nil=>rfl
   |cons r l ih=>simp[sumN,cntN,ih]
  rw[this];exact Nat.zero_le _
 |a::al=>by
  rw[sum_cons];have:=(sum_one (a:=a) hu).1;have:=sum_le hu al;simp only[List.length_cons];omega
theorem sum_all {l:List Rul}(hu:uniq l):∀al:List Go.Ai.Att,sumN al l=al.length→∀a∈al,∃r∈l,r.name=a.name
 |[],_,a,ha=>by cases ha
 |b::al,h,a,ha=>by
  rw[sum_cons] at h;obtain⟨h1,h2⟩:=sum_one (a:=b) hu;have h3:=sum_le hu al;simp only[List.length_cons] at h
  rcases List.mem_cons.1 ha with rfl|ha
  ·apply Classical.byContradiction;intro hn
   have:=h2 fun r hr e=>hn ⟨r,hr,e⟩
   omega
  ·exact sum_all hu al (by omega) a ha
theorem sum_of {l:List Rul}(hu:uniq l):∀al:List Go.Ai.Att,(∀a∈al,∃r∈l,r.name=a.name)→sumN al l=al.length
 |[],_=>by
  have:=sum_le hu [];simpa using this
 |a::al,h=>by
  rw[sum_cons,sum_of hu al fun b hb=>h b (List.mem_cons_of_mem _ hb)]
  have h1:=(sum_one (a:=a) hu).1
  obtain⟨r,hr,e⟩:=h a (by simp)
  have h2:1≤sumN [a] l:=by
   clear h h1 hu
   induction l with
   |nil=>cases hr
   |cons q l ih=>
    simp only[sumN,cntN]
    rcases List.mem_cons.1 hr with rfl|hr
    ·rw[e];simp
    ·have:=ih hr;omega
  simp only[List.length_cons];omega
def nodupN :List Go.Ai.Att→Prop
 |[]=>True
 |a::al=>(∀b∈al,b.name≠a.name)∧nodupN al
theorem cnt_zero {nm:List UInt8}:∀{al:List Go.Ai.Att},cntN nm al=0↔∀a∈al,a.name≠nm
 |[]=>by simp[cntN]
 |a::al=>by
  rw[cntN];have:=cnt_zero (nm:=nm) (al:=al)
  cases h:a.name==nm with
  |true=>
   have hn:a.name=nm:=by simpa using h
   constructor
   ·intro h;simp at h
   ·intro h;exact absurd hn (h a (by simp))
  |false=>
   have hn:¬a.name=nm:=by simpa using h
   simp only[cond_false,Nat.zero_add,this];constructor
   ·intro h b hb
    rcases List.mem_cons.1 hb with rfl|hb
    ·exact hn
    ·exact h b hb
   ·intro h b hb;exact h b (List.mem_cons_of_mem _ hb)
theorem cnt_le {l:List Rul}:∀{al:List Go.Ai.Att},(∀a∈al,∃r∈l,r.name=a.name)→(∀r∈l,cntN r.name al≤1)→nodupN al
 |[],_,_=>trivial
 |a::al,h1,h2=>by
  obtain⟨r,hr,e⟩:=h1 a (by simp)
  refine⟨fun b hb=> ?_,cnt_le (fun b hb=>h1 b (List.mem_cons_of_mem _ hb)) fun q hq=> ?_⟩
  ·have:=h2 r hr;rw[cntN,e,beq_self_eq_true] at this;simp only[cond_true] at this
   exact cnt_zero.1 (by omega) b hb
  ·have:=h2 q hq;rw[cntN] at this;omega
theorem cnt_nodup :∀{al:List Go.Ai.Att},nodupN al→∀nm,cntN nm al≤1
 |[],_,_=>by simp[cntN]
 |a::al,⟨h1,h2⟩,nm=>by
  rw[cntN];have:=cnt_nodup h2 nm
  cases h:a.name==nm with
  |true=>
   have hn:a.name=nm:=by simpa using h
   have:=(cnt_zero (nm:=nm) (al:=al)).2 fun b hb=>hn▸h1 b hb
   simp only[cond_true];omega
  |false=>simpa using this
theorem uniq_rules (k:Int):uniq (rulesL k):=by
 unfold rulesL
 cases k==3<;>cases k==4<;>cases k==6<;>cases k==11<;>simp only[cond_true,cond_false,uniq]<;>decide
theorem keep_iff {k:Int}{al:List Go.Ai.Att}:keepR (rulesL k) al 0=true↔nodupN al∧(∀a∈al,∃r∈rulesL k,r.name=a.name∧r.may.ok a.value=true∧quoB a.value=false)∧∀r∈rulesL k,r.must=true→∃a∈al,a.name=r.name:=by
 rw[keepR_iff];constructor
 ·rintro⟨h1,h2⟩
  have ha:=sum_all (uniq_rules k) al (by omega)
  refine⟨cnt_le ha fun r hr=>(h2 r hr).2.1,fun a hm=> ?_,fun r hr hm=> ?_⟩
  ·obtain⟨r,hr,e⟩:=ha a hm;exact⟨r,hr,e,(h2 r hr).1 a hm e.symm⟩
  ·have:=(h2 r hr).2.2 hm;apply Classical.byContradiction;intro hn
   have:=(cnt_zero (nm:=r.name) (al:=al)).2 fun a ha e=>hn ⟨a,ha,e⟩
   omega
 ·rintro⟨h1,h2,h3⟩
  refine⟨by rw[sum_of (uniq_rules k) al fun a ha=>(h2 a ha).imp fun r hr=>⟨hr.1,hr.2.1⟩];omega,fun r hr=>⟨fun a ha e=> ?_,cnt_nodup h1 _,fun hm=> ?_⟩⟩
  ·obtain⟨q,hq,e1,e2⟩:=h2 a ha
   have:q=r:=by
    have key:∀{l:List Rul},uniq l→∀x∈l,∀y∈l,x.name=y.name→x=y:=by
     intro l
     induction l with
     |nil=>intro _ x hx;cases hx
     |cons z l ih=>
      rintro⟨u1,u2⟩ x hx y hy exy
      rcases List.mem_cons.1 hx with e1|h1<;>rcases List.mem_cons.1 hy with e2|h2
      ·rw[e1,e2]
      ·rw[e1] at exy;exact absurd exy.symm (u1 y h2)
      ·rw[e2] at exy;exact absurd exy (u1 x h1)
      ·exact ih u2 x h1 y h2 exy
    exact key (uniq_rules k) q hq r hr (e1.trans e)
   rw[←this];exact e2
  ·obtain⟨a,ha,e⟩:=h3 r hr hm;have h4:=cnt_nodup h1 r.name
   have:cntN r.name al≠0:=fun z=>cnt_zero.1 z a ha e
   omega
end Go.Ai.Sp
end
section
namespace Go.Ai.Sp
open Go.Ai Go.RowKit
theorem contB_iff {x:List UInt8}:∀{s:List UInt8},contB s x=true↔∃j,j≤s.length∧x.isPrefixOf (s.drop j)=true
 |[]=>by
  simp only[contB];constructor
  ·intro h
   refine⟨0,by simp,?_⟩
   cases x with
   |nil=>rfl
   |cons=>cases h
  ·rintro⟨j,hj,h⟩
   cases x with
   |nil=>rfl
   |cons=>simp at h
 |c::r=>by
  simp only[contB,Bool.or_eq_true];rw[contB_iff (s:=r)];constructor
  ·rintro(h|⟨j,hj,h⟩)
   ·exact⟨0,by simp,h⟩
   ·exact⟨j+1,by simp;omega,by simpa using h⟩
  ·rintro⟨j,hj,h⟩
   cases j with
   |zero=>exact .inl h
   |succ j=>exact .inr ⟨j,by simpa using hj,by simpa using h⟩
theorem pre_app {x y r:List UInt8}:(x++y).isPrefixOf r=true↔x.isPrefixOf r=true∧y.isPrefixOf (r.drop x.length)=true:=by
 rw[List.isPrefixOf_iff_prefix,List.isPrefixOf_iff_prefix,List.isPrefixOf_iff_prefix];constructor
 ·rintro⟨z,rfl⟩
  exact⟨⟨y++z,by simp⟩,⟨z,by simp⟩⟩
 ·rintro⟨⟨z,rfl⟩,⟨w,hw⟩⟩
  refine⟨w,?_⟩;rw[List.drop_left' rfl] at hw;rw[←hw,List.append_assoc]
theorem spec_text {t:List UInt8}{hid:Bool}(h0:t≠[])(h:∀j,j<t.length→Ex.specR (t.drop j) hid=false):textB 2 t hid=true:=by
 have up:∀x:List UInt8,x≠[]→(∀j,j<t.length→x.isPrefixOf (t.drop j)=false)→contB t x=false:=fun x hx hh=>by
  rw[Bool.eq_false_iff];intro e;obtain⟨j,hj,e⟩:=contB_iff.1 e
  rcases Nat.lt_or_ge j t.length with h|h
  ·rw[hh j h] at e;cases e
  ·rw[List.drop_of_length_le h] at e
   cases x with
   |nil=>exact hx rfl
   |cons=>simp at e
 have hs:=fun j hj=>Ex.specR_no.1 (h j hj)
 unfold textB;simp only[beq_self_eq_true,cond_true,Bool.and_eq_true,Bool.not_eq_true',beq_eq_false_iff_ne];refine⟨⟨h0,?_⟩,?_⟩
 ·unfold taggedB;simp only[Bool.or_eq_false_iff]
  refine⟨⟨up _ (by decide) fun j hj=>(hs j hj).1,up _ (by decide) fun j hj=>(hs j hj).2.1⟩,?_⟩
  rw[List.any_eq_false];intro b hb;rw[Bool.not_eq_true]
  refine up _ (by simp[esi3]) fun j hj=> ?_
  have h3:=(hs j hj).2.2.1;rw[Bool.eq_false_iff];intro e;obtain⟨e1,e2⟩:=pre_app.1 e;have e1':Ex.hidesS.isPrefixOf (t.drop j)=true:=e1;rw[e1'] at h3;simp only[Bool.true_and] at h3;have e2':b.isPrefixOf ((t.drop j).drop 7)=true:=e2
  have hbl:∃c,b=[c]∧Ex.blB c=true:=by
   simp only[blanksL,List.mem_cons,List.not_mem_nil,or_false] at hb
   rcases hb with rfl|rfl|rfl|rfl<;>exact⟨_,rfl,by decide⟩
  obtain⟨c,rfl,hc⟩:=hbl
  cases hd:(t.drop j).drop 7 with
  |nil=>rw[hd] at e2';simp at e2'
  |cons d q=>
   rw[hd] at e2' h3;simp only[List.isPrefixOf,Bool.and_true,beq_iff_eq] at e2';simp only[←e2',hc] at h3;cases h3
 ·cases hid with
  |false=>rfl
  |true=>
   rw[Bool.true_and]
   refine up _ (by decide) fun j hj=> ?_
   have:=(hs j hj).2.2.2
   rwa [Bool.and_true] at this
end Go.Ai.Sp
end
section
namespace Go.Ai.Sp
open Go.Ai Go.RowKit
theorem form_ok {k:Int}{t:List UInt8}{al:List Go.Ai.Att}{len:Nat}{d:Int}{hid:Bool}{b:Int}:formE k t al len d hid b=0↔
  ¬(k=14∧hid=true)∧(k=2∨d≤16)∧keepR (rulesL k) al 0=true∧textB k t hid=true∧¬(k=2∧b=2)∧(leafB k=true→len=0)∧(k=7→len=2)∧(k=10→len≠0):=by
 unfold formE;cases h1:(k==14&&hid)
 case true=>
  simp only[Bool.and_eq_true,beq_iff_eq] at h1;simp only[cond_true]
  exact⟨fun h=>(by cases h),fun h=>absurd h1 h.1⟩
 simp only[cond_false]
 have h1':¬(k=14∧hid=true):=by
  intro⟨e1,e2⟩;rw[e1,e2] at h1;cases h1
 cases h2:(!(k==2)&&decide (16<d))
 case true=>
  simp only[Bool.and_eq_true,Bool.not_eq_true',beq_eq_false_iff_ne,decide_eq_true_eq] at h2;simp only[cond_true]
  exact⟨fun h=>(by cases h),fun h=>(by rcases h.2.1 with e|e;exact absurd e h2.1;omega)⟩
 simp only[cond_false]
 have h2':k=2∨d≤16:=by
  apply Classical.byContradiction;intro hn;simp only[not_or,Int.not_le] at hn
  rw[beq_eq_false_iff_ne.2 hn.1,decide_eq_true (by omega)] at h2
  cases h2
 cases h3:keepR (rulesL k) al 0
 case false=>
  simp only[Bool.not_false,cond_true]
  exact⟨fun h=>(by cases h),fun h=>(by cases h.2.2.1)⟩
 simp only[Bool.not_true,cond_false];cases h4:(!textB k t hid||(k==2&&b==2))
 case true=>
  simp only[cond_true]
  refine⟨fun h=>(by cases h),fun h=> ?_⟩
  simp only[Bool.or_eq_true,Bool.not_eq_true',Bool.and_eq_true,beq_iff_eq] at h4
  rcases h4 with e|e
  ·rw[h.2.2.2.1] at e;cases e
  ·exact absurd e h.2.2.2.2.1
 simp only[cond_false];simp only[Bool.or_eq_false_iff,Bool.not_eq_false',Bool.and_eq_false_iff,beq_eq_false_iff_ne] at h4
 have h4':¬(k=2∧b=2):=fun e=>by rcases h4.2 with h|h;exact h e.1;exact h e.2
 cases h5:((leafB k&&decide (0<len))||(k==7&& !(len==2))||(k==10&&len==0))
 case true=>
  simp only[cond_true]
  refine⟨fun h=>(by cases h),fun h=> ?_⟩
  simp only[Bool.or_eq_true,Bool.and_eq_true,decide_eq_true_eq,Bool.not_eq_true',beq_eq_false_iff_ne,beq_iff_eq] at h5;obtain⟨_,_,_,_,_,a1,a2,a3⟩:=h
  rcases h5 with (e|e)|e
  ·have:=a1 e.1;omega
  ·exact absurd (a2 e.1) e.2
  ·exact absurd e.2 (a3 e.1)
 simp only[cond_false,true_iff];simp only[Bool.or_eq_false_iff,Bool.and_eq_false_iff,decide_eq_false_iff_not,Bool.not_eq_false',beq_iff_eq,beq_eq_false_iff_ne] at h5;obtain⟨⟨b1,b2⟩,b3⟩:=h5
 refine⟨h1',h2',trivial,h4.1,h4',fun e=> ?_,fun e=> ?_,fun e=> ?_⟩
 ·rcases b1 with h|h
  ·rw[e] at h;cases h
  ·omega
 ·rcases b2 with h|h
  ·exact absurd e h
  ·exact h
 ·rcases b3 with h|h
  ·exact absurd e h
  ·exact h
theorem chks_cons {p n:Int}{c:Nd}{r:List Nd}{i d:Int}{hid:Bool}{b:Int}:chks p n (c::r) i d hid b=0↔fitB p c.kind i n=true∧c.chk d hid b=0∧chks p n r (i+1) d hid c.kind=0:=by
 rw[chks]
 cases fitB p c.kind i n with
 |false=>simp
 |true=>
  simp only[Bool.not_true,cond_false,true_and]
  cases h:c.chk d hid b==0 with
  |true=>(simp only[cond_true];have:c.chk d hid b=0:=by simpa using h);simp[this]
  |false=>(simp only[cond_false];have:¬c.chk d hid b=0:=by simpa using h);simp[this]
theorem chk_mk {k p:Int}{t:List UInt8}{al:List Go.Ai.Att}{ks:List Nd}{d:Int}{hid:Bool}{b:Int}:(Nd.mk k p t al ks).chk d hid b=0↔formE k t al ks.length d hid b=0∧chks k (ks.length:Nat) ks 0 (d+1) (hid||k==14) 0=0:=by
 rw[Nd.chk]
 cases h:formE k t al ks.length d hid b==0 with
 |true=>(simp only[cond_true];have:formE k t al ks.length d hid b=0:=by simpa using h);simp[this]
 |false=>(simp only[cond_false];have:¬formE k t al ks.length d hid b=0:=by simpa using h);simp[this]
end Go.Ai.Sp
end
section
namespace Go.Ai.Sp
open Go.Ai Go.RowKit
def lastO (b:Int)(l:List Nd):Int:=match l.getLast? with
 |some n=>n.kind
 |none=>b
theorem lastO_cons (b:Int)(x:Nd)(l:List Nd):lastO b (x::l)=lastO x.kind l:=by
 cases l with
 |nil=>rfl
 |cons y l=>
  unfold lastO;rw[List.getLast?_cons_cons]
  cases h:(y::l).getLast? with
  |none=>simp at h
  |some z=>rfl
theorem lastN_snoc (l:List Nd)(k:Nd):lastN (l++[k])=k.kind:=by simp[lastN]
theorem chks_snoc {p n:Int}{k:Nd}{d:Int}{hid:Bool}:∀(a:List Nd) (i b:Int),chks p n (a++[k]) i d hid b=0↔chks p n a i d hid b=0∧fitB p k.kind (i+a.length) n=true∧k.chk d hid (lastO b a)=0
 |[],i,b=>by
  rw[List.nil_append,chks_cons];simp[chks,lastO]
 |x::a,i,b=>by
  rw[List.cons_append,chks_cons,chks_cons,chks_snoc a (i+1) x.kind,lastO_cons];simp only[List.length_cons]
  rw[show i+1+(a.length:Int)=i+((a.length+1:Nat):Int) by omega]
  constructor
  ·rintro⟨h1,h2,h3,h4,h5⟩
   exact⟨⟨h1,h2,h3⟩,h4,h5⟩
  ·rintro⟨⟨h1,h2,h3⟩,h4,h5⟩
   exact⟨h1,h2,h3,h4,h5⟩
inductive KOk (p d:Int) (hid:Bool):List Nd→Prop
 |nil:KOk p d hid []
 |snoc {ks:List Nd} {k:Nd}:KOk p d hid ks→mayB p (lastN ks) k.kind=true→2≤k.kind→k.kind≤14→k.chk d hid (lastN ks)=0→KOk p d hid (ks++[k])
theorem may7 {l x:Int}:mayB 7 l x=true↔(x=8∧l=0)∨(x=9∧l=8):=by
 simp[mayB]
theorem may10 {l x:Int}:mayB 10 l x=true↔(x=11∧l≠12)∨(x=12∧l=11):=by
 simp[mayB]
theorem mayO {p l x:Int}(h7:p≠7)(h10:p≠10):mayB p l x=true↔x≠8∧x≠9∧x≠11∧x≠12:=by
 have e1:(p==7)=false:=by simpa using h7
 have e2:(p==10)=false:=by simpa using h10
 unfold mayB;rw[e1,e2];simp;omega
theorem content_of {k:Int}(h1:2≤k)(h2:k≤14)(h3:k≠8∧k≠9∧k≠11∧k≠12):contentB k=true:=by
 have:k=2∨k=3∨k=4∨k=5∨k=6∨k=7∨k=10∨k=13∨k=14:=by omega
 rcases this with rfl|rfl|rfl|rfl|rfl|rfl|rfl|rfl|rfl<;>rfl
theorem kok_all {p d:Int}{hid:Bool}{ks:List Nd}(h:KOk p d hid ks):
  (lastN ks=0→ks=[])∧(p=7→lastN ks=8→ks.length=1)∧(p=7→lastN ks=9→ks.length=2)∧(∀n:Int,n=ks.length∨lastN ks≠12∨p≠10→chks p n ks 0 d hid 0=0):=by
 induction h with
 |nil=>exact⟨fun _=>rfl,fun _ h=>by simp[lastN] at h,fun _ h=>by simp[lastN] at h,fun _ _=>rfl⟩
 | @snoc ks k hk hm h2 h14 hc ih=>
  obtain⟨i1,i2,i3,i4⟩:=ih;rw[lastN_snoc]
  refine⟨fun h=>by omega,fun hp h=> ?_,fun hp h=> ?_,fun n hn=> ?_⟩
  ·subst hp
   rcases may7.1 hm with ⟨a1,a2⟩|⟨a1,a2⟩
   ·rw[i1 a2];rfl
   ·omega
  ·subst hp
   rcases may7.1 hm with ⟨a1,a2⟩|⟨a1,a2⟩
   ·omega
   ·rw[List.length_append,i2 rfl a2];rfl
  ·rw[chks_snoc];have hL:lastO 0 ks=lastN ks:=rfl;rw[hL];simp only[List.length_append,List.length_cons,List.length_nil] at hn
   by_cases h7:p=7
   ·subst h7
    refine⟨i4 n (.inr (.inr (by decide))),?_,hc⟩
    rcases may7.1 hm with ⟨a1,a2⟩|⟨a1,a2⟩
    ·rw[a1,i1 a2];rfl
    ·rw[a1,i2 rfl a2];rfl
   ·by_cases h10:p=10
    ·subst h10
     rcases may10.1 hm with ⟨a1,a2⟩|⟨a1,a2⟩
     ·refine⟨i4 n (.inr (.inl a2)),?_,hc⟩;rw[a1];rfl
     ·refine⟨i4 n (.inr (.inl (by omega))),?_,hc⟩
      have hne:0<ks.length:=by
       cases ks with
       |nil=>simp[lastN] at a2
       |cons _ _=>simp
      have hn':n=(ks.length:Int)+1:=by
       rcases hn with h|h|h
       ·omega
       ·exact absurd a1 h
       ·exact absurd rfl h
      rw[a1];have e:fitB 10 12 (0+(ks.length:Int)) n=(decide (0<0+(ks.length:Int))&&(0+(ks.length:Int))==n-1):=rfl
      rw[e,decide_eq_true (by omega),hn']
      simp
    ·refine⟨i4 n (.inr (.inr h10)),?_,hc⟩
     have e1:(p==7)=false:=by simpa using h7
     have e2:(p==10)=false:=by simpa using h10
     unfold fitB;rw[e1,e2];exact content_of h2 h14 ((mayO h7 h10).1 hm)
theorem kok_chks {p d:Int}{hid:Bool}{ks:List Nd}(h:KOk p d hid ks):chks p ks.length ks 0 d hid 0=0:=(kok_all h).2.2.2 _ (.inl rfl)
theorem nodup_of :∀(l seen:List Ex.Att),Ex.okAtts seen l→nodupN (l.map toA)∧(∀a∈l,∀b∈seen,a.name≠b.name)∧∀a∈l,Ex.okAtt a
 |[],_,_=>⟨trivial,fun a ha=>(by cases ha),fun a ha=>(by cases ha)⟩
 |a::r,seen,h=>by
  obtain⟨h1,h2,h3⟩:=nodup_of r (seen++[a]) h.2.2
  refine⟨⟨fun b hb=> ?_,h1⟩,fun c hc b hb=> ?_,fun c hc=> ?_⟩
  ·obtain⟨c,hc,rfl⟩:=List.mem_map.1 hb
   exact h2 c hc a (by simp)
  ·rcases List.mem_cons.1 hc with rfl|hc
   ·exact h.2.1 b hb
   ·exact h2 c hc b (by simp[hb])
  ·rcases List.mem_cons.1 hc with rfl|hc
   ·exact h.1
   ·exact h3 c hc
theorem quo_of {v:List UInt8}(h:¬(34∈v∧39∈v)):quoB v=false:=by
 have key:∀(c:UInt8) (v:List UInt8),contB v [c]=true→c∈v:=fun c v hv=>by
  obtain⟨j,hj,hp⟩:=contB_iff.1 hv
  cases hd:v.drop j with
  |nil=>rw[hd] at hp;cases hp
  |cons x r=>
   rw[hd] at hp;simp only[List.isPrefixOf,Bool.and_true,beq_iff_eq] at hp
   have:x∈v.drop j:=by rw[hd];exact List.mem_cons_self ..
   rw[hp];exact List.mem_of_mem_drop this
 unfold quoB
 cases h1:contB v [34] with
 |false=>rfl
 |true=>
  cases h2:contB v [39] with
  |false=>rfl
  |true=>exact absurd ⟨key _ _ h1,key _ _ h2⟩ h
def elR (x:El):Prop:=(∀nm v:List UInt8,x.names.any (·==nm)=true→valM nm v=true→∃r∈rulesL x.kind,r.name=nm∧r.may.ok v=true)∧∀r∈rulesL x.kind,r.must=true→r.name∈x.names.take x.must
theorem elR_of (s:List UInt8):elR (elM s):=by
 unfold elM
 cases s==[105,110,99,108,117,100,101] with
 |true=>
  refine⟨fun nm v h1 h2=> ?_,fun r hr hm=> ?_⟩
  ·simp only[cond_true,List.any_cons,List.any_nil,Bool.or_false,Bool.or_eq_true,beq_iff_eq] at h1
   rcases h1 with rfl|rfl|rfl
   ·exact⟨rul3_0,List.Mem.head _,rfl,h2⟩
   ·exact⟨rul3_1,List.Mem.tail _ (List.Mem.head _),rfl,h2⟩
   ·refine⟨rul3_2,List.Mem.tail _ (List.Mem.tail _ (List.Mem.head _)),rfl,?_⟩;have h3:(v==[99,111,110,116,105,110,117,101])=true:=h2;simp only[rul3_2,May.ok,List.any_cons,h3,Bool.true_or]
  ·have hr:r∈[rul3_0,rul3_1,rul3_2]:=hr;simp only[List.mem_cons,List.not_mem_nil,or_false] at hr
   rcases hr with rfl|rfl|rfl
   ·exact List.Mem.head _
   ·cases hm
   ·cases hm
 |false=>
 simp only[cond_false]
 cases s==[105,110,108,105,110,101] with
 |true=>
  refine⟨fun nm v h1 h2=> ?_,fun r hr hm=> ?_⟩
  ·simp only[cond_true,List.any_cons,List.any_nil,Bool.or_false,Bool.or_eq_true,beq_iff_eq] at h1
   rcases h1 with rfl|rfl
   ·exact⟨rul4_0,List.Mem.head _,rfl,h2⟩
   ·refine⟨rul4_1,List.Mem.tail _ (List.Mem.head _),rfl,?_⟩;have h3:(v==[121,101,115]||v==[110,111])=true:=h2;simp only[rul4_1,May.ok,List.any_cons,List.any_nil,Bool.or_false];exact h3
  ·have hr:r∈[rul4_0,rul4_1]:=hr;simp only[List.mem_cons,List.not_mem_nil,or_false] at hr
   rcases hr with rfl|rfl
   ·exact List.Mem.head _
   ·cases hm
 |false=>
 simp only[cond_false]
 have none:∀k:Int,rulesL k=[]→elR ⟨k,[],0⟩:=fun k hk=>⟨fun nm v h1=>(by cases h1),fun r hr=>(by have hr:r∈rulesL k:=hr;rw[hk] at hr;cases hr)⟩
 cases s==[114,101,109,111,118,101] with
 |true=>exact none 5 rfl
 |false=>
 simp only[cond_false]
 cases s==[99,111,109,109,101,110,116] with
 |true=>
  refine⟨fun nm v h1 h2=> ?_,fun r hr hm=> ?_⟩
  ·simp only[cond_true,List.any_cons,List.any_nil,Bool.or_false,beq_iff_eq] at h1;subst h1;exact⟨rul6_0,List.Mem.head _,rfl,rfl⟩
  ·have hr:r∈[rul6_0]:=hr;rw[List.mem_singleton.1 hr];exact List.Mem.head _
 |false=>
 simp only[cond_false]
 cases s==[116,114,121] with
 |true=>exact none 7 rfl
 |false=>
 simp only[cond_false]
 cases s==[97,116,116,101,109,112,116] with
 |true=>exact none 8 rfl
 |false=>
 simp only[cond_false]
 cases s==[101,120,99,101,112,116] with
 |true=>exact none 9 rfl
 |false=>
 simp only[cond_false]
 cases s==[99,104,111,111,115,101] with
 |true=>exact none 10 rfl
 |false=>
 simp only[cond_false]
 cases s==[119,104,101,110] with
 |true=>
  refine⟨fun nm v h1 h2=> ?_,fun r hr hm=> ?_⟩
  ·simp only[cond_true,List.any_cons,List.any_nil,Bool.or_false,beq_iff_eq] at h1;subst h1;exact⟨rul11_0,List.Mem.head _,rfl,h2⟩
  ·have hr:r∈[rul11_0]:=hr;rw[List.mem_singleton.1 hr];exact List.Mem.head _
 |false=>
 simp only[cond_false]
 cases s==[111,116,104,101,114,119,105,115,101] with
 |true=>exact none 12 rfl
 |false=>exact none 13 rfl
theorem keep_of {s:List UInt8}{l:List Ex.Att}(h:attrsOk (elM s) l=true)(ho:Ex.okAtts [] l):keepR (rulesL (elM s).kind) (l.map toA) 0=true:=by
 obtain⟨r1,r2⟩:=elR_of s;obtain⟨n1,_,n3⟩:=nodup_of l [] ho;unfold attrsOk at h;rw[Bool.and_eq_true] at h;obtain⟨h1,h2⟩:=h;rw[List.all_eq_true] at h1 h2
 refine keep_iff.2 ⟨n1,fun a ha=> ?_,fun r hr hm=> ?_⟩
 ·obtain⟨b,hb,rfl⟩:=List.mem_map.1 ha;have hb2:=h2 b hb;rw[Bool.and_eq_true] at hb2;obtain⟨r,hr,e1,e2⟩:=r1 b.name b.value hb2.1 hb2.2;exact⟨r,hr,e1,e2,quo_of (n3 b hb).2.2.2⟩
 ·have h3:=h1 r.name (r2 r hr hm);obtain⟨b,hb,e⟩:=List.any_eq_true.1 h3;exact⟨toA b,List.mem_map.2 ⟨b,hb,rfl⟩,eq_of_beq e⟩
end Go.Ai.Sp
end
section
namespace Go.Ai.Sp
open Go.Ai Go.RowKit
theorem text_step {t:Ex.Tok}{n:Nd}{r:List Nd}{pl:Int}(hk:t.kind=1)(hs:(stepP t ⟨n::r,pl,0⟩).e=0):(stepP t ⟨n::r,pl,0⟩).rows=n::r∨(n.kind≠7∧n.kind≠10∧(stepP t ⟨n::r,pl,0⟩).rows=addK n (.mk 2 t.fr t.text [] [])::r):=by
 have e1:stepP t ⟨n::r,pl,0⟩=textP t ⟨n::r,pl,0⟩:=by unfold stepP;rw[hk];rfl
 rw[e1] at hs⊢;unfold textP at hs⊢;simp only at hs⊢
 cases k2:n.kind==7||n.kind==10 with
 |true=>
  rw[k2] at hs;simp only[cond_true] at hs⊢
  cases k3:(trimM t.text).isEmpty with
  |true=>exact .inl rfl
  |false=>
   rw[k3] at hs
   exact absurd hs (fail_e _ _ (by decide) _)
 |false=>
  simp only[Bool.or_eq_false_iff,beq_eq_false_iff_ne] at k2;exact .inr ⟨k2.1,k2.2,rfl⟩
theorem beg_step {t:Ex.Tok}{n:Nd}{r:List Nd}{pl:Int}(hk:t.kind=2∨t.kind=3)(hs:(stepP t ⟨n::r,pl,0⟩).e=0):begOk (elM t.name) t n r=true∧
  (stepP t ⟨n::r,pl,0⟩).rows=bif emptyB (elM t.name) then addK n (.mk (elM t.name).kind t.fr [] (t.attrs.map toA) [])::r else .mk (elM t.name).kind t.fr [] (t.attrs.map toA) []::n::r:=by
 have e1:stepP t ⟨n::r,pl,0⟩=begP t ⟨n::r,pl,0⟩:=by unfold stepP;rcases hk with h|h<;>rw[h]<;>rfl
 rw[e1] at hs⊢;unfold begP at hs⊢;simp only at hs⊢;obtain⟨g1,g2⟩:=beg_ok (elM t.name) t n r ⟨n::r,pl,0⟩ rfl
 have hb:begOk (elM t.name) t n r=true:=by
  refine g1.1 ?_
  cases he3:emptyB (elM t.name)<;>rw[he3] at hs<;>exact hs
 refine⟨hb,?_⟩;rw[g2 hb]
 cases emptyB (elM t.name)<;>rfl
theorem hide_step {t:Ex.Tok}{n:Nd}{r:List Nd}{pl:Int}(hk:t.kind=5)(hs:(stepP t ⟨n::r,pl,0⟩).e=0):mayB n.kind (lastN n.kids) 14=true∧r.length+1≤16∧(stepP t ⟨n::r,pl,0⟩).rows=.mk 14 t.fr [] [] []::n::r:=by
 have e1:stepP t ⟨n::r,pl,0⟩=hideP t ⟨n::r,pl,0⟩:=by unfold stepP;rw[hk];rfl
 rw[e1] at hs⊢;unfold hideP at hs⊢;simp only at hs⊢
 refine⟨?_,?_,by trivial⟩
 ·cases h1:mayB n.kind (lastN n.kids) 14 with
  |true=>rfl
  |false=>
   rw[h1] at hs;exfalso;simp only[Bool.not_false,cond_true] at hs;have e1:failP t.fr 13 ⟨n::r,pl,0⟩=⟨n::r,t.fr,13⟩:=rfl;rw[e1] at hs
   cases h2:decide (16<r.length+1) with
   |true=>rw[h2] at hs;cases hs
   |false=>rw[h2] at hs;cases hs
 ·refine Nat.le_of_not_lt fun h=> ?_
  rw[decide_eq_true (show 16<r.length+1 from h)] at hs
  exact absurd hs (fail_e _ _ (by decide) _)
theorem end_step {t:Ex.Tok}{n:Nd}{r:List Nd}{pl:Int}(hk:t.kind=4∨t.kind=6)(hs:(stepP t ⟨n::r,pl,0⟩).e=0):endBad t n=false∧(stepP t ⟨n::r,pl,0⟩).rows=match r with
  |[]=>[n]
  |m::q=>addK m n::q:=by
 have e1:stepP t ⟨n::r,pl,0⟩=endP t ⟨n::r,pl,0⟩:=by unfold stepP;rcases hk with h|h<;>rw[h]<;>rfl
 rw[e1] at hs⊢;unfold endP at hs⊢;simp only at hs⊢
 cases hb:endBad t n with
 |true=>
  rw[hb] at hs
  exact absurd hs (fail_e _ _ (by decide) _)
 |false=>
  refine⟨rfl,?_⟩
  cases r<;>rfl
theorem raw_step {t:Ex.Tok}{n:Nd}{r:List Nd}{pl:Int}(hk:t.kind=7):stepP t ⟨n::r,pl,0⟩=⟨.mk n.kind n.pl t.text n.attrs n.kids::r,pl,0⟩:=by
 unfold stepP;rw[hk];rfl
theorem kind45 (s:List UInt8):((elM s).kind=4→s=Ex.inlineS)∧((elM s).kind=5→s=Ex.removeS):=by
 unfold elM
 cases s==[105,110,99,108,117,100,101] with
 |true=>exact⟨fun h=>(by cases h),fun h=>(by cases h)⟩
 |false=>
 simp only[cond_false]
 cases h:s==[105,110,108,105,110,101] with
 |true=>exact⟨fun _=>eq_of_beq h,fun h=>(by cases h)⟩
 |false=>
 simp only[cond_false]
 cases h:s==[114,101,109,111,118,101] with
 |true=>exact⟨fun h=>(by cases h),fun _=>eq_of_beq h⟩
 |false=>
 simp only[cond_false]
 repeat' (first|(cases (s==_)<;>simp only[cond_true,cond_false])|exact⟨fun h=>(by cases h),fun h=>(by cases h)⟩)
def topMay (r:List Nd)(k:Int):Prop:=match r with
 |m::_=>mayB m.kind (lastN m.kids) k=true
 |[]=>False
inductive RI:Bool→List Nd→Prop
 |base {n:Nd}:n.kind=1→n.text=[]→n.attrs=[]→KOk 1 1 false n.kids→RI false [n]
 |up {hid:Bool} {n:Nd} {r:List Nd}:RI hid r→7≤n.kind→n.kind≤14→(n.kind=14→hid=false)→n.text=[]→keepR (rulesL n.kind) n.attrs 0=true→r.length≤16→topMay r n.kind→KOk n.kind ((r.length:Int)+1) (hid||n.kind==14) n.kids→RI (hid||n.kind==14) (n::r)
theorem RI.ne {hid:Bool}{r:List Nd}(h:RI hid r):r≠[]:=by cases h<;>simp
theorem RI.add {hid:Bool}{n k:Nd}{r:List Nd}(h:RI hid (n::r))(hm:mayB n.kind (lastN n.kids) k.kind=true)(h2:2≤k.kind)(h14:k.kind≤14)(hc:k.chk ((r.length:Int)+1) hid (lastN n.kids)=0):RI hid (addK n k::r):=by
 cases h with
 |base a1 a2 a3 a4=>exact .base a1 a2 a3 (.snoc a4 (by rw[a1] at hm;exact hm) h2 h14 hc)
 |up b1 b2 b3 b4 b5 b6 b7 b8 b9=>exact .up (n:=addK n k) b1 b2 b3 b4 b5 b6 b7 b8 (.snoc b9 hm h2 h14 hc)
def lastT (r:List Nd):Int:=match r with
 |m::_=>lastN m.kids
 |[]=>0
theorem lastT_add (n k:Nd)(r:List Nd):lastT (addK n k::r)=k.kind:=lastN_snoc _ _
theorem chk_leaf {k p:Int}{t:List UInt8}{al:List Go.Ai.Att}{d:Int}{hid:Bool}{b:Int}(h:formE k t al 0 d hid b=0):(Nd.mk k p t al []).chk d hid b=0:=chk_mk.2 ⟨h,rfl⟩
theorem fnd_none {x:List UInt8}:∀{s:List UInt8},Ex.fnd x s=none→x≠[]→contB s x=false
 |[],h,hx=>by
  cases x with
  |nil=>exact absurd rfl hx
  |cons c y=>rfl
 |c::s,h,hx=>by
  unfold Ex.fnd at h;split at h
  ·cases h
  ·rename_i h1
   have h2:Ex.fnd x s=none:=by simpa using h
   have ih:=fnd_none h2 hx
   cases hc:contB (c::s) x with
   |false=>rfl
   |true=>
    obtain⟨j,hj,hp⟩:=contB_iff.1 hc
    cases j with
    |zero=>exact absurd hp h1
    |succ j=>
     have:contB s x=true:=contB_iff.2 ⟨j,by simpa using hj,by simpa using hp⟩
     rw[ih] at this;cases this
theorem raw_no {x t:List UInt8}(hx:x≠[])(h:Ex.fnd x (t++x)=some t.length):contB t x=false:=by
 cases hc:contB t x with
 |false=>rfl
 |true=>
  obtain⟨j,hj,hp⟩:=contB_iff.1 hc;have hp':=List.isPrefixOf_iff_prefix.1 hp
  have hlt:j<t.length:=by
   refine Nat.lt_of_le_of_ne hj fun e=> ?_
   rw[e,List.drop_length] at hp';exact hx (List.prefix_nil.1 hp')
  have:=(Ex.fnd_at h).2 j hlt;rw[List.drop_append_of_le_length hj] at this;rw[List.isPrefixOf_iff_prefix.2 (hp'.trans (List.prefix_append _ _))] at this;cases this
theorem form_of {k:Int}{t:List UInt8}{al:List Go.Ai.Att}{len:Nat}{d:Int}{hid:Bool}{b:Int}(h1:k=14→hid=false)(h2:k≠2)(h3:d≤16)(h4:keepR (rulesL k) al 0=true)(h5:textB k t hid=true)(h6:leafB k=true→len=0)(h7:k=7→len=2)(h10:k=10→len≠0):formE k t al len d hid b=0:=
 form_ok.2 ⟨fun e=>(by rw[h1 e.1] at e;cases e.2),.inr h3,h4,h5,fun e=>h2 e.1,h6,h7,h10⟩
theorem textB_nil {k:Int}{hid:Bool}(h2:k≠2)(h4:k≠4)(h5:k≠5):textB k [] hid=true:=by
 have e1:(k==2)=false:=by simpa using h2
 have e2:(k==4)=false:=by simpa using h4
 have e3:(k==5)=false:=by simpa using h5
 unfold textB;rw[e1,e2,e3];rfl
end Go.Ai.Sp
end
section
namespace Go.Ai.Sp
open Go.Ai Go.RowKit
theorem empty_kind {x:El}(h:emptyB x=true):x.kind=3∨x.kind=6:=by
 unfold emptyB at h;simpa using h
theorem begOk_iff {x:El}{t:Ex.Tok}{n:Nd}{r:List Nd}(h:begOk x t n r=true):emptyB x=(t.kind==3)∧mayB n.kind (lastN n.kids) x.kind=true∧r.length+1≤16∧attrsOk x t.attrs=true:=by
 unfold begOk at h;simp only[Bool.and_eq_true,decide_eq_true_eq,Bool.not_eq_true',Bool.or_eq_false_iff,bne_eq_false_iff_eq,Bool.not_eq_false'] at h;exact⟨h.1.1,h.1.2,h.2.1,h.2.2⟩
theorem RI.close {hid:Bool}{n m:Nd}{q:List Nd}(h:RI hid (n::m::q))(h7:n.kind=7→lastN n.kids=9)(h10:n.kind=10→lastN n.kids≠0):∃hid0,RI hid0 (addK m n::q)∧hid=(hid0||n.kind==14)∧(n.kind=14→hid0=false):=by
 cases h with
 | @up hid0 _ _ b1 b2 b3 b4 b5 b6 b7 b8 b9=>
  refine⟨hid0,?_,rfl,b4⟩;obtain⟨k,p,t,al,ks⟩:=n;simp only[Nd.kind,Nd.text,Nd.attrs,Nd.kids] at *
  refine b1.add b8 (by show 2≤k;omega) b3 (chk_mk.2 ⟨?_,?_⟩)
  ·subst b5
   refine form_of b4 (by omega) (by simp only[List.length_cons] at b7;omega) b6 (textB_nil (by omega) (by omega) (by omega)) (fun hl=> ?_) (fun e=> ?_) (fun e=> ?_)
   ·exfalso;unfold leafB at hl;simp only[Bool.and_eq_true,decide_eq_true_eq] at hl;omega
   ·subst e;exact(kok_all b9).2.2.1 rfl (h7 rfl)
   ·intro e0;have:ks=[]:=List.eq_nil_of_length_eq_zero e0;subst this;exact h10 e rfl
  ·have:=kok_chks b9
   have e:(((m::q).length:Nat):Int)=(q.length:Int)+1:=by simp
   rw[e] at this;exact this
theorem bad_iff {t:Ex.Tok}{n:Nd}(h:endBad t n=false):n.kind=endK t∧(endK t=7→lastN n.kids=9)∧(endK t=10→lastN n.kids≠0):=by
 unfold endBad at h;simp only[Bool.or_eq_false_iff,Bool.not_eq_false',beq_iff_eq,Bool.and_eq_false_iff,beq_eq_false_iff_ne] at h;obtain⟨h1,h2,h3⟩:=h
 exact⟨h1,fun e=>h2.resolve_left (fun h=>h e),fun e=>h3.resolve_left (fun h=>h e)⟩
theorem RI.one {hid:Bool}{R:List Nd}(h:RI hid R):∀n,R=[n]→hid=false∧n.kind=1∧n.text=[]∧n.attrs=[]∧KOk 1 1 false n.kids:=by
 cases h with
 |base a1 a2 a3 a4=>
  intro n e
  injection e with e _
  subst e;exact⟨rfl,a1,a2,a3,a4⟩
 |up b1=>
  intro n e
  injection e with _ e
  subst e;exact absurd rfl b1.ne
theorem ps_eq' {S:Ps}{R:List Nd}(h1:S.rows=R)(h2:S.e=0):S=⟨R,S.pl,0⟩:=by
 obtain⟨rows,pl,e⟩:=S;simp only at h1 h2;rw[h1,h2]
theorem may_run :∀(N:Nat) (l:List Ex.Tok) (hid:Bool) (rows:List Nd) (pl:Int),l.length≤N→Ex.VG hid l→RI hid rows→(∀u q,l=u::q→u.kind=1→lastT rows≠2)→(parseL l ⟨rows,pl,0⟩).e=0→RI false (parseL l ⟨rows,pl,0⟩).rows
 |N,[],hid,rows,pl,_,hv,hr,_,_=>by
  cases hv;exact hr
 |0,_::_,_,_,_,hN,_,_,_,_=>by simp at hN
 |N+1,t::l,hid,rows,pl,hN,hv,hr,ht,h=>by
  obtain⟨n,r,rfl⟩:=List.exists_cons_of_ne_nil hr.ne;obtain⟨h1,h2⟩:=parse_e h;rw[(parse_cons t l _).1 h1]
  have hl:l.length≤N:=by simpa using hN
  have go:∀(hid':Bool) (rows':List Nd),Ex.VG hid' l→(stepP t ⟨n::r,pl,0⟩).rows=rows'→RI hid' rows'→(∀u q,l=u::q→u.kind=1→lastT rows'≠2)→RI false (parseL l (stepP t ⟨n::r,pl,0⟩)).rows:=by
   intro hid' rows' g1 g2 g3 g4;rw[ps_eq' g2 h1] at h2⊢;exact may_run N l hid' rows' _ hl g1 g3 g4 h2
  cases hv with
  |text v1 v2 v3 v4 v5 v6 v7=>
   rcases text_step v1 h1 with e|⟨e7,e10,e⟩
   ·exact go hid _ v7 e hr (fun u q hu hk=>absurd hk (v6 u q hu))
   ·refine go hid _ v7 e (hr.add ((mayO e7 e10).2 ⟨by show(2:Int)≠8;decide,by show(2:Int)≠9;decide,by show(2:Int)≠11;decide,by show(2:Int)≠12;decide⟩) (by show(2:Int)≤2;decide) (by show(2:Int)≤14;decide) (chk_leaf ?_)) (fun u q hu hk=>absurd hk (v6 u q hu))
    exact form_ok.2 ⟨fun e=>(by cases e.1),.inl rfl,rfl,spec_text v4 v5,fun e=>ht _ _ rfl v1 e.2,fun _=>rfl,fun e=>(by cases e),fun e=>(by cases e)⟩
  |tag v1 v2 v3 v4=>
   have hk:t.kind=2∨t.kind=3:=by
    rcases v1 with h|⟨h,_⟩
    ·exact .inr h
    ·exact .inl h
   obtain⟨hb,e⟩:=beg_step hk h1;obtain⟨b1,b2,b3,b4⟩:=begOk_iff hb;have hkeep:=keep_of b4 v3;have hkk:=elM_kinds t.name
   cases he:emptyB (elM t.name) with
   |true=>
    rw[he] at e;have h36:=empty_kind he
    refine go hid _ v4 e (hr.add b2 (by show 2≤(elM t.name).kind;omega) (by show(elM t.name).kind≤14;omega) (chk_leaf ?_)) (fun u q _ _=>by
     show lastT (addK n _::r)≠2;rw[lastT_add];show(elM t.name).kind≠2
     omega)
    exact form_of (fun e=>by omega) (by omega) (by omega) hkeep (textB_nil (by omega) (by omega) (by omega)) (fun _=>rfl) (fun e=>by omega) (fun e=>by omega)
   |false=>
    rw[he] at e b1
    have hk2:t.kind=2:=by
     rcases hk with h|h
     ·exact h
     ·rw[h] at b1;cases b1
    have hown:Ex.ownB t=false:=by
     rcases v1 with h|⟨_,h⟩
     ·omega
     ·exact h
    have hne:¬(t.name=Ex.removeS∨t.name=Ex.inlineS):=fun hn=>by
     unfold Ex.ownB at hown;rw[hk2] at hown
     rcases hn with hn|hn<;>rw[hn] at hown<;>cases hown
    have h4:(elM t.name).kind≠4:=fun h=>hne (.inr ((kind45 _).1 h))
    have h5:(elM t.name).kind≠5:=fun h=>hne (.inl ((kind45 _).2 h))
    have h3:(elM t.name).kind≠3∧(elM t.name).kind≠6:=by
     unfold emptyB at he;simpa using he
    have e14:((elM t.name).kind==14)=false:=by
     rw[beq_eq_false_iff_ne];omega
    have hx:hid=(hid||(elM t.name).kind==14):=by rw[e14,Bool.or_false]
    have hup:=RI.up (n:=.mk (elM t.name).kind t.fr [] (t.attrs.map toA) []) hr (by show 7≤(elM t.name).kind;omega) (by show(elM t.name).kind≤14;omega) (fun e=>by have e:(elM t.name).kind=14:=e;omega) rfl hkeep (by simpa using b3) b2 .nil
    refine go hid _ v4 e ?_ (fun u q _ _=>by show lastN []≠2;decide)
    have hup:RI (hid||(elM t.name).kind==14) _:=hup;rw[←hx] at hup;exact hup
  | @own _ _ a c q v1 v2 v3 v4 v5 v6 v7 v8 v9 v10 v11=>
   obtain⟨hb,e⟩:=beg_step (.inl v1) h1;obtain⟨b1,b2,b3,b4⟩:=begOk_iff hb;have hkeep:=keep_of b4 v3
   have he:emptyB (elM t.name)=false:=by rw[b1,v1];rfl
   rw[he] at e;simp only[cond_false] at e
   have h45:(elM t.name).kind=4∧t.name=Ex.inlineS∨(elM t.name).kind=5∧t.name=Ex.removeS:=by
    rcases v2 with h|h<;>rw[h]
    ·exact .inr ⟨rfl,rfl⟩
    ·exact .inl ⟨rfl,rfl⟩
   rw[ps_eq' e h1] at h2⊢;obtain⟨h3,h4⟩:=parse_e h2;rw[(parse_cons a _ _).1 h3];rw[raw_step v4] at h3 h4⊢;obtain⟨h5,h6⟩:=parse_e h4;rw[(parse_cons c _ _).1 h5];obtain⟨c1,c2⟩:=end_step (.inl v7) h5;simp only at c2;rw[ps_eq' c2 h5] at h6⊢
   have hv2:Ex.VG hid q:=by
    cases v11 with
    |text w1=>omega
    |tag w1=>omega
    |own w1=>omega
    |close w1 w2 w3 w4=>exact w4
    |hide w1=>omega
    |shown w1=>omega
   have hkk:=elM_kinds t.name
   have hadd:RI hid (addK n (.mk (elM t.name).kind t.fr a.text (t.attrs.map toA) [])::r):=by
    refine hr.add b2 (by show 2≤(elM t.name).kind;omega) (by show(elM t.name).kind≤14;omega) (chk_leaf ?_)
    refine form_of (fun e=>by omega) (by omega) (by omega) hkeep ?_ (fun _=>rfl) (fun e=>by omega) (fun e=>by omega)
    rcases h45 with ⟨k4,hn⟩|⟨k5,hn⟩
    ·rw[k4];rw[hn] at v9;show(!contB a.text inl1)=true
     rw[raw_no (x:=inl1) (by decide) v9]
     rfl
    ·rw[k5];rw[hn] at v9;show(!contB a.text rem1&& !contB a.text esi1)=true
     rw[raw_no (x:=rem1) (by decide) v9,fnd_none (x:=esi1) (v10 hn) (by decide)]
     rfl
   refine may_run N q hid _ _ (by simp only[List.length_cons] at hl;omega) hv2 hadd (fun u q' _ _=> ?_) h6
   rw[lastT_add];show(elM t.name).kind≠2;omega
  |close v1 v2 v3 v4=>
   obtain⟨c1,c2⟩:=end_step (.inl v1) h1;obtain⟨d1,d2,d3⟩:=bad_iff c1
   have ek:endK t=(elM t.name).kind:=by unfold endK;rw[v1];rfl
   have hkk:=elM_kinds t.name
   cases r with
   |nil=>
    have:=(hr.one _ rfl).2.1;omega
   |cons m q=>
    obtain⟨hid0,x1,x2,x3⟩:=hr.close (by rw[d1];exact d2) (by rw[d1];exact d3)
    have e14:(n.kind==14)=false:=by
     rw[beq_eq_false_iff_ne];omega
    rw[e14,Bool.or_false] at x2;subst x2
    refine go hid _ v4 c2 x1 (fun u q' _ _=> ?_)
    rw[lastT_add];omega
  |hide v1 v2 v3 v4=>
   obtain⟨c1,c2,c3⟩:=hide_step v1 h1
   have hup:=RI.up (n:=.mk 14 t.fr [] [] []) hr (by show(7:Int)≤14;decide) (by show(14:Int)≤14;decide) (fun _=>rfl) rfl rfl (by simpa using c2) c1 .nil
   exact go true _ v4 c3 hup (fun u q _ _=>by show lastN []≠2;decide)
  |shown v1 v2 v3 v4 v5=>
   obtain⟨c1,c2⟩:=end_step (.inr v1) h1;obtain⟨d1,d2,d3⟩:=bad_iff c1
   have ek:endK t=14:=by unfold endK;rw[v1];rfl
   cases r with
   |nil=>have:=(hr.one _ rfl).1;cases this
   |cons m q=>
    obtain⟨hid0,x1,x2,x3⟩:=hr.close (by rw[d1];exact d2) (by rw[d1];exact d3)
    rw[x3 (by omega)] at x1
    refine go false _ v5 c2 x1 (fun u q' _ _=> ?_)
    rw[lastT_add];omega
theorem may_page {s:List UInt8}{n:Nd}(h:parseM s=.ok n):n.page=0:=by
 have he:parseE s=0:=by unfold parseE;rw[h];rfl
 obtain⟨n',l,p,hn,hm,hl,hp⟩:=parse_has he;rw[h] at hm
 injection hm with hm
 subst hm
 have hr:=may_run l.length l false page0.rows 0 (Nat.le_refl _) (Ex.lexM_good hl) (.base rfl rfl rfl .nil) (fun _ _ _ _=>by show lastN []≠2;decide) (by show(parseL l page0).e=0;rw[hp])
 have hr:RI false (parseL l page0).rows:=hr;rw[hp] at hr;obtain⟨_,a1,a2,a3,a4⟩:=hr.one _ rfl;obtain⟨k,pp,t,al,ks⟩:=n;simp only[Nd.kind,Nd.text,Nd.attrs,Nd.kids] at a1 a2 a3 a4;subst a1 a2 a3;unfold Nd.page;show(Nd.mk 1 pp [] [] ks).chk 0 false 0=0
 refine chk_mk.2 ⟨form_of (fun e=>rfl) (by decide) (by decide) rfl rfl (fun e=>by cases e) (fun e=>by cases e) (fun e=>by cases e),kok_chks a4⟩
end Go.Ai.Sp
end
