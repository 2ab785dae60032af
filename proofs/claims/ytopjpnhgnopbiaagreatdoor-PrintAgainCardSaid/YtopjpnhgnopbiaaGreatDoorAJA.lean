/-
  Pieces of a page's text, in plain terms, and the laws of them that the row wants. No statement about the program is made here.
-/
import Derived.Test.YtopjpnhgnopbiaaGreatDoorAAiLaw
import Derived.Test.YtopjpnhgnopbiaaGreatDoorAAiSymP
import Derived.Test.YtopjpnhgnopbiaaGreatDoorAAiPrims
set_option linter.unusedVariables false
set_option linter.unusedSimpArgs false
set_option linter.unnecessarySimpa false
section
namespace Go.Ai.Ex
open Go.Ai Go.RowKit
def Cx (x:List UInt8):List UInt8->Option Nat
 |[]=>if x.isEmpty=true then some 0 else none
 |c::r=>if x.isPrefixOf (c::r)=true then some 0 else(Cx x r).map (·+ 1)
def OK (c:UInt8):Bool:=decide (97<=c.toNat)&&decide (c.toNat<=122)
def blB (c:UInt8):Bool:=c==32||c==9||c==10||c==13
def Al :List UInt8:=[60,101,115,105,58]
def Ab :List UInt8:=[60,47,101,115,105,58]
def Cf :List UInt8:=[60,33,45,45,101,115,105]
def BS :List UInt8:=[45,45,62]
def BP :List UInt8:=[114,101,109,111,118,101]
def CU :List UInt8:=[105,110,108,105,110,101]
def LQ :List (List UInt8):=[[105,110,99,108,117,100,101],CU,BP,[99,111,109,109,101,110,116],[116,114,121],[97,116,116,101,109,112,116],[101,120,99,101,112,116],[99,104,111,111,115,101],[119,104,101,110],
 [111,116,104,101,114,119,105,115,101],[118,97,114,115]]
def CX (n:List UInt8):Bool:=LQ.any (·==n)
def lets (s:List UInt8)(at':Nat):Nat:=((s.drop at').takeWhile OK).length
def past (s:List UInt8)(at':Nat):Nat:=at'+((s.drop at').takeWhile blB).length
def has (s x:List UInt8)(at':Nat):Bool:=x.isPrefixOf (s.drop at')
structure Ak where
 name:List UInt8
 value:List UInt8
 at':Nat
structure Tok where
 kind:Int
 name:List UInt8
 attrs:List Ak
 text:List UInt8
 fr:Nat
 to:Nat
def Ao (a:Ak):List AV:=[.str a.name,.str a.value,.int .i64 a.at']
def encAs (l:List Ak):List (List AV):=l.map Ao
def encT (t:Tok):List AV:=[.int .i64 t.kind,.str t.name,.sl 3 (encAs t.attrs) none,.str t.text,.int .i64 t.fr,.int .i64 t.to]
def encTs (l:List Tok):List (List AV):=l.map encT
abbrev Xu :=Nat×Int
def cut (s:List UInt8)(a b:Nat):List UInt8:=(s.drop a).take (b-a)
def FJ (s:List UInt8)(at' tag:Nat)(l:List Ak):Except Xu (Ak×Nat):=
 let n:=min (lets s at') 16
 let nm:=(s.drop at').take n
 let i:=at'+n
 if l.any (fun a=>nm==a.name)=true then .error (at',12) else
 if s.length<=i then .error (tag,14) else
 if n=0\/s.getD i 0≠61 then .error (i,12) else
 if s.length<=i+1 then .error (tag,14) else
 if s.getD (i+1) 0≠34/\s.getD (i+1) 0≠39 then .error (i+1,12) else
 match Cx [s.getD (i+1) 0] (s.drop (i+2)) with
 |none=>.error (tag,14)
 |some k=>.ok (⟨nm,(s.drop (i+2)).take k,at'⟩,i+2+k+1)
def A8 (s:List UInt8)(tag:Nat):Nat->Nat->List Ak->Except Xu (List Ak×Nat)
 |0,at',l=>.error (tag,14)
 |f+1,at',l=>
  let next:=past s at'
  if s.length<=next then .error (tag,14) else
  if s.getD next 0=62\/s.getD next 0=47 then .ok (l,next) else
  if next=at' then .error (at',12) else
  match FJ s next tag l with
  |.error e=>.error e
  |.ok (a,b)=>A8 s tag f b (l++[a])
def Da (s:List UInt8)(tag:Nat)(nm:List UInt8)(l:List Ak)(at':Nat):Except Xu Tok:=
 let k:=if s.getD at' 0=47 then 1 else 0
 if s.length<=at'+k then .error (tag,14) else
 if s.getD (at'+k) 0≠62 then .error (at'+k,12) else
 .ok ⟨if k=1 then 3 else 2,nm,l,cut s tag (at'+k+1),tag,at'+k+1⟩
def Gp (s:List UInt8)(tag:Nat):Except Xu Tok:=
 let n:=lets s (tag+5)
 let nm:=(s.drop (tag+5)).take n
 if CX nm=false then .error (tag,11) else
 match A8 s tag (s.length+1) (tag+5+n) [] with
 |.error e=>.error e
 |.ok (l,b)=>Da s tag nm l b
def IT (s:List UInt8)(t:Tok):Except Xu (List Tok):=
 if t.kind=2/\(t.name=BP\/t.name=CU) then
  match Cx (Ab++t.name) (s.drop t.to) with
  |none=>.error (t.fr,14)
  |some n=>match Cx Al ((s.drop t.to).take n),decide (t.name=BP) with
   |some k,true=>.error (t.to+k,13)
   |_,_=>.ok [t,⟨7,[],[],(s.drop t.to).take n,t.to,t.to+n⟩]
 else .ok [t]
def CK (s:List UInt8)(tag:Nat):Except Xu Tok:=
 let n:=lets s (tag+6)
 let nm:=(s.drop (tag+6)).take n
 if CX nm=false then .error (tag,11) else
 let b:=past s (tag+6+n)
 if s.length<=b then .error (tag,14) else
 if s.getD b 0≠62 then .error (tag,11) else
 .ok ⟨4,nm,[],cut s tag (b+1),tag,b+1⟩
def EY (s:List UInt8)(at':Nat):Bool:=has s Cf at'&&(decide (at'+7<s.length)&&blB (s.getD (at'+7) 0))
def spec (s:List UInt8)(at':Nat)(hid:Bool):Bool:=has s Al at'||(has s Ab at'||(EY s at'||(has s BS at'&&hid)))
def DW (s:List UInt8)(at':Nat)(hid:Option Nat):Except Xu (List Tok×Option Nat):=
 if has s Al at'=true then
  match Gp s at' with
  |.error e=>.error e
  |.ok t=>match IT s t with
   |.error e=>.error e
   |.ok l=>.ok (l,hid)
 else if has s Ab at'=true then
  match CK s at' with
  |.error e=>.error e
  |.ok t=>.ok ([t],hid)
 else if EY s at'=true then
  (if hid.isSome=true then .error (at',13) else .ok ([⟨5,[],[],cut s at' (at'+8),at',at'+8⟩],some at'))
 else .ok ([⟨6,[],[],BS,at',at'+3⟩],none)
def Cj (s:List UInt8)(hid:Bool):Nat->Nat->Nat
 |0,at'=>at'
 |f+1,at'=>if s.length<=at'\/spec s at' hid=true then at' else Cj s hid f (at'+1)
def Cs (l:List Tok)(d:Nat):Nat:=match l.getLast? with
 |some t=>t.to
 |none=>d
def DR (s:List UInt8):Nat->Nat->Option Nat->Except Xu (List Tok)
 |0,_,_=>.ok []
 |f+1,at',hid=>
  if s.length<=at' then(match hid with|some h=>.error (h,14)|none=>.ok []) else
  if spec s at' hid.isSome=true then
   match DW s at' hid with
   |.error e=>.error e
   |.ok (l,hid2)=>match DR s f (Cs l (at'+1)) hid2 with
    |.error e=>.error e
    |.ok r=>.ok (l++r)
  else
   let to:=Cj s hid.isSome (s.length-at') at'
   match DR s f to hid with
   |.error e=>.error e
   |.ok r=>.ok (⟨1,[],[],cut s at' to,at',to⟩::r)
def lexM (s:List UInt8):Except Xu (List Tok):=DR s (s.length+1) 0 none
def Dp :G7:=fun k vs=>match Nat.beq k 39,vs with
 |true,[.int .i64 p,.int .i64 e]=>some (p,e)
 |_,_=>none
def hX (s:List UInt8)(at':Int)(L:List (List AV))(hid:Int):Hp:=
 [.grow 0 6 50,.mem 41 [.sl 6 [] (some 0)],.mem 3 [.int .i64 0],.mem 27 [.int .i64 0],.grow L.length 6 50,.mem 89 [.str s,.int .i64 at',.sl 6 L (some 4),.int .i64 hid]]
def rT (k:Int)(nm:List UInt8)(es:List (List AV)):Hp:=[.grow es.length 3 80,.grow 0 3 80,.mem 50 [.int .i64 k,.str nm,.sl 3 es (some 6),.str [],.int .i64 0,.int .i64 0]]
def PM (s:List UInt8)(at':Int)(L:List (List AV))(hid k:Int)(nm:List UInt8)(es:List (List AV)):Hp:=[.grow 0 6 50,.mem 41 [.sl 6 [] (some 0)],.mem 3 [.int .i64 0],.mem 27 [.int .i64 0],.grow L.length 6 50,.mem 89 [.str s,.int .i64 at',.sl 6 L (some 4),.int .i64 hid],
 .grow es.length 3 80,.grow 0 3 80,.mem 50 [.int .i64 k,.str nm,.sl 3 es (some 6),.str [],.int .i64 0,.int .i64 0]]
def xu (s:List UInt8)(at':Int)(L:List (List AV))(hid k:Int)(nm:List UInt8)(es:List (List AV)):Hp:=[.grow 0 6 50,.mem 41 [.sl 6 [] (some 0)],.mem 3 [.int .i64 0],.mem 27 [.int .i64 0],.grow L.length 6 50,.mem 89 [.str s,.int .i64 at',.sl 6 L (some 4),.int .i64 hid],
 .grow es.length 3 80,.grow 0 3 80,.mem 50 [.int .i64 k,.str nm,.sl 3 es (some 6),.str [],.int .i64 0,.int .i64 0],.mem 80 [.str [],.str [],.int .i64 0]]
def ie (s:List UInt8)(at':Int)(L:List (List AV))(hid k:Int)(nm:List UInt8)(es:List (List AV))(an av:List UInt8)(aa:Int):Hp:=[.grow 0 6 50,.mem 41 [.sl 6 [] (some 0)],.mem 3 [.int .i64 0],.mem 27 [.int .i64 0],.grow L.length 6 50,.mem 89 [.str s,.int .i64 at',.sl 6 L (some 4),.int .i64 hid],
 .grow es.length 3 80,.grow 0 3 80,.mem 50 [.int .i64 k,.str nm,.sl 3 es (some 6),.str [],.int .i64 0,.int .i64 0],.mem 80 [.str [],.str [],.int .i64 0],.mem 80 [.str an,.str av,.int .i64 aa]]
def rA (k:Int)(nm:List UInt8)(es:List (List AV))(an av:List UInt8)(aa:Int):Hp:=rT k nm es++[.mem 80 [.str [],.str [],.int .i64 0],.mem 80 [.str an,.str av,.int .i64 aa]]
def hG (s:List UInt8)(at':Int)(L:List (List AV))(hid:Int):Hp:=[.grow 0 6 50,.mem 41 [.sl 6 [] (some 0)],.mem 3 [.int .i64 0],.mem 27 [.int .i64 0],.grow L.length 6 50,.mem 89 [.str s,.int .i64 at',.sl 6 L (some 4),.int .i64 hid],.grow 0 3 80]
def qM (s:List UInt8)(at':Int)(L:List (List AV))(hid k:Int)(nm:List UInt8)(es:List (List AV)):Hp:=[.grow 0 6 50,.mem 41 [.sl 6 [] (some 0)],.mem 3 [.int .i64 0],.mem 27 [.int .i64 0],.grow L.length 6 50,.mem 89 [.str s,.int .i64 at',.sl 6 L (some 4),.int .i64 hid],
 .grow es.length 3 80,.grow 0 3 80,.mem 50 [.int .i64 k,.str nm,.sl 3 es (some 6),.str [],.int .i64 0,.int .i64 0],.grow 0 3 80]
def _root_.Am.Ef (r:Hp)(L:List (List AV)):Prop:=∀(n:Nat) (g:Hp),6+r.length<=n->r.map (AN n g)=r/\AE n g L=L
def limE :Nat:=1000000
def KG (r:Hp)(s:List UInt8)(KP:PX->Hp->Prop)(x:PX):Prop:=∀(a:Int) (L:List (List AV)) (hid:Int),KP x (hX s a L hid++r)
def Cq :JF:=fun vs h K KP=>∃p e:Int,vs=[.int .i64 p,.int .i64 e]/\KP (p,e) h
def Ji :Ce:=fun vs h K=>∃c:UInt8,vs=[.int .u8 c.toNat]/\K (.bool (OK c)) h
def N7 :Ce:=fun vs h K=>∃c:UInt8,vs=[.int .u8 c.toNat]/\K (.bool (blB c)) h
def V5 :Ce:=fun vs h K=>∃s x:List UInt8,vs=[.str s,.str x]/\K (.bool (x.isPrefixOf s)) h
def dC :Ce:=fun vs h K=>∃s x:List UInt8,s.length<=limE/\vs=[.str s,.str x]/\K (.int .i64 (JY s x 0)) h
def dD :Ce:=fun vs h K=>∃(s:List UInt8) (c:UInt8),s.length<=limE/\vs=[.str s,.int .u8 c.toNat]/\K (.int .i64 (Lib.indexByte s c)) h
def U5 :Ce:=fun vs h K=>∃s:List UInt8,vs=[.str s]/\s=[105,110,99,108,117,100,101,32,105,110,108,105,110,101,32,114,101,109,111,118,101,32,99,111,109,109,101,110,116,32,116,114,121,32,97,116,116,101,109,112,116,32,101,120,99,101,112,116,32,99,104,111,111,115,101,32,119,104,101,110,32,111,116,104,101,114,119,105,115,101,32,118,97,114,115]/\K (.sl 1 (LQ.map fun n=>[.str n]) none) h
def oC :Ce:=fun vs h K=>∃(l:List (List UInt8)) (x:List UInt8),vs=[.sl 1 (l.map fun n=>[.str n]) none,.str x]/\l.length<=limE/\K (.bool (l.any (·==x))) h
def gr :Ce:=fun vs h K=>∃(l:List (List UInt8)) (x:List UInt8),vs=[.sl 1 (l.map fun n=>[.str n]) none,.str x]/\l.length<=limE/\∀z:Int,decide (z>=0)=(l.any (·==x))->K (.int .i64 z) h
def IW :JF:=fun vs h K KP=>∃(r:Hp) (s:List UInt8) (a:Nat) (L:List (List AV)) (hid tag:Int),Am.Ef r L/\a<=s.length/\s.length<=limE/\vs=[.ptr 5 0,.int .i64 tag]/\h=hX s a L hid++r/\
 (a=s.length->KP (tag,14) h)/\(a<s.length->K (.int .u8 (s.getD a 0).toNat) h)
def eH :Ce:=fun vs h K=>∃(s:List UInt8) (a:Nat) (L:List (List AV)) (hid:Int),Am.Ef [] L/\a<=s.length/\s.length<=limE/\vs=[.ptr 5 0]/\h=hX s a L hid/\K (.str ((s.drop a).take (lets s a))) (hX s ((a+lets s a:Nat):Int) L hid)
def rP :Ce:=fun vs h K=>∃(r:Hp) (s:List UInt8) (a:Nat) (L:List (List AV)) (hid:Int),Am.Ef r L/\a<=s.length/\s.length<=limE/\vs=[.ptr 5 0]/\h=hX s a L hid++r/\K (.int .i64 ((past s a-a:Nat):Int)) (hX s ((past s a:Nat):Int) L hid++r)
def Qo :JF:=fun vs h K KP=>∃(s:List UInt8) (a:Nat) (L:List (List AV)) (hid tag:Int),Am.Ef [] L/\a<=s.length/\s.length<=limE/\vs=[.ptr 5 0,.int .i64 tag]/\h=hX s a L hid/\
 (CX ((s.drop a).take (lets s a))=false->KG [] s KP (tag,11))/\(CX ((s.drop a).take (lets s a))=true->K (.str ((s.drop a).take (lets s a))) (hX s ((a+lets s a:Nat):Int) L hid))
def re :JF:=fun vs h K KP=>∃(r:Hp) (s:List UInt8) (a:Nat) (L:List (List AV)) (hid tag:Int) (is:Bool),Am.Ef r L/\a<=s.length/\s.length<=limE/\vs=[.ptr 5 0,.int .i64 tag,.bool is]/\h=hX s a L hid++r/\
 (a=s.length->KP (tag,14) h)/\(a<s.length->is=false->KP ((a:Int),12) h)/\(a<s.length->is=true->K (.tup []) (hX s ((a+1:Nat):Int) L hid++r))
def T8 :Ce:=fun vs h K=>∃(s:List UInt8) (a:Int) (L:List (List AV)) (hid k:Int) (nm:List UInt8) (es:List (List AV)) (an av:List UInt8) (aa:Int) (b:Ak),Am.Ef (rA k nm es an av aa) L/\vs=[.agg (Ao b),.ptr 10 0]/\h=ie s a L hid k nm es an av aa/\K (.bool (an==b.name)) h
def jC :Ce:=fun vs h K=>∃(s:List UInt8) (a:Int) (L:List (List AV)) (hid k:Int) (nm:List UInt8) (l:List Ak) (an av:List UInt8) (aa:Int),Am.Ef (rA k nm (encAs l) an av aa) L/\vs=[.sl 3 (encAs l) (some 6),.fn (.func 119) [] [.ptr 10 0]]/\l.length<=limE/\
 h=ie s a L hid k nm (encAs l) an av aa/\K (.bool (l.any fun b=>an==b.name)) h
def mR :Ce:=fun vs h K=>∃(s:List UInt8) (a:Int) (L:List (List AV)) (hid k:Int) (nm:List UInt8) (l:List Ak) (an av:List UInt8) (aa:Int),Am.Ef (rA k nm (encAs l) an av aa) L/\vs=[.sl 3 (encAs l) (some 6),.fn (.func 119) [] [.ptr 10 0]]/\l.length<=limE/\
 h=ie s a L hid k nm (encAs l) an av aa/\∀z:Int,decide (z>=0)=(l.any fun b=>an==b.name)->K (.int .i64 z) h
def Xb :JF:=fun vs h K KP=>∃(s:List UInt8) (a:Nat) (L:List (List AV)) (hid tag k:Int) (tg:Nat) (nm:List UInt8) (l:List Ak),Am.Ef (rT k nm (encAs l)) L/\a<=s.length/\s.length<=limE/\l.length<=limE/\tag=(tg:Int)/\vs=[.ptr 5 0,.int .i64 tag,.sl 3 (encAs l) (some 6)]/\h=PM s a L hid k nm (encAs l)/\
 (∀p e,FJ s a tg l=.error (p,e)->KG (rT k nm (encAs l)) s KP ((p:Int),e))/\(∀at' b,FJ s a tg l=.ok (at',b)->K (.agg (Ao at')) (PM s (b:Nat) L hid k nm (encAs l)))
def QG :Ce:=fun vs h K=>∃(s:List UInt8) (a:Nat) (L:List (List AV)) (hid k:Int) (nm:List UInt8) (l:List Ak),Am.Ef (rT k nm (encAs l)) L/\a<=s.length/\s.length<=limE/\vs=[.ptr 5 0]/\h=PM s a L hid k nm (encAs l)/\K (.int .i64 ((past s a-a:Nat):Int)) (PM s ((past s a:Nat):Int) L hid k nm (encAs l))
def WT :JF:=fun vs h K KP=>∃(s:List UInt8) (a:Nat) (L:List (List AV)) (hid k tag:Int) (nm:List UInt8) (l:List Ak) (is:Bool),Am.Ef (rT k nm (encAs l)) L/\a<=s.length/\s.length<=limE/\vs=[.ptr 5 0,.int .i64 tag,.bool is]/\h=PM s a L hid k nm (encAs l)/\
 (a=s.length->KP (tag,14) h)/\(a<s.length->is=false->KP ((a:Int),12) h)/\(a<s.length->is=true->K (.tup []) (PM s ((a+1:Nat):Int) L hid k nm (encAs l)))
def WU :JF:=fun vs h K KP=>∃(s:List UInt8) (a:Nat) (L:List (List AV)) (hid k tag:Int) (nm:List UInt8) (l:List Ak) (an av:List UInt8) (aa:Int) (is:Bool),Am.Ef (rA k nm (encAs l) an av aa) L/\a<=s.length/\s.length<=limE/\vs=[.ptr 5 0,.int .i64 tag,.bool is]/\h=ie s a L hid k nm (encAs l) an av aa/\
 (a=s.length->KP (tag,14) h)/\(a<s.length->is=false->KP ((a:Int),12) h)/\(a<s.length->is=true->K (.tup []) (ie s ((a+1:Nat):Int) L hid k nm (encAs l) an av aa))
def row (k:Int)(nm:List UInt8)(es:List (List AV))(own:Option Nat)(t:List UInt8)(fr to:Int):List AV:=[.int .i64 k,.str nm,.sl 3 es own,.str t,.int .i64 fr,.int .i64 to]
def Tq :Ce:=fun vs h K=>∃(s:List UInt8) (a fr:Nat) (L:List (List AV)) (hid k:Int),Am.Ef [.grow 0 3 80] L/\a<=s.length/\s.length<=limE/\fr<=a/\L.length<=limE/\
 vs=[.ptr 5 0,.agg [.int .i64 k,.str [],.sl 3 [] (some 6),.str [],.int .i64 0,.int .i64 0],.int .i64 fr]/\h=hG s a L hid/\K (.tup []) (hG s a (L++[row k [] [] (some 6) (cut s fr a) fr a]) hid)
def Rv :Ce:=fun vs h K=>∃(s:List UInt8) (a fr:Nat) (L:List (List AV)) (hid k:Int) (nm:List UInt8) (l:List Ak),Am.Ef (rT k nm (encAs l)) L/\a<=s.length/\s.length<=limE/\fr<=a/\L.length<=limE/\
 vs=[.ptr 5 0,.agg [.int .i64 k,.str nm,.sl 3 (encAs l) (some 6),.str [],.int .i64 0,.int .i64 0],.int .i64 fr]/\h=PM s a L hid k nm (encAs l)/\K (.tup []) (PM s a (L++[row k nm (encAs l) (some 6) (cut s fr a) fr a]) hid k nm (encAs l))
def jg :Ce:=fun vs h K=>∃(s:List UInt8) (a fr:Nat) (L:List (List AV)) (hid k:Int) (nm:List UInt8) (l:List Ak),Am.Ef (rT k nm (encAs l)++[.grow 0 3 80]) L/\a<=s.length/\s.length<=limE/\fr<=a/\L.length<=limE/\
 vs=[.ptr 5 0,.agg [.int .i64 7,.str [],.sl 3 [] (some 9),.str [],.int .i64 0,.int .i64 0],.int .i64 fr]/\h=qM s a L hid k nm (encAs l)/\K (.tup []) (qM s a (L++[row 7 [] [] (some 9) (cut s fr a) fr a]) hid k nm (encAs l))
def Vx :JF:=fun vs h K KP=>∃(s:List UInt8) (a tag:Nat) (L:List (List AV)) (hid k:Int) (nm:List UInt8) (l:List Ak),Am.Ef (rT k nm (encAs l)) L/\a<=s.length/\s.length<=limE/\L.length<=limE/\nm.length<=limE/\
 vs=[.ptr 5 0,.str nm,.int .i64 tag]/\h=PM s a L hid k nm (encAs l)/\
 (Cx (Ab++nm) (s.drop a)=none->KG (rT k nm (encAs l)) s KP ((tag:Int),14))/\
 (∀n,Cx (Ab++nm) (s.drop a)=some n->(∀j,Cx Al ((s.drop a).take n)=some j->nm=BP->KG (rT k nm (encAs l)) s KP (((a+j:Nat):Int),13))/\
  ((Cx Al ((s.drop a).take n)=none\/nm≠BP)->K (.tup []) (PM s ((a+n:Nat):Int) (L++[row 7 [] [] none ((s.drop a).take n) a ((a+n:Nat):Int)]) hid k nm (encAs l))))
def MG (s:List UInt8)(a:Nat):Except Xu (List Tok):=match Gp s a with
 |.error e=>.error e
 |.ok t=>IT s t
def Qf :JF:=fun vs h K KP=>∃(s:List UInt8) (a:Nat) (l:List Tok) (hid:Int),has s Al a=true/\a<=s.length/\s.length<=limE/\l.length<s.length/\vs=[.ptr 5 0]/\h=hX s a (encTs l) hid/\
 (∀p e,MG s a=.error (p,e)->KG [] s KP ((p:Int),e))/\(∀ts,MG s a=.ok ts->K (.tup []) (hX s ((Cs ts (a+1):Nat):Int) (encTs (l++ts)) hid))
def Mi :JF:=fun vs h K KP=>∃(s:List UInt8) (a:Nat) (l:List Tok) (hid:Int),has s Ab a=true/\a<=s.length/\s.length<=limE/\l.length<=s.length/\vs=[.ptr 5 0]/\h=hX s a (encTs l) hid/\
 (∀p e,CK s a=.error (p,e)->KG [] s KP ((p:Int),e))/\(∀t,CK s a=.ok t->K (.tup []) (hX s (t.to:Nat) (encTs (l++[t])) hid))
def RD :JF:=fun vs h K KP=>∃(s:List UInt8) (a:Nat) (l:List Tok) (hid:Int),a+8<=s.length/\s.length<=limE/\l.length<=s.length/\vs=[.ptr 5 0]/\h=hX s a (encTs l) hid/\
 (0<=hid->KG [] s KP ((a:Int),13))/\(hid<0->K (.tup []) (hX s ((a+8:Nat):Int) (encTs (l++[⟨5,[],[],cut s a (a+8),a,a+8⟩])) a))
def QH :Ce:=fun vs h K=>∃(s:List UInt8) (a:Nat) (l:List Tok) (hid:Int),a+3<=s.length/\s.length<=limE/\l.length<=s.length/\vs=[.ptr 5 0]/\h=hX s a (encTs l) hid/\
 K (.tup []) (hX s ((a+3:Nat):Int) (encTs (l++[⟨6,[],[],cut s a (a+3),a,a+3⟩])) (-1))
def DU (s:List UInt8)(fr a:Nat):List Tok:=if fr<a then [⟨1,[],[],cut s fr a,fr,a⟩] else []
def Py :Ce:=fun vs h K=>∃(s:List UInt8) (fr a:Nat) (l:List Tok) (hid:Int),fr<=a/\a<=s.length/\s.length<=limE/\l.length<=s.length/\vs=[.ptr 5 0,.int .i64 fr]/\h=hX s a (encTs l) hid/\
 K (.tup []) (hX s a (encTs (l++DU s fr a)) hid)
def TR (s:List UInt8)(a:Nat)(hid:Bool):AV:=
 if has s Al a=true then .fn (.func 56) [.ptr 5 0] [] else if has s Ab a=true then .fn (.func 57) [.ptr 5 0] [] else if EY s a=true then .fn (.func 59) [.ptr 5 0] [] else if(has s BS a&&hid)=true then .fn (.func 60) [.ptr 5 0] [] else .HO
def sw :Ce:=fun vs h K=>∃(s:List UInt8) (a:Nat) (l:List Tok) (hid:Int),a<=s.length/\s.length<=limE/\vs=[.ptr 5 0]/\h=hX s a (encTs l) hid/\K (TR s a (decide (0<=hid))) h
def EZ (s:List UInt8)(a:Nat)(hid:Bool):Nat:=if has s Al a=true then 1 else if has s Ab a=true then 2 else if EY s a=true then 3 else if(has s BS a&&hid)=true then 4 else 0
def RQ :Ce:=fun vs h K=>∃(s:List UInt8) (a:Nat) (l:List Tok) (hid:Int),a<=s.length/\s.length<=limE/\vs=[.ptr 5 0]/\h=hX s a (encTs l) hid/\
 (EZ s a (decide (0<=hid))=0->K .HO h)/\(EZ s a (decide (0<=hid))=1->K (.fn (.func 56) [.ptr 5 0] []) h)/\(EZ s a (decide (0<=hid))=2->K (.fn (.func 57) [.ptr 5 0] []) h)/\
 (EZ s a (decide (0<=hid))=3->K (.fn (.func 59) [.ptr 5 0] []) h)/\(EZ s a (decide (0<=hid))=4->K (.fn (.func 60) [.ptr 5 0] []) h)
def D7 (t:Tok):Bool:=t.kind==2&&(t.name==BP||t.name==CU)
def WG (s:List UInt8):Nat->Option Tok->Bool->List Tok->Prop
 |at',_,hid,[]=>at'=s.length/\hid=false
 |at',prev,hid,t::r=>t.fr=at'/\at'<=t.to/\t.to<=s.length/\cut s at' t.to=t.text/\(t.text=[]->t.kind=7)/\
   (D7 t=true->∃a b q,r=a::b::q/\a.kind=7/\b.kind=4/\b.name=t.name)/\
   (t.kind=7->∃p,prev=some p/\p.kind=2)/\(t.kind=1->∀p,prev=some p->p.kind≠1)/\
   (t.kind=5->hid=false)/\(t.kind=6->hid=true)/\
   WG s t.to (some t) (if t.kind=5 then true else if t.kind=6 then false else hid) r
theorem eM {p:UInt8->Bool}(l:List UInt8):(l.takeWhile p).length<=l.length:=(List.takeWhile_prefix p).length_le
theorem Hs {s:List UInt8}{a:Nat}(h:a<=s.length):a<=past s a/\past s a<=s.length:=by
 unfold past;have:=eM (p:=blB) (s.drop a);rw[List.length_drop] at this;omega
theorem GR (s:List UInt8)(a:Nat):lets s a<=s.length-a:=by
 unfold lets;have:=eM (p:=OK) (s.drop a)
 rwa [List.length_drop] at this
theorem I9 {x:List UInt8}:∀{s:List UInt8} {n:Nat},Cx x s=some n->n+x.length<=s.length
 |[],n,h=>by
  unfold Cx at h;split at h
  ·rename_i hx
   have:x=[]:=by simpa using hx
   subst this;simp at h;subst h;simp
  ·cases h
 |c::r,n,h=>by
  unfold Cx at h;split at h
  ·rename_i hx
   injection h with h;subst h
   have:=(List.isPrefixOf_iff_prefix.1 hx).length_le;simpa using this
  ·cases hr:Cx x r with
   |none=>rw[hr] at h;cases h
   |some m=>
    rw[hr] at h;simp only[Option.map_some,Option.some.injEq] at h;have:=I9 hr;simp only[List.length_cons];omega
theorem GI {s x:List UInt8}{a:Nat}(h:has s x a=true)(hx:x≠[]):a+x.length<=s.length:=by
 have h1:=(List.isPrefixOf_iff_prefix.1 h).length_le;rw[List.length_drop] at h1;have:0<x.length:=List.length_pos_iff.2 hx;omega
theorem Rq {s:List UInt8}{at' tag:Nat}{l:List Ak}{a:Ak}{b:Nat}(h:FJ s at' tag l=.ok (a,b)):at'<b/\b<=s.length:=by
 unfold FJ at h;simp only at h
 repeat' split at h
 all_goals try (cases h;done)
 rename_i k hk;simp only[Except.ok.injEq,Prod.mk.injEq] at h;obtain⟨_,rfl⟩:=h;have:=I9 hk;simp only[List.length_singleton,List.length_drop] at this;omega
theorem N8 {s:List UInt8}{tag:Nat}:∀(f at':Nat) (l l':List Ak) (b:Nat),at'<=s.length->A8 s tag f at' l=.ok (l',b)->at'<=b/\b<s.length
 |0,at',l,l',b,_,h=>by cases h
 |f+1,at',l,l',b,ha,h=>by
  obtain⟨p1,p2⟩:=Hs ha;unfold A8 at h;simp only at h;split at h
  ·cases h
  ·split at h
   ·simp only[Except.ok.injEq,Prod.mk.injEq] at h;obtain⟨_,rfl⟩:=h;omega
   ·split at h
    ·cases h
    ·split at h
     ·cases h
     ·rename_i a c hc;obtain⟨q1,q2⟩:=Rq hc;obtain⟨q3,q4⟩:=N8 f c _ l' b q2 h;omega
theorem SZ {s:List UInt8}{tag at':Nat}{nm:List UInt8}{l:List Ak}{t:Tok}(h:Da s tag nm l at'=.ok t):
  (t.kind=2\/t.kind=3)/\t.name=nm/\t.fr=tag/\t.text=cut s tag t.to/\at'<t.to/\t.to<=s.length:=by
 unfold Da at h;simp only at h
 generalize hk:(if s.getD at' 0=47 then 1 else 0:Nat)=k at h
 split at h
 ·cases h
 ·split at h
  ·cases h
  ·simp only[Except.ok.injEq] at h;subst h
   refine⟨?_,rfl,rfl,rfl,by simp only;omega,by simp only;omega⟩
   simp only;split
   ·exact .inr rfl
   ·exact .inl rfl
theorem WD {s:List UInt8}{tag:Nat}{t:Tok}(hl:tag+5<=s.length)(h:Gp s tag=.ok t):(t.kind=2\/t.kind=3)/\t.fr=tag/\t.text=cut s tag t.to/\tag<t.to/\t.to<=s.length:=by
 unfold Gp at h;simp only at h;split at h
 ·cases h
 ·have hn:=GR s (tag+5);split at h
  ·cases h
  ·rename_i l b hb
   obtain⟨q1,q2⟩:=N8 _ _ _ _ _ (by omega) hb
   obtain⟨k1,k2,k3,k4,k5,k6⟩:=SZ h
   exact⟨k1,k3,k4,by omega,k6⟩
theorem Kf {s:List UInt8}{tag:Nat}{t:Tok}(hl:tag+6<=s.length)(h:CK s tag=.ok t):t.kind=4/\t.name=(s.drop (tag+6)).takeWhile OK/\CX t.name=true/\t.fr=tag/\t.text=cut s tag t.to/\tag<t.to/\t.to<=s.length:=by
 unfold CK at h;simp only at h;split at h
 ·cases h
 ·rename_i oe;have hn:=GR s (tag+6)
  obtain⟨q1,q2⟩:=Hs (s:=s) (a:=tag+6+lets s (tag+6)) (by omega)
  split at h
  ·cases h
  ·split at h
   ·cases h
   ·simp only[Except.ok.injEq] at h;subst h
    refine⟨rfl,?_,by simpa using oe,rfl,rfl,by simp only;omega,by simp only;omega⟩
    exact(List.prefix_iff_eq_take.1 (List.takeWhile_prefix OK)).symm
theorem IL {s:List UInt8}{hid:Bool}:∀(f at':Nat),s.length<=at'+f->at'<=s.length->at'<=Cj s hid f at'/\Cj s hid f at'<=s.length/\(Cj s hid f at'=s.length\/spec s (Cj s hid f at') hid=true)
 |0,at',h,h2=>by simp only[Cj];omega
 |f+1,at',h,h2=>by
  unfold Cj;split
  ·rename_i hc
   rcases hc with hc|hc
   ·exact⟨by omega,h2,.inl (by omega)⟩
   ·exact⟨by omega,h2,.inr hc⟩
  ·rename_i hc
   have BC:at'<s.length:=by
    rcases Nat.lt_or_ge at' s.length with h|h
    ·exact h
    ·exact absurd (Or.inl h) hc
   obtain⟨t1,t2,t3⟩:=IL (s:=s) (hid:=hid) f (at'+1) (by omega) (by omega)
   exact⟨by omega,t2,t3⟩
theorem SX {s:List UInt8}{hid:Bool}{f at':Nat}(h:¬(s.length<=at'))(h2:¬spec s at' hid=true)(h3:s.length<=at'+f):at'<Cj s hid f at':=by
 obtain⟨g,rfl⟩:∃g,f=g+1:=⟨f-1,by omega⟩
 unfold Cj
 rw[if_neg (by rintro(h4|h4);exact h h4;exact h2 h4)]
 have:=(IL (s:=s) (hid:=hid) g (at'+1) (by omega) (by omega)).1
 omega
theorem Rd {s:List UInt8}{a b:Nat}(h:a<b)(h2:b<=s.length):cut s a b≠[]:=by
 intro e;have:=congrArg List.length e;simp only[cut,List.length_take,List.length_drop,List.length_nil] at this;omega
theorem Ok {s nm:List UInt8}{n t0 f:Nat}{hid:Option Nat}{r:List Tok}(ht:t0<=s.length)(hn:Cx (Ab++nm) (s.drop t0)=some n)(TG:nm=BP\/nm=CU)(h:DR s (f+1) (t0+n) hid=.ok r):
  ∃b q,r=b::q/\b.kind=4/\b.name=nm:=by
 have hp:(Ab++nm).isPrefixOf (s.drop (t0+n))=true:=by
  have key:∀{x s:List UInt8} {n:Nat},Cx x s=some n->x.isPrefixOf (s.drop n)=true:=by
   intro x s
   induction s with
   |nil=>
    intro n h;unfold Cx at h;split at h
    ·rename_i hx
     have:x=[]:=by simpa using hx
     subst this;rfl
    ·cases h
   |cons c r ih=>
    intro n h;unfold Cx at h;split at h
    ·rename_i hx;injection h with h;subst h;exact hx
    ·cases hr:Cx x r with
     |none=>rw[hr] at h;cases h
     |some m=>
      rw[hr] at h;simp only[Option.map_some,Option.some.injEq] at h;subst h;exact ih hr
  rw[<-List.drop_drop];exact key hn
 obtain⟨z,hz⟩:=List.isPrefixOf_iff_prefix.1 hp;have hlen:=congrArg List.length hz;have h6:Ab.length=6:=rfl
 have mF:0<nm.length:=by rcases TG with rfl|rfl<;>decide
 simp only[List.length_append,List.length_drop] at hlen
 have hc:has s Ab (t0+n)=true:=by
  refine List.isPrefixOf_iff_prefix.2 ⟨nm++z,?_⟩;rw[<-hz,List.append_assoc]
 have ho:has s Al (t0+n)=false:=by
  unfold has;rw[<-hz];simp[Al,Ab,List.isPrefixOf]
 have hd:s.drop (t0+n+6)=nm++z:=by
  rw[<-List.drop_drop,<-hz,List.append_assoc];exact List.drop_left' h6
 unfold DR at h
 rw[if_neg (by omega),if_pos (by unfold spec;rw[ho,hc];rfl)] at h
 unfold DW at h
 rw[if_neg (by rw[ho];simp),if_pos hc] at h
 cases DS:CK s (t0+n) with
 |error e=>rw[DS] at h;cases h
 |ok t=>
  rw[DS] at h;simp only at h
  obtain⟨k1,k2,k3,k4,k5,k6,k7⟩:=Kf (by omega) DS
  cases hr:DR s f (Cs [t] (t0+n+1)) hid with
  |error e=>rw[hr] at h;cases h
  |ok r'=>
   rw[hr] at h;simp only[Except.ok.injEq] at h;refine⟨t,r',h.symm,k1,?_⟩;rw[hd] at k2
   have hY:nm.all OK=true:=by rcases TG with rfl|rfl<;>decide
   have Gx:(nm++z).takeWhile OK=nm++z.takeWhile OK:=List.takeWhile_append_of_pos fun c hc=>List.all_eq_true.1 hY c hc
   rw[Gx] at k2;have k3':=k3;unfold CX LQ at k3;rw[k2] at k3;simp only[List.any_cons,List.any_nil,Bool.or_false,Bool.or_eq_true,beq_iff_eq] at k3;rw[k2]
   rcases TG with rfl|rfl
   ·simp only[BP,CU,List.cons_append,List.nil_append,List.cons.injEq] at k3⊢;simp at k3;simp[k3]
   ·simp only[BP,CU,List.cons_append,List.nil_append,List.cons.injEq] at k3⊢;simp at k3;simp[k3]
theorem PV {s:List UInt8}{t:Tok}{l:List Tok}(h:IT s t=.ok l):(D7 t=false/\l=[t])\/
  (D7 t=true/\(t.name=BP\/t.name=CU)/\∃n,Cx (Ab++t.name) (s.drop t.to)=some n/\l=[t,⟨7,[],[],(s.drop t.to).take n,t.to,t.to+n⟩]):=by
 unfold IT at h;split at h
 ·rename_i hc
  have ho:D7 t=true:=by
   unfold D7
   rcases hc.2 with h2|h2<;>simp[hc.1,h2]
  split at h
  ·cases h
  ·rename_i n hn;split at h
   ·cases h
   ·simp only[Except.ok.injEq] at h;exact .inr ⟨ho,hc.2,n,hn,h.symm⟩
 ·rename_i hc;simp only[Except.ok.injEq] at h;refine .inl ⟨?_,h.symm⟩;unfold D7;rw[Bool.eq_false_iff];intro hb;simp only[Bool.and_eq_true,Bool.or_eq_true,beq_iff_eq] at hb;exact hc hb
theorem ND {s:List UInt8}{a:Nat}{hid:Bool}(h:spec s a hid=true)(h1:¬has s Al a=true)(h2:¬has s Ab a=true)(h3:¬EY s a=true):has s BS a=true/\hid=true:=by
 unfold spec at h;rw[Bool.eq_false_iff.2 h1,Bool.eq_false_iff.2 h2,Bool.eq_false_iff.2 h3] at h;simpa using h
theorem Fh {s:List UInt8}{a n:Nat}:cut s a (a+n)=(s.drop a).take n:=by unfold cut;congr 1;omega
theorem FD {s:List UInt8}:∀(f at':Nat) (hid:Option Nat) (l:List Tok) (prev:Option Tok),s.length-at'<f->at'<=s.length->DR s f at' hid=.ok l->
  (∀p,prev=some p->p.kind=1->at'=s.length\/spec s at' hid.isSome=true)->WG s at' prev hid.isSome l
 |0,at',hid,l,prev,h,_,_,_=>by omega
 |f+1,at',hid,l,prev,hf,ha,h,hp=>by
  have h0:=h;unfold DR at h;split at h
  ·split at h
   ·cases h
   ·simp only[Except.ok.injEq] at h;subst h
    exact⟨by omega,rfl⟩
  ·rename_i BC;split at h
   ·rename_i hs;split at h
    ·cases h
    ·rename_i l1 hid2 hn;split at h
     ·cases h
     ·rename_i r hr;simp only[Except.ok.injEq] at h;subst h;unfold DW at hn;split at hn
      ·rename_i ho
       have h5:=GI ho (by simp[Al])
       have e5:Al.length=5:=rfl;split at hn
       ·cases hn
       ·rename_i t ht;split at hn
        ·cases hn
        ·rename_i l2 dH;simp only[Except.ok.injEq,Prod.mk.injEq] at hn;obtain⟨rfl,rfl⟩:=hn
         obtain⟨k1,k2,k3,k4,k5⟩:=WD (by omega) ht
         have BM:t.text≠[]:=by rw[k3];exact Rd k4 k5
         rcases PV dH with ⟨o1,rfl⟩|⟨o1,o2,n,o3,rfl⟩
         ·have ih:=FD f t.to hid r (some t) (by omega) k5 hr fun p hp hk=>by
           injection hp with hp;subst hp;omega
          refine⟨k2,by omega,k5,k3.symm,fun e=>absurd e BM,fun e=>(by rw[o1] at e;cases e),fun e=>by omega,fun e=>by omega,fun e=>by omega,fun e=>by omega,?_⟩
          rw[if_neg (by omega),if_neg (by omega)]
          exact ih
         ·have oe:=I9 o3;have e6:Ab.length=6:=rfl;simp only[List.length_append,List.length_drop] at oe;have OV:DR s f (t.to+n) hid=.ok r:=hr
          have mF:0<t.name.length:=by rcases o2 with e|e<;>rw[e]<;>decide
          obtain⟨g,rfl⟩:∃g,f=g+1:=⟨f-1,by omega⟩
          obtain⟨b,q,rfl,b1,b2⟩:=Ok k5 o3 o2 OV
          have ih:=FD (g+1) (t.to+n) hid (b::q) (some ⟨7,[],[],(s.drop t.to).take n,t.to,t.to+n⟩) (by omega) (by omega) OV fun p hp hk=>by
           injection hp with hp;subst hp;simp at hk
          have Lk:t.kind=2:=by
           unfold D7 at o1;simp only[Bool.and_eq_true,beq_iff_eq] at o1;exact o1.1
          refine⟨k2,by omega,k5,k3.symm,fun e=>absurd e BM,fun _=>⟨_,b,q,rfl,rfl,b1,b2⟩,fun e=>by omega,fun e=>by omega,fun e=>by omega,fun e=>by omega,?_⟩
          rw[if_neg (by omega),if_neg (by omega)]
          refine⟨rfl,by simp only;omega,by simp only;omega,Fh,fun _=>rfl,fun e=>by simp[D7] at e,fun _=>⟨t,rfl,Lk⟩,fun e=>by simp at e,fun e=>by simp at e,fun e=>by simp at e,?_⟩
          exact ih
      ·rename_i ho;split at hn
       ·rename_i hc
        have h6:=GI hc (by simp[Ab])
        have e6:Ab.length=6:=rfl;split at hn
        ·cases hn
        ·rename_i t ht;simp only[Except.ok.injEq,Prod.mk.injEq] at hn;obtain⟨rfl,rfl⟩:=hn
         obtain⟨k1,-,-,k2,k3,k4,k5⟩:=Kf (by omega) ht
         have BM:t.text≠[]:=by rw[k3];exact Rd k4 k5
         have ih:=FD f t.to hid r (some t) (by omega) k5 hr fun p hp hk=>by
          injection hp with hp;subst hp;omega
         refine⟨k2,by omega,k5,k3.symm,fun e=>absurd e BM,fun e=>by simp[D7,k1] at e,fun e=>by omega,fun e=>by omega,fun e=>by omega,fun e=>by omega,?_⟩
         rw[if_neg (by omega),if_neg (by omega)]
         exact ih
       ·rename_i hc;split at hn
        ·rename_i hh
         have h8:at'+8<=s.length:=by
          unfold EY at hh;simp only[Bool.and_eq_true,decide_eq_true_eq] at hh;omega
         split at hn
         ·cases hn
         ·rename_i Rx;simp only[Except.ok.injEq,Prod.mk.injEq] at hn;obtain⟨rfl,rfl⟩:=hn
          have ih:=FD f (at'+8) (some at') r (some ⟨5,[],[],cut s at' (at'+8),at',at'+8⟩) (by omega) h8 hr fun p hp hk=>by
           injection hp with hp;subst hp;simp at hk
          refine⟨rfl,by simp only;omega,h8,rfl,fun e=>absurd e (Rd (by omega) h8),fun e=>by simp[D7] at e,fun e=>by simp at e,fun e=>by simp at e,fun _=>by simpa using Rx,fun e=>by simp at e,?_⟩
          exact ih
        ·rename_i hh;simp only[Except.ok.injEq,Prod.mk.injEq] at hn;obtain⟨rfl,rfl⟩:=hn;obtain⟨s1,s2⟩:=ND hs ho hc hh
         have h3:=GI s1 (by simp[BS])
         have e3:BS.length=3:=rfl
         have ZJ:cut s at' (at'+3)=BS:=by
          rw[Fh];exact(List.prefix_iff_eq_take.1 (List.isPrefixOf_iff_prefix.1 s1)).symm
         have ih:=FD f (at'+3) none r (some ⟨6,[],[],BS,at',at'+3⟩) (by omega) (by omega) hr fun p hp hk=>by
          injection hp with hp;subst hp;simp at hk
         refine⟨rfl,by simp only;omega,by simp only;omega,ZJ,fun e=>by simp[BS] at e,fun e=>by simp[D7] at e,fun e=>by simp at e,fun e=>by simp at e,fun e=>by simp at e,fun _=>s2,?_⟩
         exact ih
   ·rename_i hs;simp only at h;split at h
    ·cases h
    ·rename_i r hr;simp only[Except.ok.injEq] at h;subst h
     obtain⟨q1,q2,q3⟩:=IL (s:=s) (hid:=hid.isSome) (s.length-at') at' (by omega) ha
     have q4:=SX (f:=s.length-at') (fun e=>BC e) hs (by omega)
     generalize Cj s hid.isSome (s.length-at') at'=to at *
     have ih:=FD f to hid r (some ⟨1,[],[],cut s at' to,at',to⟩) (by omega) q2 hr fun p hp hk=>q3
     refine⟨rfl,by simp only;omega,q2,rfl,fun e=>absurd e (Rd q4 q2),fun e=>by simp[D7] at e,fun e=>by simp at e,fun _ p hpp hk=> ?_,fun e=>by simp at e,fun e=>by simp at e,?_⟩
     ·rcases hp p hpp hk with e|e
      ·omega
      ·exact hs e
     ·exact ih
theorem LS {s:List UInt8}{l:List Tok}(h:lexM s=.ok l):WG s 0 none false l:=FD (s.length+1) 0 none l none (by omega) (by omega) h (fun p hp=>by cases hp)
def DX (v:List UInt8):UInt8:=if v.contains 34=true then 39 else 34
def AP :List Ak->List UInt8
 |[]=>[]
 |a::r=>32::(a.name++61::DX a.value::(a.value++DX a.value::AP r))
def written (t:Tok):List UInt8:=
 if t.kind=4 then Ab++(t.name++[62]) else if t.kind=5 then Cf++[32] else
 if t.kind=2 then Al++(t.name++(AP t.attrs++[62])) else if t.kind=3 then Al++(t.name++(AP t.attrs++[47,62])) else t.text
def Bh :List Tok->List UInt8
 |[]=>[]
 |t::r=>written t++Bh r
def Su (a:Ak):Prop:=a.name≠[]/\a.name.length<=16/\(∀c∈a.name,OK c=true)/\¬(34∈a.value/\39∈a.value)
def FX :List Ak->List Ak->Prop
 |_,[]=>True
 |seen,a::r=>Su a/\(∀b∈seen,a.name≠b.name)/\FX (seen++[a]) r
theorem Qk :∀(r seen:List Ak) (a:Ak),FX seen r->Su a->(∀b∈seen++r,a.name≠b.name)->FX seen (r++[a])
 |[],seen,a,_,h,h2=>⟨h,fun b hb=>h2 b (by simpa using hb),trivial⟩
 |x::r,seen,a,hr,h,h2=>⟨hr.1,hr.2.1,Qk r (seen++[x]) a hr.2.2 h fun b hb=>h2 b (by simpa using hb)⟩
theorem Nq {x:List UInt8}:∀{s:List UInt8} {n:Nat},Cx x s=some n->x.isPrefixOf (s.drop n)=true/\∀j,j<n->x.isPrefixOf (s.drop j)=false
 |[],n,h=>by
  unfold Cx at h;split at h
  ·rename_i hx
   have:x=[]:=by simpa using hx
   subst this;simp at h;subst h
   exact⟨rfl,fun j hj=>by omega⟩
  ·cases h
 |c::r,n,h=>by
  unfold Cx at h;split at h
  ·rename_i hx
   injection h with h;subst h
   exact⟨hx,fun j hj=>by omega⟩
  ·rename_i hx
   cases hr:Cx x r with
   |none=>rw[hr] at h;cases h
   |some m=>
    rw[hr] at h;simp only[Option.map_some,Option.some.injEq] at h;subst h;obtain⟨h1,h2⟩:=Nq hr
    refine⟨h1,fun j hj=> ?_⟩
    cases j with
    |zero=>exact Bool.eq_false_iff.2 hx
    |succ j=>exact h2 j (by omega)
theorem RN {x:List UInt8}:∀{s:List UInt8} {n:Nat},x.isPrefixOf (s.drop n)=true->(∀j,j<n->x.isPrefixOf (s.drop j)=false)->n<=s.length->Cx x s=some n
 |[],n,h,_,hn=>by
  have:n=0:=by simpa using hn
  subst this
  have hx:x=[]:=by simpa using h
  subst hx;rfl
 |c::r,0,h,_,_=>by
  unfold Cx;exact if_pos h
 |c::r,n+1,h,h2,hn=>by
  unfold Cx
  have h0:=h2 0 (by omega)
  rw[List.drop_zero] at h0
  rw[h0,if_neg (by simp),RN (s:=r) (n:=n) h (fun j hj=>h2 (j+1) (by omega)) (by simpa using hn)]
  rfl
theorem lC {m:UInt8}{v r:List UInt8}(h:m∉v):Cx [m] (v++m::r)=some v.length:=by
 refine RN (by rw[List.drop_left' rfl];simp[List.isPrefixOf]) (fun j hj=> ?_) (by simp)
 rw[List.drop_append_of_le_length (by omega)]
 obtain⟨c,q,hc⟩:∃c q,v.drop j=c::q:=by
  cases hd:v.drop j with
  |nil=>have:=congrArg List.length hd;simp at this;omega
  |cons c q=>exact⟨c,q,rfl⟩
 rw[hc]
 have hm:c∈v:=List.mem_of_mem_drop (by rw[hc];simp)
 have:(m==c)=false:=by
  rw[beq_eq_false_iff_ne]
  rintro rfl
  exact h hm
 simp[List.isPrefixOf,this]
theorem dR {m:UInt8}{s:List UInt8}{n:Nat}(h:Cx [m] s=some n):m∉s.take n:=by
 obtain⟨_,h2⟩:=Nq h;intro hm;obtain⟨j,hj⟩:=List.mem_iff_getElem?.1 hm
 have BC:j<n:=by
  rcases Nat.lt_or_ge j n with h|h
  ·exact h
  ·rw[List.getElem?_eq_none (by simp;omega)] at hj;cases hj
 rw[List.getElem?_take,if_pos BC] at hj;have h3:=h2 j BC
 obtain⟨q,hq⟩:∃q,s.drop j=m::q:=⟨s.drop (j+1),by
  obtain⟨KX,he⟩:=List.getElem?_eq_some_iff.1 hj
  rw[List.drop_eq_getElem_cons KX,he]⟩
 rw[hq] at h3;simp[List.isPrefixOf] at h3
theorem eN {p:UInt8->Bool}:∀(l:List UInt8),∀c∈l.takeWhile p,p c=true
 |[],c,h=>by simp at h
 |x::r,c,h=>by
  rw[List.takeWhile_cons] at h;split at h
  ·rename_i hx
   rcases List.mem_cons.1 h with rfl|h
   ·exact hx
   ·exact eN r c h
  ·cases h
theorem ju {p:UInt8->Bool}{l:List UInt8}{n:Nat}(h:n<=(l.takeWhile p).length):∀c∈l.take n,p c=true:=by
 intro c hc
 have hp:l.take n=(l.takeWhile p).take n:=by
  have:=List.prefix_iff_eq_take.1 (List.takeWhile_prefix (p:=p) (l:=l));rw[this,List.take_take,Nat.min_eq_left h]
 rw[hp] at hc;exact eN l c (List.mem_of_mem_take hc)
theorem dk {s:List UInt8}{at' tag:Nat}{l:List Ak}{a:Ak}{b:Nat}(h:FJ s at' tag l=.ok (a,b)):Su a/\∀c∈l,a.name≠c.name:=by
 unfold FJ at h;simp only at h;split at h
 ·cases h
 ·rename_i hn;split at h
  ·cases h
  ·split at h
   ·cases h
   ·rename_i h2;split at h
    ·cases h
    ·split at h
     ·cases h
     ·rename_i hm;split at h
      ·cases h
      ·rename_i k hk;simp only[Except.ok.injEq,Prod.mk.injEq] at h;obtain⟨rfl,-⟩:=h;have hl:=GR s at';have hle:min (lets s at') 16<=lets s at':=Nat.min_le_left _ _;refine⟨⟨?_,?_,?_,?_⟩,?_⟩
       ·intro e;have:=congrArg List.length e;simp only[List.length_take,List.length_drop,List.length_nil] at this
        have:min (lets s at') 16≠0:=fun e=>h2 (.inl e)
        omega
       ·simp only[List.length_take];omega
       ·exact ju (p:=OK) hle
       ·have Ip:=dR hk
        rintro⟨qN,xw⟩
        have wh:s.getD (at'+min (lets s at') 16+1) 0=34\/s.getD (at'+min (lets s at') 16+1) 0=39:=by
         by_cases e:s.getD (at'+min (lets s at') 16+1) 0=34
         ·exact .inl e
         ·right
          exact Decidable.not_not.1 fun e2=>hm ⟨e,e2⟩
        rcases wh with e|e
        ·rw[e] at Ip;exact Ip qN
        ·rw[e] at Ip;exact Ip xw
       ·intro c hc e;apply hn;rw[List.any_eq_true]
        exact⟨c,hc,by simpa using e⟩
theorem Rp {s:List UInt8}{tag:Nat}:∀(f at':Nat) (l l':List Ak) (b:Nat),FX [] l->A8 s tag f at' l=.ok (l',b)->FX [] l'
 |0,at',l,l',b,_,h=>by cases h
 |f+1,at',l,l',b,hl,h=>by
  unfold A8 at h;simp only at h;split at h
  ·cases h
  ·split at h
   ·simp only[Except.ok.injEq,Prod.mk.injEq] at h;obtain⟨rfl,_⟩:=h;exact hl
   ·split at h
    ·cases h
    ·split at h
     ·cases h
     ·rename_i a c hc;obtain⟨h1,h2⟩:=dk hc
      exact Rp f c _ l' b (Qk l [] a hl h1 (by simpa using h2)) h
theorem cd {s:List UInt8}{tag:Nat}{t:Tok}(h:Gp s tag=.ok t):CX t.name=true/\FX [] t.attrs:=by
 unfold Gp at h;simp only at h;split at h
 ·cases h
 ·rename_i hk;split at h
  ·cases h
  ·rename_i l b hb;have ha:=Rp _ _ [] l b trivial hb
   have hn:t.name=(s.drop (tag+5)).take (lets s (tag+5))/\t.attrs=l:=by
    unfold Da at h;simp only at h
    generalize (if s.getD b 0=47 then 1 else 0:Nat)=k at h
    split at h
    ·cases h
    ·split at h
     ·cases h
     ·simp only[Except.ok.injEq] at h;subst h;exact⟨rfl,rfl⟩
   rw[hn.1,hn.2]
   exact⟨by simpa using hk,ha⟩
def GX (r:List UInt8)(hid:Bool):Bool:=Al.isPrefixOf r||(Ab.isPrefixOf r||((Cf.isPrefixOf r&&(match r.drop 7 with|c::_=>blB c|[]=>false))||(BS.isPrefixOf r&&hid)))
theorem T7 (s:List UInt8)(a:Nat)(hid:Bool):spec s a hid=GX (s.drop a) hid:=by
 have h:EY s a=(Cf.isPrefixOf (s.drop a)&&(match(s.drop a).drop 7 with|c::_=>blB c|[]=>false)):=by
  unfold EY has
  congr 1
  rw[List.drop_drop]
  by_cases hl:a+7<s.length
  ·rw[decide_eq_true hl,List.drop_eq_getElem_cons hl];simp[List.getD_eq_getElem?_getD,hl]
  ·rw[decide_eq_false hl,List.drop_eq_nil_of_le (by omega)]
   rfl
 unfold spec GX;rw[h];rfl
def lP (r:List UInt8):Prop:=r=[]\/(∃q,r=60::q)\/∃q,r=45::45::62::q
theorem So {x u r:List UInt8}(h:x.isPrefixOf (u++r)=true):x.isPrefixOf u=true\/∃y,y≠[]/\x=u++y/\y.isPrefixOf r=true:=by
 obtain⟨z,hz⟩:=List.isPrefixOf_iff_prefix.1 h
 rcases List.append_eq_append_iff.1 hz with ⟨y,h1,h2⟩|⟨y,h1,h2⟩
 ·left;exact List.isPrefixOf_iff_prefix.2 ⟨y,h1.symm⟩
 ·by_cases hy:y=[]
  ·subst hy;left;rw[List.append_nil] at h1;subst h1;exact List.isPrefixOf_iff_prefix.2 (List.prefix_refl _)
  ·right;exact⟨y,hy,h1,List.isPrefixOf_iff_prefix.2 ⟨z,h2.symm⟩⟩
theorem KO {x u r:List UInt8}(hu:u≠[])(hb:lP r)(h1:∀k,1<=k->k<x.length->(x.drop k).head?≠some 60/\((x.drop k).take 3).isPrefixOf [45,45,62]=false)(h:x.isPrefixOf (u++r)=true):x.isPrefixOf u=true:=by
 rcases So h with h|⟨y,hy,te,hyr⟩
 ·exact h
 ·exfalso;have hul:0<u.length:=List.length_pos_iff.2 hu;have eC:0<y.length:=List.length_pos_iff.2 hy
  have hd:x.drop u.length=y:=by rw[te,List.drop_left' rfl]
  obtain⟨k1,k2⟩:=h1 u.length hul (by rw[te,List.length_append];omega)
  rw[hd] at k1 k2;obtain⟨z,hz⟩:=List.isPrefixOf_iff_prefix.1 hyr
  obtain⟨c,q,rfl⟩:∃c q,y=c::q:=by cases y with|nil=>exact absurd rfl hy|cons c q=>exact⟨c,q,rfl⟩
  rcases hb with rfl|⟨q',rfl⟩|⟨q',rfl⟩
  ·cases hz
  ·simp only[List.cons_append,List.cons.injEq] at hz
   exact k1 (by rw[hz.1];rfl)
  ·have:((c::q).take 3).isPrefixOf [45,45,62]=true:=by
    refine List.isPrefixOf_iff_prefix.2 ?_
    have h3:(c::q).take 3<+:((c::q)++z).take 3:=by
     rw[List.take_append];exact List.prefix_append _ _
    rw[hz] at h3;simpa using h3
   rw[this] at k2;cases k2
theorem vl :(∀k,1<=k->k<Al.length->(Al.drop k).head?≠some 60/\((Al.drop k).take 3).isPrefixOf [45,45,62]=false)/\(∀k,1<=k->k<Ab.length->(Ab.drop k).head?≠some 60/\((Ab.drop k).take 3).isPrefixOf [45,45,62]=false)/\
  (∀k,1<=k->k<Cf.length->(Cf.drop k).head?≠some 60/\((Cf.drop k).take 3).isPrefixOf [45,45,62]=false)/\(∀k,1<=k->k<BS.length->(BS.drop k).head?≠some 60/\((BS.drop k).take 3).isPrefixOf [45,45,62]=false):=by
 have key:∀x:List UInt8,(∀k:Fin 8,(k.val=0\/x.length<=k.val)\/((x.drop k.val).head?≠some 60/\((x.drop k.val).take 3).isPrefixOf [45,45,62]=false))->x.length<=8->∀k,1<=k->k<x.length->(x.drop k).head?≠some 60/\((x.drop k).take 3).isPrefixOf [45,45,62]=false:=fun x h hl k h1 h2=>by
  rcases h ⟨k,by omega⟩ with h|h
  ·simp only at h;omega
  ·exact h
 exact⟨key _ (by decide) (by decide),key _ (by decide) (by decide),key _ (by decide) (by decide),key _ (by decide) (by decide)⟩
theorem IP {r:List UInt8}{hid:Bool}:GX r hid=false↔Al.isPrefixOf r=false/\Ab.isPrefixOf r=false/\(Cf.isPrefixOf r&&(match r.drop 7 with|c::_=>blB c|[]=>false))=false/\(BS.isPrefixOf r&&hid)=false:=by
 unfold GX;simp only[Bool.or_eq_false_iff]
theorem W5 {r:List UInt8}(h:Cf.isPrefixOf r=true):7<=r.length:=by
 have:=(List.isPrefixOf_iff_prefix.1 h).length_le;exact this
theorem inner {u r:List UInt8}{hid:Bool}(hu:u≠[])(h:GX u hid=false)(hb:lP r):GX (u++r) hid=false:=by
 obtain⟨p1,p2,p3,p4⟩:=vl;obtain⟨h1,h2,h3,h4⟩:=IP.1 h;refine IP.2 ⟨?_,?_,?_,?_⟩
 ·rw[Bool.eq_false_iff] at h1⊢;exact fun e=>h1 (KO hu hb p1 e)
 ·rw[Bool.eq_false_iff] at h2⊢;exact fun e=>h2 (KO hu hb p2 e)
 ·cases he:Cf.isPrefixOf (u++r) with
  |false=>rfl
  |true=>
   have th:=KO hu hb p3 he;rw[th] at h3;simp only[Bool.true_and] at h3⊢;have hl:=W5 th;rw[List.drop_append_of_le_length hl]
   cases hd:u.drop 7 with
   |cons c q=>rw[hd] at h3;exact h3
   |nil=>
    rw[List.nil_append]
    rcases hb with rfl|⟨q',rfl⟩|⟨q',rfl⟩<;>rfl
 ·cases he:BS.isPrefixOf (u++r) with
  |false=>rfl
  |true=>
   have th:=KO hu hb p4 he;rw[th] at h4;exact h4
theorem YL {u r:List UInt8}{hid:Bool}(h:GX (u++r) hid=false):GX u hid=false:=by
 have up:∀{x:List UInt8},x.isPrefixOf u=true->x.isPrefixOf (u++r)=true:=fun hx=>by
  obtain⟨z,hz⟩:=List.isPrefixOf_iff_prefix.1 hx
  exact List.isPrefixOf_iff_prefix.2 ⟨z++r,by rw[<-List.append_assoc,hz]⟩
 obtain⟨h1,h2,h3,h4⟩:=IP.1 h;refine IP.2 ⟨?_,?_,?_,?_⟩
 ·rw[Bool.eq_false_iff] at h1⊢;exact fun e=>h1 (up e)
 ·rw[Bool.eq_false_iff] at h2⊢;exact fun e=>h2 (up e)
 ·cases he:Cf.isPrefixOf u with
  |false=>rfl
  |true=>
   rw[up he] at h3;simp only[Bool.true_and] at h3⊢;rw[List.drop_append_of_le_length (W5 he)] at h3
   cases hd:u.drop 7 with
   |cons c q=>rw[hd] at h3;exact h3
   |nil=>rfl
 ·cases he:BS.isPrefixOf u with
  |false=>rfl
  |true=>rw[up he] at h4;exact h4
inductive VG:Bool->List Tok->Prop
 |nil:VG false []
 |text {hid:Bool} {t:Tok} {r:List Tok}:t.kind=1->t.name=[]->t.attrs=[]->t.text≠[]->(∀j,j<t.text.length->GX (t.text.drop j) hid=false)->(∀u q,r=u::q->u.kind≠1)->VG hid r->VG hid (t::r)
 |tag {hid:Bool} {t:Tok} {r:List Tok}:(t.kind=3\/t.kind=2/\D7 t=false)->CX t.name=true->FX [] t.attrs->VG hid r->VG hid (t::r)
 |own {hid:Bool} {t a c:Tok} {q:List Tok}:t.kind=2->(t.name=BP\/t.name=CU)->FX [] t.attrs->a.kind=7->a.name=[]->a.attrs=[]->c.kind=4->c.name=t.name->
   Cx (Ab++t.name) (a.text++(Ab++t.name))=some a.text.length->(t.name=BP->Cx Al a.text=none)->VG hid (c::q)->VG hid (t::a::c::q)
 |close {hid:Bool} {t:Tok} {r:List Tok}:t.kind=4->t.attrs=[]->CX t.name=true->VG hid r->VG hid (t::r)
 |Us {t:Tok} {r:List Tok}:t.kind=5->t.name=[]->t.attrs=[]->VG true r->VG false (t::r)
 |shown {t:Tok} {r:List Tok}:t.kind=6->t.name=[]->t.attrs=[]->t.text=BS->VG false r->VG true (t::r)
theorem kC {s:List UInt8}{t:Tok}{l:List Tok}{n:Nat}(h:IT s t=.ok l)(hk:t.kind=2)(hn:t.name=BP)(hf:Cx (Ab++t.name) (s.drop t.to)=some n):Cx Al ((s.drop t.to).take n)=none:=by
 unfold IT at h;rw[if_pos ⟨hk,.inl hn⟩,hf] at h;simp only at h
 cases ho:Cx Al ((s.drop t.to).take n) with
 |none=>rfl
 |some k=>
  rw[ho,decide_eq_true hn] at h;cases h
theorem cP {s x:List UInt8}{n:Nat}(h:Cx x s=some n):Cx x (s.take n++x)=some (s.take n).length:=by
 obtain⟨h1,h2⟩:=Nq h;have hl:=I9 h
 have hn:(s.take n).length=n:=by simp only[List.length_take];omega
 obtain⟨z,hz⟩:=List.isPrefixOf_iff_prefix.1 h1
 have hs:s=s.take n++(x++z):=by rw[hz,List.take_append_drop]
 refine RN (by rw[List.drop_left' rfl];exact List.isPrefixOf_iff_prefix.2 (List.prefix_refl x)) (fun j hj=> ?_) (by simp)
 have h3:=h2 j (by omega)
 rw[Bool.eq_false_iff] at h3⊢;intro e;apply h3;obtain⟨y,hy⟩:=List.isPrefixOf_iff_prefix.1 e;refine List.isPrefixOf_iff_prefix.2 ⟨y++z,?_⟩;rw[<-List.append_assoc,hy]
 rw[List.drop_append_of_le_length (by omega),List.append_assoc,<-List.drop_append_of_le_length (by omega),<-hs]
theorem Zl {s:List UInt8}{tag:Nat}{t:Tok}(h:CK s tag=.ok t):t.attrs=[]:=by
 unfold CK at h;simp only at h
 repeat' split at h
 all_goals first|(cases h;done)|(simp only[Except.ok.injEq] at h;subst h;rfl)
theorem SW {s:List UInt8}{hid:Bool}:∀(f at':Nat) (j:Nat),at'<=j->j<Cj s hid f at'->spec s j hid=false
 |0,at',j,h1,h2=>by simp only[Cj] at h2;omega
 |f+1,at',j,h1,h2=>by
  unfold Cj at h2;split at h2
  ·omega
  ·rename_i hc
   rcases Nat.eq_or_lt_of_le h1 with rfl|h
   ·exact Bool.eq_false_iff.2 fun e=>hc (.inr e)
   ·exact SW f (at'+1) j h h2
theorem HS {s:List UInt8}:∀(f at':Nat) (hid:Option Nat) (l:List Tok),s.length-at'<f->at'<=s.length->DR s f at' hid=.ok l->VG hid.isSome l
 |0,at',hid,l,h,_,_=>by omega
 |f+1,at',hid,l,hf,ha,h=>by
  unfold DR at h;split at h
  ·split at h
   ·cases h
   ·simp only[Except.ok.injEq] at h;subst h;exact .nil
  ·rename_i BC;split at h
   ·rename_i hs;split at h
    ·cases h
    ·rename_i l1 hid2 hn;split at h
     ·cases h
     ·rename_i r hr;simp only[Except.ok.injEq] at h;subst h;unfold DW at hn;split at hn
      ·rename_i ho
       have h5:=GI ho (by simp[Al])
       have e5:Al.length=5:=rfl;split at hn
       ·cases hn
       ·rename_i t ht;split at hn
        ·cases hn
        ·rename_i l2 dH;simp only[Except.ok.injEq,Prod.mk.injEq] at hn;obtain⟨rfl,rfl⟩:=hn
         obtain⟨k1,k2,k3,k4,k5⟩:=WD (by omega) ht
         obtain⟨m1,m2⟩:=cd ht
         rcases PV dH with ⟨o1,rfl⟩|⟨o1,o2,n,o3,rfl⟩
         ·have ih:=HS f t.to hid r (by omega) k5 hr
          exact .tag (k1.symm.imp_right fun k=>⟨k,o1⟩) m1 m2 ih
         ·have oe:=I9 o3;simp only[List.length_append,List.length_drop] at oe;have OV:DR s f (t.to+n) hid=.ok r:=hr
          obtain⟨g,rfl⟩:∃g,f=g+1:=⟨f-1,by omega⟩
          obtain⟨b,q,rfl,b1,b2⟩:=Ok k5 o3 o2 OV
          have ih:=HS (g+1) (t.to+n) hid (b::q) (by omega) (by omega) OV
          have Lk:t.kind=2:=by
           unfold D7 at o1;simp only[Bool.and_eq_true,beq_iff_eq] at o1;exact o1.1
          exact .own Lk o2 m2 rfl rfl rfl b1 b2 (cP o3) (fun tm=>kC dH Lk tm o3) ih
      ·rename_i ho;split at hn
       ·rename_i hc
        have h6:=GI hc (by simp[Ab])
        have e6:Ab.length=6:=rfl;split at hn
        ·cases hn
        ·rename_i t ht;simp only[Except.ok.injEq,Prod.mk.injEq] at hn;obtain⟨rfl,rfl⟩:=hn
         obtain⟨k1,-,kk,k2,k3,k4,k5⟩:=Kf (by omega) ht
         have ih:=HS f t.to hid r (by omega) k5 hr
         exact .close k1 (Zl ht) kk ih
       ·rename_i hc;split at hn
        ·rename_i hh
         have h8:at'+8<=s.length:=by
          unfold EY at hh;simp only[Bool.and_eq_true,decide_eq_true_eq] at hh;omega
         split at hn
         ·cases hn
         ·rename_i Rx;simp only[Except.ok.injEq,Prod.mk.injEq] at hn;obtain⟨rfl,rfl⟩:=hn
          have ih:=HS f (at'+8) (some at') r (by omega) h8 hr
          have hnf:hid.isSome=false:=by simpa using Rx
          rw[hnf];exact .Us rfl rfl rfl ih
        ·rename_i hh;simp only[Except.ok.injEq,Prod.mk.injEq] at hn;obtain⟨rfl,rfl⟩:=hn;obtain⟨s1,s2⟩:=ND hs ho hc hh
         have h3:=GI s1 (by simp[BS])
         have e3:BS.length=3:=rfl
         have ih:=HS f (at'+3) none r (by omega) (by omega) hr
         rw[s2];exact .shown rfl rfl rfl rfl ih
   ·rename_i hs;simp only at h;split at h
    ·cases h
    ·rename_i r hr;simp only[Except.ok.injEq] at h;subst h
     obtain⟨q1,q2,q3⟩:=IL (s:=s) (hid:=hid.isSome) (s.length-at') at' (by omega) ha
     have q4:=SX (f:=s.length-at') (fun e=>BC e) hs (by omega)
     have q5:=SW (s:=s) (hid:=hid.isSome) (s.length-at') at';generalize Cj s hid.isSome (s.length-at') at'=to at *
     have ih:=HS f to hid r (by omega) q2 hr
     have hW:=FD f to hid r (some ⟨1,[],[],cut s at' to,at',to⟩) (by omega) q2 hr fun p hp hk=>q3
     refine .text rfl rfl rfl (Rd q4 q2) (fun j hj=> ?_) (fun u q hrq=> ?_) ih
     ·have DS:(cut s at' to).length=to-at':=by simp only[cut,List.length_take,List.length_drop];omega
      simp only[DS] at hj
      have HT:=q5 (at'+j) (by omega) (by omega)
      rw[T7,<-List.drop_drop] at HT
      have oO:(s.drop at').drop j=(cut s at' to).drop j++s.drop to:=by
       have:s.drop at'=cut s at' to++s.drop to:=by
        unfold cut
        have h2:s.drop to=(s.drop at').drop (to-at'):=by rw[List.drop_drop];congr 1;omega
        rw[h2,List.take_append_drop]
       rw[this,List.drop_append_of_le_length (by omega)]
      rw[oO] at HT;exact YL HT
     ·subst hrq;obtain⟨-,-,-,-,-,-,w7,w1,-,-,-⟩:=hW
      exact fun e=>w1 e _ rfl rfl
theorem Nb {s:List UInt8}{l:List Tok}(h:lexM s=.ok l):VG false l:=HS (s.length+1) 0 none l (by omega) (by omega) h
def sameAs :List Ak->List Ak->Prop
 |[],[]=>True
 |a::r,b::q=>a.name=b.name/\a.value=b.value/\sameAs r q
 |_,_=>False
def fM (a b:Tok):Prop:=a.kind=b.kind/\a.name=b.name/\b.text=written a/\sameAs a.attrs b.attrs
def JI :List Tok->List Tok->Prop
 |[],[]=>True
 |a::r,b::q=>fM a b/\JI r q
 |_,_=>False
theorem FF (s:List UInt8)(p k:Nat):s.getD (p+k) 0=(s.drop p).getD k 0:=by
 simp[List.getD_eq_getElem?_getD,List.getElem?_drop]
theorem qW {p:UInt8->Bool}{a r:List UInt8}{c:UInt8}(ha:∀x∈a,p x=true)(hc:p c=false):(a++c::r).takeWhile p=a:=by
 rw[List.takeWhile_append_of_pos ha,List.takeWhile_cons,hc];simp
theorem Ul {s a r:List UInt8}{c:UInt8}{p:Nat}(h:s.drop p=a++c::r)(ha:∀x∈a,OK x=true)(hc:OK c=false):lets s p=a.length:=by
 unfold lets;rw[h,qW ha hc]
theorem DN {s q:List UInt8}{p:Nat}(h:s.drop p=q)(hp:p<=s.length):s.length=p+q.length:=by
 have:=congrArg List.length h;rw[List.length_drop] at this;omega
theorem C8 {s a r:List UInt8}{p:Nat}(h:s.drop p=a++r):s.drop (p+a.length)=r:=by
 rw[<-List.drop_drop,h,List.drop_left' rfl]
theorem fG {c:UInt8}(h:OK c=true):blB c=false/\c≠62/\c≠47:=by
 simp only[OK,Bool.and_eq_true,decide_eq_true_eq] at h;refine⟨?_,?_,?_⟩
 ·unfold blB
  have h1:c≠32:=by rintro rfl;simp at h
  have h2:c≠9:=by rintro rfl;simp at h
  have h3:c≠10:=by rintro rfl;simp at h
  have h4:c≠13:=by rintro rfl;simp at h
  simp[h1,h2,h3,h4]
 ·rintro rfl;simp at h
 ·rintro rfl;simp at h
theorem OS {n:List UInt8}(h:CX n=true):∀c∈n,OK c=true:=by
 unfold CX at h;obtain⟨m,hm,he⟩:=List.any_eq_true.1 h
 have:m=n:=by simpa using he
 subst this
 have key:LQ.all (fun n=>n.all OK)=true:=by decide
 exact fun c hc=>List.all_eq_true.1 (List.all_eq_true.1 key m hm) c hc
theorem Sq {s r:List UInt8}{c:UInt8}{p:Nat}(h:s.drop p=c::r)(hc:blB c=false):past s p=p:=by
 unfold past;rw[h,List.takeWhile_cons,hc];simp
theorem fk {s r:List UInt8}{c:UInt8}{p:Nat}(h:s.drop p=32::c::r)(hc:blB c=false):past s p=p+1:=by
 unfold past;rw[h,List.takeWhile_cons,List.takeWhile_cons,hc];simp[blB]
theorem kU {a:Ak}(h:¬(34∈a.value/\39∈a.value)):DX a.value∉a.value/\(DX a.value=34\/DX a.value=39):=by
 unfold DX
 by_cases qN:34∈a.value
 ·rw[if_pos (by simpa using qN)]
  exact⟨fun xw=>h ⟨qN,xw⟩,.inr rfl⟩
 ·rw[if_neg (by simpa using qN)]
  exact⟨qN,.inl rfl⟩
theorem jb {s R:List UInt8}{p tag:Nat}{l:List Ak}{a:Ak}(hp:p<=s.length)(h:s.drop p=a.name++61::DX a.value::(a.value++DX a.value::R))(ho:Su a)(hl:∀b∈l,a.name≠b.name):
  FJ s p tag l=.ok (⟨a.name,a.value,p⟩,p+a.name.length+2+a.value.length+1):=by
 obtain⟨o1,o2,o3,o4⟩:=ho;obtain⟨m1,m2⟩:=kU o4
 have hn:lets s p=a.name.length:=Ul h o3 (by decide)
 have mF:0<a.name.length:=List.length_pos_iff.2 o1;have hlen:=DN h hp;simp only[List.length_append,List.length_cons] at hlen;have OZ:s.drop (p+a.name.length)=61::DX a.value::(a.value++DX a.value::R):=C8 h
 have g0:s.getD (p+a.name.length) 0=61:=by
  have:=FF s (p+a.name.length) 0;rw[Nat.add_zero,OZ] at this;simpa using this
 have g1:s.getD (p+a.name.length+1) 0=DX a.value:=by
  have:=FF s (p+a.name.length) 1;rw[OZ] at this;simpa using this
 have Jc:s.drop (p+a.name.length+2)=a.value++DX a.value::R:=by
  rw[<-List.drop_drop,OZ];rfl
 have we:min (lets s p) 16=a.name.length:=by rw[hn];omega
 have oJ:(s.drop p).take a.name.length=a.name:=by rw[h,List.take_left' rfl]
 have xl:l.any (fun b=>a.name==b.name)=false:=by
  rw[List.any_eq_false];intro b hb;simpa using hl b hb
 unfold FJ;simp only[we,oJ,g0,g1,Jc]
 rw[xl,if_neg (by simp),if_neg (by omega),if_neg (by simp;omega),if_neg (by omega),if_neg (by rcases m2 with e|e<;>rw[e]<;>decide),lC m1]
 simp only[List.take_left' rfl]
theorem Tm (a:Ak)(r:List Ak):(AP (a::r)).length=a.name.length+a.value.length+4+(AP r).length:=by
 simp only[AP,List.length_cons,List.length_append];omega
theorem Tn {s:List UInt8}{tag:Nat}{R:List UInt8}{e:UInt8}(he:e=62\/e=47):∀(xs:List Ak) (f p:Nat) (l seen:List Ak),p<=s.length->s.drop p=AP xs++e::R->FX seen xs->(∀b∈l,∃c∈seen,b.name=c.name)->xs.length<f->
  ∃qQ,A8 s tag f p l=.ok (l++qQ,p+(AP xs).length)/\sameAs xs qQ
 |[],f,p,l,seen,hp,h,ho,hs,hf=>by
  obtain⟨g,rfl⟩:∃g,f=g+1:=⟨f-1,by simp at hf;omega⟩
  rw[AP,List.nil_append] at h
  have HD:blB e=false:=by rcases he with rfl|rfl<;>decide
  have Wx:=Sq h HD;have hlen:=DN h hp;simp only[List.length_cons] at hlen
  have g0:s.getD p 0=e:=by
   have:=FF s p 0;rw[Nat.add_zero,h] at this;simpa using this
  refine⟨[],?_,trivial⟩;unfold A8;simp only[Wx]
  rw[if_neg (by omega),if_pos (by rw[g0];exact he)]
  simp[AP]
 |a::r,f,p,l,seen,hp,h,ho,hs,hf=>by
  obtain⟨g,rfl⟩:∃g,f=g+1:=⟨f-1,by simp at hf;omega⟩
  obtain⟨o1,o2,o3⟩:=ho
  obtain⟨c,nm,TG⟩:∃c nm,a.name=c::nm:=by
   cases hn:a.name with
   |nil=>exact absurd hn o1.1
   |cons c nm=>exact⟨c,nm,rfl⟩
  have hY:=o1.2.2.1 c (by rw[TG];simp)
  obtain⟨b1,b2,b3⟩:=fG hY
  have h':s.drop p=32::(a.name++61::DX a.value::(a.value++DX a.value::(AP r++e::R))):=by
   rw[h];simp[AP]
  have Wx:past s p=p+1:=fk (r:=nm++61::DX a.value::(a.value++DX a.value::(AP r++e::R))) (c:=c) (by rw[h',TG];rfl) b1
  have hlen:=DN h' hp;simp only[List.length_cons,List.length_append] at hlen
  have hd:s.drop (p+1)=a.name++61::DX a.value::(a.value++DX a.value::(AP r++e::R)):=by
   rw[<-List.drop_drop,h'];rfl
  have g0:s.getD (p+1) 0=c:=by
   have:=FF s (p+1) 0;rw[Nat.add_zero,hd,TG] at this;simpa using this
  have o7:=jb (tag:=tag) (l:=l) (by omega) hd o1 fun b hb=>by
   obtain⟨x,hx,xg⟩:=hs b hb;rw[xg];exact o2 x hx
  have Jc:s.drop (p+1+a.name.length+2+a.value.length+1)=AP r++e::R:=by
   have e1:p+1+a.name.length+2+a.value.length+1=(p+1)+(a.name++61::DX a.value::(a.value++[DX a.value])).length:=by
    simp only[List.length_append,List.length_cons,List.length_nil];omega
   rw[e1];refine C8 ?_;rw[hd];simp
  obtain⟨qQ,k1,k2⟩:=Tn he r g (p+1+a.name.length+2+a.value.length+1) (l++[⟨a.name,a.value,p+1⟩]) (seen++[a]) (by omega) Jc o3 (fun b hb=>by
   rcases List.mem_append.1 hb with hb|hb
   ·obtain⟨x,hx,xg⟩:=hs b hb
    exact⟨x,by simp[hx],xg⟩
   ·rw[List.mem_singleton.1 hb]
    exact⟨a,by simp,rfl⟩) (by simp at hf;omega)
  refine⟨⟨a.name,a.value,p+1⟩::qQ,?_,⟨rfl,rfl,k2⟩⟩;unfold A8;simp only[Wx,g0]
  rw[if_neg (by omega),if_neg (by rintro(h|h);exact b2 h;exact b3 h),if_neg (by omega),o7]
  have e2:p+1+a.name.length+2+a.value.length+1+(AP r).length=p+(AP (a::r)).length:=by rw[Tm];omega
  rw[e2] at k1
  exact k1.trans (by simp)
theorem ZF (xs:List Ak){e:UInt8}(he:e=62\/e=47)(R:List UInt8):∃c q,AP xs++e::R=c::q/\OK c=false:=by
 cases xs with
 |nil=>exact⟨e,R,rfl,by rcases he with rfl|rfl<;>decide⟩
 |cons a r=>exact⟨32,_,rfl,by decide⟩
theorem Rn :∀(xs:List Ak),xs.length<=(AP xs).length
 |[]=>by simp
 |a::r=>by
  have:=Rn r;rw[Tm];simp only[List.length_cons];omega
theorem Rh {s a R:List UInt8}{p:Nat}(h:s.drop p=a++R):cut s p (p+a.length)=a:=by
 rw[Fh,h,List.take_left' rfl]
theorem aR {s R:List UInt8}{p:Nat}{t:Tok}(hp:p<=s.length)(h:s.drop p=written t++R)(hk:t.kind=3\/t.kind=2)(hn:CX t.name=true)(ho:FX [] t.attrs):
  ∃u,Gp s p=.ok u/\u.kind=t.kind/\u.name=t.name/\sameAs t.attrs u.attrs/\u.fr=p/\u.to=p+(written t).length/\u.text=written t:=by
 obtain⟨e,Q,he,hw,hke⟩:∃(e:UInt8) (Q:List UInt8),(e=62\/e=47)/\written t=Al++(t.name++(AP t.attrs++e::Q))/\(e=62/\Q=[]/\t.kind=2\/e=47/\Q=[62]/\t.kind=3):=by
  rcases hk with k|k
  ·exact⟨47,[62],.inr rfl,by unfold written;rw[if_neg (by omega),if_neg (by omega),if_neg (by omega),if_pos k],.inr ⟨rfl,rfl,k⟩⟩
  ·exact⟨62,[],.inl rfl,by unfold written;rw[if_neg (by omega),if_neg (by omega),if_pos k],.inl ⟨rfl,rfl,k⟩⟩
 have bB:=congrArg List.length hw;have e5:Al.length=5:=rfl;simp only[List.length_append,List.length_cons] at bB;have hlen:=DN h hp;rw[List.length_append] at hlen
 have h5:s.drop (p+5)=t.name++(AP t.attrs++e::(Q++R)):=by
  have:s.drop p=Al++(t.name++(AP t.attrs++e::(Q++R))):=by rw[h,hw];simp
  exact C8 this
 obtain⟨c,q,hcq,Fu⟩:=ZF t.attrs he (Q++R)
 have hl:lets s (p+5)=t.name.length:=Ul (r:=q) (c:=c) (by rw[h5,hcq]) (OS hn) Fu
 have oJ:(s.drop (p+5)).take t.name.length=t.name:=by rw[h5,List.take_left' rfl]
 have h6:s.drop (p+5+t.name.length)=AP t.attrs++e::(Q++R):=C8 h5;have hm:=Rn t.attrs
 obtain⟨qQ,k1,k2⟩:=Tn (tag:=p) he t.attrs (s.length+1) (p+5+t.name.length) [] [] (by omega) h6 ho (fun b hb=>by cases hb) (by omega)
 have h7:s.drop (p+5+t.name.length+(AP t.attrs).length)=e::(Q++R):=C8 h6
 have g0:s.getD (p+5+t.name.length+(AP t.attrs).length) 0=e:=by
  have:=FF s (p+5+t.name.length+(AP t.attrs).length) 0;rw[Nat.add_zero,h7] at this;simpa using this
 unfold Gp;simp only[hl,oJ,k1]
 rw[if_neg (by rw[hn];simp)]
 unfold Da;simp only[g0]
 rcases hke with ⟨rfl,rfl,RB⟩|⟨rfl,rfl,RB⟩
 ·rw[if_neg (by decide:¬(62:UInt8)=47)]
  simp only[List.length_nil] at bB
  rw[if_neg (by omega),Nat.add_zero,g0,if_neg (by simp)]
  have kh:p+5+t.name.length+(AP t.attrs).length+1=p+(written t).length:=by omega
  refine⟨_,rfl,by simp[RB],rfl,by simpa using k2,rfl,kh,?_⟩
  simp only[kh];exact Rh h
 ·rw[if_pos rfl];simp only[List.length_cons,List.length_nil] at bB
  have g1:s.getD (p+5+t.name.length+(AP t.attrs).length+1) 0=62:=by
   have:=FF s (p+5+t.name.length+(AP t.attrs).length) 1;rw[h7] at this;simpa using this
  rw[if_neg (by omega),g1,if_neg (by simp)]
  have kh:p+5+t.name.length+(AP t.attrs).length+1+1=p+(written t).length:=by omega
  refine⟨_,rfl,by simp[RB],rfl,by simpa using k2,rfl,kh,?_⟩
  simp only[kh];exact Rh h
theorem jN {s R:List UInt8}{p:Nat}{t:Tok}(hp:p<=s.length)(h:s.drop p=written t++R)(hk:t.kind=4)(hn:CX t.name=true):
  CK s p=.ok ⟨4,t.name,[],written t,p,p+(written t).length⟩:=by
 have hw:written t=Ab++(t.name++[62]):=by unfold written;rw[if_pos hk]
 have bB:=congrArg List.length hw;have e6:Ab.length=6:=rfl;simp only[List.length_append,List.length_cons,List.length_nil] at bB;have hlen:=DN h hp;rw[List.length_append] at hlen
 have h6:s.drop (p+6)=t.name++62::R:=by
  have:s.drop p=Ab++(t.name++62::R):=by rw[h,hw];simp
  exact C8 this
 have hl:lets s (p+6)=t.name.length:=Ul h6 (OS hn) (by decide)
 have oJ:(s.drop (p+6)).take t.name.length=t.name:=by rw[h6,List.take_left' rfl]
 have h7:s.drop (p+6+t.name.length)=62::R:=C8 h6
 have Wx:=Sq h7 (by decide)
 have g0:s.getD (p+6+t.name.length) 0=62:=by
  have:=FF s (p+6+t.name.length) 0;rw[Nat.add_zero,h7] at this;simpa using this
 unfold CK;simp only[hl,oJ,Wx,g0]
 rw[if_neg (by rw[hn];simp),if_neg (by omega),if_neg (by simp)]
 have kh:p+6+t.name.length+1=p+(written t).length:=by omega
 rw[kh,Rh h]
theorem Hl {t:Tok}(h:t.kind=3\/t.kind=2):∃q,written t=Al++q:=by
 rcases h with k|k
 ·exact⟨_,by unfold written;rw[if_neg (by omega),if_neg (by omega),if_neg (by omega),if_pos k]⟩
 ·exact⟨_,by unfold written;rw[if_neg (by omega),if_neg (by omega),if_pos k]⟩
theorem FP {t:Tok}(h:t.kind=1\/t.kind=6\/t.kind=7):written t=t.text:=by
 unfold written
 rw[if_neg (by omega),if_neg (by omega),if_neg (by omega),if_neg (by omega)]
theorem FW (x y:List UInt8):x.isPrefixOf (x++y)=true:=List.isPrefixOf_iff_prefix.2 (List.prefix_append x y)
theorem Z7 {hid:Bool}{r:List Tok}(h:VG hid r):r=[]\/(∃u q,r=u::q/\u.kind=1)\/(GX (Bh r) hid=true/\lP (Bh r)):=by
 cases h with
 |nil=>exact .inl rfl
 |text k=>exact .inr (.inl ⟨_,_,rfl,k⟩)
 | @tag _ t q k=>
  right;right;obtain⟨w,hw⟩:=Hl (t:=t) (k.imp_right (·.1));simp only[Bh,hw,List.append_assoc]
  exact⟨by unfold GX;rw[FW];rfl,.inr (.inl ⟨_,rfl⟩)⟩
 | @own _ t a c q k=>
  right;right;obtain⟨w,hw⟩:=Hl (t:=t) (.inr k);simp only[Bh,hw,List.append_assoc]
  exact⟨by unfold GX;rw[FW];rfl,.inr (.inl ⟨_,rfl⟩)⟩
 | @close _ t q k=>
  right;right
  have hw:written t=Ab++(t.name++[62]):=by unfold written;rw[if_pos k]
  simp only[Bh,hw,List.append_assoc]
  exact⟨by unfold GX;rw[FW];simp,.inr (.inl ⟨_,rfl⟩)⟩
 | @Us t q k=>
  right;right
  have hw:written t=Cf++[32]:=by unfold written;rw[if_neg (by omega),if_pos k]
  simp only[Bh,hw,List.append_assoc]
  exact⟨by simp[GX,Cf,Al,Ab,BS,List.isPrefixOf,blB],.inr (.inl ⟨_,rfl⟩)⟩
 | @shown t q k k2 k3 k4=>
  right;right
  have hw:written t=BS:=by rw[FP (.inr (.inl k)),k4]
  simp only[Bh,hw]
  exact⟨by unfold GX;rw[FW];simp,.inr (.inr ⟨_,rfl⟩)⟩
theorem lD {x s:List UInt8}{n:Nat}(h:Cx x s=some n)(y:List UInt8):Cx x (s++y)=some n:=by
 obtain⟨h1,h2⟩:=Nq h;have hl:=I9 h
 refine RN ?_ (fun j hj=> ?_) (by simp;omega)
 ·rw[List.drop_append_of_le_length (by omega)]
  obtain⟨z,hz⟩:=List.isPrefixOf_iff_prefix.1 h1
  exact List.isPrefixOf_iff_prefix.2 ⟨z++y,by rw[<-List.append_assoc,hz]⟩
 ·have h3:=h2 j hj;rw[Bool.eq_false_iff] at h3⊢;intro e;apply h3
  rw[List.drop_append_of_le_length (by omega)] at e
  obtain⟨z,hz⟩:=List.isPrefixOf_iff_prefix.1 e
  have hx:x.length<=(s.drop j).length:=by rw[List.length_drop];omega
  have:=congrArg (List.take x.length) hz;rw[List.take_left' rfl,List.take_append_of_le_length hx] at this
  exact List.isPrefixOf_iff_prefix.2 ⟨(s.drop j).drop x.length,by
   have h4:=List.take_append_drop x.length (s.drop j);rw[<-this] at h4
   exact h4⟩
theorem Mz {s:List UInt8}{hid:Bool}:∀(n f p:Nat),(∀j,j<n->spec s (p+j) hid=false)->p+n<=s.length->(p+n=s.length\/spec s (p+n) hid=true)->n<=f->Cj s hid f p=p+n
 |0,f,p,h1,h2,h3,hf=>by
  cases f with
  |zero=>rfl
  |succ f=>
   unfold Cj
   rw[if_pos (by
    rcases h3 with h3|h3
    ·left;omega
    ·right;exact h3)]
   rfl
 |n+1,f,p,h1,h2,h3,hf=>by
  obtain⟨g,rfl⟩:∃g,f=g+1:=⟨f-1,by omega⟩
  unfold Cj
  have h0:=h1 0 (by omega)
  rw[Nat.add_zero] at h0
  rw[if_neg (by rintro(h|h);omega;rw[h0] at h;cases h),Mz n g (p+1) (fun j hj=>by
   have:=h1 (j+1) (by omega)
   rwa [show p+(j+1)=p+1+j by omega] at this) (by omega) (by rwa [show p+1+n=p+(n+1) by omega]) (by omega)]
  omega
theorem Ia {s:List UInt8}{g p:Nat}{hid hid2:Option Nat}{l r:List Tok}(h1:p<s.length)(h2:spec s p hid.isSome=true)(h3:DW s p hid=.ok (l,hid2))(h4:DR s g (Cs l (p+1)) hid2=.ok r):DR s (g+1) p hid=.ok (l++r):=by
 unfold DR
 rw[if_neg (by omega),if_pos h2,h3]
 simp only[h4]
theorem Iw {a b:Tok}{r q:List Tok}(h:fM a b)(h2:JI r q):JI (a::r) ([b]++q):=⟨h,h2⟩
theorem nc {t u:Tok}(hk:u.kind=t.kind)(hn:u.name=t.name)(h:t.kind=3\/t.kind=2/\D7 t=false)(s:List UInt8):IT s u=.ok [u]:=by
 unfold IT;rw[if_neg]
 rintro⟨k,yw⟩
 rcases h with h|⟨h,ho⟩
 ·omega
 ·unfold D7 at ho;rw[h] at ho;rw[hn] at yw
  rcases yw with e|e<;>rw[e] at ho<;>simp at ho
theorem cw {s:List UInt8}{hid:Bool}{l:List Tok}(hv:VG hid l):∀(f p:Nat) (Ft:Option Nat),Ft.isSome=hid->p<=s.length->s.drop p=Bh l->s.length-p<f->∃m,DR s f p Ft=.ok m/\JI l m:=by
 induction hv with
 |nil=>
  intro f p Ft hh hp hd hf
  obtain⟨g,rfl⟩:∃g,f=g+1:=⟨f-1,by omega⟩
  have hlen:=DN hd hp;simp only[Bh,List.length_nil] at hlen
  cases Ft with
  |some x=>cases hh
  |none=>
   refine⟨[],?_,trivial⟩;unfold DR
   rw[if_pos (by omega)]
 | @text hid t r k1 k2 k3 k4 k5 k6 hr ih=>
  intro f p Ft hh hp hd hf
  obtain⟨g,rfl⟩:∃g,f=g+1:=⟨f-1,by omega⟩
  have hw:written t=t.text:=FP (.inl k1);simp only[Bh,hw] at hd;have hlen:=DN hd hp;rw[List.length_append] at hlen;have hn:0<t.text.length:=List.length_pos_iff.2 k4
  have xi:lP (Bh r):=by
   rcases Z7 hr with rfl|⟨u,q,rfl,hu⟩|⟨_,h⟩
   ·exact .inl rfl
   ·exact absurd hu (k6 u q rfl)
   ·exact h
  have HT:∀j,j<t.text.length->spec s (p+j) Ft.isSome=false:=fun j hj=>by
   rw[T7,<-List.drop_drop,hd,List.drop_append_of_le_length (by omega),hh]
   exact inner (by
    intro e;have:=congrArg List.length e;rw[List.length_drop,List.length_nil] at this
    omega) (k5 j hj) xi
  have Jc:s.drop (p+t.text.length)=Bh r:=C8 hd
  have kh:Cj s Ft.isSome (s.length-p) p=p+t.text.length:=by
   refine Mz _ _ _ HT (by omega) ?_ (by omega)
   rcases Z7 hr with rfl|⟨u,q,rfl,hu⟩|⟨h,_⟩
   ·left;simp only[Bh,List.length_nil] at hlen;omega
   ·exact absurd hu (k6 u q rfl)
   ·right;rw[T7,Jc,hh];exact h
  obtain⟨m,hm,hs⟩:=ih g (p+t.text.length) Ft hh (by omega) Jc (by omega)
  refine⟨⟨1,[],[],cut s p (p+t.text.length),p,p+t.text.length⟩::m,?_,⟨k1,k2,?_,?_⟩,hs⟩
  ·unfold DR;have h0:=HT 0 hn;rw[Nat.add_zero] at h0
   rw[if_neg (by omega),if_neg (by rw[h0];simp)]
   simp only[kh,hm]
  ·simp only[hw];exact Rh hd
  ·rw[k3];trivial
 | @tag hid t r k1 k2 k3 hr ih=>
  intro f p Ft hh hp hd hf
  obtain⟨g,rfl⟩:∃g,f=g+1:=⟨f-1,by omega⟩
  have RB:t.kind=3\/t.kind=2:=k1.imp_right (·.1);obtain⟨w,hw⟩:=Hl RB;simp only[Bh] at hd;have hlen:=DN hd hp;have bB:=congrArg List.length hw;have e5:Al.length=5:=rfl;rw[List.length_append] at hlen bB;obtain⟨u,hu,u1,u2,u3,u4,u5,u6⟩:=aR hp hd RB k2 k3
  have ho:has s Al p=true:=by unfold has;rw[hd,hw,List.append_assoc];exact FW _ _
  have Jc:s.drop u.to=Bh r:=by rw[u5];exact C8 hd
  obtain⟨m,hm,hs⟩:=ih g u.to Ft hh (by omega) Jc (by omega)
  refine⟨[u]++m,Ia (by omega) (by unfold spec;rw[ho];rfl) (hid2:=Ft) ?_ hm,Iw ⟨u1.symm,u2.symm,u6,u3⟩ hs⟩
  unfold DW;rw[if_pos ho,hu];simp only[nc u1 u2 k1 s]
 | @own hid t a c q k1 k2 k3 a1 a2 a3 c1 c2 r1 r2 hr ih=>
  intro f p Ft hh hp hd hf
  obtain⟨g,rfl⟩:∃g,f=g+1:=⟨f-1,by omega⟩
  obtain⟨w,hw⟩:=Hl (t:=t) (.inr k1);have yi:written a=a.text:=FP (.inr (.inr a1))
  have hwc:written c=Ab++(c.name++[62]):=by unfold written;rw[if_pos c1]
  have oe:CX t.name=true:=by rcases k2 with e|e<;>rw[e]<;>decide
  simp only[Bh] at hd;have hlen:=DN hd hp;have bB:=congrArg List.length hw;have e5:Al.length=5:=rfl;rw[List.length_append] at hlen bB;obtain⟨u,hu,u1,u2,u3,u4,u5,u6⟩:=aR hp hd (.inr k1) oe k3
  have ho:has s Al p=true:=by unfold has;rw[hd,hw,List.append_assoc];exact FW _ _
  have Jc:s.drop u.to=a.text++Bh (c::q):=by rw[u5];rw[C8 hd,yi];rfl
  have Uu:Cx (Ab++u.name) (s.drop u.to)=some a.text.length:=by
   rw[Jc,u2]
   have e:a.text++Bh (c::q)=(a.text++(Ab++t.name))++([62]++Bh q):=by
    simp only[Bh,hwc,c2];simp
   rw[e];exact lD r1 _
  have oJ:(s.drop u.to).take a.text.length=a.text:=by rw[Jc,List.take_left' rfl]
  have oR:IT s u=.ok [u,⟨7,[],[],a.text,u.to,u.to+a.text.length⟩]:=by
   unfold IT
   rw[if_pos ⟨by rw[u1];exact k1,by rw[u2];exact k2⟩,Uu]
   simp only[oJ]
   by_cases tm:u.name=BP
   ·rw[r2 (by rw[<-u2];exact tm)]
   ·rw[decide_eq_false tm]
    cases Cx Al a.text<;>rfl
  have sY:=DN Jc (by rw[u5];omega)
  rw[List.length_append] at sY;have hd3:s.drop (u.to+a.text.length)=Bh (c::q):=C8 Jc
  obtain⟨m,hm,hs⟩:=ih g (u.to+a.text.length) Ft hh (by omega) hd3 (by omega)
  refine⟨[u,⟨7,[],[],a.text,u.to,u.to+a.text.length⟩]++m,Ia (by omega) (by unfold spec;rw[ho];rfl) (hid2:=Ft) ?_ hm,⟨u1.symm,u2.symm,u6,u3⟩,⟨a1,a2,yi.symm,by rw[a3];trivial⟩,hs⟩
  unfold DW;rw[if_pos ho,hu];simp only[oR]
 | @close hid t r k1 k2 k3 hr ih=>
  intro f p Ft hh hp hd hf
  obtain⟨g,rfl⟩:∃g,f=g+1:=⟨f-1,by omega⟩
  have hw:written t=Ab++(t.name++[62]):=by unfold written;rw[if_pos k1]
  simp only[Bh] at hd;have hlen:=DN hd hp;have bB:=congrArg List.length hw;have e6:Ab.length=6:=rfl;rw[List.length_append] at hlen bB
  have hc:has s Ab p=true:=by unfold has;rw[hd,hw,List.append_assoc];exact FW _ _
  have ho:has s Al p=false:=by unfold has;rw[hd,hw];simp[Al,Ab,List.isPrefixOf]
  have DS:=jN hp hd k1 k3;have Jc:s.drop (p+(written t).length)=Bh r:=C8 hd
  obtain⟨m,hm,hs⟩:=ih g (p+(written t).length) Ft hh (by omega) Jc (by omega)
  refine⟨[⟨4,t.name,[],written t,p,p+(written t).length⟩]++m,Ia (l:=[⟨4,t.name,[],written t,p,p+(written t).length⟩]) (by omega) (by unfold spec;rw[ho,hc];rfl) (hid2:=Ft) ?_ hm,Iw ⟨k1,rfl,rfl,by rw[k2];trivial⟩ hs⟩
  unfold DW
  rw[if_neg (by rw[ho];simp),if_pos hc,DS]
 | @Us t r k1 k2 k3 hr ih=>
  intro f p Ft hh hp hd hf
  obtain⟨g,rfl⟩:∃g,f=g+1:=⟨f-1,by omega⟩
  have hw:written t=Cf++[32]:=by unfold written;rw[if_neg (by omega),if_pos k1]
  simp only[Bh] at hd;have hlen:=DN hd hp
  have bB:(written t).length=8:=by rw[hw];rfl
  rw[List.length_append] at hlen
  have ho:has s Al p=false:=by unfold has;rw[hd,hw];simp[Al,Cf,List.isPrefixOf]
  have hc:has s Ab p=false:=by unfold has;rw[hd,hw];simp[Ab,Cf,List.isPrefixOf]
  have hb:EY s p=true:=by
   unfold EY has
   have g7:s.getD (p+7) 0=32:=by
    have:=FF s p 7;rw[hd,hw] at this;simpa[Cf] using this
   rw[g7,hd,hw,List.append_assoc,FW,decide_eq_true (by omega)]
   rfl
  have Ip:Ft=none:=by cases Ft with|none=>rfl|some x=>cases hh
  subst Ip
  have Jc:s.drop (p+8)=Bh r:=by rw[<-bB];exact C8 hd
  obtain⟨m,hm,hs⟩:=ih g (p+8) (some p) rfl (by omega) Jc (by omega)
  refine⟨[⟨5,[],[],cut s p (p+8),p,p+8⟩]++m,Ia (l:=[⟨5,[],[],cut s p (p+8),p,p+8⟩]) (by omega) (by unfold spec;rw[ho,hc,hb];rfl) (hid2:=some p) ?_ hm,Iw ⟨k1,k2,?_,by rw[k3];trivial⟩ hs⟩
  ·unfold DW
   rw[if_neg (by rw[ho];simp),if_neg (by rw[hc];simp),if_pos hb,if_neg (by simp)]
  ·simp only[<-bB];exact Rh hd
 | @shown t r k1 k2 k3 k4 hr ih=>
  intro f p Ft hh hp hd hf
  obtain⟨g,rfl⟩:∃g,f=g+1:=⟨f-1,by omega⟩
  have hw:written t=BS:=by rw[FP (.inr (.inl k1)),k4]
  simp only[Bh,hw] at hd;have hlen:=DN hd hp;have e3:BS.length=3:=rfl;rw[List.length_append] at hlen
  have ho:has s Al p=false:=by unfold has;rw[hd];simp[Al,BS,List.isPrefixOf]
  have hc:has s Ab p=false:=by unfold has;rw[hd];simp[Ab,BS,List.isPrefixOf]
  have hb:EY s p=false:=by unfold EY has;rw[hd];simp[Cf,BS,List.isPrefixOf]
  have hZ:has s BS p=true:=by unfold has;rw[hd];exact FW _ _
  have Jc:s.drop (p+3)=Bh r:=C8 hd
  obtain⟨m,hm,hs⟩:=ih g (p+3) none rfl (by omega) Jc (by omega)
  refine⟨[⟨6,[],[],BS,p,p+3⟩]++m,Ia (l:=[⟨6,[],[],BS,p,p+3⟩]) (by omega) (by unfold spec;rw[ho,hc,hb,hZ,hh];rfl) (hid2:=none) ?_ hm,Iw ⟨k1,k2,hw.symm,by rw[k3];trivial⟩ hs⟩
  unfold DW
  rw[if_neg (by rw[ho];simp),if_neg (by rw[hc];simp),if_neg (by rw[hb];simp)]
def tokC :Ce:=fun vs h K=>∃s:List UInt8,s.length<=limE/\vs=[.str s]/\(∀p e,lexM s=.error (p,e)->K (.tup [.sl 0 [] none,.int .i64 p,.int .i64 e]) h)/\
 (∀l,lexM s=.ok l->K (.tup [.sl 6 (encTs l) none,.int .i64 0,.int .i64 0]) h)
def mZ :Ce:=fun vs h K=>vs.isEmpty=true/\K (.bool true) h
theorem lS {s:List UInt8}{at' tag:Nat}{l:List Ak}{p:Nat}{e:Int}(h:FJ s at' tag l=.error (p,e)):e≠0:=by
 unfold FJ at h;simp only at h
 repeat' split at h
 all_goals first|(cases h;done)|(simp only[Except.error.injEq,Prod.mk.injEq] at h;obtain⟨-,rfl⟩:=h;decide)
theorem Xa {s:List UInt8}{tag:Nat}:∀(f at':Nat) (l:List Ak) (p:Nat) (e:Int),A8 s tag f at' l=.error (p,e)->e≠0
 |0,at',l,p,e,h=>by simp only[A8,Except.error.injEq,Prod.mk.injEq] at h;obtain⟨-,rfl⟩:=h;decide
 |f+1,at',l,p,e,h=>by
  unfold A8 at h;simp only at h;split at h
  ·simp only[Except.error.injEq,Prod.mk.injEq] at h;obtain⟨-,rfl⟩:=h;decide
  ·split at h
   ·cases h
   ·split at h
    ·simp only[Except.error.injEq,Prod.mk.injEq] at h;obtain⟨-,rfl⟩:=h;decide
    ·split at h
     ·rename_i e' he;simp only[Except.error.injEq] at h;subst h;exact lS he
     ·exact Xa f _ _ p e h
theorem kL {s:List UInt8}{tag p:Nat}{e:Int}(h:Gp s tag=.error (p,e)):e≠0:=by
 unfold Gp at h;simp only at h;split at h
 ·simp only[Except.error.injEq,Prod.mk.injEq] at h;obtain⟨-,rfl⟩:=h;decide
 ·split at h
  ·rename_i e' he;simp only[Except.error.injEq] at h;subst h;exact Xa _ _ _ p e he
  ·rename_i l b hb;unfold Da at h;simp only at h
   generalize hk:(if s.getD b 0=47 then 1 else 0:Nat)=k at h
   split at h
   ·simp only[Except.error.injEq,Prod.mk.injEq] at h;obtain⟨-,rfl⟩:=h;decide
   ·split at h
    ·simp only[Except.error.injEq,Prod.mk.injEq] at h;obtain⟨-,rfl⟩:=h;decide
    ·cases h
theorem nP {s:List UInt8}{t:Tok}{p:Nat}{e:Int}(h:IT s t=.error (p,e)):e≠0:=by
 unfold IT at h
 repeat' split at h
 all_goals first|(cases h;done)|(simp only[Except.error.injEq,Prod.mk.injEq] at h;obtain⟨-,rfl⟩:=h;decide)
theorem jO {s:List UInt8}{tag p:Nat}{e:Int}(h:CK s tag=.error (p,e)):e≠0:=by
 unfold CK at h;simp only at h
 repeat' split at h
 all_goals first|(cases h;done)|(simp only[Except.error.injEq,Prod.mk.injEq] at h;obtain⟨-,rfl⟩:=h;decide)
theorem kT {s:List UInt8}{a:Nat}{hid:Option Nat}{p:Nat}{e:Int}(h:DW s a hid=.error (p,e)):e≠0:=by
 unfold DW at h;split at h
 ·split at h
  ·rename_i e' he;simp only[Except.error.injEq] at h;subst h;exact kL he
  ·split at h
   ·rename_i e' he;simp only[Except.error.injEq] at h;subst h;exact nP he
   ·cases h
 ·split at h
  ·split at h
   ·rename_i e' he;simp only[Except.error.injEq] at h;subst h;exact jO he
   ·cases h
  ·repeat' split at h
   all_goals first|(cases h;done)|(simp only[Except.error.injEq,Prod.mk.injEq] at h;obtain⟨-,rfl⟩:=h;decide)
theorem Yt {s:List UInt8}:∀(f a:Nat) (hid:Option Nat) (p:Nat) (e:Int),DR s f a hid=.error (p,e)->e≠0
 |0,a,hid,p,e,h=>by cases h
 |f+1,a,hid,p,e,h=>by
  unfold DR at h;split at h
  ·split at h
   ·simp only[Except.error.injEq,Prod.mk.injEq] at h;obtain⟨-,rfl⟩:=h;decide
   ·cases h
  ·split at h
   ·split at h
    ·rename_i e' he;simp only[Except.error.injEq] at h;subst h;exact kT he
    ·split at h
     ·rename_i e' he;simp only[Except.error.injEq] at h;subst h;exact Yt f _ _ p e he
     ·cases h
   ·simp only at h;split at h
    ·rename_i e' he;simp only[Except.error.injEq] at h;subst h;exact Yt f _ _ p e he
    ·cases h
theorem gW {s:List UInt8}{p:Nat}{e:Int}(h:lexM s=.error (p,e)):e≠0:=Yt _ _ _ p e h
theorem Zz {s:List UInt8}:∀(r:List Tok) (a:Nat) (prev:Option Tok) (hid:Bool),WG s a prev hid r->a<=s.length->r.length<=2*(s.length-a)\/((∃p,prev=some p/\p.kind=2)/\r.length<=2*(s.length-a)+1)
 |[],a,prev,hid,_,_=>.inl (by simp)
 |t::r,a,prev,hid,h,ha=>by
  obtain⟨h1,h2,h3,h4,h5,h6,h7,h8,h9,RJ,sv⟩:=h;have ih:=Zz r t.to (some t) _ sv h3;rw[List.length_cons]
  by_cases ht:t.text=[]
  ·have k:=h5 ht;refine .inr ⟨h7 k,?_⟩
   rcases ih with ih|⟨⟨p,hp,hk⟩,_⟩
   ·omega
   ·injection hp with hp;subst hp;rw[k] at hk;cases hk
  ·have:a<t.to:=by
    rcases Nat.lt_or_ge a t.to with q|q
    ·exact q
    ·exfalso;apply ht;rw[<-h4];unfold cut;rw[show t.to-a=0 by omega];rfl
   refine .inl ?_
   rcases ih with ih|⟨_,ih⟩<;>omega
theorem nr (n:Nat)(l:List Ak):AJ n (encAs l)=true:=by
 induction l with
 |nil=>rfl
 |cons a r ih=>show AJ n (Ao a::encAs r)=true;rw[AJ,ih];rfl
theorem gK (n:Nat)(l:List Tok):AJ n (encTs l)=true:=by
 induction l with
 |nil=>rfl
 |cons a r ih=>
  show AJ n (encT a::encTs r)=true;rw[AJ,ih];simp only[encT,CB,Ed,nr,Bool.and_true,Bool.true_and]
def fits (t:Tok):Prop:=(written t).length+t.fr<=t.to/\(t.attrs=[]\/t.kind=2\/t.kind=3)
theorem Zu (l r:List Ak):(AP (l++r)).length=(AP l).length+(AP r).length:=by
 induction l with
 |nil=>simp[AP]
 |cons a l ih=>
  simp only[List.cons_append,AP,List.length_cons,List.length_append,ih];omega
theorem K1 (l r:List Ak):AP (l++r)=AP l++AP r:=by
 induction l with
 |nil=>rfl
 |cons a l ih=>simp[AP,ih]
theorem dj {s:List UInt8}{at' tag:Nat}{l:List Ak}{a:Ak}{b:Nat}(h:FJ s at' tag l=.ok (a,b)):(AP [a]).length+at'<=b+1:=by
 unfold FJ at h;simp only at h
 repeat' split at h
 all_goals try (cases h;done)
 simp only[Except.ok.injEq,Prod.mk.injEq] at h;obtain⟨rfl,rfl⟩:=h;simp only[AP,List.length_cons,List.length_append,List.length_take,List.length_nil];omega
theorem Ro {s:List UInt8}{tag:Nat}:∀(f at':Nat) (l l':List Ak) (b:Nat),at'<=s.length->A8 s tag f at' l=.ok (l',b)->(AP l').length+at'<=(AP l).length+b
 |0,at',l,l',b,_,h=>by cases h
 |f+1,at',l,l',b,ha,h=>by
  obtain⟨p1,p2⟩:=Hs ha;unfold A8 at h;simp only at h;split at h
  ·cases h
  ·split at h
   ·simp only[Except.ok.injEq,Prod.mk.injEq] at h;obtain⟨rfl,rfl⟩:=h;omega
   ·split at h
    ·cases h
    ·rename_i BM;split at h
     ·cases h
     ·rename_i a c hc;obtain⟨q1,q2⟩:=Rq hc;have h1:=dj hc;have h2:=Ro f c _ l' b q2 h;rw[Zu] at h2;omega
theorem cc {s:List UInt8}{tag:Nat}{t:Tok}(hl:tag+5<=s.length)(h:Gp s tag=.ok t):fits t:=by
 unfold Gp at h;simp only at h;split at h
 ·cases h
 ·have hn:=GR s (tag+5);split at h
  ·cases h
  ·rename_i l b hb
   have hlen:=Ro _ _ _ _ _ (by omega) hb
   simp only[AP,List.length_nil,Nat.zero_add] at hlen;unfold Da at h;simp only at h
   generalize hk:(if s.getD b 0=47 then 1 else 0:Nat)=k at h
   split at h
   ·cases h
   ·split at h
    ·cases h
    ·simp only[Except.ok.injEq] at h;subst h
     refine⟨?_,.inr (by by_cases k1:k=1<;>simp[k1])⟩
     unfold written
     by_cases k1:k=1
     ·simp only[if_pos k1]
      rw[if_neg (by decide),if_neg (by decide),if_neg (by decide),if_pos trivial]
      simp only[List.length_append,List.length_take,List.length_drop,Al,List.length_cons,List.length_nil];omega
     ·simp only[if_neg k1]
      rw[if_neg (by decide),if_neg (by decide),if_pos trivial]
      simp only[List.length_append,List.length_take,List.length_drop,Al,List.length_cons,List.length_nil];omega
theorem Zk {s:List UInt8}{tag:Nat}{t:Tok}(hl:tag+6<=s.length)(h:CK s tag=.ok t):fits t:=by
 unfold CK at h;simp only at h;split at h
 ·cases h
 ·have hn:=GR s (tag+6)
  obtain⟨q1,q2⟩:=Hs (s:=s) (a:=tag+6+lets s (tag+6)) (by omega)
  split at h
  ·cases h
  ·split at h
   ·cases h
   ·simp only[Except.ok.injEq] at h;subst h;refine⟨?_,.inl rfl⟩;unfold written;rw[if_pos rfl];simp only[List.length_append,List.length_take,List.length_drop,Ab,List.length_cons,List.length_nil];omega
theorem cp {s:List UInt8}{a:Nat}{hid hid2:Option Nat}{l:List Tok}(ha:a<s.length)(hs:spec s a hid.isSome=true)(h:DW s a hid=.ok (l,hid2)):∀t∈l,fits t:=by
 unfold DW at h;split at h
 ·rename_i ho
  have h5:=GI ho (by simp[Al])
  have e5:Al.length=5:=rfl;split at h
  ·cases h
  ·rename_i t ht;split at h
   ·cases h
   ·rename_i l2 dH;simp only[Except.ok.injEq,Prod.mk.injEq] at h;obtain⟨rfl,rfl⟩:=h
    have hf:=cc (by omega) ht
    rcases PV dH with ⟨_,rfl⟩|⟨_,_,n,_,rfl⟩
    ·intro x hx;rw[List.mem_singleton] at hx;subst hx;exact hf
    ·intro x hx;simp only[List.mem_cons,List.not_mem_nil,or_false] at hx
     rcases hx with rfl|rfl
     ·exact hf
     ·refine⟨?_,.inl rfl⟩;unfold written
      rw[if_neg (by simp),if_neg (by simp),if_neg (by simp),if_neg (by simp)]
      simp only[List.length_take];omega
 ·rename_i ho;split at h
  ·rename_i hc
   have h6:=GI hc (by simp[Ab])
   have e6:Ab.length=6:=rfl;split at h
   ·cases h
   ·rename_i t ht;simp only[Except.ok.injEq,Prod.mk.injEq] at h;obtain⟨rfl,rfl⟩:=h;intro x hx;rw[List.mem_singleton] at hx;subst hx
    exact Zk (by omega) ht
  ·split at h
   ·split at h
    ·cases h
    ·simp only[Except.ok.injEq,Prod.mk.injEq] at h;obtain⟨rfl,rfl⟩:=h;intro x hx;rw[List.mem_singleton] at hx;subst hx;refine⟨?_,.inl rfl⟩;unfold written
     rw[if_neg (by simp),if_pos rfl]
     simp only[Cf,List.length_append,List.length_cons,List.length_nil];omega
   ·simp only[Except.ok.injEq,Prod.mk.injEq] at h;obtain⟨rfl,rfl⟩:=h;intro x hx;rw[List.mem_singleton] at hx;subst hx;refine⟨?_,.inl rfl⟩;unfold written
    rw[if_neg (by simp),if_neg (by simp),if_neg (by simp),if_neg (by simp)]
    simp only[BS,List.length_cons,List.length_nil];omega
theorem Qw {s:List UInt8}:∀(f a:Nat) (hid:Option Nat) (l:List Tok),a<=s.length->DR s f a hid=.ok l->∀t∈l,fits t
 |0,a,hid,l,_,h=>by
  simp only[DR,Except.ok.injEq] at h;subst h;simp
 |f+1,a,hid,l,ha,h=>by
  unfold DR at h;split at h
  ·split at h
   ·cases h
   ·simp only[Except.ok.injEq] at h;subst h;simp
  ·rename_i BC;split at h
   ·rename_i hs;split at h
    ·cases h
    ·rename_i l1 hid2 hn;split at h
     ·cases h
     ·rename_i r hr;simp only[Except.ok.injEq] at h;subst h
      have h1:=cp (by omega) hs hn
      intro t ht
      rcases List.mem_append.1 ht with ht|ht
      ·exact h1 t ht
      ·by_cases hle:Cs l1 (a+1)<=s.length
       ·exact Qw f _ _ r hle hr t ht
       ·cases f with
        |zero=>
         simp only[DR,Except.ok.injEq] at hr;subst hr;cases ht
        |succ g=>
         unfold DR at hr
         rw[if_pos (by omega)] at hr
         split at hr
         ·cases hr
         ·simp only[Except.ok.injEq] at hr;subst hr;cases ht
   ·simp only at h;split at h
    ·cases h
    ·rename_i r hr;simp only[Except.ok.injEq] at h;subst h
     obtain⟨t1,t2,_⟩:=IL (s:=s) (hid:=hid.isSome) (s.length-a) a (by omega) ha
     intro t ht
     rcases List.mem_cons.1 ht with rfl|ht
     ·refine⟨?_,.inl rfl⟩;unfold written
      rw[if_neg (by simp),if_neg (by simp),if_neg (by simp),if_neg (by simp)]
      simp only[cut,List.length_take];omega
     ·exact Qw f _ _ r t2 hr t ht
theorem Qv {s:List UInt8}{l:List Tok}(h:lexM s=.ok l):∀t∈l,fits t:=Qw _ _ _ l (by omega) h
theorem jh {s:List UInt8}:∀(r:List Tok) (a:Nat) (prev:Option Tok) (hid:Bool),WG s a prev hid r->(∀t∈r,fits t)->a<=s.length->(Bh r).length+a<=s.length
 |[],a,prev,hid,_,_,ha=>by simpa[Bh] using ha
 |t::r,a,prev,hid,h,hf,ha=>by
  obtain⟨h1,h2,h3,h4,h5,h6,h7,h8,h9,RJ,sv⟩:=h
  have ih:=jh r t.to (some t) _ sv (fun x hx=>hf x (by simp[hx])) h3
  have:=(hf t (by simp)).1
  rw[Bh,List.length_append];omega
theorem IX (l r:List Tok):Bh (l++r)=Bh l++Bh r:=by
 induction l with
 |nil=>rfl
 |cons a l ih=>simp[Bh,ih]
theorem VQ (l:List Ak):l.length<=(AP l).length:=by
 induction l with
 |nil=>simp
 |cons a l ih=>simp only[AP,List.length_cons,List.length_append];omega
theorem RP {t:Tok}(h:fits t):t.attrs.length<=(written t).length:=by
 have:=VQ t.attrs
 rcases h.2 with h|h|h
 ·rw[h];simp
 ·unfold written
  rw[if_neg (by omega),if_neg (by omega),if_pos h]
  simp only[List.length_append];omega
 ·unfold written
  rw[if_neg (by omega),if_neg (by omega),if_neg (by omega),if_pos h]
  simp only[List.length_append];omega
end Go.Ai.Ex
end
section
namespace Go.Ai.Ex
open Go.Ai
variable {x a c:List UInt8}
end Go.Ai.Ex
end
section
namespace Go.Ai.Ex
open Go.Ai
variable {x a c:List UInt8}
end Go.Ai.Ex
end
