/-
  Pieces of a page's text, in plain terms: what tags, hidden parts and texts are, or what is wrong and where. No statement about the program is made here.
  Pieces of a page's text: what gives up, memory on the way, contracts. No statement about the program is made here.
  Pieces of a page's text, in plain terms: one behind the other they are the text; a place of what is wrong lies in it. No statement about the program is made here.
  Pieces of a page's text, in plain terms: written one behind the other, each tag in one form, they are the same pieces. No statement about the program is made here.
  Pieces of a page's text that are written one behind the other are read as the same pieces. No statement about the program is made here.
  Pieces of a page's text that are written one behind the other are read as the same pieces: tags, texts, all. No statement about the program is made here.
  Pieces of a page's text: contracts that the rows use. No statement about the program is made here.
  Pieces of a page's text, in plain terms: what is wrong has a number; how many pieces there are. No statement about the program is made here.
  Pieces of a page's text, in plain terms: written in one form a piece is no longer than it was. No statement about the program is made here.
  Pieces of a text that stands between two others: the pieces of the whole are those of the part, moved. No statement about the program is made here.
  Pieces of a text that stands between two others: the whole run of the pieces. No statement about the program is made here.
-/
import Derived.Test.YtopjpnhgnopbiaaDoorAiLaw
import Derived.Test.YtopjpnhgnopbiaaDoorAiSymP
import Derived.Test.YtopjpnhgnopbiaaDoorAiPrims
set_option linter.unusedVariables false
set_option linter.unusedSimpArgs false
set_option linter.unnecessarySimpa false
section
namespace Go.Ai.Ex
open Go.Ai Go.RowKit
def fnd (x:List UInt8):List UInt8→Option Nat
 |[]=>if x.isEmpty=true then some 0 else none
 |c::r=>if x.isPrefixOf (c::r)=true then some 0 else(fnd x r).map (·+ 1)
def smB (c:UInt8):Bool:=decide (97≤c.toNat)&&decide (c.toNat≤122)
def blB (c:UInt8):Bool:=c==32||c==9||c==10||c==13
def opensS :List UInt8:=[60,101,115,105,58]
def closesS :List UInt8:=[60,47,101,115,105,58]
def hidesS :List UInt8:=[60,33,45,45,101,115,105]
def showsS :List UInt8:=[45,45,62]
def removeS :List UInt8:=[114,101,109,111,118,101]
def inlineS :List UInt8:=[105,110,108,105,110,101]
def namesL :List (List UInt8):=[[105,110,99,108,117,100,101],inlineS,removeS,[99,111,109,109,101,110,116],[116,114,121],[97,116,116,101,109,112,116],[101,120,99,101,112,116],[99,104,111,111,115,101],[119,104,101,110],
 [111,116,104,101,114,119,105,115,101],[118,97,114,115]]
def knownB (n:List UInt8):Bool:=namesL.any (·==n)
def lets (s:List UInt8)(at':Nat):Nat:=((s.drop at').takeWhile smB).length
def past (s:List UInt8)(at':Nat):Nat:=at'+((s.drop at').takeWhile blB).length
def has (s x:List UInt8)(at':Nat):Bool:=x.isPrefixOf (s.drop at')
structure Att where
 name:List UInt8
 value:List UInt8
 at':Nat
structure Tok where
 kind:Int
 name:List UInt8
 attrs:List Att
 text:List UInt8
 fr:Nat
 to:Nat
def encA (a:Att):List AV:=[.str a.name,.str a.value,.int .i64 a.at']
def encAs (l:List Att):List (List AV):=l.map encA
def encT (t:Tok):List AV:=[.int .i64 t.kind,.str t.name,.sl 3 (encAs t.attrs) none,.str t.text,.int .i64 t.fr,.int .i64 t.to]
def encTs (l:List Tok):List (List AV):=l.map encT
abbrev Bad :=Nat×Int
def cut (s:List UInt8)(a b:Nat):List UInt8:=(s.drop a).take (b-a)
def attrM (s:List UInt8)(at' tag:Nat)(l:List Att):Except Bad (Att×Nat):=
 let n:=min (lets s at') 16
 let nm:=(s.drop at').take n
 let i:=at'+n
 if l.any (fun a=>nm==a.name)=true then .error (at',12) else
 if s.length≤i then .error (tag,14) else
 if n=0∨s.getD i 0≠61 then .error (i,12) else
 if s.length≤i+1 then .error (tag,14) else
 if s.getD (i+1) 0≠34∧s.getD (i+1) 0≠39 then .error (i+1,12) else
 match fnd [s.getD (i+1) 0] (s.drop (i+2)) with
 |none=>.error (tag,14)
 |some k=>.ok (⟨nm,(s.drop (i+2)).take k,at'⟩,i+2+k+1)
def attrsM (s:List UInt8)(tag:Nat):Nat→Nat→List Att→Except Bad (List Att×Nat)
 |0,at',l=>.error (tag,14)
 |f+1,at',l=>
  let next:=past s at'
  if s.length≤next then .error (tag,14) else
  if s.getD next 0=62∨s.getD next 0=47 then .ok (l,next) else
  if next=at' then .error (at',12) else
  match attrM s next tag l with
  |.error e=>.error e
  |.ok (a,b)=>attrsM s tag f b (l++[a])
def tagEnd (s:List UInt8)(tag:Nat)(nm:List UInt8)(l:List Att)(at':Nat):Except Bad Tok:=
 let k:=if s.getD at' 0=47 then 1 else 0
 if s.length≤at'+k then .error (tag,14) else
 if s.getD (at'+k) 0≠62 then .error (at'+k,12) else
 .ok ⟨if k=1 then 3 else 2,nm,l,cut s tag (at'+k+1),tag,at'+k+1⟩
def openM (s:List UInt8)(tag:Nat):Except Bad Tok:=
 let n:=lets s (tag+5)
 let nm:=(s.drop (tag+5)).take n
 if knownB nm=false then .error (tag,11) else
 match attrsM s tag (s.length+1) (tag+5+n) [] with
 |.error e=>.error e
 |.ok (l,b)=>tagEnd s tag nm l b
def rawM (s:List UInt8)(t:Tok):Except Bad (List Tok):=
 if t.kind=2∧(t.name=removeS∨t.name=inlineS) then
  match fnd (closesS++t.name) (s.drop t.to) with
  |none=>.error (t.fr,14)
  |some n=>match fnd opensS ((s.drop t.to).take n),decide (t.name=removeS) with
   |some k,true=>.error (t.to+k,13)
   |_,_=>.ok [t,⟨7,[],[],(s.drop t.to).take n,t.to,t.to+n⟩]
 else .ok [t]
def closeM (s:List UInt8)(tag:Nat):Except Bad Tok:=
 let n:=lets s (tag+6)
 let nm:=(s.drop (tag+6)).take n
 if knownB nm=false then .error (tag,11) else
 let b:=past s (tag+6+n)
 if s.length≤b then .error (tag,14) else
 if s.getD b 0≠62 then .error (tag,11) else
 .ok ⟨4,nm,[],cut s tag (b+1),tag,b+1⟩
def hideB (s:List UInt8)(at':Nat):Bool:=has s hidesS at'&&(decide (at'+7<s.length)&&blB (s.getD (at'+7) 0))
def spec (s:List UInt8)(at':Nat)(hid:Bool):Bool:=has s opensS at'||(has s closesS at'||(hideB s at'||(has s showsS at'&&hid)))
def nextM (s:List UInt8)(at':Nat)(hid:Option Nat):Except Bad (List Tok×Option Nat):=
 if has s opensS at'=true then
  match openM s at' with
  |.error e=>.error e
  |.ok t=>match rawM s t with
   |.error e=>.error e
   |.ok l=>.ok (l,hid)
 else if has s closesS at'=true then
  match closeM s at' with
  |.error e=>.error e
  |.ok t=>.ok ([t],hid)
 else if hideB s at'=true then
  (if hid.isSome=true then .error (at',13) else .ok ([⟨5,[],[],cut s at' (at'+8),at',at'+8⟩],some at'))
 else .ok ([⟨6,[],[],showsS,at',at'+3⟩],none)
def textTo (s:List UInt8)(hid:Bool):Nat→Nat→Nat
 |0,at'=>at'
 |f+1,at'=>if s.length≤at'∨spec s at' hid=true then at' else textTo s hid f (at'+1)
def lastTo (l:List Tok)(d:Nat):Nat:=match l.getLast? with
 |some t=>t.to
 |none=>d
def lexG (s:List UInt8):Nat→Nat→Option Nat→Except Bad (List Tok)
 |0,_,_=>.ok []
 |f+1,at',hid=>
  if s.length≤at' then(match hid with|some h=>.error (h,14)|none=>.ok []) else
  if spec s at' hid.isSome=true then
   match nextM s at' hid with
   |.error e=>.error e
   |.ok (l,hid2)=>match lexG s f (lastTo l (at'+1)) hid2 with
    |.error e=>.error e
    |.ok r=>.ok (l++r)
  else
   let to:=textTo s hid.isSome (s.length-at') at'
   match lexG s f to hid with
   |.error e=>.error e
   |.ok r=>.ok (⟨1,[],[],cut s at' to,at',to⟩::r)
def lexM (s:List UInt8):Except Bad (List Tok):=lexG s (s.length+1) 0 none
end Go.Ai.Ex
end
section
namespace Go.Ai.Ex
open Go.Ai Go.RowKit
def pfE :PFun:=fun k vs=>match Nat.beq k 25,vs with
 |true,[.int .i64 p,.int .i64 e]=>some (p,e)
 |_,_=>none
def hX (s:List UInt8)(at':Int)(L:List (List AV))(hid:Int):Hp:=
 [.grow 0 6 53,.mem 44 [.sl 6 [] (some 0)],.mem 3 [.int .i64 0],.mem 24 [.int .i64 0],.grow L.length 6 53,.mem 68 [.str s,.int .i64 at',.sl 6 L (some 4),.int .i64 hid]]
def rT (k:Int)(nm:List UInt8)(es:List (List AV)):Hp:=[.grow es.length 3 32,.grow 0 3 32,.mem 53 [.int .i64 k,.str nm,.sl 3 es (some 6),.str [],.int .i64 0,.int .i64 0]]
def hTg (s:List UInt8)(at':Int)(L:List (List AV))(hid k:Int)(nm:List UInt8)(es:List (List AV)):Hp:=[.grow 0 6 53,.mem 44 [.sl 6 [] (some 0)],.mem 3 [.int .i64 0],.mem 24 [.int .i64 0],.grow L.length 6 53,.mem 68 [.str s,.int .i64 at',.sl 6 L (some 4),.int .i64 hid],
 .grow es.length 3 32,.grow 0 3 32,.mem 53 [.int .i64 k,.str nm,.sl 3 es (some 6),.str [],.int .i64 0,.int .i64 0]]
def hBt (s:List UInt8)(at':Int)(L:List (List AV))(hid k:Int)(nm:List UInt8)(es:List (List AV)):Hp:=[.grow 0 6 53,.mem 44 [.sl 6 [] (some 0)],.mem 3 [.int .i64 0],.mem 24 [.int .i64 0],.grow L.length 6 53,.mem 68 [.str s,.int .i64 at',.sl 6 L (some 4),.int .i64 hid],
 .grow es.length 3 32,.grow 0 3 32,.mem 53 [.int .i64 k,.str nm,.sl 3 es (some 6),.str [],.int .i64 0,.int .i64 0],.mem 32 [.str [],.str [],.int .i64 0]]
def hAt (s:List UInt8)(at':Int)(L:List (List AV))(hid k:Int)(nm:List UInt8)(es:List (List AV))(an av:List UInt8)(aa:Int):Hp:=[.grow 0 6 53,.mem 44 [.sl 6 [] (some 0)],.mem 3 [.int .i64 0],.mem 24 [.int .i64 0],.grow L.length 6 53,.mem 68 [.str s,.int .i64 at',.sl 6 L (some 4),.int .i64 hid],
 .grow es.length 3 32,.grow 0 3 32,.mem 53 [.int .i64 k,.str nm,.sl 3 es (some 6),.str [],.int .i64 0,.int .i64 0],.mem 32 [.str [],.str [],.int .i64 0],.mem 32 [.str an,.str av,.int .i64 aa]]
def rA (k:Int)(nm:List UInt8)(es:List (List AV))(an av:List UInt8)(aa:Int):Hp:=rT k nm es++[.mem 32 [.str [],.str [],.int .i64 0],.mem 32 [.str an,.str av,.int .i64 aa]]
def hG (s:List UInt8)(at':Int)(L:List (List AV))(hid:Int):Hp:=[.grow 0 6 53,.mem 44 [.sl 6 [] (some 0)],.mem 3 [.int .i64 0],.mem 24 [.int .i64 0],.grow L.length 6 53,.mem 68 [.str s,.int .i64 at',.sl 6 L (some 4),.int .i64 hid],.grow 0 3 32]
def hTG (s:List UInt8)(at':Int)(L:List (List AV))(hid k:Int)(nm:List UInt8)(es:List (List AV)):Hp:=[.grow 0 6 53,.mem 44 [.sl 6 [] (some 0)],.mem 3 [.int .i64 0],.mem 24 [.int .i64 0],.grow L.length 6 53,.mem 68 [.str s,.int .i64 at',.sl 6 L (some 4),.int .i64 hid],
 .grow es.length 3 32,.grow 0 3 32,.mem 53 [.int .i64 k,.str nm,.sl 3 es (some 6),.str [],.int .i64 0,.int .i64 0],.grow 0 3 32]
def _root_.Keep.okX (r:Hp)(L:List (List AV)):Prop:=∀(n:Nat) (g:Hp),6+r.length≤n→r.map (stripB n g)=r∧stripss n g L=L
def limE :Nat:=1000000
def PanX (r:Hp)(s:List UInt8)(KP:PX→Hp→Prop)(x:PX):Prop:=∀(a:Int) (L:List (List AV)) (hid:Int),KP x (hX s a L hid++r)
def failC :ConP:=fun vs h K KP=>∃p e:Int,vs=[.int .i64 p,.int .i64 e]∧KP (p,e) h
def smallC :Con:=fun vs h K=>∃c:UInt8,vs=[.int .u8 c.toNat]∧K (.bool (smB c)) h
def blankC :Con:=fun vs h K=>∃c:UInt8,vs=[.int .u8 c.toNat]∧K (.bool (blB c)) h
def prefC :Con:=fun vs h K=>∃s x:List UInt8,vs=[.str s,.str x]∧K (.bool (x.isPrefixOf s)) h
def ixSC :Con:=fun vs h K=>∃s x:List UInt8,s.length≤limE∧vs=[.str s,.str x]∧K (.int .i64 (idxB s x 0)) h
def ixBC :Con:=fun vs h K=>∃(s:List UInt8) (c:UInt8),s.length≤limE∧vs=[.str s,.int .u8 c.toNat]∧K (.int .i64 (Lib.indexByte s c)) h
def fieldsC :Con:=fun vs h K=>∃s:List UInt8,vs=[.str s]∧s=[105,110,99,108,117,100,101,32,105,110,108,105,110,101,32,114,101,109,111,118,101,32,99,111,109,109,101,110,116,32,116,114,121,32,97,116,116,101,109,112,116,32,101,120,99,101,112,116,32,99,104,111,111,115,101,32,119,104,101,110,32,111,116,104,101,114,119,105,115,101,32,118,97,114,115]∧K (.sl 1 (namesL.map fun n=>[.str n]) none) h
def inC :Con:=fun vs h K=>∃(l:List (List UInt8)) (x:List UInt8),vs=[.sl 1 (l.map fun n=>[.str n]) none,.str x]∧l.length≤limE∧K (.bool (l.any (·==x))) h
def inIC :Con:=fun vs h K=>∃(l:List (List UInt8)) (x:List UInt8),vs=[.sl 1 (l.map fun n=>[.str n]) none,.str x]∧l.length≤limE∧∀z:Int,decide (z≥0)=(l.any (·==x))→K (.int .i64 z) h
def peekC :ConP:=fun vs h K KP=>∃(r:Hp) (s:List UInt8) (a:Nat) (L:List (List AV)) (hid tag:Int),Keep.okX r L∧a≤s.length∧s.length≤limE∧vs=[.ptr 5 0,.int .i64 tag]∧h=hX s a L hid++r∧
 (a=s.length→KP (tag,14) h)∧(a<s.length→K (.int .u8 (s.getD a 0).toNat) h)
def wordC :Con:=fun vs h K=>∃(s:List UInt8) (a:Nat) (L:List (List AV)) (hid:Int),Keep.okX [] L∧a≤s.length∧s.length≤limE∧vs=[.ptr 5 0]∧h=hX s a L hid∧K (.str ((s.drop a).take (lets s a))) (hX s ((a+lets s a:Nat):Int) L hid)
def skipC :Con:=fun vs h K=>∃(r:Hp) (s:List UInt8) (a:Nat) (L:List (List AV)) (hid:Int),Keep.okX r L∧a≤s.length∧s.length≤limE∧vs=[.ptr 5 0]∧h=hX s a L hid++r∧K (.int .i64 ((past s a-a:Nat):Int)) (hX s ((past s a:Nat):Int) L hid++r)
def nameC :ConP:=fun vs h K KP=>∃(s:List UInt8) (a:Nat) (L:List (List AV)) (hid tag:Int),Keep.okX [] L∧a≤s.length∧s.length≤limE∧vs=[.ptr 5 0,.int .i64 tag]∧h=hX s a L hid∧
 (knownB ((s.drop a).take (lets s a))=false→PanX [] s KP (tag,11))∧(knownB ((s.drop a).take (lets s a))=true→K (.str ((s.drop a).take (lets s a))) (hX s ((a+lets s a:Nat):Int) L hid))
def needC :ConP:=fun vs h K KP=>∃(r:Hp) (s:List UInt8) (a:Nat) (L:List (List AV)) (hid tag:Int) (is:Bool),Keep.okX r L∧a≤s.length∧s.length≤limE∧vs=[.ptr 5 0,.int .i64 tag,.bool is]∧h=hX s a L hid++r∧
 (a=s.length→KP (tag,14) h)∧(a<s.length→is=false→KP ((a:Int),12) h)∧(a<s.length→is=true→K (.tup []) (hX s ((a+1:Nat):Int) L hid++r))
def sameNC :Con:=fun vs h K=>∃(s:List UInt8) (a:Int) (L:List (List AV)) (hid k:Int) (nm:List UInt8) (es:List (List AV)) (an av:List UInt8) (aa:Int) (b:Att),Keep.okX (rA k nm es an av aa) L∧vs=[.agg (encA b),.ptr 10 0]∧h=hAt s a L hid k nm es an av aa∧K (.bool (an==b.name)) h
def dupC :Con:=fun vs h K=>∃(s:List UInt8) (a:Int) (L:List (List AV)) (hid k:Int) (nm:List UInt8) (l:List Att) (an av:List UInt8) (aa:Int),Keep.okX (rA k nm (encAs l) an av aa) L∧vs=[.sl 3 (encAs l) (some 6),.fn (.func 81) [] [.ptr 10 0]]∧l.length≤limE∧
 h=hAt s a L hid k nm (encAs l) an av aa∧K (.bool (l.any fun b=>an==b.name)) h
def dupIC :Con:=fun vs h K=>∃(s:List UInt8) (a:Int) (L:List (List AV)) (hid k:Int) (nm:List UInt8) (l:List Att) (an av:List UInt8) (aa:Int),Keep.okX (rA k nm (encAs l) an av aa) L∧vs=[.sl 3 (encAs l) (some 6),.fn (.func 81) [] [.ptr 10 0]]∧l.length≤limE∧
 h=hAt s a L hid k nm (encAs l) an av aa∧∀z:Int,decide (z≥0)=(l.any fun b=>an==b.name)→K (.int .i64 z) h
def attrC :ConP:=fun vs h K KP=>∃(s:List UInt8) (a:Nat) (L:List (List AV)) (hid tag k:Int) (tg:Nat) (nm:List UInt8) (l:List Att),Keep.okX (rT k nm (encAs l)) L∧a≤s.length∧s.length≤limE∧l.length≤limE∧tag=(tg:Int)∧vs=[.ptr 5 0,.int .i64 tag,.sl 3 (encAs l) (some 6)]∧h=hTg s a L hid k nm (encAs l)∧
 (∀p e,attrM s a tg l=.error (p,e)→PanX (rT k nm (encAs l)) s KP ((p:Int),e))∧(∀at' b,attrM s a tg l=.ok (at',b)→K (.agg (encA at')) (hTg s (b:Nat) L hid k nm (encAs l)))
def skipT :Con:=fun vs h K=>∃(s:List UInt8) (a:Nat) (L:List (List AV)) (hid k:Int) (nm:List UInt8) (l:List Att),Keep.okX (rT k nm (encAs l)) L∧a≤s.length∧s.length≤limE∧vs=[.ptr 5 0]∧h=hTg s a L hid k nm (encAs l)∧K (.int .i64 ((past s a-a:Nat):Int)) (hTg s ((past s a:Nat):Int) L hid k nm (encAs l))
def needT :ConP:=fun vs h K KP=>∃(s:List UInt8) (a:Nat) (L:List (List AV)) (hid k tag:Int) (nm:List UInt8) (l:List Att) (is:Bool),Keep.okX (rT k nm (encAs l)) L∧a≤s.length∧s.length≤limE∧vs=[.ptr 5 0,.int .i64 tag,.bool is]∧h=hTg s a L hid k nm (encAs l)∧
 (a=s.length→KP (tag,14) h)∧(a<s.length→is=false→KP ((a:Int),12) h)∧(a<s.length→is=true→K (.tup []) (hTg s ((a+1:Nat):Int) L hid k nm (encAs l)))
def needA :ConP:=fun vs h K KP=>∃(s:List UInt8) (a:Nat) (L:List (List AV)) (hid k tag:Int) (nm:List UInt8) (l:List Att) (an av:List UInt8) (aa:Int) (is:Bool),Keep.okX (rA k nm (encAs l) an av aa) L∧a≤s.length∧s.length≤limE∧vs=[.ptr 5 0,.int .i64 tag,.bool is]∧h=hAt s a L hid k nm (encAs l) an av aa∧
 (a=s.length→KP (tag,14) h)∧(a<s.length→is=false→KP ((a:Int),12) h)∧(a<s.length→is=true→K (.tup []) (hAt s ((a+1:Nat):Int) L hid k nm (encAs l) an av aa))
def row (k:Int)(nm:List UInt8)(es:List (List AV))(own:Option Nat)(t:List UInt8)(fr to:Int):List AV:=[.int .i64 k,.str nm,.sl 3 es own,.str t,.int .i64 fr,.int .i64 to]
def addGC :Con:=fun vs h K=>∃(s:List UInt8) (a fr:Nat) (L:List (List AV)) (hid k:Int),Keep.okX [.grow 0 3 32] L∧a≤s.length∧s.length≤limE∧fr≤a∧L.length≤limE∧
 vs=[.ptr 5 0,.agg [.int .i64 k,.str [],.sl 3 [] (some 6),.str [],.int .i64 0,.int .i64 0],.int .i64 fr]∧h=hG s a L hid∧K (.tup []) (hG s a (L++[row k [] [] (some 6) (cut s fr a) fr a]) hid)
def addTC :Con:=fun vs h K=>∃(s:List UInt8) (a fr:Nat) (L:List (List AV)) (hid k:Int) (nm:List UInt8) (l:List Att),Keep.okX (rT k nm (encAs l)) L∧a≤s.length∧s.length≤limE∧fr≤a∧L.length≤limE∧
 vs=[.ptr 5 0,.agg [.int .i64 k,.str nm,.sl 3 (encAs l) (some 6),.str [],.int .i64 0,.int .i64 0],.int .i64 fr]∧h=hTg s a L hid k nm (encAs l)∧K (.tup []) (hTg s a (L++[row k nm (encAs l) (some 6) (cut s fr a) fr a]) hid k nm (encAs l))
def addRC :Con:=fun vs h K=>∃(s:List UInt8) (a fr:Nat) (L:List (List AV)) (hid k:Int) (nm:List UInt8) (l:List Att),Keep.okX (rT k nm (encAs l)++[.grow 0 3 32]) L∧a≤s.length∧s.length≤limE∧fr≤a∧L.length≤limE∧
 vs=[.ptr 5 0,.agg [.int .i64 7,.str [],.sl 3 [] (some 9),.str [],.int .i64 0,.int .i64 0],.int .i64 fr]∧h=hTG s a L hid k nm (encAs l)∧K (.tup []) (hTG s a (L++[row 7 [] [] (some 9) (cut s fr a) fr a]) hid k nm (encAs l))
def rawTC :ConP:=fun vs h K KP=>∃(s:List UInt8) (a tag:Nat) (L:List (List AV)) (hid k:Int) (nm:List UInt8) (l:List Att),Keep.okX (rT k nm (encAs l)) L∧a≤s.length∧s.length≤limE∧L.length≤limE∧nm.length≤limE∧
 vs=[.ptr 5 0,.str nm,.int .i64 tag]∧h=hTg s a L hid k nm (encAs l)∧
 (fnd (closesS++nm) (s.drop a)=none→PanX (rT k nm (encAs l)) s KP ((tag:Int),14))∧
 (∀n,fnd (closesS++nm) (s.drop a)=some n→(∀j,fnd opensS ((s.drop a).take n)=some j→nm=removeS→PanX (rT k nm (encAs l)) s KP (((a+j:Nat):Int),13))∧
  ((fnd opensS ((s.drop a).take n)=none∨nm≠removeS)→K (.tup []) (hTg s ((a+n:Nat):Int) (L++[row 7 [] [] none ((s.drop a).take n) a ((a+n:Nat):Int)]) hid k nm (encAs l))))
def openR (s:List UInt8)(a:Nat):Except Bad (List Tok):=match openM s a with
 |.error e=>.error e
 |.ok t=>rawM s t
def openTC :ConP:=fun vs h K KP=>∃(s:List UInt8) (a:Nat) (l:List Tok) (hid:Int),has s opensS a=true∧a≤s.length∧s.length≤limE∧l.length<s.length∧vs=[.ptr 5 0]∧h=hX s a (encTs l) hid∧
 (∀p e,openR s a=.error (p,e)→PanX [] s KP ((p:Int),e))∧(∀ts,openR s a=.ok ts→K (.tup []) (hX s ((lastTo ts (a+1):Nat):Int) (encTs (l++ts)) hid))
def closeTC :ConP:=fun vs h K KP=>∃(s:List UInt8) (a:Nat) (l:List Tok) (hid:Int),has s closesS a=true∧a≤s.length∧s.length≤limE∧l.length≤s.length∧vs=[.ptr 5 0]∧h=hX s a (encTs l) hid∧
 (∀p e,closeM s a=.error (p,e)→PanX [] s KP ((p:Int),e))∧(∀t,closeM s a=.ok t→K (.tup []) (hX s (t.to:Nat) (encTs (l++[t])) hid))
def hideTC :ConP:=fun vs h K KP=>∃(s:List UInt8) (a:Nat) (l:List Tok) (hid:Int),a+8≤s.length∧s.length≤limE∧l.length≤s.length∧vs=[.ptr 5 0]∧h=hX s a (encTs l) hid∧
 (0≤hid→PanX [] s KP ((a:Int),13))∧(hid<0→K (.tup []) (hX s ((a+8:Nat):Int) (encTs (l++[⟨5,[],[],cut s a (a+8),a,a+8⟩])) a))
def showTC :Con:=fun vs h K=>∃(s:List UInt8) (a:Nat) (l:List Tok) (hid:Int),a+3≤s.length∧s.length≤limE∧l.length≤s.length∧vs=[.ptr 5 0]∧h=hX s a (encTs l) hid∧
 K (.tup []) (hX s ((a+3:Nat):Int) (encTs (l++[⟨6,[],[],cut s a (a+3),a,a+3⟩])) (-1))
def textL (s:List UInt8)(fr a:Nat):List Tok:=if fr<a then [⟨1,[],[],cut s fr a,fr,a⟩] else []
def textTC :Con:=fun vs h K=>∃(s:List UInt8) (fr a:Nat) (l:List Tok) (hid:Int),fr≤a∧a≤s.length∧s.length≤limE∧l.length≤s.length∧vs=[.ptr 5 0,.int .i64 fr]∧h=hX s a (encTs l) hid∧
 K (.tup []) (hX s a (encTs (l++textL s fr a)) hid)
def findV (s:List UInt8)(a:Nat)(hid:Bool):AV:=
 if has s opensS a=true then .fn (.func 37) [.ptr 5 0] [] else if has s closesS a=true then .fn (.func 38) [.ptr 5 0] [] else if hideB s a=true then .fn (.func 40) [.ptr 5 0] [] else if(has s showsS a&&hid)=true then .fn (.func 41) [.ptr 5 0] [] else .nilf
def findC :Con:=fun vs h K=>∃(s:List UInt8) (a:Nat) (l:List Tok) (hid:Int),a≤s.length∧s.length≤limE∧vs=[.ptr 5 0]∧h=hX s a (encTs l) hid∧K (findV s a (decide (0≤hid))) h
def findN (s:List UInt8)(a:Nat)(hid:Bool):Nat:=if has s opensS a=true then 1 else if has s closesS a=true then 2 else if hideB s a=true then 3 else if(has s showsS a&&hid)=true then 4 else 0
def findTC :Con:=fun vs h K=>∃(s:List UInt8) (a:Nat) (l:List Tok) (hid:Int),a≤s.length∧s.length≤limE∧vs=[.ptr 5 0]∧h=hX s a (encTs l) hid∧
 (findN s a (decide (0≤hid))=0→K .nilf h)∧(findN s a (decide (0≤hid))=1→K (.fn (.func 37) [.ptr 5 0] []) h)∧(findN s a (decide (0≤hid))=2→K (.fn (.func 38) [.ptr 5 0] []) h)∧
 (findN s a (decide (0≤hid))=3→K (.fn (.func 40) [.ptr 5 0] []) h)∧(findN s a (decide (0≤hid))=4→K (.fn (.func 41) [.ptr 5 0] []) h)
end Go.Ai.Ex
end
section
namespace Go.Ai.Ex
open Go.Ai Go.RowKit
def ownB (t:Tok):Bool:=t.kind==2&&(t.name==removeS||t.name==inlineS)
def WG (s:List UInt8):Nat→Option Tok→Bool→List Tok→Prop
 |at',_,hid,[]=>at'=s.length∧hid=false
 |at',prev,hid,t::r=>t.fr=at'∧at'≤t.to∧t.to≤s.length∧cut s at' t.to=t.text∧(t.text=[]→t.kind=7)∧
   (ownB t=true→∃a b q,r=a::b::q∧a.kind=7∧b.kind=4∧b.name=t.name)∧
   (t.kind=7→∃p,prev=some p∧p.kind=2)∧(t.kind=1→∀p,prev=some p→p.kind≠1)∧
   (t.kind=5→hid=false)∧(t.kind=6→hid=true)∧
   WG s t.to (some t) (if t.kind=5 then true else if t.kind=6 then false else hid) r
theorem tw_len {p:UInt8→Bool}(l:List UInt8):(l.takeWhile p).length≤l.length:=(List.takeWhile_prefix p).length_le
theorem past_le {s:List UInt8}{a:Nat}(h:a≤s.length):a≤past s a∧past s a≤s.length:=by
 unfold past;have:=tw_len (p:=blB) (s.drop a);rw[List.length_drop] at this;omega
theorem lets_le (s:List UInt8)(a:Nat):lets s a≤s.length-a:=by
 unfold lets;have:=tw_len (p:=smB) (s.drop a)
 rwa [List.length_drop] at this
theorem fnd_le {x:List UInt8}:∀{s:List UInt8} {n:Nat},fnd x s=some n→n+x.length≤s.length
 |[],n,h=>by
  unfold fnd at h;split at h
  ·rename_i hx
   have:x=[]:=by simpa using hx
   subst this;simp at h;subst h;simp
  ·cases h
 |c::r,n,h=>by
  unfold fnd at h;split at h
  ·rename_i hx
   injection h with h;subst h
   have:=(List.isPrefixOf_iff_prefix.1 hx).length_le;simpa using this
  ·cases hr:fnd x r with
   |none=>rw[hr] at h;cases h
   |some m=>
    rw[hr] at h;simp only[Option.map_some,Option.some.injEq] at h;have:=fnd_le hr;simp only[List.length_cons];omega
theorem has_le {s x:List UInt8}{a:Nat}(h:has s x a=true)(hx:x≠[]):a+x.length≤s.length:=by
 have h1:=(List.isPrefixOf_iff_prefix.1 h).length_le;rw[List.length_drop] at h1;have:0<x.length:=List.length_pos_iff.2 hx;omega
theorem attrM_ok {s:List UInt8}{at' tag:Nat}{l:List Att}{a:Att}{b:Nat}(h:attrM s at' tag l=.ok (a,b)):at'<b∧b≤s.length:=by
 unfold attrM at h;simp only at h
 repeat' split at h
 all_goals try (cases h;done)
 rename_i k hk;simp only[Except.ok.injEq,Prod.mk.injEq] at h;obtain⟨_,rfl⟩:=h;have:=fnd_le hk;simp only[List.length_singleton,List.length_drop] at this;omega
theorem attrM_bad {s:List UInt8}{at' tag:Nat}{l:List Att}{p:Nat}{e:Int}(ht:tag<s.length)(ha:at'<s.length)(h:attrM s at' tag l=.error (p,e)):p<s.length:=by
 unfold attrM at h;simp only at h
 repeat' split at h
 all_goals first|(cases h;done)|(simp only[Except.error.injEq,Prod.mk.injEq] at h;obtain⟨rfl,-⟩:=h;omega)
theorem attrsM_ok {s:List UInt8}{tag:Nat}:∀(f at':Nat) (l l':List Att) (b:Nat),at'≤s.length→attrsM s tag f at' l=.ok (l',b)→at'≤b∧b<s.length
 |0,at',l,l',b,_,h=>by cases h
 |f+1,at',l,l',b,ha,h=>by
  obtain⟨p1,p2⟩:=past_le ha;unfold attrsM at h;simp only at h;split at h
  ·cases h
  ·split at h
   ·simp only[Except.ok.injEq,Prod.mk.injEq] at h;obtain⟨_,rfl⟩:=h;omega
   ·split at h
    ·cases h
    ·split at h
     ·cases h
     ·rename_i a c hc;obtain⟨q1,q2⟩:=attrM_ok hc;obtain⟨q3,q4⟩:=attrsM_ok f c _ l' b q2 h;omega
theorem attrsM_bad {s:List UInt8}{tag:Nat}(ht:tag<s.length):∀(f at':Nat) (l:List Att) (p:Nat) (e:Int),at'≤s.length→attrsM s tag f at' l=.error (p,e)→p<s.length
 |0,at',l,p,e,_,h=>by
  simp only[attrsM,Except.error.injEq,Prod.mk.injEq] at h;omega
 |f+1,at',l,p,e,ha,h=>by
  obtain⟨p1,p2⟩:=past_le ha;unfold attrsM at h;simp only at h;split at h
  ·simp only[Except.error.injEq,Prod.mk.injEq] at h;omega
  ·split at h
   ·cases h
   ·split at h
    ·simp only[Except.error.injEq,Prod.mk.injEq] at h;omega
    ·split at h
     ·rename_i e' he;simp only[Except.error.injEq] at h;subst h
      exact attrM_bad ht (by omega) he
     ·rename_i a c hc;exact attrsM_bad ht f c _ p e (attrM_ok hc).2 h
theorem tagEnd_ok {s:List UInt8}{tag at':Nat}{nm:List UInt8}{l:List Att}{t:Tok}(h:tagEnd s tag nm l at'=.ok t):
  (t.kind=2∨t.kind=3)∧t.name=nm∧t.fr=tag∧t.text=cut s tag t.to∧at'<t.to∧t.to≤s.length:=by
 unfold tagEnd at h;simp only at h
 generalize hk:(if s.getD at' 0=47 then 1 else 0:Nat)=k at h
 split at h
 ·cases h
 ·split at h
  ·cases h
  ·simp only[Except.ok.injEq] at h;subst h
   refine⟨?_,rfl,rfl,rfl,by simp only;omega,by simp only;omega⟩
   simp only;split
   ·exact .inr rfl
   ·exact .inl rfl
theorem openM_ok {s:List UInt8}{tag:Nat}{t:Tok}(hl:tag+5≤s.length)(h:openM s tag=.ok t):(t.kind=2∨t.kind=3)∧t.fr=tag∧t.text=cut s tag t.to∧tag<t.to∧t.to≤s.length:=by
 unfold openM at h;simp only at h;split at h
 ·cases h
 ·have hn:=lets_le s (tag+5);split at h
  ·cases h
  ·rename_i l b hb
   obtain⟨q1,q2⟩:=attrsM_ok _ _ _ _ _ (by omega) hb
   obtain⟨k1,k2,k3,k4,k5,k6⟩:=tagEnd_ok h
   exact⟨k1,k3,k4,by omega,k6⟩
theorem openM_bad {s:List UInt8}{tag p:Nat}{e:Int}(hl:tag+5≤s.length)(h:openM s tag=.error (p,e)):p<s.length:=by
 unfold openM at h;simp only at h;split at h
 ·simp only[Except.error.injEq,Prod.mk.injEq] at h;omega
 ·have hn:=lets_le s (tag+5);split at h
  ·rename_i e' he;simp only[Except.error.injEq] at h;subst h
   exact attrsM_bad (by omega) _ _ _ p e (by omega) he
  ·rename_i l b hb
   obtain⟨q1,q2⟩:=attrsM_ok _ _ _ _ _ (by omega) hb
   unfold tagEnd at h;simp only at h
   generalize hk:(if s.getD b 0=47 then 1 else 0:Nat)=k at h
   split at h
   ·simp only[Except.error.injEq,Prod.mk.injEq] at h;omega
   ·split at h
    ·simp only[Except.error.injEq,Prod.mk.injEq] at h;omega
    ·cases h
theorem rawM_bad {s:List UInt8}{t:Tok}{p:Nat}{e:Int}(h1:t.fr<s.length)(h2:t.to≤s.length)(h:rawM s t=.error (p,e)):p<s.length:=by
 unfold rawM at h;split at h
 ·split at h
  ·simp only[Except.error.injEq,Prod.mk.injEq] at h;omega
  ·rename_i n hn;split at h
   ·rename_i k hk _;simp only[Except.error.injEq,Prod.mk.injEq] at h;have:=fnd_le hk;have h5:opensS.length=5:=rfl;simp only[List.length_take,List.length_drop] at this;omega
   ·cases h
 ·cases h
theorem closeM_ok {s:List UInt8}{tag:Nat}{t:Tok}(hl:tag+6≤s.length)(h:closeM s tag=.ok t):t.kind=4∧t.name=(s.drop (tag+6)).takeWhile smB∧knownB t.name=true∧t.fr=tag∧t.text=cut s tag t.to∧tag<t.to∧t.to≤s.length:=by
 unfold closeM at h;simp only at h;split at h
 ·cases h
 ·rename_i hkn;have hn:=lets_le s (tag+6)
  obtain⟨q1,q2⟩:=past_le (s:=s) (a:=tag+6+lets s (tag+6)) (by omega)
  split at h
  ·cases h
  ·split at h
   ·cases h
   ·simp only[Except.ok.injEq] at h;subst h
    refine⟨rfl,?_,by simpa using hkn,rfl,rfl,by simp only;omega,by simp only;omega⟩
    exact(List.prefix_iff_eq_take.1 (List.takeWhile_prefix smB)).symm
theorem closeM_bad {s:List UInt8}{tag p:Nat}{e:Int}(hl:tag<s.length)(h:closeM s tag=.error (p,e)):p<s.length:=by
 unfold closeM at h;simp only at h
 repeat' split at h
 all_goals first|(cases h;done)|(simp only[Except.error.injEq,Prod.mk.injEq] at h;omega)
theorem textTo_ok {s:List UInt8}{hid:Bool}:∀(f at':Nat),s.length≤at'+f→at'≤s.length→at'≤textTo s hid f at'∧textTo s hid f at'≤s.length∧(textTo s hid f at'=s.length∨spec s (textTo s hid f at') hid=true)
 |0,at',h,h2=>by simp only[textTo];omega
 |f+1,at',h,h2=>by
  unfold textTo;split
  ·rename_i hc
   rcases hc with hc|hc
   ·exact⟨by omega,h2,.inl (by omega)⟩
   ·exact⟨by omega,h2,.inr hc⟩
  ·rename_i hc
   have hlt:at'<s.length:=by
    rcases Nat.lt_or_ge at' s.length with h|h
    ·exact h
    ·exact absurd (Or.inl h) hc
   obtain⟨t1,t2,t3⟩:=textTo_ok (s:=s) (hid:=hid) f (at'+1) (by omega) (by omega)
   exact⟨by omega,t2,t3⟩
theorem textTo_lt {s:List UInt8}{hid:Bool}{f at':Nat}(h:¬(s.length≤at'))(h2:¬spec s at' hid=true)(h3:s.length≤at'+f):at'<textTo s hid f at':=by
 obtain⟨g,rfl⟩:∃g,f=g+1:=⟨f-1,by omega⟩
 unfold textTo
 rw[if_neg (by rintro(h4|h4);exact h h4;exact h2 h4)]
 have:=(textTo_ok (s:=s) (hid:=hid) g (at'+1) (by omega) (by omega)).1
 omega
theorem cut_ne {s:List UInt8}{a b:Nat}(h:a<b)(h2:b≤s.length):cut s a b≠[]:=by
 intro e;have:=congrArg List.length e;simp only[cut,List.length_take,List.length_drop,List.length_nil] at this;omega
theorem close_first {s nm:List UInt8}{n t0 f:Nat}{hid:Option Nat}{r:List Tok}(ht:t0≤s.length)(hn:fnd (closesS++nm) (s.drop t0)=some n)(hnm:nm=removeS∨nm=inlineS)(h:lexG s (f+1) (t0+n) hid=.ok r):
  ∃b q,r=b::q∧b.kind=4∧b.name=nm:=by
 have hp:(closesS++nm).isPrefixOf (s.drop (t0+n))=true:=by
  have key:∀{x s:List UInt8} {n:Nat},fnd x s=some n→x.isPrefixOf (s.drop n)=true:=by
   intro x s
   induction s with
   |nil=>
    intro n h;unfold fnd at h;split at h
    ·rename_i hx
     have:x=[]:=by simpa using hx
     subst this;rfl
    ·cases h
   |cons c r ih=>
    intro n h;unfold fnd at h;split at h
    ·rename_i hx;injection h with h;subst h;exact hx
    ·cases hr:fnd x r with
     |none=>rw[hr] at h;cases h
     |some m=>
      rw[hr] at h;simp only[Option.map_some,Option.some.injEq] at h;subst h;exact ih hr
  rw[←List.drop_drop];exact key hn
 obtain⟨z,hz⟩:=List.isPrefixOf_iff_prefix.1 hp;have hlen:=congrArg List.length hz;have h6:closesS.length=6:=rfl
 have hnl:0<nm.length:=by rcases hnm with rfl|rfl<;>decide
 simp only[List.length_append,List.length_drop] at hlen
 have hc:has s closesS (t0+n)=true:=by
  refine List.isPrefixOf_iff_prefix.2 ⟨nm++z,?_⟩;rw[←hz,List.append_assoc]
 have ho:has s opensS (t0+n)=false:=by
  unfold has;rw[←hz];simp[opensS,closesS,List.isPrefixOf]
 have hd:s.drop (t0+n+6)=nm++z:=by
  rw[←List.drop_drop,←hz,List.append_assoc];exact List.drop_left' h6
 unfold lexG at h
 rw[if_neg (by omega),if_pos (by unfold spec;rw[ho,hc];rfl)] at h
 unfold nextM at h
 rw[if_neg (by rw[ho];simp),if_pos hc] at h
 cases hcl:closeM s (t0+n) with
 |error e=>rw[hcl] at h;cases h
 |ok t=>
  rw[hcl] at h;simp only at h
  obtain⟨k1,k2,k3,k4,k5,k6,k7⟩:=closeM_ok (by omega) hcl
  cases hr:lexG s f (lastTo [t] (t0+n+1)) hid with
  |error e=>rw[hr] at h;cases h
  |ok r'=>
   rw[hr] at h;simp only[Except.ok.injEq] at h;refine⟨t,r',h.symm,k1,?_⟩;rw[hd] at k2
   have hsm:nm.all smB=true:=by rcases hnm with rfl|rfl<;>decide
   have htw:(nm++z).takeWhile smB=nm++z.takeWhile smB:=List.takeWhile_append_of_pos fun c hc=>List.all_eq_true.1 hsm c hc
   rw[htw] at k2;have k3':=k3;unfold knownB namesL at k3;rw[k2] at k3;simp only[List.any_cons,List.any_nil,Bool.or_false,Bool.or_eq_true,beq_iff_eq] at k3;rw[k2]
   rcases hnm with rfl|rfl
   ·simp only[removeS,inlineS,List.cons_append,List.nil_append,List.cons.injEq] at k3⊢;simp at k3;simp[k3]
   ·simp only[removeS,inlineS,List.cons_append,List.nil_append,List.cons.injEq] at k3⊢;simp at k3;simp[k3]
theorem rawM_ok {s:List UInt8}{t:Tok}{l:List Tok}(h:rawM s t=.ok l):(ownB t=false∧l=[t])∨
  (ownB t=true∧(t.name=removeS∨t.name=inlineS)∧∃n,fnd (closesS++t.name) (s.drop t.to)=some n∧l=[t,⟨7,[],[],(s.drop t.to).take n,t.to,t.to+n⟩]):=by
 unfold rawM at h;split at h
 ·rename_i hc
  have ho:ownB t=true:=by
   unfold ownB
   rcases hc.2 with h2|h2<;>simp[hc.1,h2]
  split at h
  ·cases h
  ·rename_i n hn;split at h
   ·cases h
   ·simp only[Except.ok.injEq] at h;exact .inr ⟨ho,hc.2,n,hn,h.symm⟩
 ·rename_i hc;simp only[Except.ok.injEq] at h;refine .inl ⟨?_,h.symm⟩;unfold ownB;rw[Bool.eq_false_iff];intro hb;simp only[Bool.and_eq_true,Bool.or_eq_true,beq_iff_eq] at hb;exact hc hb
theorem spec_show {s:List UInt8}{a:Nat}{hid:Bool}(h:spec s a hid=true)(h1:¬has s opensS a=true)(h2:¬has s closesS a=true)(h3:¬hideB s a=true):has s showsS a=true∧hid=true:=by
 unfold spec at h;rw[Bool.eq_false_iff.2 h1,Bool.eq_false_iff.2 h2,Bool.eq_false_iff.2 h3] at h;simpa using h
theorem cut_take {s:List UInt8}{a n:Nat}:cut s a (a+n)=(s.drop a).take n:=by unfold cut;congr 1;omega
theorem lex_whole {s:List UInt8}:∀(f at':Nat) (hid:Option Nat) (l:List Tok) (prev:Option Tok),s.length-at'<f→at'≤s.length→lexG s f at' hid=.ok l→
  (∀p,prev=some p→p.kind=1→at'=s.length∨spec s at' hid.isSome=true)→WG s at' prev hid.isSome l
 |0,at',hid,l,prev,h,_,_,_=>by omega
 |f+1,at',hid,l,prev,hf,ha,h,hp=>by
  have h0:=h;unfold lexG at h;split at h
  ·split at h
   ·cases h
   ·simp only[Except.ok.injEq] at h;subst h
    exact⟨by omega,rfl⟩
  ·rename_i hlt;split at h
   ·rename_i hs;split at h
    ·cases h
    ·rename_i l1 hid2 hn;split at h
     ·cases h
     ·rename_i r hr;simp only[Except.ok.injEq] at h;subst h;unfold nextM at hn;split at hn
      ·rename_i ho
       have h5:=has_le ho (by simp[opensS])
       have e5:opensS.length=5:=rfl;split at hn
       ·cases hn
       ·rename_i t ht;split at hn
        ·cases hn
        ·rename_i l2 hl2;simp only[Except.ok.injEq,Prod.mk.injEq] at hn;obtain⟨rfl,rfl⟩:=hn
         obtain⟨k1,k2,k3,k4,k5⟩:=openM_ok (by omega) ht
         have hne:t.text≠[]:=by rw[k3];exact cut_ne k4 k5
         rcases rawM_ok hl2 with ⟨o1,rfl⟩|⟨o1,o2,n,o3,rfl⟩
         ·have ih:=lex_whole f t.to hid r (some t) (by omega) k5 hr fun p hp hk=>by
           injection hp with hp;subst hp;omega
          refine⟨k2,by omega,k5,k3.symm,fun e=>absurd e hne,fun e=>(by rw[o1] at e;cases e),fun e=>by omega,fun e=>by omega,fun e=>by omega,fun e=>by omega,?_⟩
          rw[if_neg (by omega),if_neg (by omega)]
          exact ih
         ·have hkn:=fnd_le o3;have e6:closesS.length=6:=rfl;simp only[List.length_append,List.length_drop] at hkn;have hr2:lexG s f (t.to+n) hid=.ok r:=hr
          have hnl:0<t.name.length:=by rcases o2 with e|e<;>rw[e]<;>decide
          obtain⟨g,rfl⟩:∃g,f=g+1:=⟨f-1,by omega⟩
          obtain⟨b,q,rfl,b1,b2⟩:=close_first k5 o3 o2 hr2
          have ih:=lex_whole (g+1) (t.to+n) hid (b::q) (some ⟨7,[],[],(s.drop t.to).take n,t.to,t.to+n⟩) (by omega) (by omega) hr2 fun p hp hk=>by
           injection hp with hp;subst hp;simp at hk
          have hk2:t.kind=2:=by
           unfold ownB at o1;simp only[Bool.and_eq_true,beq_iff_eq] at o1;exact o1.1
          refine⟨k2,by omega,k5,k3.symm,fun e=>absurd e hne,fun _=>⟨_,b,q,rfl,rfl,b1,b2⟩,fun e=>by omega,fun e=>by omega,fun e=>by omega,fun e=>by omega,?_⟩
          rw[if_neg (by omega),if_neg (by omega)]
          refine⟨rfl,by simp only;omega,by simp only;omega,cut_take,fun _=>rfl,fun e=>by simp[ownB] at e,fun _=>⟨t,rfl,hk2⟩,fun e=>by simp at e,fun e=>by simp at e,fun e=>by simp at e,?_⟩
          exact ih
      ·rename_i ho;split at hn
       ·rename_i hc
        have h6:=has_le hc (by simp[closesS])
        have e6:closesS.length=6:=rfl;split at hn
        ·cases hn
        ·rename_i t ht;simp only[Except.ok.injEq,Prod.mk.injEq] at hn;obtain⟨rfl,rfl⟩:=hn
         obtain⟨k1,-,-,k2,k3,k4,k5⟩:=closeM_ok (by omega) ht
         have hne:t.text≠[]:=by rw[k3];exact cut_ne k4 k5
         have ih:=lex_whole f t.to hid r (some t) (by omega) k5 hr fun p hp hk=>by
          injection hp with hp;subst hp;omega
         refine⟨k2,by omega,k5,k3.symm,fun e=>absurd e hne,fun e=>by simp[ownB,k1] at e,fun e=>by omega,fun e=>by omega,fun e=>by omega,fun e=>by omega,?_⟩
         rw[if_neg (by omega),if_neg (by omega)]
         exact ih
       ·rename_i hc;split at hn
        ·rename_i hh
         have h8:at'+8≤s.length:=by
          unfold hideB at hh;simp only[Bool.and_eq_true,decide_eq_true_eq] at hh;omega
         split at hn
         ·cases hn
         ·rename_i hns;simp only[Except.ok.injEq,Prod.mk.injEq] at hn;obtain⟨rfl,rfl⟩:=hn
          have ih:=lex_whole f (at'+8) (some at') r (some ⟨5,[],[],cut s at' (at'+8),at',at'+8⟩) (by omega) h8 hr fun p hp hk=>by
           injection hp with hp;subst hp;simp at hk
          refine⟨rfl,by simp only;omega,h8,rfl,fun e=>absurd e (cut_ne (by omega) h8),fun e=>by simp[ownB] at e,fun e=>by simp at e,fun e=>by simp at e,fun _=>by simpa using hns,fun e=>by simp at e,?_⟩
          exact ih
        ·rename_i hh;simp only[Except.ok.injEq,Prod.mk.injEq] at hn;obtain⟨rfl,rfl⟩:=hn;obtain⟨s1,s2⟩:=spec_show hs ho hc hh
         have h3:=has_le s1 (by simp[showsS])
         have e3:showsS.length=3:=rfl
         have hcut:cut s at' (at'+3)=showsS:=by
          rw[cut_take];exact(List.prefix_iff_eq_take.1 (List.isPrefixOf_iff_prefix.1 s1)).symm
         have ih:=lex_whole f (at'+3) none r (some ⟨6,[],[],showsS,at',at'+3⟩) (by omega) (by omega) hr fun p hp hk=>by
          injection hp with hp;subst hp;simp at hk
         refine⟨rfl,by simp only;omega,by simp only;omega,hcut,fun e=>by simp[showsS] at e,fun e=>by simp[ownB] at e,fun e=>by simp at e,fun e=>by simp at e,fun e=>by simp at e,fun _=>s2,?_⟩
         exact ih
   ·rename_i hs;simp only at h;split at h
    ·cases h
    ·rename_i r hr;simp only[Except.ok.injEq] at h;subst h
     obtain⟨q1,q2,q3⟩:=textTo_ok (s:=s) (hid:=hid.isSome) (s.length-at') at' (by omega) ha
     have q4:=textTo_lt (f:=s.length-at') (fun e=>hlt e) hs (by omega)
     generalize textTo s hid.isSome (s.length-at') at'=to at *
     have ih:=lex_whole f to hid r (some ⟨1,[],[],cut s at' to,at',to⟩) (by omega) q2 hr fun p hp hk=>q3
     refine⟨rfl,by simp only;omega,q2,rfl,fun e=>absurd e (cut_ne q4 q2),fun e=>by simp[ownB] at e,fun e=>by simp at e,fun _ p hpp hk=> ?_,fun e=>by simp at e,fun e=>by simp at e,?_⟩
     ·rcases hp p hpp hk with e|e
      ·omega
      ·exact hs e
     ·exact ih
theorem lex_bad {s:List UInt8}:∀(f at':Nat) (hid:Option Nat) (p:Nat) (e:Int),at'≤s.length→(∀h,hid=some h→h<s.length)→lexG s f at' hid=.error (p,e)→p<s.length
 |0,at',hid,p,e,_,_,h=>by cases h
 |f+1,at',hid,p,e,ha,hh,h=>by
  unfold lexG at h;split at h
  ·split at h
   ·rename_i x;simp only[Except.error.injEq,Prod.mk.injEq] at h;have:=hh x rfl;omega
   ·cases h
  ·rename_i hlt;split at h
   ·rename_i hs;split at h
    ·rename_i e' hn;simp only[Except.error.injEq] at h;subst h;unfold nextM at hn;split at hn
     ·rename_i ho
      have h5:=has_le ho (by simp[opensS])
      have e5:opensS.length=5:=rfl;split at hn
      ·rename_i e2 ht;simp only[Except.error.injEq] at hn;subst hn
       exact openM_bad (by omega) ht
      ·rename_i t ht
       obtain⟨k1,k2,k3,k4,k5⟩:=openM_ok (by omega) ht
       split at hn
       ·rename_i e2 hl2;simp only[Except.error.injEq] at hn;subst hn
        exact rawM_bad (by omega) k5 hl2
       ·cases hn
     ·split at hn
      ·split at hn
       ·rename_i e2 ht;simp only[Except.error.injEq] at hn;subst hn
        exact closeM_bad (by omega) ht
       ·cases hn
      ·split at hn
       ·split at hn
        ·simp only[Except.error.injEq,Prod.mk.injEq] at hn;omega
        ·cases hn
       ·cases hn
    ·rename_i l1 hid2 hn;split at h
     ·rename_i e' hr;simp only[Except.error.injEq] at h;subst h;unfold nextM at hn;split at hn
      ·rename_i ho
       have h5:=has_le ho (by simp[opensS])
       have e5:opensS.length=5:=rfl;split at hn
       ·cases hn
       ·rename_i t ht
        obtain⟨k1,k2,k3,k4,k5⟩:=openM_ok (by omega) ht
        split at hn
        ·cases hn
        ·rename_i l2 hl2;simp only[Except.ok.injEq,Prod.mk.injEq] at hn;obtain⟨rfl,rfl⟩:=hn
         rcases rawM_ok hl2 with ⟨o1,rfl⟩|⟨o1,o2,n,o3,rfl⟩
         ·exact lex_bad f t.to hid p e k5 hh hr
         ·have hkn:=fnd_le o3;simp only[List.length_append,List.length_drop] at hkn
          exact lex_bad f (t.to+n) hid p e (by omega) hh hr
      ·split at hn
       ·rename_i hc
        have h6:=has_le hc (by simp[closesS])
        have e6:closesS.length=6:=rfl;split at hn
        ·cases hn
        ·rename_i t ht;simp only[Except.ok.injEq,Prod.mk.injEq] at hn;obtain⟨rfl,rfl⟩:=hn
         obtain⟨k1,-,-,k2,k3,k4,k5⟩:=closeM_ok (by omega) ht
         exact lex_bad f t.to hid p e k5 hh hr
       ·split at hn
        ·rename_i hb
         have h8:at'+8≤s.length:=by
          unfold hideB at hb;simp only[Bool.and_eq_true,decide_eq_true_eq] at hb;omega
         split at hn
         ·cases hn
         ·simp only[Except.ok.injEq,Prod.mk.injEq] at hn;obtain⟨rfl,rfl⟩:=hn
          exact lex_bad f (at'+8) _ p e h8 (fun h hx=>by injection hx with hx;omega) hr
        ·rename_i ho hc hb;simp only[Except.ok.injEq,Prod.mk.injEq] at hn;obtain⟨rfl,rfl⟩:=hn;obtain⟨s1,s2⟩:=spec_show hs ho hc hb
         have h3:=has_le s1 (by simp[showsS])
         have e3:showsS.length=3:=rfl
         exact lex_bad f (at'+3) none p e (by omega) (fun h hx=>by cases hx) hr
     ·cases h
   ·rename_i hs;simp only at h;split at h
    ·rename_i e' hr;simp only[Except.error.injEq] at h;subst h
     obtain⟨q1,q2,q3⟩:=textTo_ok (s:=s) (hid:=hid.isSome) (s.length-at') at' (by omega) ha
     exact lex_bad f _ hid p e q2 hh hr
    ·cases h
theorem lexM_whole {s:List UInt8}{l:List Tok}(h:lexM s=.ok l):WG s 0 none false l:=lex_whole (s.length+1) 0 none l none (by omega) (by omega) h (fun p hp=>by cases hp)
theorem lexM_bad {s:List UInt8}{p:Nat}{e:Int}(h:lexM s=.error (p,e)):p<s.length:=lex_bad (s.length+1) 0 none p e (by omega) (fun h hx=>by cases hx) h
end Go.Ai.Ex
end
section
namespace Go.Ai.Ex
open Go.Ai Go.RowKit
def markS (v:List UInt8):UInt8:=if v.contains 34=true then 39 else 34
def attrsS :List Att→List UInt8
 |[]=>[]
 |a::r=>32::(a.name++61::markS a.value::(a.value++markS a.value::attrsS r))
def written (t:Tok):List UInt8:=
 if t.kind=4 then closesS++(t.name++[62]) else if t.kind=5 then hidesS++[32] else
 if t.kind=2 then opensS++(t.name++(attrsS t.attrs++[62])) else if t.kind=3 then opensS++(t.name++(attrsS t.attrs++[47,62])) else t.text
def okAtt (a:Att):Prop:=a.name≠[]∧a.name.length≤16∧(∀c∈a.name,smB c=true)∧¬(34∈a.value∧39∈a.value)
def okAtts :List Att→List Att→Prop
 |_,[]=>True
 |seen,a::r=>okAtt a∧(∀b∈seen,a.name≠b.name)∧okAtts (seen++[a]) r
theorem okAtts_app :∀(r seen:List Att) (a:Att),okAtts seen r→okAtt a→(∀b∈seen++r,a.name≠b.name)→okAtts seen (r++[a])
 |[],seen,a,_,h,h2=>⟨h,fun b hb=>h2 b (by simpa using hb),trivial⟩
 |x::r,seen,a,hr,h,h2=>⟨hr.1,hr.2.1,okAtts_app r (seen++[x]) a hr.2.2 h fun b hb=>h2 b (by simpa using hb)⟩
theorem fnd_at {x:List UInt8}:∀{s:List UInt8} {n:Nat},fnd x s=some n→x.isPrefixOf (s.drop n)=true∧∀j,j<n→x.isPrefixOf (s.drop j)=false
 |[],n,h=>by
  unfold fnd at h;split at h
  ·rename_i hx
   have:x=[]:=by simpa using hx
   subst this;simp at h;subst h
   exact⟨rfl,fun j hj=>by omega⟩
  ·cases h
 |c::r,n,h=>by
  unfold fnd at h;split at h
  ·rename_i hx
   injection h with h;subst h
   exact⟨hx,fun j hj=>by omega⟩
  ·rename_i hx
   cases hr:fnd x r with
   |none=>rw[hr] at h;cases h
   |some m=>
    rw[hr] at h;simp only[Option.map_some,Option.some.injEq] at h;subst h;obtain⟨h1,h2⟩:=fnd_at hr
    refine⟨h1,fun j hj=> ?_⟩
    cases j with
    |zero=>exact Bool.eq_false_iff.2 hx
    |succ j=>exact h2 j (by omega)
theorem fnd_mk {x:List UInt8}:∀{s:List UInt8} {n:Nat},x.isPrefixOf (s.drop n)=true→(∀j,j<n→x.isPrefixOf (s.drop j)=false)→n≤s.length→fnd x s=some n
 |[],n,h,_,hn=>by
  have:n=0:=by simpa using hn
  subst this
  have hx:x=[]:=by simpa using h
  subst hx;rfl
 |c::r,0,h,_,_=>by
  unfold fnd;exact if_pos h
 |c::r,n+1,h,h2,hn=>by
  unfold fnd
  have h0:=h2 0 (by omega)
  rw[List.drop_zero] at h0
  rw[h0,if_neg (by simp),fnd_mk (s:=r) (n:=n) h (fun j hj=>h2 (j+1) (by omega)) (by simpa using hn)]
  rfl
theorem fnd_nomem {m:UInt8}{s:List UInt8}{n:Nat}(h:fnd [m] s=some n):m∉s.take n:=by
 obtain⟨_,h2⟩:=fnd_at h;intro hm;obtain⟨j,hj⟩:=List.mem_iff_getElem?.1 hm
 have hlt:j<n:=by
  rcases Nat.lt_or_ge j n with h|h
  ·exact h
  ·rw[List.getElem?_eq_none (by simp;omega)] at hj;cases hj
 rw[List.getElem?_take,if_pos hlt] at hj;have h3:=h2 j hlt
 obtain⟨q,hq⟩:∃q,s.drop j=m::q:=⟨s.drop (j+1),by
  obtain⟨hjl,he⟩:=List.getElem?_eq_some_iff.1 hj
  rw[List.drop_eq_getElem_cons hjl,he]⟩
 rw[hq] at h3;simp[List.isPrefixOf] at h3
theorem tw_all {p:UInt8→Bool}:∀(l:List UInt8),∀c∈l.takeWhile p,p c=true
 |[],c,h=>by simp at h
 |x::r,c,h=>by
  rw[List.takeWhile_cons] at h;split at h
  ·rename_i hx
   rcases List.mem_cons.1 h with rfl|h
   ·exact hx
   ·exact tw_all r c h
  ·cases h
theorem tw_take {p:UInt8→Bool}{l:List UInt8}{n:Nat}(h:n≤(l.takeWhile p).length):∀c∈l.take n,p c=true:=by
 intro c hc
 have hp:l.take n=(l.takeWhile p).take n:=by
  have:=List.prefix_iff_eq_take.1 (List.takeWhile_prefix (p:=p) (l:=l));rw[this,List.take_take,Nat.min_eq_left h]
 rw[hp] at hc;exact tw_all l c (List.mem_of_mem_take hc)
theorem attrM_att {s:List UInt8}{at' tag:Nat}{l:List Att}{a:Att}{b:Nat}(h:attrM s at' tag l=.ok (a,b)):okAtt a∧∀c∈l,a.name≠c.name:=by
 unfold attrM at h;simp only at h;split at h
 ·cases h
 ·rename_i hn;split at h
  ·cases h
  ·split at h
   ·cases h
   ·rename_i h2;split at h
    ·cases h
    ·split at h
     ·cases h
     ·rename_i hm;split at h
      ·cases h
      ·rename_i k hk;simp only[Except.ok.injEq,Prod.mk.injEq] at h;obtain⟨rfl,-⟩:=h;have hl:=lets_le s at';have hle:min (lets s at') 16≤lets s at':=Nat.min_le_left _ _;refine⟨⟨?_,?_,?_,?_⟩,?_⟩
       ·intro e;have:=congrArg List.length e;simp only[List.length_take,List.length_drop,List.length_nil] at this
        have:min (lets s at') 16≠0:=fun e=>h2 (.inl e)
        omega
       ·simp only[List.length_take];omega
       ·exact tw_take (p:=smB) hle
       ·have hno:=fnd_nomem hk
        rintro⟨h34,h39⟩
        have hm2:s.getD (at'+min (lets s at') 16+1) 0=34∨s.getD (at'+min (lets s at') 16+1) 0=39:=by
         by_cases e:s.getD (at'+min (lets s at') 16+1) 0=34
         ·exact .inl e
         ·right
          exact Decidable.not_not.1 fun e2=>hm ⟨e,e2⟩
        rcases hm2 with e|e
        ·rw[e] at hno;exact hno h34
        ·rw[e] at hno;exact hno h39
       ·intro c hc e;apply hn;rw[List.any_eq_true]
        exact⟨c,hc,by simpa using e⟩
theorem attrsM_att {s:List UInt8}{tag:Nat}:∀(f at':Nat) (l l':List Att) (b:Nat),okAtts [] l→attrsM s tag f at' l=.ok (l',b)→okAtts [] l'
 |0,at',l,l',b,_,h=>by cases h
 |f+1,at',l,l',b,hl,h=>by
  unfold attrsM at h;simp only at h;split at h
  ·cases h
  ·split at h
   ·simp only[Except.ok.injEq,Prod.mk.injEq] at h;obtain⟨rfl,_⟩:=h;exact hl
   ·split at h
    ·cases h
    ·split at h
     ·cases h
     ·rename_i a c hc;obtain⟨h1,h2⟩:=attrM_att hc
      exact attrsM_att f c _ l' b (okAtts_app l [] a hl h1 (by simpa using h2)) h
theorem openM_att {s:List UInt8}{tag:Nat}{t:Tok}(h:openM s tag=.ok t):knownB t.name=true∧okAtts [] t.attrs:=by
 unfold openM at h;simp only at h;split at h
 ·cases h
 ·rename_i hk;split at h
  ·cases h
  ·rename_i l b hb;have ha:=attrsM_att _ _ [] l b trivial hb
   have hn:t.name=(s.drop (tag+5)).take (lets s (tag+5))∧t.attrs=l:=by
    unfold tagEnd at h;simp only at h
    generalize (if s.getD b 0=47 then 1 else 0:Nat)=k at h
    split at h
    ·cases h
    ·split at h
     ·cases h
     ·simp only[Except.ok.injEq] at h;subst h;exact⟨rfl,rfl⟩
   rw[hn.1,hn.2]
   exact⟨by simpa using hk,ha⟩
def specR (r:List UInt8)(hid:Bool):Bool:=opensS.isPrefixOf r||(closesS.isPrefixOf r||((hidesS.isPrefixOf r&&(match r.drop 7 with|c::_=>blB c|[]=>false))||(showsS.isPrefixOf r&&hid)))
theorem spec_eq (s:List UInt8)(a:Nat)(hid:Bool):spec s a hid=specR (s.drop a) hid:=by
 have h:hideB s a=(hidesS.isPrefixOf (s.drop a)&&(match(s.drop a).drop 7 with|c::_=>blB c|[]=>false)):=by
  unfold hideB has
  congr 1
  rw[List.drop_drop]
  by_cases hl:a+7<s.length
  ·rw[decide_eq_true hl,List.drop_eq_getElem_cons hl];simp[List.getD_eq_getElem?_getD,hl]
  ·rw[decide_eq_false hl,List.drop_eq_nil_of_le (by omega)]
   rfl
 unfold spec specR;rw[h];rfl
theorem specR_no {r:List UInt8}{hid:Bool}:specR r hid=false↔opensS.isPrefixOf r=false∧closesS.isPrefixOf r=false∧(hidesS.isPrefixOf r&&(match r.drop 7 with|c::_=>blB c|[]=>false))=false∧(showsS.isPrefixOf r&&hid)=false:=by
 unfold specR;simp only[Bool.or_eq_false_iff]
theorem hide_len {r:List UInt8}(h:hidesS.isPrefixOf r=true):7≤r.length:=by
 have:=(List.isPrefixOf_iff_prefix.1 h).length_le;exact this
theorem specR_mono {u r:List UInt8}{hid:Bool}(h:specR (u++r) hid=false):specR u hid=false:=by
 have up:∀{x:List UInt8},x.isPrefixOf u=true→x.isPrefixOf (u++r)=true:=fun hx=>by
  obtain⟨z,hz⟩:=List.isPrefixOf_iff_prefix.1 hx
  exact List.isPrefixOf_iff_prefix.2 ⟨z++r,by rw[←List.append_assoc,hz]⟩
 obtain⟨h1,h2,h3,h4⟩:=specR_no.1 h;refine specR_no.2 ⟨?_,?_,?_,?_⟩
 ·rw[Bool.eq_false_iff] at h1⊢;exact fun e=>h1 (up e)
 ·rw[Bool.eq_false_iff] at h2⊢;exact fun e=>h2 (up e)
 ·cases he:hidesS.isPrefixOf u with
  |false=>rfl
  |true=>
   rw[up he] at h3;simp only[Bool.true_and] at h3⊢;rw[List.drop_append_of_le_length (hide_len he)] at h3
   cases hd:u.drop 7 with
   |cons c q=>rw[hd] at h3;exact h3
   |nil=>rfl
 ·cases he:showsS.isPrefixOf u with
  |false=>rfl
  |true=>rw[up he] at h4;exact h4
inductive VG:Bool→List Tok→Prop
 |nil:VG false []
 |text {hid:Bool} {t:Tok} {r:List Tok}:t.kind=1→t.name=[]→t.attrs=[]→t.text≠[]→(∀j,j<t.text.length→specR (t.text.drop j) hid=false)→(∀u q,r=u::q→u.kind≠1)→VG hid r→VG hid (t::r)
 |tag {hid:Bool} {t:Tok} {r:List Tok}:(t.kind=3∨t.kind=2∧ownB t=false)→knownB t.name=true→okAtts [] t.attrs→VG hid r→VG hid (t::r)
 |own {hid:Bool} {t a c:Tok} {q:List Tok}:t.kind=2→(t.name=removeS∨t.name=inlineS)→okAtts [] t.attrs→a.kind=7→a.name=[]→a.attrs=[]→c.kind=4→c.name=t.name→
   fnd (closesS++t.name) (a.text++(closesS++t.name))=some a.text.length→(t.name=removeS→fnd opensS a.text=none)→VG hid (c::q)→VG hid (t::a::c::q)
 |close {hid:Bool} {t:Tok} {r:List Tok}:t.kind=4→t.attrs=[]→knownB t.name=true→VG hid r→VG hid (t::r)
 |hide {t:Tok} {r:List Tok}:t.kind=5→t.name=[]→t.attrs=[]→VG true r→VG false (t::r)
 |shown {t:Tok} {r:List Tok}:t.kind=6→t.name=[]→t.attrs=[]→t.text=showsS→VG false r→VG true (t::r)
theorem rawM_rm {s:List UInt8}{t:Tok}{l:List Tok}{n:Nat}(h:rawM s t=.ok l)(hk:t.kind=2)(hn:t.name=removeS)(hf:fnd (closesS++t.name) (s.drop t.to)=some n):fnd opensS ((s.drop t.to).take n)=none:=by
 unfold rawM at h;rw[if_pos ⟨hk,.inl hn⟩,hf] at h;simp only at h
 cases ho:fnd opensS ((s.drop t.to).take n) with
 |none=>rfl
 |some k=>
  rw[ho,decide_eq_true hn] at h;cases h
theorem raw_found {s x:List UInt8}{n:Nat}(h:fnd x s=some n):fnd x (s.take n++x)=some (s.take n).length:=by
 obtain⟨h1,h2⟩:=fnd_at h;have hl:=fnd_le h
 have hn:(s.take n).length=n:=by simp only[List.length_take];omega
 obtain⟨z,hz⟩:=List.isPrefixOf_iff_prefix.1 h1
 have hs:s=s.take n++(x++z):=by rw[hz,List.take_append_drop]
 refine fnd_mk (by rw[List.drop_left' rfl];exact List.isPrefixOf_iff_prefix.2 (List.prefix_refl x)) (fun j hj=> ?_) (by simp)
 have h3:=h2 j (by omega)
 rw[Bool.eq_false_iff] at h3⊢;intro e;apply h3;obtain⟨y,hy⟩:=List.isPrefixOf_iff_prefix.1 e;refine List.isPrefixOf_iff_prefix.2 ⟨y++z,?_⟩;rw[←List.append_assoc,hy]
 rw[List.drop_append_of_le_length (by omega),List.append_assoc,←List.drop_append_of_le_length (by omega),←hs]
theorem closeM_att {s:List UInt8}{tag:Nat}{t:Tok}(h:closeM s tag=.ok t):t.attrs=[]:=by
 unfold closeM at h;simp only at h
 repeat' split at h
 all_goals first|(cases h;done)|(simp only[Except.ok.injEq] at h;subst h;rfl)
theorem textTo_no {s:List UInt8}{hid:Bool}:∀(f at':Nat) (j:Nat),at'≤j→j<textTo s hid f at'→spec s j hid=false
 |0,at',j,h1,h2=>by simp only[textTo] at h2;omega
 |f+1,at',j,h1,h2=>by
  unfold textTo at h2;split at h2
  ·omega
  ·rename_i hc
   rcases Nat.eq_or_lt_of_le h1 with rfl|h
   ·exact Bool.eq_false_iff.2 fun e=>hc (.inr e)
   ·exact textTo_no f (at'+1) j h h2
theorem lex_good {s:List UInt8}:∀(f at':Nat) (hid:Option Nat) (l:List Tok),s.length-at'<f→at'≤s.length→lexG s f at' hid=.ok l→VG hid.isSome l
 |0,at',hid,l,h,_,_=>by omega
 |f+1,at',hid,l,hf,ha,h=>by
  unfold lexG at h;split at h
  ·split at h
   ·cases h
   ·simp only[Except.ok.injEq] at h;subst h;exact .nil
  ·rename_i hlt;split at h
   ·rename_i hs;split at h
    ·cases h
    ·rename_i l1 hid2 hn;split at h
     ·cases h
     ·rename_i r hr;simp only[Except.ok.injEq] at h;subst h;unfold nextM at hn;split at hn
      ·rename_i ho
       have h5:=has_le ho (by simp[opensS])
       have e5:opensS.length=5:=rfl;split at hn
       ·cases hn
       ·rename_i t ht;split at hn
        ·cases hn
        ·rename_i l2 hl2;simp only[Except.ok.injEq,Prod.mk.injEq] at hn;obtain⟨rfl,rfl⟩:=hn
         obtain⟨k1,k2,k3,k4,k5⟩:=openM_ok (by omega) ht
         obtain⟨m1,m2⟩:=openM_att ht
         rcases rawM_ok hl2 with ⟨o1,rfl⟩|⟨o1,o2,n,o3,rfl⟩
         ·have ih:=lex_good f t.to hid r (by omega) k5 hr
          exact .tag (k1.symm.imp_right fun k=>⟨k,o1⟩) m1 m2 ih
         ·have hkn:=fnd_le o3;simp only[List.length_append,List.length_drop] at hkn;have hr2:lexG s f (t.to+n) hid=.ok r:=hr
          obtain⟨g,rfl⟩:∃g,f=g+1:=⟨f-1,by omega⟩
          obtain⟨b,q,rfl,b1,b2⟩:=close_first k5 o3 o2 hr2
          have ih:=lex_good (g+1) (t.to+n) hid (b::q) (by omega) (by omega) hr2
          have hk2:t.kind=2:=by
           unfold ownB at o1;simp only[Bool.and_eq_true,beq_iff_eq] at o1;exact o1.1
          exact .own hk2 o2 m2 rfl rfl rfl b1 b2 (raw_found o3) (fun hrm=>rawM_rm hl2 hk2 hrm o3) ih
      ·rename_i ho;split at hn
       ·rename_i hc
        have h6:=has_le hc (by simp[closesS])
        have e6:closesS.length=6:=rfl;split at hn
        ·cases hn
        ·rename_i t ht;simp only[Except.ok.injEq,Prod.mk.injEq] at hn;obtain⟨rfl,rfl⟩:=hn
         obtain⟨k1,-,kk,k2,k3,k4,k5⟩:=closeM_ok (by omega) ht
         have ih:=lex_good f t.to hid r (by omega) k5 hr
         exact .close k1 (closeM_att ht) kk ih
       ·rename_i hc;split at hn
        ·rename_i hh
         have h8:at'+8≤s.length:=by
          unfold hideB at hh;simp only[Bool.and_eq_true,decide_eq_true_eq] at hh;omega
         split at hn
         ·cases hn
         ·rename_i hns;simp only[Except.ok.injEq,Prod.mk.injEq] at hn;obtain⟨rfl,rfl⟩:=hn
          have ih:=lex_good f (at'+8) (some at') r (by omega) h8 hr
          have hnf:hid.isSome=false:=by simpa using hns
          rw[hnf];exact .hide rfl rfl rfl ih
        ·rename_i hh;simp only[Except.ok.injEq,Prod.mk.injEq] at hn;obtain⟨rfl,rfl⟩:=hn;obtain⟨s1,s2⟩:=spec_show hs ho hc hh
         have h3:=has_le s1 (by simp[showsS])
         have e3:showsS.length=3:=rfl
         have ih:=lex_good f (at'+3) none r (by omega) (by omega) hr
         rw[s2];exact .shown rfl rfl rfl rfl ih
   ·rename_i hs;simp only at h;split at h
    ·cases h
    ·rename_i r hr;simp only[Except.ok.injEq] at h;subst h
     obtain⟨q1,q2,q3⟩:=textTo_ok (s:=s) (hid:=hid.isSome) (s.length-at') at' (by omega) ha
     have q4:=textTo_lt (f:=s.length-at') (fun e=>hlt e) hs (by omega)
     have q5:=textTo_no (s:=s) (hid:=hid.isSome) (s.length-at') at';generalize textTo s hid.isSome (s.length-at') at'=to at *
     have ih:=lex_good f to hid r (by omega) q2 hr
     have hW:=lex_whole f to hid r (some ⟨1,[],[],cut s at' to,at',to⟩) (by omega) q2 hr fun p hp hk=>q3
     refine .text rfl rfl rfl (cut_ne q4 q2) (fun j hj=> ?_) (fun u q hrq=> ?_) ih
     ·have hcl:(cut s at' to).length=to-at':=by simp only[cut,List.length_take,List.length_drop];omega
      simp only[hcl] at hj
      have hsp:=q5 (at'+j) (by omega) (by omega)
      rw[spec_eq,←List.drop_drop] at hsp
      have hsplit:(s.drop at').drop j=(cut s at' to).drop j++s.drop to:=by
       have:s.drop at'=cut s at' to++s.drop to:=by
        unfold cut
        have h2:s.drop to=(s.drop at').drop (to-at'):=by rw[List.drop_drop];congr 1;omega
        rw[h2,List.take_append_drop]
       rw[this,List.drop_append_of_le_length (by omega)]
      rw[hsplit] at hsp;exact specR_mono hsp
     ·subst hrq;obtain⟨-,-,-,-,-,-,w7,w1,-,-,-⟩:=hW
      exact fun e=>w1 e _ rfl rfl
theorem lexM_good {s:List UInt8}{l:List Tok}(h:lexM s=.ok l):VG false l:=lex_good (s.length+1) 0 none l (by omega) (by omega) h
end Go.Ai.Ex
end
section
namespace Go.Ai.Ex
open Go.Ai Go.RowKit
end Go.Ai.Ex
end
section
namespace Go.Ai.Ex
open Go.Ai Go.RowKit
theorem textTo_is {s:List UInt8}{hid:Bool}:∀(n f p:Nat),(∀j,j<n→spec s (p+j) hid=false)→p+n≤s.length→(p+n=s.length∨spec s (p+n) hid=true)→n≤f→textTo s hid f p=p+n
 |0,f,p,h1,h2,h3,hf=>by
  cases f with
  |zero=>rfl
  |succ f=>
   unfold textTo
   rw[if_pos (by
    rcases h3 with h3|h3
    ·left;omega
    ·right;exact h3)]
   rfl
 |n+1,f,p,h1,h2,h3,hf=>by
  obtain⟨g,rfl⟩:∃g,f=g+1:=⟨f-1,by omega⟩
  unfold textTo
  have h0:=h1 0 (by omega)
  rw[Nat.add_zero] at h0
  rw[if_neg (by rintro(h|h);omega;rw[h0] at h;cases h),textTo_is n g (p+1) (fun j hj=>by
   have:=h1 (j+1) (by omega)
   rwa [show p+(j+1)=p+1+j by omega] at this) (by omega) (by rwa [show p+1+n=p+(n+1) by omega]) (by omega)]
  omega
end Go.Ai.Ex
end
section
namespace Go.Ai.Ex
open Go.Ai Go.RowKit
def tokC :Con:=fun vs h K=>∃s:List UInt8,s.length≤limE∧vs=[.str s]∧(∀p e,lexM s=.error (p,e)→K (.tup [.sl 0 [] none,.int .i64 p,.int .i64 e]) h)∧
 (∀l,lexM s=.ok l→K (.tup [.sl 6 (encTs l) none,.int .i64 0,.int .i64 0]) h)
def yesC :Con:=fun vs h K=>vs.isEmpty=true∧K (.bool true) h
end Go.Ai.Ex
end
section
namespace Go.Ai.Ex
open Go.Ai Go.RowKit
theorem attrM_e {s:List UInt8}{at' tag:Nat}{l:List Att}{p:Nat}{e:Int}(h:attrM s at' tag l=.error (p,e)):e≠0:=by
 unfold attrM at h;simp only at h
 repeat' split at h
 all_goals first|(cases h;done)|(simp only[Except.error.injEq,Prod.mk.injEq] at h;obtain⟨-,rfl⟩:=h;decide)
theorem attrsM_e {s:List UInt8}{tag:Nat}:∀(f at':Nat) (l:List Att) (p:Nat) (e:Int),attrsM s tag f at' l=.error (p,e)→e≠0
 |0,at',l,p,e,h=>by simp only[attrsM,Except.error.injEq,Prod.mk.injEq] at h;obtain⟨-,rfl⟩:=h;decide
 |f+1,at',l,p,e,h=>by
  unfold attrsM at h;simp only at h;split at h
  ·simp only[Except.error.injEq,Prod.mk.injEq] at h;obtain⟨-,rfl⟩:=h;decide
  ·split at h
   ·cases h
   ·split at h
    ·simp only[Except.error.injEq,Prod.mk.injEq] at h;obtain⟨-,rfl⟩:=h;decide
    ·split at h
     ·rename_i e' he;simp only[Except.error.injEq] at h;subst h;exact attrM_e he
     ·exact attrsM_e f _ _ p e h
theorem openM_e {s:List UInt8}{tag p:Nat}{e:Int}(h:openM s tag=.error (p,e)):e≠0:=by
 unfold openM at h;simp only at h;split at h
 ·simp only[Except.error.injEq,Prod.mk.injEq] at h;obtain⟨-,rfl⟩:=h;decide
 ·split at h
  ·rename_i e' he;simp only[Except.error.injEq] at h;subst h;exact attrsM_e _ _ _ p e he
  ·rename_i l b hb;unfold tagEnd at h;simp only at h
   generalize hk:(if s.getD b 0=47 then 1 else 0:Nat)=k at h
   split at h
   ·simp only[Except.error.injEq,Prod.mk.injEq] at h;obtain⟨-,rfl⟩:=h;decide
   ·split at h
    ·simp only[Except.error.injEq,Prod.mk.injEq] at h;obtain⟨-,rfl⟩:=h;decide
    ·cases h
theorem rawM_e {s:List UInt8}{t:Tok}{p:Nat}{e:Int}(h:rawM s t=.error (p,e)):e≠0:=by
 unfold rawM at h
 repeat' split at h
 all_goals first|(cases h;done)|(simp only[Except.error.injEq,Prod.mk.injEq] at h;obtain⟨-,rfl⟩:=h;decide)
theorem closeM_e {s:List UInt8}{tag p:Nat}{e:Int}(h:closeM s tag=.error (p,e)):e≠0:=by
 unfold closeM at h;simp only at h
 repeat' split at h
 all_goals first|(cases h;done)|(simp only[Except.error.injEq,Prod.mk.injEq] at h;obtain⟨-,rfl⟩:=h;decide)
theorem nextM_e {s:List UInt8}{a:Nat}{hid:Option Nat}{p:Nat}{e:Int}(h:nextM s a hid=.error (p,e)):e≠0:=by
 unfold nextM at h;split at h
 ·split at h
  ·rename_i e' he;simp only[Except.error.injEq] at h;subst h;exact openM_e he
  ·split at h
   ·rename_i e' he;simp only[Except.error.injEq] at h;subst h;exact rawM_e he
   ·cases h
 ·split at h
  ·split at h
   ·rename_i e' he;simp only[Except.error.injEq] at h;subst h;exact closeM_e he
   ·cases h
  ·repeat' split at h
   all_goals first|(cases h;done)|(simp only[Except.error.injEq,Prod.mk.injEq] at h;obtain⟨-,rfl⟩:=h;decide)
theorem lexG_e {s:List UInt8}:∀(f a:Nat) (hid:Option Nat) (p:Nat) (e:Int),lexG s f a hid=.error (p,e)→e≠0
 |0,a,hid,p,e,h=>by cases h
 |f+1,a,hid,p,e,h=>by
  unfold lexG at h;split at h
  ·split at h
   ·simp only[Except.error.injEq,Prod.mk.injEq] at h;obtain⟨-,rfl⟩:=h;decide
   ·cases h
  ·split at h
   ·split at h
    ·rename_i e' he;simp only[Except.error.injEq] at h;subst h;exact nextM_e he
    ·split at h
     ·rename_i e' he;simp only[Except.error.injEq] at h;subst h;exact lexG_e f _ _ p e he
     ·cases h
   ·simp only at h;split at h
    ·rename_i e' he;simp only[Except.error.injEq] at h;subst h;exact lexG_e f _ _ p e he
    ·cases h
theorem lexM_e {s:List UInt8}{p:Nat}{e:Int}(h:lexM s=.error (p,e)):e≠0:=lexG_e _ _ _ p e h
theorem WG_len {s:List UInt8}:∀(r:List Tok) (a:Nat) (prev:Option Tok) (hid:Bool),WG s a prev hid r→a≤s.length→r.length≤2*(s.length-a)∨((∃p,prev=some p∧p.kind=2)∧r.length≤2*(s.length-a)+1)
 |[],a,prev,hid,_,_=>.inl (by simp)
 |t::r,a,prev,hid,h,ha=>by
  obtain⟨h1,h2,h3,h4,h5,h6,h7,h8,h9,h10,h11⟩:=h;have ih:=WG_len r t.to (some t) _ h11 h3;rw[List.length_cons]
  by_cases ht:t.text=[]
  ·have k:=h5 ht;refine .inr ⟨h7 k,?_⟩
   rcases ih with ih|⟨⟨p,hp,hk⟩,_⟩
   ·omega
   ·injection hp with hp;subst hp;rw[k] at hk;cases hk
  ·have:a<t.to:=by
    rcases Nat.lt_or_ge a t.to with q|q
    ·exact q
    ·exfalso;apply ht;rw[←h4];unfold cut;rw[show t.to-a=0 by omega];rfl
   refine .inl ?_
   rcases ih with ih|⟨_,ih⟩<;>omega
theorem low_as (n:Nat)(l:List Att):lowVss n (encAs l)=true:=by
 induction l with
 |nil=>rfl
 |cons a r ih=>show lowVss n (encA a::encAs r)=true;rw[lowVss,ih];rfl
theorem low_ts (n:Nat)(l:List Tok):lowVss n (encTs l)=true:=by
 induction l with
 |nil=>rfl
 |cons a r ih=>
  show lowVss n (encT a::encTs r)=true;rw[lowVss,ih];simp only[encT,lowVs,lowV,low_as,Bool.and_true,Bool.true_and]
end Go.Ai.Ex
end
section
namespace Go.Ai.Ex
open Go.Ai Go.RowKit
def fits (t:Tok):Prop:=(written t).length+t.fr≤t.to∧(t.attrs=[]∨t.kind=2∨t.kind=3)
theorem attrsS_app (l r:List Att):(attrsS (l++r)).length=(attrsS l).length+(attrsS r).length:=by
 induction l with
 |nil=>simp[attrsS]
 |cons a l ih=>
  simp only[List.cons_append,attrsS,List.length_cons,List.length_append,ih];omega
theorem attrM_len {s:List UInt8}{at' tag:Nat}{l:List Att}{a:Att}{b:Nat}(h:attrM s at' tag l=.ok (a,b)):(attrsS [a]).length+at'≤b+1:=by
 unfold attrM at h;simp only at h
 repeat' split at h
 all_goals try (cases h;done)
 simp only[Except.ok.injEq,Prod.mk.injEq] at h;obtain⟨rfl,rfl⟩:=h;simp only[attrsS,List.length_cons,List.length_append,List.length_take,List.length_nil];omega
theorem attrsM_len {s:List UInt8}{tag:Nat}:∀(f at':Nat) (l l':List Att) (b:Nat),at'≤s.length→attrsM s tag f at' l=.ok (l',b)→(attrsS l').length+at'≤(attrsS l).length+b
 |0,at',l,l',b,_,h=>by cases h
 |f+1,at',l,l',b,ha,h=>by
  obtain⟨p1,p2⟩:=past_le ha;unfold attrsM at h;simp only at h;split at h
  ·cases h
  ·split at h
   ·simp only[Except.ok.injEq,Prod.mk.injEq] at h;obtain⟨rfl,rfl⟩:=h;omega
   ·split at h
    ·cases h
    ·rename_i hne;split at h
     ·cases h
     ·rename_i a c hc;obtain⟨q1,q2⟩:=attrM_ok hc;have h1:=attrM_len hc;have h2:=attrsM_len f c _ l' b q2 h;rw[attrsS_app] at h2;omega
theorem openM_fit {s:List UInt8}{tag:Nat}{t:Tok}(hl:tag+5≤s.length)(h:openM s tag=.ok t):fits t:=by
 unfold openM at h;simp only at h;split at h
 ·cases h
 ·have hn:=lets_le s (tag+5);split at h
  ·cases h
  ·rename_i l b hb
   have hlen:=attrsM_len _ _ _ _ _ (by omega) hb
   simp only[attrsS,List.length_nil,Nat.zero_add] at hlen;unfold tagEnd at h;simp only at h
   generalize hk:(if s.getD b 0=47 then 1 else 0:Nat)=k at h
   split at h
   ·cases h
   ·split at h
    ·cases h
    ·simp only[Except.ok.injEq] at h;subst h
     refine⟨?_,.inr (by by_cases k1:k=1<;>simp[k1])⟩
     unfold written
     by_cases k1:k=1
     ·simp only[if_pos k1]
      rw[if_neg (by decide),if_neg (by decide),if_neg (by decide),if_pos trivial]
      simp only[List.length_append,List.length_take,List.length_drop,opensS,List.length_cons,List.length_nil];omega
     ·simp only[if_neg k1]
      rw[if_neg (by decide),if_neg (by decide),if_pos trivial]
      simp only[List.length_append,List.length_take,List.length_drop,opensS,List.length_cons,List.length_nil];omega
theorem closeM_fit {s:List UInt8}{tag:Nat}{t:Tok}(hl:tag+6≤s.length)(h:closeM s tag=.ok t):fits t:=by
 unfold closeM at h;simp only at h;split at h
 ·cases h
 ·have hn:=lets_le s (tag+6)
  obtain⟨q1,q2⟩:=past_le (s:=s) (a:=tag+6+lets s (tag+6)) (by omega)
  split at h
  ·cases h
  ·split at h
   ·cases h
   ·simp only[Except.ok.injEq] at h;subst h;refine⟨?_,.inl rfl⟩;unfold written;rw[if_pos rfl];simp only[List.length_append,List.length_take,List.length_drop,closesS,List.length_cons,List.length_nil];omega
theorem nextM_fit {s:List UInt8}{a:Nat}{hid hid2:Option Nat}{l:List Tok}(ha:a<s.length)(hs:spec s a hid.isSome=true)(h:nextM s a hid=.ok (l,hid2)):∀t∈l,fits t:=by
 unfold nextM at h;split at h
 ·rename_i ho
  have h5:=has_le ho (by simp[opensS])
  have e5:opensS.length=5:=rfl;split at h
  ·cases h
  ·rename_i t ht;split at h
   ·cases h
   ·rename_i l2 hl2;simp only[Except.ok.injEq,Prod.mk.injEq] at h;obtain⟨rfl,rfl⟩:=h
    have hf:=openM_fit (by omega) ht
    rcases rawM_ok hl2 with ⟨_,rfl⟩|⟨_,_,n,_,rfl⟩
    ·intro x hx;rw[List.mem_singleton] at hx;subst hx;exact hf
    ·intro x hx;simp only[List.mem_cons,List.not_mem_nil,or_false] at hx
     rcases hx with rfl|rfl
     ·exact hf
     ·refine⟨?_,.inl rfl⟩;unfold written
      rw[if_neg (by simp),if_neg (by simp),if_neg (by simp),if_neg (by simp)]
      simp only[List.length_take];omega
 ·rename_i ho;split at h
  ·rename_i hc
   have h6:=has_le hc (by simp[closesS])
   have e6:closesS.length=6:=rfl;split at h
   ·cases h
   ·rename_i t ht;simp only[Except.ok.injEq,Prod.mk.injEq] at h;obtain⟨rfl,rfl⟩:=h;intro x hx;rw[List.mem_singleton] at hx;subst hx
    exact closeM_fit (by omega) ht
  ·split at h
   ·split at h
    ·cases h
    ·simp only[Except.ok.injEq,Prod.mk.injEq] at h;obtain⟨rfl,rfl⟩:=h;intro x hx;rw[List.mem_singleton] at hx;subst hx;refine⟨?_,.inl rfl⟩;unfold written
     rw[if_neg (by simp),if_pos rfl]
     simp only[hidesS,List.length_append,List.length_cons,List.length_nil];omega
   ·simp only[Except.ok.injEq,Prod.mk.injEq] at h;obtain⟨rfl,rfl⟩:=h;intro x hx;rw[List.mem_singleton] at hx;subst hx;refine⟨?_,.inl rfl⟩;unfold written
    rw[if_neg (by simp),if_neg (by simp),if_neg (by simp),if_neg (by simp)]
    simp only[showsS,List.length_cons,List.length_nil];omega
theorem lexG_fit {s:List UInt8}:∀(f a:Nat) (hid:Option Nat) (l:List Tok),a≤s.length→lexG s f a hid=.ok l→∀t∈l,fits t
 |0,a,hid,l,_,h=>by
  simp only[lexG,Except.ok.injEq] at h;subst h;simp
 |f+1,a,hid,l,ha,h=>by
  unfold lexG at h;split at h
  ·split at h
   ·cases h
   ·simp only[Except.ok.injEq] at h;subst h;simp
  ·rename_i hlt;split at h
   ·rename_i hs;split at h
    ·cases h
    ·rename_i l1 hid2 hn;split at h
     ·cases h
     ·rename_i r hr;simp only[Except.ok.injEq] at h;subst h
      have h1:=nextM_fit (by omega) hs hn
      intro t ht
      rcases List.mem_append.1 ht with ht|ht
      ·exact h1 t ht
      ·by_cases hle:lastTo l1 (a+1)≤s.length
       ·exact lexG_fit f _ _ r hle hr t ht
       ·cases f with
        |zero=>
         simp only[lexG,Except.ok.injEq] at hr;subst hr;cases ht
        |succ g=>
         unfold lexG at hr
         rw[if_pos (by omega)] at hr
         split at hr
         ·cases hr
         ·simp only[Except.ok.injEq] at hr;subst hr;cases ht
   ·simp only at h;split at h
    ·cases h
    ·rename_i r hr;simp only[Except.ok.injEq] at h;subst h
     obtain⟨t1,t2,_⟩:=textTo_ok (s:=s) (hid:=hid.isSome) (s.length-a) a (by omega) ha
     intro t ht
     rcases List.mem_cons.1 ht with rfl|ht
     ·refine⟨?_,.inl rfl⟩;unfold written
      rw[if_neg (by simp),if_neg (by simp),if_neg (by simp),if_neg (by simp)]
      simp only[cut,List.length_take];omega
     ·exact lexG_fit f _ _ r t2 hr t ht
theorem lexM_fit {s:List UInt8}{l:List Tok}(h:lexM s=.ok l):∀t∈l,fits t:=lexG_fit _ _ _ l (by omega) h
theorem attrsS_count (l:List Att):l.length≤(attrsS l).length:=by
 induction l with
 |nil=>simp
 |cons a l ih=>simp only[attrsS,List.length_cons,List.length_append];omega
theorem fits_count {t:Tok}(h:fits t):t.attrs.length≤(written t).length:=by
 have:=attrsS_count t.attrs
 rcases h.2 with h|h|h
 ·rw[h];simp
 ·unfold written
  rw[if_neg (by omega),if_neg (by omega),if_pos h]
  simp only[List.length_append];omega
 ·unfold written
  rw[if_neg (by omega),if_neg (by omega),if_neg (by omega),if_pos h]
  simp only[List.length_append];omega
end Go.Ai.Ex
end
section
namespace Go.Ai.Ex
open Go.Ai
variable {x a c:List UInt8}
end Go.Ai.Ex
end
section
namespace Go.Ai.Ex
open Go.Ai
variable {x a c:List UInt8}
end Go.Ai.Ex
end
