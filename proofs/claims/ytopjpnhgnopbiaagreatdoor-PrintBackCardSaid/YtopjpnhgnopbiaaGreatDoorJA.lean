/-
  Pieces of a page's text, in plain terms, and the laws of them that the row wants. No statement about the program is made here.
-/
import Derived.Test.YtopjpnhgnopbiaaGreatDoorAiLaw
import Derived.Test.YtopjpnhgnopbiaaGreatDoorAiSymP
import Derived.Test.YtopjpnhgnopbiaaGreatDoorAiPrims
set_option linter.unusedVariables false
set_option linter.unusedSimpArgs false
set_option linter.unnecessarySimpa false
section
namespace Go.Ai.Ex
open Go.Ai Go.RowKit
def Cx (x:List UInt8):List UInt8->Option Nat
 |[]=>if x.isEmpty=true then some 0 else none
 |c::r=>if x.isPrefixOf (c::r)=true then some 0 else(Cx x r).map (·+ 1)
def ON (c:UInt8):Bool:=decide (97<=c.toNat)&&decide (c.toNat<=122)
def blB (c:UInt8):Bool:=c==32||c==9||c==10||c==13
def Al :List UInt8:=[60,101,115,105,58]
def Aa :List UInt8:=[60,47,101,115,105,58]
def CX :List UInt8:=[60,33,45,45,101,115,105]
def BM :List UInt8:=[45,45,62]
def BR :List UInt8:=[114,101,109,111,118,101]
def CT :List UInt8:=[105,110,108,105,110,101]
def LV :List (List UInt8):=[[105,110,99,108,117,100,101],CT,BR,[99,111,109,109,101,110,116],[116,114,121],[97,116,116,101,109,112,116],[101,120,99,101,112,116],[99,104,111,111,115,101],[119,104,101,110],
 [111,116,104,101,114,119,105,115,101],[118,97,114,115]]
def CW (n:List UInt8):Bool:=LV.any (·==n)
def lets (s:List UInt8)(at':Nat):Nat:=((s.drop at').takeWhile ON).length
def past (s:List UInt8)(at':Nat):Nat:=at'+((s.drop at').takeWhile blB).length
def has (s x:List UInt8)(at':Nat):Bool:=x.isPrefixOf (s.drop at')
structure Aj where
 name:List UInt8
 value:List UInt8
 at':Nat
structure Tok where
 kind:Int
 name:List UInt8
 attrs:List Aj
 text:List UInt8
 fr:Nat
 to:Nat
def Ao (a:Aj):List AV:=[.str a.name,.str a.value,.int .i64 a.at']
def encAs (l:List Aj):List (List AV):=l.map Ao
def encT (t:Tok):List AV:=[.int .i64 t.kind,.str t.name,.sl 3 (encAs t.attrs) none,.str t.text,.int .i64 t.fr,.int .i64 t.to]
def encTs (l:List Tok):List (List AV):=l.map encT
abbrev Xw :=Nat×Int
def cut (s:List UInt8)(a b:Nat):List UInt8:=(s.drop a).take (b-a)
def FM (s:List UInt8)(at' tag:Nat)(l:List Aj):Except Xw (Aj×Nat):=
 let n:=min (lets s at') 16
 let nm:=(s.drop at').take n
 let i:=at'+n
 if l.any (fun a=>nm==a.name)=true then .error (at',12) else
 if s.length<=i then .error (tag,14) else
 if n=0\/s.getD i 0≠61 then .error (i,12) else
 if s.length<=i+1 then .error (tag,14) else
 if s.getD (i+1) 0≠34/\s.getD (i+1) 0≠39 then .error (i+1,12) else
 match Cx [s.getD (i+1) 0] (s.drop (i+2)) with
 |none=>.error (tag,14)
 |some k=>.ok (⟨nm,(s.drop (i+2)).take k,at'⟩,i+2+k+1)
def A8 (s:List UInt8)(tag:Nat):Nat->Nat->List Aj->Except Xw (List Aj×Nat)
 |0,at',l=>.error (tag,14)
 |f+1,at',l=>
  let next:=past s at'
  if s.length<=next then .error (tag,14) else
  if s.getD next 0=62\/s.getD next 0=47 then .ok (l,next) else
  if next=at' then .error (at',12) else
  match FM s next tag l with
  |.error e=>.error e
  |.ok (a,b)=>A8 s tag f b (l++[a])
def Dc (s:List UInt8)(tag:Nat)(nm:List UInt8)(l:List Aj)(at':Nat):Except Xw Tok:=
 let k:=if s.getD at' 0=47 then 1 else 0
 if s.length<=at'+k then .error (tag,14) else
 if s.getD (at'+k) 0≠62 then .error (at'+k,12) else
 .ok ⟨if k=1 then 3 else 2,nm,l,cut s tag (at'+k+1),tag,at'+k+1⟩
def Gs (s:List UInt8)(tag:Nat):Except Xw Tok:=
 let n:=lets s (tag+5)
 let nm:=(s.drop (tag+5)).take n
 if CW nm=false then .error (tag,11) else
 match A8 s tag (s.length+1) (tag+5+n) [] with
 |.error e=>.error e
 |.ok (l,b)=>Dc s tag nm l b
def IV (s:List UInt8)(t:Tok):Except Xw (List Tok):=
 if t.kind=2/\(t.name=BR\/t.name=CT) then
  match Cx (Aa++t.name) (s.drop t.to) with
  |none=>.error (t.fr,14)
  |some n=>match Cx Al ((s.drop t.to).take n),decide (t.name=BR) with
   |some k,true=>.error (t.to+k,13)
   |_,_=>.ok [t,⟨7,[],[],(s.drop t.to).take n,t.to,t.to+n⟩]
 else .ok [t]
def CJ (s:List UInt8)(tag:Nat):Except Xw Tok:=
 let n:=lets s (tag+6)
 let nm:=(s.drop (tag+6)).take n
 if CW nm=false then .error (tag,11) else
 let b:=past s (tag+6+n)
 if s.length<=b then .error (tag,14) else
 if s.getD b 0≠62 then .error (tag,11) else
 .ok ⟨4,nm,[],cut s tag (b+1),tag,b+1⟩
def Ec (s:List UInt8)(at':Nat):Bool:=has s CX at'&&(decide (at'+7<s.length)&&blB (s.getD (at'+7) 0))
def spec (s:List UInt8)(at':Nat)(hid:Bool):Bool:=has s Al at'||(has s Aa at'||(Ec s at'||(has s BM at'&&hid)))
def DY (s:List UInt8)(at':Nat)(hid:Option Nat):Except Xw (List Tok×Option Nat):=
 if has s Al at'=true then
  match Gs s at' with
  |.error e=>.error e
  |.ok t=>match IV s t with
   |.error e=>.error e
   |.ok l=>.ok (l,hid)
 else if has s Aa at'=true then
  match CJ s at' with
  |.error e=>.error e
  |.ok t=>.ok ([t],hid)
 else if Ec s at'=true then
  (if hid.isSome=true then .error (at',13) else .ok ([⟨5,[],[],cut s at' (at'+8),at',at'+8⟩],some at'))
 else .ok ([⟨6,[],[],BM,at',at'+3⟩],none)
def Ci (s:List UInt8)(hid:Bool):Nat->Nat->Nat
 |0,at'=>at'
 |f+1,at'=>if s.length<=at'\/spec s at' hid=true then at' else Ci s hid f (at'+1)
def Cs (l:List Tok)(d:Nat):Nat:=match l.getLast? with
 |some t=>t.to
 |none=>d
def DS (s:List UInt8):Nat->Nat->Option Nat->Except Xw (List Tok)
 |0,_,_=>.ok []
 |f+1,at',hid=>
  if s.length<=at' then(match hid with|some h=>.error (h,14)|none=>.ok []) else
  if spec s at' hid.isSome=true then
   match DY s at' hid with
   |.error e=>.error e
   |.ok (l,hid2)=>match DS s f (Cs l (at'+1)) hid2 with
    |.error e=>.error e
    |.ok r=>.ok (l++r)
  else
   let to:=Ci s hid.isSome (s.length-at') at'
   match DS s f to hid with
   |.error e=>.error e
   |.ok r=>.ok (⟨1,[],[],cut s at' to,at',to⟩::r)
def lexM (s:List UInt8):Except Xw (List Tok):=DS s (s.length+1) 0 none
def Dr :HC:=fun k vs=>match Nat.beq k 39,vs with
 |true,[.int .i64 p,.int .i64 e]=>some (p,e)
 |_,_=>none
def hX (s:List UInt8)(at':Int)(L:List (List AV))(hid:Int):Hp:=
 [.grow 0 6 50,.mem 41 [.sl 6 [] (some 0)],.mem 3 [.int .i64 0],.mem 27 [.int .i64 0],.grow L.length 6 50,.mem 89 [.str s,.int .i64 at',.sl 6 L (some 4),.int .i64 hid]]
def rT (k:Int)(nm:List UInt8)(es:List (List AV)):Hp:=[.grow es.length 3 80,.grow 0 3 80,.mem 50 [.int .i64 k,.str nm,.sl 3 es (some 6),.str [],.int .i64 0,.int .i64 0]]
def PR (s:List UInt8)(at':Int)(L:List (List AV))(hid k:Int)(nm:List UInt8)(es:List (List AV)):Hp:=[.grow 0 6 50,.mem 41 [.sl 6 [] (some 0)],.mem 3 [.int .i64 0],.mem 27 [.int .i64 0],.grow L.length 6 50,.mem 89 [.str s,.int .i64 at',.sl 6 L (some 4),.int .i64 hid],
 .grow es.length 3 80,.grow 0 3 80,.mem 50 [.int .i64 k,.str nm,.sl 3 es (some 6),.str [],.int .i64 0,.int .i64 0]]
def yJ (s:List UInt8)(at':Int)(L:List (List AV))(hid k:Int)(nm:List UInt8)(es:List (List AV)):Hp:=[.grow 0 6 50,.mem 41 [.sl 6 [] (some 0)],.mem 3 [.int .i64 0],.mem 27 [.int .i64 0],.grow L.length 6 50,.mem 89 [.str s,.int .i64 at',.sl 6 L (some 4),.int .i64 hid],
 .grow es.length 3 80,.grow 0 3 80,.mem 50 [.int .i64 k,.str nm,.sl 3 es (some 6),.str [],.int .i64 0,.int .i64 0],.mem 80 [.str [],.str [],.int .i64 0]]
def jC (s:List UInt8)(at':Int)(L:List (List AV))(hid k:Int)(nm:List UInt8)(es:List (List AV))(an av:List UInt8)(aa:Int):Hp:=[.grow 0 6 50,.mem 41 [.sl 6 [] (some 0)],.mem 3 [.int .i64 0],.mem 27 [.int .i64 0],.grow L.length 6 50,.mem 89 [.str s,.int .i64 at',.sl 6 L (some 4),.int .i64 hid],
 .grow es.length 3 80,.grow 0 3 80,.mem 50 [.int .i64 k,.str nm,.sl 3 es (some 6),.str [],.int .i64 0,.int .i64 0],.mem 80 [.str [],.str [],.int .i64 0],.mem 80 [.str an,.str av,.int .i64 aa]]
def rA (k:Int)(nm:List UInt8)(es:List (List AV))(an av:List UInt8)(aa:Int):Hp:=rT k nm es++[.mem 80 [.str [],.str [],.int .i64 0],.mem 80 [.str an,.str av,.int .i64 aa]]
def hG (s:List UInt8)(at':Int)(L:List (List AV))(hid:Int):Hp:=[.grow 0 6 50,.mem 41 [.sl 6 [] (some 0)],.mem 3 [.int .i64 0],.mem 27 [.int .i64 0],.grow L.length 6 50,.mem 89 [.str s,.int .i64 at',.sl 6 L (some 4),.int .i64 hid],.grow 0 3 80]
def qZ (s:List UInt8)(at':Int)(L:List (List AV))(hid k:Int)(nm:List UInt8)(es:List (List AV)):Hp:=[.grow 0 6 50,.mem 41 [.sl 6 [] (some 0)],.mem 3 [.int .i64 0],.mem 27 [.int .i64 0],.grow L.length 6 50,.mem 89 [.str s,.int .i64 at',.sl 6 L (some 4),.int .i64 hid],
 .grow es.length 3 80,.grow 0 3 80,.mem 50 [.int .i64 k,.str nm,.sl 3 es (some 6),.str [],.int .i64 0,.int .i64 0],.grow 0 3 80]
def _root_.Am.Ej (r:Hp)(L:List (List AV)):Prop:=∀(n:Nat) (g:Hp),6+r.length<=n->r.map (AO n g)=r/\AE n g L=L
def limE :Nat:=1000000
def KK (r:Hp)(s:List UInt8)(KP:PX->Hp->Prop)(x:PX):Prop:=∀(a:Int) (L:List (List AV)) (hid:Int),KP x (hX s a L hid++r)
def Cp :JI:=fun vs h K KP=>∃p e:Int,vs=[.int .i64 p,.int .i64 e]/\KP (p,e) h
def Jl :Ce:=fun vs h K=>∃c:UInt8,vs=[.int .u8 c.toNat]/\K (.bool (ON c)) h
def OB :Ce:=fun vs h K=>∃c:UInt8,vs=[.int .u8 c.toNat]/\K (.bool (blB c)) h
def V7 :Ce:=fun vs h K=>∃s x:List UInt8,vs=[.str s,.str x]/\K (.bool (x.isPrefixOf s)) h
def dI :Ce:=fun vs h K=>∃s x:List UInt8,s.length<=limE/\vs=[.str s,.str x]/\K (.int .i64 (Jb s x 0)) h
def dJ :Ce:=fun vs h K=>∃(s:List UInt8) (c:UInt8),s.length<=limE/\vs=[.str s,.int .u8 c.toNat]/\K (.int .i64 (Lib.indexByte s c)) h
def U6 :Ce:=fun vs h K=>∃s:List UInt8,vs=[.str s]/\s=[105,110,99,108,117,100,101,32,105,110,108,105,110,101,32,114,101,109,111,118,101,32,99,111,109,109,101,110,116,32,116,114,121,32,97,116,116,101,109,112,116,32,101,120,99,101,112,116,32,99,104,111,111,115,101,32,119,104,101,110,32,111,116,104,101,114,119,105,115,101,32,118,97,114,115]/\K (.sl 1 (LV.map fun n=>[.str n]) none) h
def oR :Ce:=fun vs h K=>∃(l:List (List UInt8)) (x:List UInt8),vs=[.sl 1 (l.map fun n=>[.str n]) none,.str x]/\l.length<=limE/\K (.bool (l.any (·==x))) h
def iD :Ce:=fun vs h K=>∃(l:List (List UInt8)) (x:List UInt8),vs=[.sl 1 (l.map fun n=>[.str n]) none,.str x]/\l.length<=limE/\∀z:Int,decide (z>=0)=(l.any (·==x))->K (.int .i64 z) h
def IY :JI:=fun vs h K KP=>∃(r:Hp) (s:List UInt8) (a:Nat) (L:List (List AV)) (hid tag:Int),Am.Ej r L/\a<=s.length/\s.length<=limE/\vs=[.ptr 5 0,.int .i64 tag]/\h=hX s a L hid++r/\
 (a=s.length->KP (tag,14) h)/\(a<s.length->K (.int .u8 (s.getD a 0).toNat) h)
def eO :Ce:=fun vs h K=>∃(s:List UInt8) (a:Nat) (L:List (List AV)) (hid:Int),Am.Ej [] L/\a<=s.length/\s.length<=limE/\vs=[.ptr 5 0]/\h=hX s a L hid/\K (.str ((s.drop a).take (lets s a))) (hX s ((a+lets s a:Nat):Int) L hid)
def rh :Ce:=fun vs h K=>∃(r:Hp) (s:List UInt8) (a:Nat) (L:List (List AV)) (hid:Int),Am.Ej r L/\a<=s.length/\s.length<=limE/\vs=[.ptr 5 0]/\h=hX s a L hid++r/\K (.int .i64 ((past s a-a:Nat):Int)) (hX s ((past s a:Nat):Int) L hid++r)
def Qr :JI:=fun vs h K KP=>∃(s:List UInt8) (a:Nat) (L:List (List AV)) (hid tag:Int),Am.Ej [] L/\a<=s.length/\s.length<=limE/\vs=[.ptr 5 0,.int .i64 tag]/\h=hX s a L hid/\
 (CW ((s.drop a).take (lets s a))=false->KK [] s KP (tag,11))/\(CW ((s.drop a).take (lets s a))=true->K (.str ((s.drop a).take (lets s a))) (hX s ((a+lets s a:Nat):Int) L hid))
def rv :JI:=fun vs h K KP=>∃(r:Hp) (s:List UInt8) (a:Nat) (L:List (List AV)) (hid tag:Int) (is:Bool),Am.Ej r L/\a<=s.length/\s.length<=limE/\vs=[.ptr 5 0,.int .i64 tag,.bool is]/\h=hX s a L hid++r/\
 (a=s.length->KP (tag,14) h)/\(a<s.length->is=false->KP ((a:Int),12) h)/\(a<s.length->is=true->K (.tup []) (hX s ((a+1:Nat):Int) L hid++r))
def T9 :Ce:=fun vs h K=>∃(s:List UInt8) (a:Int) (L:List (List AV)) (hid k:Int) (nm:List UInt8) (es:List (List AV)) (an av:List UInt8) (aa:Int) (b:Aj),Am.Ej (rA k nm es an av aa) L/\vs=[.agg (Ao b),.ptr 10 0]/\h=jC s a L hid k nm es an av aa/\K (.bool (an==b.name)) h
def jQ :Ce:=fun vs h K=>∃(s:List UInt8) (a:Int) (L:List (List AV)) (hid k:Int) (nm:List UInt8) (l:List Aj) (an av:List UInt8) (aa:Int),Am.Ej (rA k nm (encAs l) an av aa) L/\vs=[.sl 3 (encAs l) (some 6),.fn (.func 119) [] [.ptr 10 0]]/\l.length<=limE/\
 h=jC s a L hid k nm (encAs l) an av aa/\K (.bool (l.any fun b=>an==b.name)) h
def mj :Ce:=fun vs h K=>∃(s:List UInt8) (a:Int) (L:List (List AV)) (hid k:Int) (nm:List UInt8) (l:List Aj) (an av:List UInt8) (aa:Int),Am.Ej (rA k nm (encAs l) an av aa) L/\vs=[.sl 3 (encAs l) (some 6),.fn (.func 119) [] [.ptr 10 0]]/\l.length<=limE/\
 h=jC s a L hid k nm (encAs l) an av aa/\∀z:Int,decide (z>=0)=(l.any fun b=>an==b.name)->K (.int .i64 z) h
def Xd :JI:=fun vs h K KP=>∃(s:List UInt8) (a:Nat) (L:List (List AV)) (hid tag k:Int) (tg:Nat) (nm:List UInt8) (l:List Aj),Am.Ej (rT k nm (encAs l)) L/\a<=s.length/\s.length<=limE/\l.length<=limE/\tag=(tg:Int)/\vs=[.ptr 5 0,.int .i64 tag,.sl 3 (encAs l) (some 6)]/\h=PR s a L hid k nm (encAs l)/\
 (∀p e,FM s a tg l=.error (p,e)->KK (rT k nm (encAs l)) s KP ((p:Int),e))/\(∀at' b,FM s a tg l=.ok (at',b)->K (.agg (Ao at')) (PR s (b:Nat) L hid k nm (encAs l)))
def QJ :Ce:=fun vs h K=>∃(s:List UInt8) (a:Nat) (L:List (List AV)) (hid k:Int) (nm:List UInt8) (l:List Aj),Am.Ej (rT k nm (encAs l)) L/\a<=s.length/\s.length<=limE/\vs=[.ptr 5 0]/\h=PR s a L hid k nm (encAs l)/\K (.int .i64 ((past s a-a:Nat):Int)) (PR s ((past s a:Nat):Int) L hid k nm (encAs l))
def WW :JI:=fun vs h K KP=>∃(s:List UInt8) (a:Nat) (L:List (List AV)) (hid k tag:Int) (nm:List UInt8) (l:List Aj) (is:Bool),Am.Ej (rT k nm (encAs l)) L/\a<=s.length/\s.length<=limE/\vs=[.ptr 5 0,.int .i64 tag,.bool is]/\h=PR s a L hid k nm (encAs l)/\
 (a=s.length->KP (tag,14) h)/\(a<s.length->is=false->KP ((a:Int),12) h)/\(a<s.length->is=true->K (.tup []) (PR s ((a+1:Nat):Int) L hid k nm (encAs l)))
def WX :JI:=fun vs h K KP=>∃(s:List UInt8) (a:Nat) (L:List (List AV)) (hid k tag:Int) (nm:List UInt8) (l:List Aj) (an av:List UInt8) (aa:Int) (is:Bool),Am.Ej (rA k nm (encAs l) an av aa) L/\a<=s.length/\s.length<=limE/\vs=[.ptr 5 0,.int .i64 tag,.bool is]/\h=jC s a L hid k nm (encAs l) an av aa/\
 (a=s.length->KP (tag,14) h)/\(a<s.length->is=false->KP ((a:Int),12) h)/\(a<s.length->is=true->K (.tup []) (jC s ((a+1:Nat):Int) L hid k nm (encAs l) an av aa))
def row (k:Int)(nm:List UInt8)(es:List (List AV))(own:Option Nat)(t:List UInt8)(fr to:Int):List AV:=[.int .i64 k,.str nm,.sl 3 es own,.str t,.int .i64 fr,.int .i64 to]
def Tt :Ce:=fun vs h K=>∃(s:List UInt8) (a fr:Nat) (L:List (List AV)) (hid k:Int),Am.Ej [.grow 0 3 80] L/\a<=s.length/\s.length<=limE/\fr<=a/\L.length<=limE/\
 vs=[.ptr 5 0,.agg [.int .i64 k,.str [],.sl 3 [] (some 6),.str [],.int .i64 0,.int .i64 0],.int .i64 fr]/\h=hG s a L hid/\K (.tup []) (hG s a (L++[row k [] [] (some 6) (cut s fr a) fr a]) hid)
def Rx :Ce:=fun vs h K=>∃(s:List UInt8) (a fr:Nat) (L:List (List AV)) (hid k:Int) (nm:List UInt8) (l:List Aj),Am.Ej (rT k nm (encAs l)) L/\a<=s.length/\s.length<=limE/\fr<=a/\L.length<=limE/\
 vs=[.ptr 5 0,.agg [.int .i64 k,.str nm,.sl 3 (encAs l) (some 6),.str [],.int .i64 0,.int .i64 0],.int .i64 fr]/\h=PR s a L hid k nm (encAs l)/\K (.tup []) (PR s a (L++[row k nm (encAs l) (some 6) (cut s fr a) fr a]) hid k nm (encAs l))
def jx :Ce:=fun vs h K=>∃(s:List UInt8) (a fr:Nat) (L:List (List AV)) (hid k:Int) (nm:List UInt8) (l:List Aj),Am.Ej (rT k nm (encAs l)++[.grow 0 3 80]) L/\a<=s.length/\s.length<=limE/\fr<=a/\L.length<=limE/\
 vs=[.ptr 5 0,.agg [.int .i64 7,.str [],.sl 3 [] (some 9),.str [],.int .i64 0,.int .i64 0],.int .i64 fr]/\h=qZ s a L hid k nm (encAs l)/\K (.tup []) (qZ s a (L++[row 7 [] [] (some 9) (cut s fr a) fr a]) hid k nm (encAs l))
def Vz :JI:=fun vs h K KP=>∃(s:List UInt8) (a tag:Nat) (L:List (List AV)) (hid k:Int) (nm:List UInt8) (l:List Aj),Am.Ej (rT k nm (encAs l)) L/\a<=s.length/\s.length<=limE/\L.length<=limE/\nm.length<=limE/\
 vs=[.ptr 5 0,.str nm,.int .i64 tag]/\h=PR s a L hid k nm (encAs l)/\
 (Cx (Aa++nm) (s.drop a)=none->KK (rT k nm (encAs l)) s KP ((tag:Int),14))/\
 (∀n,Cx (Aa++nm) (s.drop a)=some n->(∀j,Cx Al ((s.drop a).take n)=some j->nm=BR->KK (rT k nm (encAs l)) s KP (((a+j:Nat):Int),13))/\
  ((Cx Al ((s.drop a).take n)=none\/nm≠BR)->K (.tup []) (PR s ((a+n:Nat):Int) (L++[row 7 [] [] none ((s.drop a).take n) a ((a+n:Nat):Int)]) hid k nm (encAs l))))
def ML (s:List UInt8)(a:Nat):Except Xw (List Tok):=match Gs s a with
 |.error e=>.error e
 |.ok t=>IV s t
def Qi :JI:=fun vs h K KP=>∃(s:List UInt8) (a:Nat) (l:List Tok) (hid:Int),has s Al a=true/\a<=s.length/\s.length<=limE/\l.length<s.length/\vs=[.ptr 5 0]/\h=hX s a (encTs l) hid/\
 (∀p e,ML s a=.error (p,e)->KK [] s KP ((p:Int),e))/\(∀ts,ML s a=.ok ts->K (.tup []) (hX s ((Cs ts (a+1):Nat):Int) (encTs (l++ts)) hid))
def Mn :JI:=fun vs h K KP=>∃(s:List UInt8) (a:Nat) (l:List Tok) (hid:Int),has s Aa a=true/\a<=s.length/\s.length<=limE/\l.length<=s.length/\vs=[.ptr 5 0]/\h=hX s a (encTs l) hid/\
 (∀p e,CJ s a=.error (p,e)->KK [] s KP ((p:Int),e))/\(∀t,CJ s a=.ok t->K (.tup []) (hX s (t.to:Nat) (encTs (l++[t])) hid))
def RF :JI:=fun vs h K KP=>∃(s:List UInt8) (a:Nat) (l:List Tok) (hid:Int),a+8<=s.length/\s.length<=limE/\l.length<=s.length/\vs=[.ptr 5 0]/\h=hX s a (encTs l) hid/\
 (0<=hid->KK [] s KP ((a:Int),13))/\(hid<0->K (.tup []) (hX s ((a+8:Nat):Int) (encTs (l++[⟨5,[],[],cut s a (a+8),a,a+8⟩])) a))
def QK :Ce:=fun vs h K=>∃(s:List UInt8) (a:Nat) (l:List Tok) (hid:Int),a+3<=s.length/\s.length<=limE/\l.length<=s.length/\vs=[.ptr 5 0]/\h=hX s a (encTs l) hid/\
 K (.tup []) (hX s ((a+3:Nat):Int) (encTs (l++[⟨6,[],[],cut s a (a+3),a,a+3⟩])) (-1))
def DW (s:List UInt8)(fr a:Nat):List Tok:=if fr<a then [⟨1,[],[],cut s fr a,fr,a⟩] else []
def P7 :Ce:=fun vs h K=>∃(s:List UInt8) (fr a:Nat) (l:List Tok) (hid:Int),fr<=a/\a<=s.length/\s.length<=limE/\l.length<=s.length/\vs=[.ptr 5 0,.int .i64 fr]/\h=hX s a (encTs l) hid/\
 K (.tup []) (hX s a (encTs (l++DW s fr a)) hid)
def TS (s:List UInt8)(a:Nat)(hid:Bool):AV:=
 if has s Al a=true then .fn (.func 56) [.ptr 5 0] [] else if has s Aa a=true then .fn (.func 57) [.ptr 5 0] [] else if Ec s a=true then .fn (.func 59) [.ptr 5 0] [] else if(has s BM a&&hid)=true then .fn (.func 60) [.ptr 5 0] [] else .HT
def tK :Ce:=fun vs h K=>∃(s:List UInt8) (a:Nat) (l:List Tok) (hid:Int),a<=s.length/\s.length<=limE/\vs=[.ptr 5 0]/\h=hX s a (encTs l) hid/\K (TS s a (decide (0<=hid))) h
def Ed (s:List UInt8)(a:Nat)(hid:Bool):Nat:=if has s Al a=true then 1 else if has s Aa a=true then 2 else if Ec s a=true then 3 else if(has s BM a&&hid)=true then 4 else 0
def RS :Ce:=fun vs h K=>∃(s:List UInt8) (a:Nat) (l:List Tok) (hid:Int),a<=s.length/\s.length<=limE/\vs=[.ptr 5 0]/\h=hX s a (encTs l) hid/\
 (Ed s a (decide (0<=hid))=0->K .HT h)/\(Ed s a (decide (0<=hid))=1->K (.fn (.func 56) [.ptr 5 0] []) h)/\(Ed s a (decide (0<=hid))=2->K (.fn (.func 57) [.ptr 5 0] []) h)/\
 (Ed s a (decide (0<=hid))=3->K (.fn (.func 59) [.ptr 5 0] []) h)/\(Ed s a (decide (0<=hid))=4->K (.fn (.func 60) [.ptr 5 0] []) h)
def EA (t:Tok):Bool:=t.kind==2&&(t.name==BR||t.name==CT)
def WG (s:List UInt8):Nat->Option Tok->Bool->List Tok->Prop
 |at',_,hid,[]=>at'=s.length/\hid=false
 |at',prev,hid,t::r=>t.fr=at'/\at'<=t.to/\t.to<=s.length/\cut s at' t.to=t.text/\(t.text=[]->t.kind=7)/\
   (EA t=true->∃a b q,r=a::b::q/\a.kind=7/\b.kind=4/\b.name=t.name)/\
   (t.kind=7->∃p,prev=some p/\p.kind=2)/\(t.kind=1->∀p,prev=some p->p.kind≠1)/\
   (t.kind=5->hid=false)/\(t.kind=6->hid=true)/\
   WG s t.to (some t) (if t.kind=5 then true else if t.kind=6 then false else hid) r
theorem eT {p:UInt8->Bool}(l:List UInt8):(l.takeWhile p).length<=l.length:=(List.takeWhile_prefix p).length_le
theorem Hv {s:List UInt8}{a:Nat}(h:a<=s.length):a<=past s a/\past s a<=s.length:=by
 unfold past;have:=eT (p:=blB) (s.drop a);rw[List.length_drop] at this;omega
theorem GW (s:List UInt8)(a:Nat):lets s a<=s.length-a:=by
 unfold lets;have:=eT (p:=ON) (s.drop a)
 rwa [List.length_drop] at this
theorem JC {x:List UInt8}:∀{s:List UInt8} {n:Nat},Cx x s=some n->n+x.length<=s.length
 |[],n,h=>by
  unfold Cx at h;split at h
  ·rename_i hx
   have:x=[]:=by simpa using hx
   subst this;simp at h;subst h;simp
  ·cases h
 |c::r,n,h=>by
  unfold Cx at h;split at h
  ·rename_i hx
   injection h with h;subst h
   have:=(List.isPrefixOf_iff_prefix.1 hx).length_le;simpa using this
  ·cases hr:Cx x r with
   |none=>rw[hr] at h;cases h
   |some m=>
    rw[hr] at h;simp only[Option.map_some,Option.some.injEq] at h;have:=JC hr;simp only[List.length_cons];omega
theorem GM {s x:List UInt8}{a:Nat}(h:has s x a=true)(hx:x≠[]):a+x.length<=s.length:=by
 have h1:=(List.isPrefixOf_iff_prefix.1 h).length_le;rw[List.length_drop] at h1;have:0<x.length:=List.length_pos_iff.2 hx;omega
theorem Rs {s:List UInt8}{at' tag:Nat}{l:List Aj}{a:Aj}{b:Nat}(h:FM s at' tag l=.ok (a,b)):at'<b/\b<=s.length:=by
 unfold FM at h;simp only at h
 repeat' split at h
 all_goals try (cases h;done)
 rename_i k hk;simp only[Except.ok.injEq,Prod.mk.injEq] at h;obtain⟨_,rfl⟩:=h;have:=JC hk;simp only[List.length_singleton,List.length_drop] at this;omega
theorem OC {s:List UInt8}{tag:Nat}:∀(f at':Nat) (l l':List Aj) (b:Nat),at'<=s.length->A8 s tag f at' l=.ok (l',b)->at'<=b/\b<s.length
 |0,at',l,l',b,_,h=>by cases h
 |f+1,at',l,l',b,ha,h=>by
  obtain⟨p1,p2⟩:=Hv ha;unfold A8 at h;simp only at h;split at h
  ·cases h
  ·split at h
   ·simp only[Except.ok.injEq,Prod.mk.injEq] at h;obtain⟨_,rfl⟩:=h;omega
   ·split at h
    ·cases h
    ·split at h
     ·cases h
     ·rename_i a c hc;obtain⟨q1,q2⟩:=Rs hc;obtain⟨q3,q4⟩:=OC f c _ l' b q2 h;omega
theorem Sb {s:List UInt8}{tag at':Nat}{nm:List UInt8}{l:List Aj}{t:Tok}(h:Dc s tag nm l at'=.ok t):
  (t.kind=2\/t.kind=3)/\t.name=nm/\t.fr=tag/\t.text=cut s tag t.to/\at'<t.to/\t.to<=s.length:=by
 unfold Dc at h;simp only at h
 generalize hk:(if s.getD at' 0=47 then 1 else 0:Nat)=k at h
 split at h
 ·cases h
 ·split at h
  ·cases h
  ·simp only[Except.ok.injEq] at h;subst h
   refine⟨?_,rfl,rfl,rfl,by simp only;omega,by simp only;omega⟩
   simp only;split
   ·exact .inr rfl
   ·exact .inl rfl
theorem WI {s:List UInt8}{tag:Nat}{t:Tok}(hl:tag+5<=s.length)(h:Gs s tag=.ok t):(t.kind=2\/t.kind=3)/\t.fr=tag/\t.text=cut s tag t.to/\tag<t.to/\t.to<=s.length:=by
 unfold Gs at h;simp only at h;split at h
 ·cases h
 ·have hn:=GW s (tag+5);split at h
  ·cases h
  ·rename_i l b hb
   obtain⟨q1,q2⟩:=OC _ _ _ _ _ (by omega) hb
   obtain⟨k1,k2,k3,k4,k5,k6⟩:=Sb h
   exact⟨k1,k3,k4,by omega,k6⟩
theorem Kk {s:List UInt8}{tag:Nat}{t:Tok}(hl:tag+6<=s.length)(h:CJ s tag=.ok t):t.kind=4/\t.name=(s.drop (tag+6)).takeWhile ON/\CW t.name=true/\t.fr=tag/\t.text=cut s tag t.to/\tag<t.to/\t.to<=s.length:=by
 unfold CJ at h;simp only at h;split at h
 ·cases h
 ·rename_i o9;have hn:=GW s (tag+6)
  obtain⟨q1,q2⟩:=Hv (s:=s) (a:=tag+6+lets s (tag+6)) (by omega)
  split at h
  ·cases h
  ·split at h
   ·cases h
   ·simp only[Except.ok.injEq] at h;subst h
    refine⟨rfl,?_,by simpa using o9,rfl,rfl,by simp only;omega,by simp only;omega⟩
    exact(List.prefix_iff_eq_take.1 (List.takeWhile_prefix ON)).symm
theorem IP {s:List UInt8}{hid:Bool}:∀(f at':Nat),s.length<=at'+f->at'<=s.length->at'<=Ci s hid f at'/\Ci s hid f at'<=s.length/\(Ci s hid f at'=s.length\/spec s (Ci s hid f at') hid=true)
 |0,at',h,h2=>by simp only[Ci];omega
 |f+1,at',h,h2=>by
  unfold Ci;split
  ·rename_i hc
   rcases hc with hc|hc
   ·exact⟨by omega,h2,.inl (by omega)⟩
   ·exact⟨by omega,h2,.inr hc⟩
  ·rename_i hc
   have BC:at'<s.length:=by
    rcases Nat.lt_or_ge at' s.length with h|h
    ·exact h
    ·exact absurd (Or.inl h) hc
   obtain⟨t1,t2,t3⟩:=IP (s:=s) (hid:=hid) f (at'+1) (by omega) (by omega)
   exact⟨by omega,t2,t3⟩
theorem SZ {s:List UInt8}{hid:Bool}{f at':Nat}(h:¬(s.length<=at'))(h2:¬spec s at' hid=true)(h3:s.length<=at'+f):at'<Ci s hid f at':=by
 obtain⟨g,rfl⟩:∃g,f=g+1:=⟨f-1,by omega⟩
 unfold Ci
 rw[if_neg (by rintro(h4|h4);exact h h4;exact h2 h4)]
 have:=(IP (s:=s) (hid:=hid) g (at'+1) (by omega) (by omega)).1
 omega
theorem Rf {s:List UInt8}{a b:Nat}(h:a<b)(h2:b<=s.length):cut s a b≠[]:=by
 intro e;have:=congrArg List.length e;simp only[cut,List.length_take,List.length_drop,List.length_nil] at this;omega
theorem Oo {s nm:List UInt8}{n t0 f:Nat}{hid:Option Nat}{r:List Tok}(ht:t0<=s.length)(hn:Cx (Aa++nm) (s.drop t0)=some n)(TH:nm=BR\/nm=CT)(h:DS s (f+1) (t0+n) hid=.ok r):
  ∃b q,r=b::q/\b.kind=4/\b.name=nm:=by
 have hp:(Aa++nm).isPrefixOf (s.drop (t0+n))=true:=by
  have key:∀{x s:List UInt8} {n:Nat},Cx x s=some n->x.isPrefixOf (s.drop n)=true:=by
   intro x s
   induction s with
   |nil=>
    intro n h;unfold Cx at h;split at h
    ·rename_i hx
     have:x=[]:=by simpa using hx
     subst this;rfl
    ·cases h
   |cons c r ih=>
    intro n h;unfold Cx at h;split at h
    ·rename_i hx;injection h with h;subst h;exact hx
    ·cases hr:Cx x r with
     |none=>rw[hr] at h;cases h
     |some m=>
      rw[hr] at h;simp only[Option.map_some,Option.some.injEq] at h;subst h;exact ih hr
  rw[<-List.drop_drop];exact key hn
 obtain⟨z,hz⟩:=List.isPrefixOf_iff_prefix.1 hp;have hlen:=congrArg List.length hz;have h6:Aa.length=6:=rfl
 have mV:0<nm.length:=by rcases TH with rfl|rfl<;>decide
 simp only[List.length_append,List.length_drop] at hlen
 have hc:has s Aa (t0+n)=true:=by
  refine List.isPrefixOf_iff_prefix.2 ⟨nm++z,?_⟩;rw[<-hz,List.append_assoc]
 have ho:has s Al (t0+n)=false:=by
  unfold has;rw[<-hz];simp[Al,Aa,List.isPrefixOf]
 have hd:s.drop (t0+n+6)=nm++z:=by
  rw[<-List.drop_drop,<-hz,List.append_assoc];exact List.drop_left' h6
 unfold DS at h
 rw[if_neg (by omega),if_pos (by unfold spec;rw[ho,hc];rfl)] at h
 unfold DY at h
 rw[if_neg (by rw[ho];simp),if_pos hc] at h
 cases DU:CJ s (t0+n) with
 |error e=>rw[DU] at h;cases h
 |ok t=>
  rw[DU] at h;simp only at h
  obtain⟨k1,k2,k3,k4,k5,k6,k7⟩:=Kk (by omega) DU
  cases hr:DS s f (Cs [t] (t0+n+1)) hid with
  |error e=>rw[hr] at h;cases h
  |ok r'=>
   rw[hr] at h;simp only[Except.ok.injEq] at h;refine⟨t,r',h.symm,k1,?_⟩;rw[hd] at k2
   have iO:nm.all ON=true:=by rcases TH with rfl|rfl<;>decide
   have G8:(nm++z).takeWhile ON=nm++z.takeWhile ON:=List.takeWhile_append_of_pos fun c hc=>List.all_eq_true.1 iO c hc
   rw[G8] at k2;have k3':=k3;unfold CW LV at k3;rw[k2] at k3;simp only[List.any_cons,List.any_nil,Bool.or_false,Bool.or_eq_true,beq_iff_eq] at k3;rw[k2]
   rcases TH with rfl|rfl
   ·simp only[BR,CT,List.cons_append,List.nil_append,List.cons.injEq] at k3⊢;simp at k3;simp[k3]
   ·simp only[BR,CT,List.cons_append,List.nil_append,List.cons.injEq] at k3⊢;simp at k3;simp[k3]
theorem Pa {s:List UInt8}{t:Tok}{l:List Tok}(h:IV s t=.ok l):(EA t=false/\l=[t])\/
  (EA t=true/\(t.name=BR\/t.name=CT)/\∃n,Cx (Aa++t.name) (s.drop t.to)=some n/\l=[t,⟨7,[],[],(s.drop t.to).take n,t.to,t.to+n⟩]):=by
 unfold IV at h;split at h
 ·rename_i hc
  have ho:EA t=true:=by
   unfold EA
   rcases hc.2 with h2|h2<;>simp[hc.1,h2]
  split at h
  ·cases h
  ·rename_i n hn;split at h
   ·cases h
   ·simp only[Except.ok.injEq] at h;exact .inr ⟨ho,hc.2,n,hn,h.symm⟩
 ·rename_i hc;simp only[Except.ok.injEq] at h;refine .inl ⟨?_,h.symm⟩;unfold EA;rw[Bool.eq_false_iff];intro hb;simp only[Bool.and_eq_true,Bool.or_eq_true,beq_iff_eq] at hb;exact hc hb
theorem NJ {s:List UInt8}{a:Nat}{hid:Bool}(h:spec s a hid=true)(h1:¬has s Al a=true)(h2:¬has s Aa a=true)(h3:¬Ec s a=true):has s BM a=true/\hid=true:=by
 unfold spec at h;rw[Bool.eq_false_iff.2 h1,Bool.eq_false_iff.2 h2,Bool.eq_false_iff.2 h3] at h;simpa using h
theorem Fl {s:List UInt8}{a n:Nat}:cut s a (a+n)=(s.drop a).take n:=by unfold cut;congr 1;omega
theorem FG {s:List UInt8}:∀(f at':Nat) (hid:Option Nat) (l:List Tok) (prev:Option Tok),s.length-at'<f->at'<=s.length->DS s f at' hid=.ok l->
  (∀p,prev=some p->p.kind=1->at'=s.length\/spec s at' hid.isSome=true)->WG s at' prev hid.isSome l
 |0,at',hid,l,prev,h,_,_,_=>by omega
 |f+1,at',hid,l,prev,hf,ha,h,hp=>by
  have h0:=h;unfold DS at h;split at h
  ·split at h
   ·cases h
   ·simp only[Except.ok.injEq] at h;subst h
    exact⟨by omega,rfl⟩
  ·rename_i BC;split at h
   ·rename_i hs;split at h
    ·cases h
    ·rename_i l1 hid2 hn;split at h
     ·cases h
     ·rename_i r hr;simp only[Except.ok.injEq] at h;subst h;unfold DY at hn;split at hn
      ·rename_i ho
       have h5:=GM ho (by simp[Al])
       have e5:Al.length=5:=rfl;split at hn
       ·cases hn
       ·rename_i t ht;split at hn
        ·cases hn
        ·rename_i l2 dN;simp only[Except.ok.injEq,Prod.mk.injEq] at hn;obtain⟨rfl,rfl⟩:=hn
         obtain⟨k1,k2,k3,k4,k5⟩:=WI (by omega) ht
         have BO:t.text≠[]:=by rw[k3];exact Rf k4 k5
         rcases Pa dN with ⟨o1,rfl⟩|⟨o1,o2,n,o3,rfl⟩
         ·have ih:=FG f t.to hid r (some t) (by omega) k5 hr fun p hp hk=>by
           injection hp with hp;subst hp;omega
          refine⟨k2,by omega,k5,k3.symm,fun e=>absurd e BO,fun e=>(by rw[o1] at e;cases e),fun e=>by omega,fun e=>by omega,fun e=>by omega,fun e=>by omega,?_⟩
          rw[if_neg (by omega),if_neg (by omega)]
          exact ih
         ·have o9:=JC o3;have e6:Aa.length=6:=rfl;simp only[List.length_append,List.length_drop] at o9;have OZ:DS s f (t.to+n) hid=.ok r:=hr
          have mV:0<t.name.length:=by rcases o2 with e|e<;>rw[e]<;>decide
          obtain⟨g,rfl⟩:∃g,f=g+1:=⟨f-1,by omega⟩
          obtain⟨b,q,rfl,b1,b2⟩:=Oo k5 o3 o2 OZ
          have ih:=FG (g+1) (t.to+n) hid (b::q) (some ⟨7,[],[],(s.drop t.to).take n,t.to,t.to+n⟩) (by omega) (by omega) OZ fun p hp hk=>by
           injection hp with hp;subst hp;simp at hk
          have Lo:t.kind=2:=by
           unfold EA at o1;simp only[Bool.and_eq_true,beq_iff_eq] at o1;exact o1.1
          refine⟨k2,by omega,k5,k3.symm,fun e=>absurd e BO,fun _=>⟨_,b,q,rfl,rfl,b1,b2⟩,fun e=>by omega,fun e=>by omega,fun e=>by omega,fun e=>by omega,?_⟩
          rw[if_neg (by omega),if_neg (by omega)]
          refine⟨rfl,by simp only;omega,by simp only;omega,Fl,fun _=>rfl,fun e=>by simp[EA] at e,fun _=>⟨t,rfl,Lo⟩,fun e=>by simp at e,fun e=>by simp at e,fun e=>by simp at e,?_⟩
          exact ih
      ·rename_i ho;split at hn
       ·rename_i hc
        have h6:=GM hc (by simp[Aa])
        have e6:Aa.length=6:=rfl;split at hn
        ·cases hn
        ·rename_i t ht;simp only[Except.ok.injEq,Prod.mk.injEq] at hn;obtain⟨rfl,rfl⟩:=hn
         obtain⟨k1,-,-,k2,k3,k4,k5⟩:=Kk (by omega) ht
         have BO:t.text≠[]:=by rw[k3];exact Rf k4 k5
         have ih:=FG f t.to hid r (some t) (by omega) k5 hr fun p hp hk=>by
          injection hp with hp;subst hp;omega
         refine⟨k2,by omega,k5,k3.symm,fun e=>absurd e BO,fun e=>by simp[EA,k1] at e,fun e=>by omega,fun e=>by omega,fun e=>by omega,fun e=>by omega,?_⟩
         rw[if_neg (by omega),if_neg (by omega)]
         exact ih
       ·rename_i hc;split at hn
        ·rename_i hh
         have h8:at'+8<=s.length:=by
          unfold Ec at hh;simp only[Bool.and_eq_true,decide_eq_true_eq] at hh;omega
         split at hn
         ·cases hn
         ·rename_i Rz;simp only[Except.ok.injEq,Prod.mk.injEq] at hn;obtain⟨rfl,rfl⟩:=hn
          have ih:=FG f (at'+8) (some at') r (some ⟨5,[],[],cut s at' (at'+8),at',at'+8⟩) (by omega) h8 hr fun p hp hk=>by
           injection hp with hp;subst hp;simp at hk
          refine⟨rfl,by simp only;omega,h8,rfl,fun e=>absurd e (Rf (by omega) h8),fun e=>by simp[EA] at e,fun e=>by simp at e,fun e=>by simp at e,fun _=>by simpa using Rz,fun e=>by simp at e,?_⟩
          exact ih
        ·rename_i hh;simp only[Except.ok.injEq,Prod.mk.injEq] at hn;obtain⟨rfl,rfl⟩:=hn;obtain⟨s1,s2⟩:=NJ hs ho hc hh
         have h3:=GM s1 (by simp[BM])
         have e3:BM.length=3:=rfl
         have ZP:cut s at' (at'+3)=BM:=by
          rw[Fl];exact(List.prefix_iff_eq_take.1 (List.isPrefixOf_iff_prefix.1 s1)).symm
         have ih:=FG f (at'+3) none r (some ⟨6,[],[],BM,at',at'+3⟩) (by omega) (by omega) hr fun p hp hk=>by
          injection hp with hp;subst hp;simp at hk
         refine⟨rfl,by simp only;omega,by simp only;omega,ZP,fun e=>by simp[BM] at e,fun e=>by simp[EA] at e,fun e=>by simp at e,fun e=>by simp at e,fun e=>by simp at e,fun _=>s2,?_⟩
         exact ih
   ·rename_i hs;simp only at h;split at h
    ·cases h
    ·rename_i r hr;simp only[Except.ok.injEq] at h;subst h
     obtain⟨q1,q2,q3⟩:=IP (s:=s) (hid:=hid.isSome) (s.length-at') at' (by omega) ha
     have q4:=SZ (f:=s.length-at') (fun e=>BC e) hs (by omega)
     generalize Ci s hid.isSome (s.length-at') at'=to at *
     have ih:=FG f to hid r (some ⟨1,[],[],cut s at' to,at',to⟩) (by omega) q2 hr fun p hp hk=>q3
     refine⟨rfl,by simp only;omega,q2,rfl,fun e=>absurd e (Rf q4 q2),fun e=>by simp[EA] at e,fun e=>by simp at e,fun _ p hpp hk=> ?_,fun e=>by simp at e,fun e=>by simp at e,?_⟩
     ·rcases hp p hpp hk with e|e
      ·omega
      ·exact hs e
     ·exact ih
theorem LX {s:List UInt8}{l:List Tok}(h:lexM s=.ok l):WG s 0 none false l:=FG (s.length+1) 0 none l none (by omega) (by omega) h (fun p hp=>by cases hp)
def DZ (v:List UInt8):UInt8:=if v.contains 34=true then 39 else 34
def AN :List Aj->List UInt8
 |[]=>[]
 |a::r=>32::(a.name++61::DZ a.value::(a.value++DZ a.value::AN r))
def written (t:Tok):List UInt8:=
 if t.kind=4 then Aa++(t.name++[62]) else if t.kind=5 then CX++[32] else
 if t.kind=2 then Al++(t.name++(AN t.attrs++[62])) else if t.kind=3 then Al++(t.name++(AN t.attrs++[47,62])) else t.text
def Bg :List Tok->List UInt8
 |[]=>[]
 |t::r=>written t++Bg r
def Sx (a:Aj):Prop:=a.name≠[]/\a.name.length<=16/\(∀c∈a.name,ON c=true)/\¬(34∈a.value/\39∈a.value)
def Fc :List Aj->List Aj->Prop
 |_,[]=>True
 |seen,a::r=>Sx a/\(∀b∈seen,a.name≠b.name)/\Fc (seen++[a]) r
theorem Qn :∀(r seen:List Aj) (a:Aj),Fc seen r->Sx a->(∀b∈seen++r,a.name≠b.name)->Fc seen (r++[a])
 |[],seen,a,_,h,h2=>⟨h,fun b hb=>h2 b (by simpa using hb),trivial⟩
 |x::r,seen,a,hr,h,h2=>⟨hr.1,hr.2.1,Qn r (seen++[x]) a hr.2.2 h fun b hb=>h2 b (by simpa using hb)⟩
theorem Nu {x:List UInt8}:∀{s:List UInt8} {n:Nat},Cx x s=some n->x.isPrefixOf (s.drop n)=true/\∀j,j<n->x.isPrefixOf (s.drop j)=false
 |[],n,h=>by
  unfold Cx at h;split at h
  ·rename_i hx
   have:x=[]:=by simpa using hx
   subst this;simp at h;subst h
   exact⟨rfl,fun j hj=>by omega⟩
  ·cases h
 |c::r,n,h=>by
  unfold Cx at h;split at h
  ·rename_i hx
   injection h with h;subst h
   exact⟨hx,fun j hj=>by omega⟩
  ·rename_i hx
   cases hr:Cx x r with
   |none=>rw[hr] at h;cases h
   |some m=>
    rw[hr] at h;simp only[Option.map_some,Option.some.injEq] at h;subst h;obtain⟨h1,h2⟩:=Nu hr
    refine⟨h1,fun j hj=> ?_⟩
    cases j with
    |zero=>exact Bool.eq_false_iff.2 hx
    |succ j=>exact h2 j (by omega)
theorem RP {x:List UInt8}:∀{s:List UInt8} {n:Nat},x.isPrefixOf (s.drop n)=true->(∀j,j<n->x.isPrefixOf (s.drop j)=false)->n<=s.length->Cx x s=some n
 |[],n,h,_,hn=>by
  have:n=0:=by simpa using hn
  subst this
  have hx:x=[]:=by simpa using h
  subst hx;rfl
 |c::r,0,h,_,_=>by
  unfold Cx;exact if_pos h
 |c::r,n+1,h,h2,hn=>by
  unfold Cx
  have h0:=h2 0 (by omega)
  rw[List.drop_zero] at h0
  rw[h0,if_neg (by simp),RP (s:=r) (n:=n) h (fun j hj=>h2 (j+1) (by omega)) (by simpa using hn)]
  rfl
theorem lT {m:UInt8}{v r:List UInt8}(h:m∉v):Cx [m] (v++m::r)=some v.length:=by
 refine RP (by rw[List.drop_left' rfl];simp[List.isPrefixOf]) (fun j hj=> ?_) (by simp)
 rw[List.drop_append_of_le_length (by omega)]
 obtain⟨c,q,hc⟩:∃c q,v.drop j=c::q:=by
  cases hd:v.drop j with
  |nil=>have:=congrArg List.length hd;simp at this;omega
  |cons c q=>exact⟨c,q,rfl⟩
 rw[hc]
 have hm:c∈v:=List.mem_of_mem_drop (by rw[hc];simp)
 have:(m==c)=false:=by
  rw[beq_eq_false_iff_ne]
  rintro rfl
  exact h hm
 simp[List.isPrefixOf,this]
theorem dY {m:UInt8}{s:List UInt8}{n:Nat}(h:Cx [m] s=some n):m∉s.take n:=by
 obtain⟨_,h2⟩:=Nu h;intro hm;obtain⟨j,hj⟩:=List.mem_iff_getElem?.1 hm
 have BC:j<n:=by
  rcases Nat.lt_or_ge j n with h|h
  ·exact h
  ·rw[List.getElem?_eq_none (by simp;omega)] at hj;cases hj
 rw[List.getElem?_take,if_pos BC] at hj;have h3:=h2 j BC
 obtain⟨q,hq⟩:∃q,s.drop j=m::q:=⟨s.drop (j+1),by
  obtain⟨Kc,he⟩:=List.getElem?_eq_some_iff.1 hj
  rw[List.drop_eq_getElem_cons Kc,he]⟩
 rw[hq] at h3;simp[List.isPrefixOf] at h3
theorem eU {p:UInt8->Bool}:∀(l:List UInt8),∀c∈l.takeWhile p,p c=true
 |[],c,h=>by simp at h
 |x::r,c,h=>by
  rw[List.takeWhile_cons] at h;split at h
  ·rename_i hx
   rcases List.mem_cons.1 h with rfl|h
   ·exact hx
   ·exact eU r c h
  ·cases h
theorem kD {p:UInt8->Bool}{l:List UInt8}{n:Nat}(h:n<=(l.takeWhile p).length):∀c∈l.take n,p c=true:=by
 intro c hc
 have hp:l.take n=(l.takeWhile p).take n:=by
  have:=List.prefix_iff_eq_take.1 (List.takeWhile_prefix (p:=p) (l:=l));rw[this,List.take_take,Nat.min_eq_left h]
 rw[hp] at hc;exact eU l c (List.mem_of_mem_take hc)
theorem dw {s:List UInt8}{at' tag:Nat}{l:List Aj}{a:Aj}{b:Nat}(h:FM s at' tag l=.ok (a,b)):Sx a/\∀c∈l,a.name≠c.name:=by
 unfold FM at h;simp only at h;split at h
 ·cases h
 ·rename_i hn;split at h
  ·cases h
  ·split at h
   ·cases h
   ·rename_i h2;split at h
    ·cases h
    ·split at h
     ·cases h
     ·rename_i hm;split at h
      ·cases h
      ·rename_i k hk;simp only[Except.ok.injEq,Prod.mk.injEq] at h;obtain⟨rfl,-⟩:=h;have hl:=GW s at';have hle:min (lets s at') 16<=lets s at':=Nat.min_le_left _ _;refine⟨⟨?_,?_,?_,?_⟩,?_⟩
       ·intro e;have:=congrArg List.length e;simp only[List.length_take,List.length_drop,List.length_nil] at this
        have:min (lets s at') 16≠0:=fun e=>h2 (.inl e)
        omega
       ·simp only[List.length_take];omega
       ·exact kD (p:=ON) hle
       ·have Is:=dY hk
        rintro⟨qa,yL⟩
        have xB:s.getD (at'+min (lets s at') 16+1) 0=34\/s.getD (at'+min (lets s at') 16+1) 0=39:=by
         by_cases e:s.getD (at'+min (lets s at') 16+1) 0=34
         ·exact .inl e
         ·right
          exact Decidable.not_not.1 fun e2=>hm ⟨e,e2⟩
        rcases xB with e|e
        ·rw[e] at Is;exact Is qa
        ·rw[e] at Is;exact Is yL
       ·intro c hc e;apply hn;rw[List.any_eq_true]
        exact⟨c,hc,by simpa using e⟩
theorem Rr {s:List UInt8}{tag:Nat}:∀(f at':Nat) (l l':List Aj) (b:Nat),Fc [] l->A8 s tag f at' l=.ok (l',b)->Fc [] l'
 |0,at',l,l',b,_,h=>by cases h
 |f+1,at',l,l',b,hl,h=>by
  unfold A8 at h;simp only at h;split at h
  ·cases h
  ·split at h
   ·simp only[Except.ok.injEq,Prod.mk.injEq] at h;obtain⟨rfl,_⟩:=h;exact hl
   ·split at h
    ·cases h
    ·split at h
     ·cases h
     ·rename_i a c hc;obtain⟨h1,h2⟩:=dw hc
      exact Rr f c _ l' b (Qn l [] a hl h1 (by simpa using h2)) h
theorem cp {s:List UInt8}{tag:Nat}{t:Tok}(h:Gs s tag=.ok t):CW t.name=true/\Fc [] t.attrs:=by
 unfold Gs at h;simp only at h;split at h
 ·cases h
 ·rename_i hk;split at h
  ·cases h
  ·rename_i l b hb;have ha:=Rr _ _ [] l b trivial hb
   have hn:t.name=(s.drop (tag+5)).take (lets s (tag+5))/\t.attrs=l:=by
    unfold Dc at h;simp only at h
    generalize (if s.getD b 0=47 then 1 else 0:Nat)=k at h
    split at h
    ·cases h
    ·split at h
     ·cases h
     ·simp only[Except.ok.injEq] at h;subst h;exact⟨rfl,rfl⟩
   rw[hn.1,hn.2]
   exact⟨by simpa using hk,ha⟩
def Ga (r:List UInt8)(hid:Bool):Bool:=Al.isPrefixOf r||(Aa.isPrefixOf r||((CX.isPrefixOf r&&(match r.drop 7 with|c::_=>blB c|[]=>false))||(BM.isPrefixOf r&&hid)))
theorem T8 (s:List UInt8)(a:Nat)(hid:Bool):spec s a hid=Ga (s.drop a) hid:=by
 have h:Ec s a=(CX.isPrefixOf (s.drop a)&&(match(s.drop a).drop 7 with|c::_=>blB c|[]=>false)):=by
  unfold Ec has
  congr 1
  rw[List.drop_drop]
  by_cases hl:a+7<s.length
  ·rw[decide_eq_true hl,List.drop_eq_getElem_cons hl];simp[List.getD_eq_getElem?_getD,hl]
  ·rw[decide_eq_false hl,List.drop_eq_nil_of_le (by omega)]
   rfl
 unfold spec Ga;rw[h];rfl
def lh (r:List UInt8):Prop:=r=[]\/(∃q,r=60::q)\/∃q,r=45::45::62::q
theorem Sr {x u r:List UInt8}(h:x.isPrefixOf (u++r)=true):x.isPrefixOf u=true\/∃y,y≠[]/\x=u++y/\y.isPrefixOf r=true:=by
 obtain⟨z,hz⟩:=List.isPrefixOf_iff_prefix.1 h
 rcases List.append_eq_append_iff.1 hz with ⟨y,h1,h2⟩|⟨y,h1,h2⟩
 ·left;exact List.isPrefixOf_iff_prefix.2 ⟨y,h1.symm⟩
 ·by_cases hy:y=[]
  ·subst hy;left;rw[List.append_nil] at h1;subst h1;exact List.isPrefixOf_iff_prefix.2 (List.prefix_refl _)
  ·right;exact⟨y,hy,h1,List.isPrefixOf_iff_prefix.2 ⟨z,h2.symm⟩⟩
theorem KT {x u r:List UInt8}(hu:u≠[])(hb:lh r)(h1:∀k,1<=k->k<x.length->(x.drop k).head?≠some 60/\((x.drop k).take 3).isPrefixOf [45,45,62]=false)(h:x.isPrefixOf (u++r)=true):x.isPrefixOf u=true:=by
 rcases Sr h with h|⟨y,hy,uB,hyr⟩
 ·exact h
 ·exfalso;have hul:0<u.length:=List.length_pos_iff.2 hu;have eJ:0<y.length:=List.length_pos_iff.2 hy
  have hd:x.drop u.length=y:=by rw[uB,List.drop_left' rfl]
  obtain⟨k1,k2⟩:=h1 u.length hul (by rw[uB,List.length_append];omega)
  rw[hd] at k1 k2;obtain⟨z,hz⟩:=List.isPrefixOf_iff_prefix.1 hyr
  obtain⟨c,q,rfl⟩:∃c q,y=c::q:=by cases y with|nil=>exact absurd rfl hy|cons c q=>exact⟨c,q,rfl⟩
  rcases hb with rfl|⟨q',rfl⟩|⟨q',rfl⟩
  ·cases hz
  ·simp only[List.cons_append,List.cons.injEq] at hz
   exact k1 (by rw[hz.1];rfl)
  ·have:((c::q).take 3).isPrefixOf [45,45,62]=true:=by
    refine List.isPrefixOf_iff_prefix.2 ?_
    have h3:(c::q).take 3<+:((c::q)++z).take 3:=by
     rw[List.take_append];exact List.prefix_append _ _
    rw[hz] at h3;simpa using h3
   rw[this] at k2;cases k2
theorem wB :(∀k,1<=k->k<Al.length->(Al.drop k).head?≠some 60/\((Al.drop k).take 3).isPrefixOf [45,45,62]=false)/\(∀k,1<=k->k<Aa.length->(Aa.drop k).head?≠some 60/\((Aa.drop k).take 3).isPrefixOf [45,45,62]=false)/\
  (∀k,1<=k->k<CX.length->(CX.drop k).head?≠some 60/\((CX.drop k).take 3).isPrefixOf [45,45,62]=false)/\(∀k,1<=k->k<BM.length->(BM.drop k).head?≠some 60/\((BM.drop k).take 3).isPrefixOf [45,45,62]=false):=by
 have key:∀x:List UInt8,(∀k:Fin 8,(k.val=0\/x.length<=k.val)\/((x.drop k.val).head?≠some 60/\((x.drop k.val).take 3).isPrefixOf [45,45,62]=false))->x.length<=8->∀k,1<=k->k<x.length->(x.drop k).head?≠some 60/\((x.drop k).take 3).isPrefixOf [45,45,62]=false:=fun x h hl k h1 h2=>by
  rcases h ⟨k,by omega⟩ with h|h
  ·simp only at h;omega
  ·exact h
 exact⟨key _ (by decide) (by decide),key _ (by decide) (by decide),key _ (by decide) (by decide),key _ (by decide) (by decide)⟩
theorem IS {r:List UInt8}{hid:Bool}:Ga r hid=false↔Al.isPrefixOf r=false/\Aa.isPrefixOf r=false/\(CX.isPrefixOf r&&(match r.drop 7 with|c::_=>blB c|[]=>false))=false/\(BM.isPrefixOf r&&hid)=false:=by
 unfold Ga;simp only[Bool.or_eq_false_iff]
theorem W7 {r:List UInt8}(h:CX.isPrefixOf r=true):7<=r.length:=by
 have:=(List.isPrefixOf_iff_prefix.1 h).length_le;exact this
theorem inner {u r:List UInt8}{hid:Bool}(hu:u≠[])(h:Ga u hid=false)(hb:lh r):Ga (u++r) hid=false:=by
 obtain⟨p1,p2,p3,p4⟩:=wB;obtain⟨h1,h2,h3,h4⟩:=IS.1 h;refine IS.2 ⟨?_,?_,?_,?_⟩
 ·rw[Bool.eq_false_iff] at h1⊢;exact fun e=>h1 (KT hu hb p1 e)
 ·rw[Bool.eq_false_iff] at h2⊢;exact fun e=>h2 (KT hu hb p2 e)
 ·cases he:CX.isPrefixOf (u++r) with
  |false=>rfl
  |true=>
   have uD:=KT hu hb p3 he;rw[uD] at h3;simp only[Bool.true_and] at h3⊢;have hl:=W7 uD;rw[List.drop_append_of_le_length hl]
   cases hd:u.drop 7 with
   |cons c q=>rw[hd] at h3;exact h3
   |nil=>
    rw[List.nil_append]
    rcases hb with rfl|⟨q',rfl⟩|⟨q',rfl⟩<;>rfl
 ·cases he:BM.isPrefixOf (u++r) with
  |false=>rfl
  |true=>
   have uD:=KT hu hb p4 he;rw[uD] at h4;exact h4
theorem YR {u r:List UInt8}{hid:Bool}(h:Ga (u++r) hid=false):Ga u hid=false:=by
 have up:∀{x:List UInt8},x.isPrefixOf u=true->x.isPrefixOf (u++r)=true:=fun hx=>by
  obtain⟨z,hz⟩:=List.isPrefixOf_iff_prefix.1 hx
  exact List.isPrefixOf_iff_prefix.2 ⟨z++r,by rw[<-List.append_assoc,hz]⟩
 obtain⟨h1,h2,h3,h4⟩:=IS.1 h;refine IS.2 ⟨?_,?_,?_,?_⟩
 ·rw[Bool.eq_false_iff] at h1⊢;exact fun e=>h1 (up e)
 ·rw[Bool.eq_false_iff] at h2⊢;exact fun e=>h2 (up e)
 ·cases he:CX.isPrefixOf u with
  |false=>rfl
  |true=>
   rw[up he] at h3;simp only[Bool.true_and] at h3⊢;rw[List.drop_append_of_le_length (W7 he)] at h3
   cases hd:u.drop 7 with
   |cons c q=>rw[hd] at h3;exact h3
   |nil=>rfl
 ·cases he:BM.isPrefixOf u with
  |false=>rfl
  |true=>rw[up he] at h4;exact h4
inductive VG:Bool->List Tok->Prop
 |nil:VG false []
 |text {hid:Bool} {t:Tok} {r:List Tok}:t.kind=1->t.name=[]->t.attrs=[]->t.text≠[]->(∀j,j<t.text.length->Ga (t.text.drop j) hid=false)->(∀u q,r=u::q->u.kind≠1)->VG hid r->VG hid (t::r)
 |tag {hid:Bool} {t:Tok} {r:List Tok}:(t.kind=3\/t.kind=2/\EA t=false)->CW t.name=true->Fc [] t.attrs->VG hid r->VG hid (t::r)
 |own {hid:Bool} {t a c:Tok} {q:List Tok}:t.kind=2->(t.name=BR\/t.name=CT)->Fc [] t.attrs->a.kind=7->a.name=[]->a.attrs=[]->c.kind=4->c.name=t.name->
   Cx (Aa++t.name) (a.text++(Aa++t.name))=some a.text.length->(t.name=BR->Cx Al a.text=none)->VG hid (c::q)->VG hid (t::a::c::q)
 |close {hid:Bool} {t:Tok} {r:List Tok}:t.kind=4->t.attrs=[]->CW t.name=true->VG hid r->VG hid (t::r)
 |Ut {t:Tok} {r:List Tok}:t.kind=5->t.name=[]->t.attrs=[]->VG true r->VG false (t::r)
 |shown {t:Tok} {r:List Tok}:t.kind=6->t.name=[]->t.attrs=[]->t.text=BM->VG false r->VG true (t::r)
theorem kU {s:List UInt8}{t:Tok}{l:List Tok}{n:Nat}(h:IV s t=.ok l)(hk:t.kind=2)(hn:t.name=BR)(hf:Cx (Aa++t.name) (s.drop t.to)=some n):Cx Al ((s.drop t.to).take n)=none:=by
 unfold IV at h;rw[if_pos ⟨hk,.inl hn⟩,hf] at h;simp only at h
 cases ho:Cx Al ((s.drop t.to).take n) with
 |none=>rfl
 |some k=>
  rw[ho,decide_eq_true hn] at h;cases h
theorem cV {s x:List UInt8}{n:Nat}(h:Cx x s=some n):Cx x (s.take n++x)=some (s.take n).length:=by
 obtain⟨h1,h2⟩:=Nu h;have hl:=JC h
 have hn:(s.take n).length=n:=by simp only[List.length_take];omega
 obtain⟨z,hz⟩:=List.isPrefixOf_iff_prefix.1 h1
 have hs:s=s.take n++(x++z):=by rw[hz,List.take_append_drop]
 refine RP (by rw[List.drop_left' rfl];exact List.isPrefixOf_iff_prefix.2 (List.prefix_refl x)) (fun j hj=> ?_) (by simp)
 have h3:=h2 j (by omega)
 rw[Bool.eq_false_iff] at h3⊢;intro e;apply h3;obtain⟨y,hy⟩:=List.isPrefixOf_iff_prefix.1 e;refine List.isPrefixOf_iff_prefix.2 ⟨y++z,?_⟩;rw[<-List.append_assoc,hy]
 rw[List.drop_append_of_le_length (by omega),List.append_assoc,<-List.drop_append_of_le_length (by omega),<-hs]
theorem Zr {s:List UInt8}{tag:Nat}{t:Tok}(h:CJ s tag=.ok t):t.attrs=[]:=by
 unfold CJ at h;simp only at h
 repeat' split at h
 all_goals first|(cases h;done)|(simp only[Except.ok.injEq] at h;subst h;rfl)
theorem SY {s:List UInt8}{hid:Bool}:∀(f at':Nat) (j:Nat),at'<=j->j<Ci s hid f at'->spec s j hid=false
 |0,at',j,h1,h2=>by simp only[Ci] at h2;omega
 |f+1,at',j,h1,h2=>by
  unfold Ci at h2;split at h2
  ·omega
  ·rename_i hc
   rcases Nat.eq_or_lt_of_le h1 with rfl|h
   ·exact Bool.eq_false_iff.2 fun e=>hc (.inr e)
   ·exact SY f (at'+1) j h h2
theorem HX {s:List UInt8}:∀(f at':Nat) (hid:Option Nat) (l:List Tok),s.length-at'<f->at'<=s.length->DS s f at' hid=.ok l->VG hid.isSome l
 |0,at',hid,l,h,_,_=>by omega
 |f+1,at',hid,l,hf,ha,h=>by
  unfold DS at h;split at h
  ·split at h
   ·cases h
   ·simp only[Except.ok.injEq] at h;subst h;exact .nil
  ·rename_i BC;split at h
   ·rename_i hs;split at h
    ·cases h
    ·rename_i l1 hid2 hn;split at h
     ·cases h
     ·rename_i r hr;simp only[Except.ok.injEq] at h;subst h;unfold DY at hn;split at hn
      ·rename_i ho
       have h5:=GM ho (by simp[Al])
       have e5:Al.length=5:=rfl;split at hn
       ·cases hn
       ·rename_i t ht;split at hn
        ·cases hn
        ·rename_i l2 dN;simp only[Except.ok.injEq,Prod.mk.injEq] at hn;obtain⟨rfl,rfl⟩:=hn
         obtain⟨k1,k2,k3,k4,k5⟩:=WI (by omega) ht
         obtain⟨m1,m2⟩:=cp ht
         rcases Pa dN with ⟨o1,rfl⟩|⟨o1,o2,n,o3,rfl⟩
         ·have ih:=HX f t.to hid r (by omega) k5 hr
          exact .tag (k1.symm.imp_right fun k=>⟨k,o1⟩) m1 m2 ih
         ·have o9:=JC o3;simp only[List.length_append,List.length_drop] at o9;have OZ:DS s f (t.to+n) hid=.ok r:=hr
          obtain⟨g,rfl⟩:∃g,f=g+1:=⟨f-1,by omega⟩
          obtain⟨b,q,rfl,b1,b2⟩:=Oo k5 o3 o2 OZ
          have ih:=HX (g+1) (t.to+n) hid (b::q) (by omega) (by omega) OZ
          have Lo:t.kind=2:=by
           unfold EA at o1;simp only[Bool.and_eq_true,beq_iff_eq] at o1;exact o1.1
          exact .own Lo o2 m2 rfl rfl rfl b1 b2 (cV o3) (fun uG=>kU dN Lo uG o3) ih
      ·rename_i ho;split at hn
       ·rename_i hc
        have h6:=GM hc (by simp[Aa])
        have e6:Aa.length=6:=rfl;split at hn
        ·cases hn
        ·rename_i t ht;simp only[Except.ok.injEq,Prod.mk.injEq] at hn;obtain⟨rfl,rfl⟩:=hn
         obtain⟨k1,-,kk,k2,k3,k4,k5⟩:=Kk (by omega) ht
         have ih:=HX f t.to hid r (by omega) k5 hr
         exact .close k1 (Zr ht) kk ih
       ·rename_i hc;split at hn
        ·rename_i hh
         have h8:at'+8<=s.length:=by
          unfold Ec at hh;simp only[Bool.and_eq_true,decide_eq_true_eq] at hh;omega
         split at hn
         ·cases hn
         ·rename_i Rz;simp only[Except.ok.injEq,Prod.mk.injEq] at hn;obtain⟨rfl,rfl⟩:=hn
          have ih:=HX f (at'+8) (some at') r (by omega) h8 hr
          have hnf:hid.isSome=false:=by simpa using Rz
          rw[hnf];exact .Ut rfl rfl rfl ih
        ·rename_i hh;simp only[Except.ok.injEq,Prod.mk.injEq] at hn;obtain⟨rfl,rfl⟩:=hn;obtain⟨s1,s2⟩:=NJ hs ho hc hh
         have h3:=GM s1 (by simp[BM])
         have e3:BM.length=3:=rfl
         have ih:=HX f (at'+3) none r (by omega) (by omega) hr
         rw[s2];exact .shown rfl rfl rfl rfl ih
   ·rename_i hs;simp only at h;split at h
    ·cases h
    ·rename_i r hr;simp only[Except.ok.injEq] at h;subst h
     obtain⟨q1,q2,q3⟩:=IP (s:=s) (hid:=hid.isSome) (s.length-at') at' (by omega) ha
     have q4:=SZ (f:=s.length-at') (fun e=>BC e) hs (by omega)
     have q5:=SY (s:=s) (hid:=hid.isSome) (s.length-at') at';generalize Ci s hid.isSome (s.length-at') at'=to at *
     have ih:=HX f to hid r (by omega) q2 hr
     have hW:=FG f to hid r (some ⟨1,[],[],cut s at' to,at',to⟩) (by omega) q2 hr fun p hp hk=>q3
     refine .text rfl rfl rfl (Rf q4 q2) (fun j hj=> ?_) (fun u q hrq=> ?_) ih
     ·have DU:(cut s at' to).length=to-at':=by simp only[cut,List.length_take,List.length_drop];omega
      simp only[DU] at hj
      have HY:=q5 (at'+j) (by omega) (by omega)
      rw[T8,<-List.drop_drop] at HY
      have oi:(s.drop at').drop j=(cut s at' to).drop j++s.drop to:=by
       have:s.drop at'=cut s at' to++s.drop to:=by
        unfold cut
        have h2:s.drop to=(s.drop at').drop (to-at'):=by rw[List.drop_drop];congr 1;omega
        rw[h2,List.take_append_drop]
       rw[this,List.drop_append_of_le_length (by omega)]
      rw[oi] at HY;exact YR HY
     ·subst hrq;obtain⟨-,-,-,-,-,-,w7,w1,-,-,-⟩:=hW
      exact fun e=>w1 e _ rfl rfl
theorem Nh {s:List UInt8}{l:List Tok}(h:lexM s=.ok l):VG false l:=HX (s.length+1) 0 none l (by omega) (by omega) h
def sameAs :List Aj->List Aj->Prop
 |[],[]=>True
 |a::r,b::q=>a.name=b.name/\a.value=b.value/\sameAs r q
 |_,_=>False
def fV (a b:Tok):Prop:=a.kind=b.kind/\a.name=b.name/\b.text=written a/\sameAs a.attrs b.attrs
def JL :List Tok->List Tok->Prop
 |[],[]=>True
 |a::r,b::q=>fV a b/\JL r q
 |_,_=>False
theorem FI (s:List UInt8)(p k:Nat):s.getD (p+k) 0=(s.drop p).getD k 0:=by
 simp[List.getD_eq_getElem?_getD,List.getElem?_drop]
theorem qk {p:UInt8->Bool}{a r:List UInt8}{c:UInt8}(ha:∀x∈a,p x=true)(hc:p c=false):(a++c::r).takeWhile p=a:=by
 rw[List.takeWhile_append_of_pos ha,List.takeWhile_cons,hc];simp
theorem Um {s a r:List UInt8}{c:UInt8}{p:Nat}(h:s.drop p=a++c::r)(ha:∀x∈a,ON x=true)(hc:ON c=false):lets s p=a.length:=by
 unfold lets;rw[h,qk ha hc]
theorem DP {s q:List UInt8}{p:Nat}(h:s.drop p=q)(hp:p<=s.length):s.length=p+q.length:=by
 have:=congrArg List.length h;rw[List.length_drop] at this;omega
theorem C9 {s a r:List UInt8}{p:Nat}(h:s.drop p=a++r):s.drop (p+a.length)=r:=by
 rw[<-List.drop_drop,h,List.drop_left' rfl]
theorem fP {c:UInt8}(h:ON c=true):blB c=false/\c≠62/\c≠47:=by
 simp only[ON,Bool.and_eq_true,decide_eq_true_eq] at h;refine⟨?_,?_,?_⟩
 ·unfold blB
  have h1:c≠32:=by rintro rfl;simp at h
  have h2:c≠9:=by rintro rfl;simp at h
  have h3:c≠10:=by rintro rfl;simp at h
  have h4:c≠13:=by rintro rfl;simp at h
  simp[h1,h2,h3,h4]
 ·rintro rfl;simp at h
 ·rintro rfl;simp at h
theorem OW {n:List UInt8}(h:CW n=true):∀c∈n,ON c=true:=by
 unfold CW at h;obtain⟨m,hm,he⟩:=List.any_eq_true.1 h
 have:m=n:=by simpa using he
 subst this
 have key:LV.all (fun n=>n.all ON)=true:=by decide
 exact fun c hc=>List.all_eq_true.1 (List.all_eq_true.1 key m hm) c hc
theorem Ss {s r:List UInt8}{c:UInt8}{p:Nat}(h:s.drop p=c::r)(hc:blB c=false):past s p=p:=by
 unfold past;rw[h,List.takeWhile_cons,hc];simp
theorem fx {s r:List UInt8}{c:UInt8}{p:Nat}(h:s.drop p=32::c::r)(hc:blB c=false):past s p=p+1:=by
 unfold past;rw[h,List.takeWhile_cons,List.takeWhile_cons,hc];simp[blB]
theorem kq {a:Aj}(h:¬(34∈a.value/\39∈a.value)):DZ a.value∉a.value/\(DZ a.value=34\/DZ a.value=39):=by
 unfold DZ
 by_cases qa:34∈a.value
 ·rw[if_pos (by simpa using qa)]
  exact⟨fun yL=>h ⟨qa,yL⟩,.inr rfl⟩
 ·rw[if_neg (by simpa using qa)]
  exact⟨qa,.inl rfl⟩
theorem jq {s R:List UInt8}{p tag:Nat}{l:List Aj}{a:Aj}(hp:p<=s.length)(h:s.drop p=a.name++61::DZ a.value::(a.value++DZ a.value::R))(ho:Sx a)(hl:∀b∈l,a.name≠b.name):
  FM s p tag l=.ok (⟨a.name,a.value,p⟩,p+a.name.length+2+a.value.length+1):=by
 obtain⟨o1,o2,o3,o4⟩:=ho;obtain⟨m1,m2⟩:=kq o4
 have hn:lets s p=a.name.length:=Um h o3 (by decide)
 have mV:0<a.name.length:=List.length_pos_iff.2 o1;have hlen:=DP h hp;simp only[List.length_append,List.length_cons] at hlen;have Od:s.drop (p+a.name.length)=61::DZ a.value::(a.value++DZ a.value::R):=C9 h
 have g0:s.getD (p+a.name.length) 0=61:=by
  have:=FI s (p+a.name.length) 0;rw[Nat.add_zero,Od] at this;simpa using this
 have g1:s.getD (p+a.name.length+1) 0=DZ a.value:=by
  have:=FI s (p+a.name.length) 1;rw[Od] at this;simpa using this
 have Jf:s.drop (p+a.name.length+2)=a.value++DZ a.value::R:=by
  rw[<-List.drop_drop,Od];rfl
 have w9:min (lets s p) 16=a.name.length:=by rw[hn];omega
 have oY:(s.drop p).take a.name.length=a.name:=by rw[h,List.take_left' rfl]
 have yD:l.any (fun b=>a.name==b.name)=false:=by
  rw[List.any_eq_false];intro b hb;simpa using hl b hb
 unfold FM;simp only[w9,oY,g0,g1,Jf]
 rw[yD,if_neg (by simp),if_neg (by omega),if_neg (by simp;omega),if_neg (by omega),if_neg (by rcases m2 with e|e<;>rw[e]<;>decide),lT m1]
 simp only[List.take_left' rfl]
theorem To (a:Aj)(r:List Aj):(AN (a::r)).length=a.name.length+a.value.length+4+(AN r).length:=by
 simp only[AN,List.length_cons,List.length_append];omega
theorem Tp {s:List UInt8}{tag:Nat}{R:List UInt8}{e:UInt8}(he:e=62\/e=47):∀(xs:List Aj) (f p:Nat) (l seen:List Aj),p<=s.length->s.drop p=AN xs++e::R->Fc seen xs->(∀b∈l,∃c∈seen,b.name=c.name)->xs.length<f->
  ∃qe,A8 s tag f p l=.ok (l++qe,p+(AN xs).length)/\sameAs xs qe
 |[],f,p,l,seen,hp,h,ho,hs,hf=>by
  obtain⟨g,rfl⟩:∃g,f=g+1:=⟨f-1,by simp at hf;omega⟩
  rw[AN,List.nil_append] at h
  have HI:blB e=false:=by rcases he with rfl|rfl<;>decide
  have Wz:=Ss h HI;have hlen:=DP h hp;simp only[List.length_cons] at hlen
  have g0:s.getD p 0=e:=by
   have:=FI s p 0;rw[Nat.add_zero,h] at this;simpa using this
  refine⟨[],?_,trivial⟩;unfold A8;simp only[Wz]
  rw[if_neg (by omega),if_pos (by rw[g0];exact he)]
  simp[AN]
 |a::r,f,p,l,seen,hp,h,ho,hs,hf=>by
  obtain⟨g,rfl⟩:∃g,f=g+1:=⟨f-1,by simp at hf;omega⟩
  obtain⟨o1,o2,o3⟩:=ho
  obtain⟨c,nm,TH⟩:∃c nm,a.name=c::nm:=by
   cases hn:a.name with
   |nil=>exact absurd hn o1.1
   |cons c nm=>exact⟨c,nm,rfl⟩
  have iO:=o1.2.2.1 c (by rw[TH];simp)
  obtain⟨b1,b2,b3⟩:=fP iO
  have h':s.drop p=32::(a.name++61::DZ a.value::(a.value++DZ a.value::(AN r++e::R))):=by
   rw[h];simp[AN]
  have Wz:past s p=p+1:=fx (r:=nm++61::DZ a.value::(a.value++DZ a.value::(AN r++e::R))) (c:=c) (by rw[h',TH];rfl) b1
  have hlen:=DP h' hp;simp only[List.length_cons,List.length_append] at hlen
  have hd:s.drop (p+1)=a.name++61::DZ a.value::(a.value++DZ a.value::(AN r++e::R)):=by
   rw[<-List.drop_drop,h'];rfl
  have g0:s.getD (p+1) 0=c:=by
   have:=FI s (p+1) 0;rw[Nat.add_zero,hd,TH] at this;simpa using this
  have pN:=jq (tag:=tag) (l:=l) (by omega) hd o1 fun b hb=>by
   obtain⟨x,hx,xz⟩:=hs b hb;rw[xz];exact o2 x hx
  have Jf:s.drop (p+1+a.name.length+2+a.value.length+1)=AN r++e::R:=by
   have e1:p+1+a.name.length+2+a.value.length+1=(p+1)+(a.name++61::DZ a.value::(a.value++[DZ a.value])).length:=by
    simp only[List.length_append,List.length_cons,List.length_nil];omega
   rw[e1];refine C9 ?_;rw[hd];simp
  obtain⟨qe,k1,k2⟩:=Tp he r g (p+1+a.name.length+2+a.value.length+1) (l++[⟨a.name,a.value,p+1⟩]) (seen++[a]) (by omega) Jf o3 (fun b hb=>by
   rcases List.mem_append.1 hb with hb|hb
   ·obtain⟨x,hx,xz⟩:=hs b hb
    exact⟨x,by simp[hx],xz⟩
   ·rw[List.mem_singleton.1 hb]
    exact⟨a,by simp,rfl⟩) (by simp at hf;omega)
  refine⟨⟨a.name,a.value,p+1⟩::qe,?_,⟨rfl,rfl,k2⟩⟩;unfold A8;simp only[Wz,g0]
  rw[if_neg (by omega),if_neg (by rintro(h|h);exact b2 h;exact b3 h),if_neg (by omega),pN]
  have e2:p+1+a.name.length+2+a.value.length+1+(AN r).length=p+(AN (a::r)).length:=by rw[To];omega
  rw[e2] at k1
  exact k1.trans (by simp)
theorem ZL (xs:List Aj){e:UInt8}(he:e=62\/e=47)(R:List UInt8):∃c q,AN xs++e::R=c::q/\ON c=false:=by
 cases xs with
 |nil=>exact⟨e,R,rfl,by rcases he with rfl|rfl<;>decide⟩
 |cons a r=>exact⟨32,_,rfl,by decide⟩
theorem Rp :∀(xs:List Aj),xs.length<=(AN xs).length
 |[]=>by simp
 |a::r=>by
  have:=Rp r;rw[To];simp only[List.length_cons];omega
theorem Rj {s a R:List UInt8}{p:Nat}(h:s.drop p=a++R):cut s p (p+a.length)=a:=by
 rw[Fl,h,List.take_left' rfl]
theorem aY {s R:List UInt8}{p:Nat}{t:Tok}(hp:p<=s.length)(h:s.drop p=written t++R)(hk:t.kind=3\/t.kind=2)(hn:CW t.name=true)(ho:Fc [] t.attrs):
  ∃u,Gs s p=.ok u/\u.kind=t.kind/\u.name=t.name/\sameAs t.attrs u.attrs/\u.fr=p/\u.to=p+(written t).length/\u.text=written t:=by
 obtain⟨e,Q,he,hw,hke⟩:∃(e:UInt8) (Q:List UInt8),(e=62\/e=47)/\written t=Al++(t.name++(AN t.attrs++e::Q))/\(e=62/\Q=[]/\t.kind=2\/e=47/\Q=[62]/\t.kind=3):=by
  rcases hk with k|k
  ·exact⟨47,[62],.inr rfl,by unfold written;rw[if_neg (by omega),if_neg (by omega),if_neg (by omega),if_pos k],.inr ⟨rfl,rfl,k⟩⟩
  ·exact⟨62,[],.inl rfl,by unfold written;rw[if_neg (by omega),if_neg (by omega),if_pos k],.inl ⟨rfl,rfl,k⟩⟩
 have bH:=congrArg List.length hw;have e5:Al.length=5:=rfl;simp only[List.length_append,List.length_cons] at bH;have hlen:=DP h hp;rw[List.length_append] at hlen
 have h5:s.drop (p+5)=t.name++(AN t.attrs++e::(Q++R)):=by
  have:s.drop p=Al++(t.name++(AN t.attrs++e::(Q++R))):=by rw[h,hw];simp
  exact C9 this
 obtain⟨c,q,hcq,Fx⟩:=ZL t.attrs he (Q++R)
 have hl:lets s (p+5)=t.name.length:=Um (r:=q) (c:=c) (by rw[h5,hcq]) (OW hn) Fx
 have oY:(s.drop (p+5)).take t.name.length=t.name:=by rw[h5,List.take_left' rfl]
 have h6:s.drop (p+5+t.name.length)=AN t.attrs++e::(Q++R):=C9 h5;have hm:=Rp t.attrs
 obtain⟨qe,k1,k2⟩:=Tp (tag:=p) he t.attrs (s.length+1) (p+5+t.name.length) [] [] (by omega) h6 ho (fun b hb=>by cases hb) (by omega)
 have h7:s.drop (p+5+t.name.length+(AN t.attrs).length)=e::(Q++R):=C9 h6
 have g0:s.getD (p+5+t.name.length+(AN t.attrs).length) 0=e:=by
  have:=FI s (p+5+t.name.length+(AN t.attrs).length) 0;rw[Nat.add_zero,h7] at this;simpa using this
 unfold Gs;simp only[hl,oY,k1]
 rw[if_neg (by rw[hn];simp)]
 unfold Dc;simp only[g0]
 rcases hke with ⟨rfl,rfl,RD⟩|⟨rfl,rfl,RD⟩
 ·rw[if_neg (by decide:¬(62:UInt8)=47)]
  simp only[List.length_nil] at bH
  rw[if_neg (by omega),Nat.add_zero,g0,if_neg (by simp)]
  have lB:p+5+t.name.length+(AN t.attrs).length+1=p+(written t).length:=by omega
  refine⟨_,rfl,by simp[RD],rfl,by simpa using k2,rfl,lB,?_⟩
  simp only[lB];exact Rj h
 ·rw[if_pos rfl];simp only[List.length_cons,List.length_nil] at bH
  have g1:s.getD (p+5+t.name.length+(AN t.attrs).length+1) 0=62:=by
   have:=FI s (p+5+t.name.length+(AN t.attrs).length) 1;rw[h7] at this;simpa using this
  rw[if_neg (by omega),g1,if_neg (by simp)]
  have lB:p+5+t.name.length+(AN t.attrs).length+1+1=p+(written t).length:=by omega
  refine⟨_,rfl,by simp[RD],rfl,by simpa using k2,rfl,lB,?_⟩
  simp only[lB];exact Rj h
theorem jb {s R:List UInt8}{p:Nat}{t:Tok}(hp:p<=s.length)(h:s.drop p=written t++R)(hk:t.kind=4)(hn:CW t.name=true):
  CJ s p=.ok ⟨4,t.name,[],written t,p,p+(written t).length⟩:=by
 have hw:written t=Aa++(t.name++[62]):=by unfold written;rw[if_pos hk]
 have bH:=congrArg List.length hw;have e6:Aa.length=6:=rfl;simp only[List.length_append,List.length_cons,List.length_nil] at bH;have hlen:=DP h hp;rw[List.length_append] at hlen
 have h6:s.drop (p+6)=t.name++62::R:=by
  have:s.drop p=Aa++(t.name++62::R):=by rw[h,hw];simp
  exact C9 this
 have hl:lets s (p+6)=t.name.length:=Um h6 (OW hn) (by decide)
 have oY:(s.drop (p+6)).take t.name.length=t.name:=by rw[h6,List.take_left' rfl]
 have h7:s.drop (p+6+t.name.length)=62::R:=C9 h6
 have Wz:=Ss h7 (by decide)
 have g0:s.getD (p+6+t.name.length) 0=62:=by
  have:=FI s (p+6+t.name.length) 0;rw[Nat.add_zero,h7] at this;simpa using this
 unfold CJ;simp only[hl,oY,Wz,g0]
 rw[if_neg (by rw[hn];simp),if_neg (by omega),if_neg (by simp)]
 have lB:p+6+t.name.length+1=p+(written t).length:=by omega
 rw[lB,Rj h]
theorem Hq {t:Tok}(h:t.kind=3\/t.kind=2):∃q,written t=Al++q:=by
 rcases h with k|k
 ·exact⟨_,by unfold written;rw[if_neg (by omega),if_neg (by omega),if_neg (by omega),if_pos k]⟩
 ·exact⟨_,by unfold written;rw[if_neg (by omega),if_neg (by omega),if_pos k]⟩
theorem FU {t:Tok}(h:t.kind=1\/t.kind=6\/t.kind=7):written t=t.text:=by
 unfold written
 rw[if_neg (by omega),if_neg (by omega),if_neg (by omega),if_neg (by omega)]
theorem Fa (x y:List UInt8):x.isPrefixOf (x++y)=true:=List.isPrefixOf_iff_prefix.2 (List.prefix_append x y)
theorem aB {hid:Bool}{r:List Tok}(h:VG hid r):r=[]\/(∃u q,r=u::q/\u.kind=1)\/(Ga (Bg r) hid=true/\lh (Bg r)):=by
 cases h with
 |nil=>exact .inl rfl
 |text k=>exact .inr (.inl ⟨_,_,rfl,k⟩)
 | @tag _ t q k=>
  right;right;obtain⟨w,hw⟩:=Hq (t:=t) (k.imp_right (·.1));simp only[Bg,hw,List.append_assoc]
  exact⟨by unfold Ga;rw[Fa];rfl,.inr (.inl ⟨_,rfl⟩)⟩
 | @own _ t a c q k=>
  right;right;obtain⟨w,hw⟩:=Hq (t:=t) (.inr k);simp only[Bg,hw,List.append_assoc]
  exact⟨by unfold Ga;rw[Fa];rfl,.inr (.inl ⟨_,rfl⟩)⟩
 | @close _ t q k=>
  right;right
  have hw:written t=Aa++(t.name++[62]):=by unfold written;rw[if_pos k]
  simp only[Bg,hw,List.append_assoc]
  exact⟨by unfold Ga;rw[Fa];simp,.inr (.inl ⟨_,rfl⟩)⟩
 | @Ut t q k=>
  right;right
  have hw:written t=CX++[32]:=by unfold written;rw[if_neg (by omega),if_pos k]
  simp only[Bg,hw,List.append_assoc]
  exact⟨by simp[Ga,CX,Al,Aa,BM,List.isPrefixOf,blB],.inr (.inl ⟨_,rfl⟩)⟩
 | @shown t q k k2 k3 k4=>
  right;right
  have hw:written t=BM:=by rw[FU (.inr (.inl k)),k4]
  simp only[Bg,hw]
  exact⟨by unfold Ga;rw[Fa];simp,.inr (.inr ⟨_,rfl⟩)⟩
theorem lU {x s:List UInt8}{n:Nat}(h:Cx x s=some n)(y:List UInt8):Cx x (s++y)=some n:=by
 obtain⟨h1,h2⟩:=Nu h;have hl:=JC h
 refine RP ?_ (fun j hj=> ?_) (by simp;omega)
 ·rw[List.drop_append_of_le_length (by omega)]
  obtain⟨z,hz⟩:=List.isPrefixOf_iff_prefix.1 h1
  exact List.isPrefixOf_iff_prefix.2 ⟨z++y,by rw[<-List.append_assoc,hz]⟩
 ·have h3:=h2 j hj;rw[Bool.eq_false_iff] at h3⊢;intro e;apply h3
  rw[List.drop_append_of_le_length (by omega)] at e
  obtain⟨z,hz⟩:=List.isPrefixOf_iff_prefix.1 e
  have hx:x.length<=(s.drop j).length:=by rw[List.length_drop];omega
  have:=congrArg (List.take x.length) hz;rw[List.take_left' rfl,List.take_append_of_le_length hx] at this
  exact List.isPrefixOf_iff_prefix.2 ⟨(s.drop j).drop x.length,by
   have h4:=List.take_append_drop x.length (s.drop j);rw[<-this] at h4
   exact h4⟩
theorem NA {s:List UInt8}{hid:Bool}:∀(n f p:Nat),(∀j,j<n->spec s (p+j) hid=false)->p+n<=s.length->(p+n=s.length\/spec s (p+n) hid=true)->n<=f->Ci s hid f p=p+n
 |0,f,p,h1,h2,h3,hf=>by
  cases f with
  |zero=>rfl
  |succ f=>
   unfold Ci
   rw[if_pos (by
    rcases h3 with h3|h3
    ·left;omega
    ·right;exact h3)]
   rfl
 |n+1,f,p,h1,h2,h3,hf=>by
  obtain⟨g,rfl⟩:∃g,f=g+1:=⟨f-1,by omega⟩
  unfold Ci
  have h0:=h1 0 (by omega)
  rw[Nat.add_zero] at h0
  rw[if_neg (by rintro(h|h);omega;rw[h0] at h;cases h),NA n g (p+1) (fun j hj=>by
   have:=h1 (j+1) (by omega)
   rwa [show p+(j+1)=p+1+j by omega] at this) (by omega) (by rwa [show p+1+n=p+(n+1) by omega]) (by omega)]
  omega
theorem Ic {s:List UInt8}{g p:Nat}{hid hid2:Option Nat}{l r:List Tok}(h1:p<s.length)(h2:spec s p hid.isSome=true)(h3:DY s p hid=.ok (l,hid2))(h4:DS s g (Cs l (p+1)) hid2=.ok r):DS s (g+1) p hid=.ok (l++r):=by
 unfold DS
 rw[if_neg (by omega),if_pos h2,h3]
 simp only[h4]
theorem Iz {a b:Tok}{r q:List Tok}(h:fV a b)(h2:JL r q):JL (a::r) ([b]++q):=⟨h,h2⟩
theorem n7 {t u:Tok}(hk:u.kind=t.kind)(hn:u.name=t.name)(h:t.kind=3\/t.kind=2/\EA t=false)(s:List UInt8):IV s u=.ok [u]:=by
 unfold IV;rw[if_neg]
 rintro⟨k,zH⟩
 rcases h with h|⟨h,ho⟩
 ·omega
 ·unfold EA at ho;rw[h] at ho;rw[hn] at zH
  rcases zH with e|e<;>rw[e] at ho<;>simp at ho
theorem dE {s:List UInt8}{hid:Bool}{l:List Tok}(hv:VG hid l):∀(f p:Nat) (Fw:Option Nat),Fw.isSome=hid->p<=s.length->s.drop p=Bg l->s.length-p<f->∃m,DS s f p Fw=.ok m/\JL l m:=by
 induction hv with
 |nil=>
  intro f p Fw hh hp hd hf
  obtain⟨g,rfl⟩:∃g,f=g+1:=⟨f-1,by omega⟩
  have hlen:=DP hd hp;simp only[Bg,List.length_nil] at hlen
  cases Fw with
  |some x=>cases hh
  |none=>
   refine⟨[],?_,trivial⟩;unfold DS
   rw[if_pos (by omega)]
 | @text hid t r k1 k2 k3 k4 k5 k6 hr ih=>
  intro f p Fw hh hp hd hf
  obtain⟨g,rfl⟩:∃g,f=g+1:=⟨f-1,by omega⟩
  have hw:written t=t.text:=FU (.inl k1);simp only[Bg,hw] at hd;have hlen:=DP hd hp;rw[List.length_append] at hlen;have hn:0<t.text.length:=List.length_pos_iff.2 k4
  have yB:lh (Bg r):=by
   rcases aB hr with rfl|⟨u,q,rfl,hu⟩|⟨_,h⟩
   ·exact .inl rfl
   ·exact absurd hu (k6 u q rfl)
   ·exact h
  have HY:∀j,j<t.text.length->spec s (p+j) Fw.isSome=false:=fun j hj=>by
   rw[T8,<-List.drop_drop,hd,List.drop_append_of_le_length (by omega),hh]
   exact inner (by
    intro e;have:=congrArg List.length e;rw[List.length_drop,List.length_nil] at this
    omega) (k5 j hj) yB
  have Jf:s.drop (p+t.text.length)=Bg r:=C9 hd
  have lB:Ci s Fw.isSome (s.length-p) p=p+t.text.length:=by
   refine NA _ _ _ HY (by omega) ?_ (by omega)
   rcases aB hr with rfl|⟨u,q,rfl,hu⟩|⟨h,_⟩
   ·left;simp only[Bg,List.length_nil] at hlen;omega
   ·exact absurd hu (k6 u q rfl)
   ·right;rw[T8,Jf,hh];exact h
  obtain⟨m,hm,hs⟩:=ih g (p+t.text.length) Fw hh (by omega) Jf (by omega)
  refine⟨⟨1,[],[],cut s p (p+t.text.length),p,p+t.text.length⟩::m,?_,⟨k1,k2,?_,?_⟩,hs⟩
  ·unfold DS;have h0:=HY 0 hn;rw[Nat.add_zero] at h0
   rw[if_neg (by omega),if_neg (by rw[h0];simp)]
   simp only[lB,hm]
  ·simp only[hw];exact Rj hd
  ·rw[k3];trivial
 | @tag hid t r k1 k2 k3 hr ih=>
  intro f p Fw hh hp hd hf
  obtain⟨g,rfl⟩:∃g,f=g+1:=⟨f-1,by omega⟩
  have RD:t.kind=3\/t.kind=2:=k1.imp_right (·.1);obtain⟨w,hw⟩:=Hq RD;simp only[Bg] at hd;have hlen:=DP hd hp;have bH:=congrArg List.length hw;have e5:Al.length=5:=rfl;rw[List.length_append] at hlen bH;obtain⟨u,hu,u1,u2,u3,u4,u5,u6⟩:=aY hp hd RD k2 k3
  have ho:has s Al p=true:=by unfold has;rw[hd,hw,List.append_assoc];exact Fa _ _
  have Jf:s.drop u.to=Bg r:=by rw[u5];exact C9 hd
  obtain⟨m,hm,hs⟩:=ih g u.to Fw hh (by omega) Jf (by omega)
  refine⟨[u]++m,Ic (by omega) (by unfold spec;rw[ho];rfl) (hid2:=Fw) ?_ hm,Iz ⟨u1.symm,u2.symm,u6,u3⟩ hs⟩
  unfold DY;rw[if_pos ho,hu];simp only[n7 u1 u2 k1 s]
 | @own hid t a c q k1 k2 k3 a1 a2 a3 c1 c2 r1 r2 hr ih=>
  intro f p Fw hh hp hd hf
  obtain⟨g,rfl⟩:∃g,f=g+1:=⟨f-1,by omega⟩
  obtain⟨w,hw⟩:=Hq (t:=t) (.inr k1);have y7:written a=a.text:=FU (.inr (.inr a1))
  have hwc:written c=Aa++(c.name++[62]):=by unfold written;rw[if_pos c1]
  have o9:CW t.name=true:=by rcases k2 with e|e<;>rw[e]<;>decide
  simp only[Bg] at hd;have hlen:=DP hd hp;have bH:=congrArg List.length hw;have e5:Al.length=5:=rfl;rw[List.length_append] at hlen bH;obtain⟨u,hu,u1,u2,u3,u4,u5,u6⟩:=aY hp hd (.inr k1) o9 k3
  have ho:has s Al p=true:=by unfold has;rw[hd,hw,List.append_assoc];exact Fa _ _
  have Jf:s.drop u.to=a.text++Bg (c::q):=by rw[u5];rw[C9 hd,y7];rfl
  have Uv:Cx (Aa++u.name) (s.drop u.to)=some a.text.length:=by
   rw[Jf,u2]
   have e:a.text++Bg (c::q)=(a.text++(Aa++t.name))++([62]++Bg q):=by
    simp only[Bg,hwc,c2];simp
   rw[e];exact lU r1 _
  have oY:(s.drop u.to).take a.text.length=a.text:=by rw[Jf,List.take_left' rfl]
  have ot:IV s u=.ok [u,⟨7,[],[],a.text,u.to,u.to+a.text.length⟩]:=by
   unfold IV
   rw[if_pos ⟨by rw[u1];exact k1,by rw[u2];exact k2⟩,Uv]
   simp only[oY]
   by_cases uG:u.name=BR
   ·rw[r2 (by rw[<-u2];exact uG)]
   ·rw[decide_eq_false uG]
    cases Cx Al a.text<;>rfl
  have sn:=DP Jf (by rw[u5];omega)
  rw[List.length_append] at sn;have hd3:s.drop (u.to+a.text.length)=Bg (c::q):=C9 Jf
  obtain⟨m,hm,hs⟩:=ih g (u.to+a.text.length) Fw hh (by omega) hd3 (by omega)
  refine⟨[u,⟨7,[],[],a.text,u.to,u.to+a.text.length⟩]++m,Ic (by omega) (by unfold spec;rw[ho];rfl) (hid2:=Fw) ?_ hm,⟨u1.symm,u2.symm,u6,u3⟩,⟨a1,a2,y7.symm,by rw[a3];trivial⟩,hs⟩
  unfold DY;rw[if_pos ho,hu];simp only[ot]
 | @close hid t r k1 k2 k3 hr ih=>
  intro f p Fw hh hp hd hf
  obtain⟨g,rfl⟩:∃g,f=g+1:=⟨f-1,by omega⟩
  have hw:written t=Aa++(t.name++[62]):=by unfold written;rw[if_pos k1]
  simp only[Bg] at hd;have hlen:=DP hd hp;have bH:=congrArg List.length hw;have e6:Aa.length=6:=rfl;rw[List.length_append] at hlen bH
  have hc:has s Aa p=true:=by unfold has;rw[hd,hw,List.append_assoc];exact Fa _ _
  have ho:has s Al p=false:=by unfold has;rw[hd,hw];simp[Al,Aa,List.isPrefixOf]
  have DU:=jb hp hd k1 k3;have Jf:s.drop (p+(written t).length)=Bg r:=C9 hd
  obtain⟨m,hm,hs⟩:=ih g (p+(written t).length) Fw hh (by omega) Jf (by omega)
  refine⟨[⟨4,t.name,[],written t,p,p+(written t).length⟩]++m,Ic (l:=[⟨4,t.name,[],written t,p,p+(written t).length⟩]) (by omega) (by unfold spec;rw[ho,hc];rfl) (hid2:=Fw) ?_ hm,Iz ⟨k1,rfl,rfl,by rw[k2];trivial⟩ hs⟩
  unfold DY
  rw[if_neg (by rw[ho];simp),if_pos hc,DU]
 | @Ut t r k1 k2 k3 hr ih=>
  intro f p Fw hh hp hd hf
  obtain⟨g,rfl⟩:∃g,f=g+1:=⟨f-1,by omega⟩
  have hw:written t=CX++[32]:=by unfold written;rw[if_neg (by omega),if_pos k1]
  simp only[Bg] at hd;have hlen:=DP hd hp
  have bH:(written t).length=8:=by rw[hw];rfl
  rw[List.length_append] at hlen
  have ho:has s Al p=false:=by unfold has;rw[hd,hw];simp[Al,CX,List.isPrefixOf]
  have hc:has s Aa p=false:=by unfold has;rw[hd,hw];simp[Aa,CX,List.isPrefixOf]
  have hb:Ec s p=true:=by
   unfold Ec has
   have g7:s.getD (p+7) 0=32:=by
    have:=FI s p 7;rw[hd,hw] at this;simpa[CX] using this
   rw[g7,hd,hw,List.append_assoc,Fa,decide_eq_true (by omega)]
   rfl
  have Is:Fw=none:=by cases Fw with|none=>rfl|some x=>cases hh
  subst Is
  have Jf:s.drop (p+8)=Bg r:=by rw[<-bH];exact C9 hd
  obtain⟨m,hm,hs⟩:=ih g (p+8) (some p) rfl (by omega) Jf (by omega)
  refine⟨[⟨5,[],[],cut s p (p+8),p,p+8⟩]++m,Ic (l:=[⟨5,[],[],cut s p (p+8),p,p+8⟩]) (by omega) (by unfold spec;rw[ho,hc,hb];rfl) (hid2:=some p) ?_ hm,Iz ⟨k1,k2,?_,by rw[k3];trivial⟩ hs⟩
  ·unfold DY
   rw[if_neg (by rw[ho];simp),if_neg (by rw[hc];simp),if_pos hb,if_neg (by simp)]
  ·simp only[<-bH];exact Rj hd
 | @shown t r k1 k2 k3 k4 hr ih=>
  intro f p Fw hh hp hd hf
  obtain⟨g,rfl⟩:∃g,f=g+1:=⟨f-1,by omega⟩
  have hw:written t=BM:=by rw[FU (.inr (.inl k1)),k4]
  simp only[Bg,hw] at hd;have hlen:=DP hd hp;have e3:BM.length=3:=rfl;rw[List.length_append] at hlen
  have ho:has s Al p=false:=by unfold has;rw[hd];simp[Al,BM,List.isPrefixOf]
  have hc:has s Aa p=false:=by unfold has;rw[hd];simp[Aa,BM,List.isPrefixOf]
  have hb:Ec s p=false:=by unfold Ec has;rw[hd];simp[CX,BM,List.isPrefixOf]
  have iP:has s BM p=true:=by unfold has;rw[hd];exact Fa _ _
  have Jf:s.drop (p+3)=Bg r:=C9 hd
  obtain⟨m,hm,hs⟩:=ih g (p+3) none rfl (by omega) Jf (by omega)
  refine⟨[⟨6,[],[],BM,p,p+3⟩]++m,Ic (l:=[⟨6,[],[],BM,p,p+3⟩]) (by omega) (by unfold spec;rw[ho,hc,hb,iP,hh];rfl) (hid2:=none) ?_ hm,Iz ⟨k1,k2,hw.symm,by rw[k3];trivial⟩ hs⟩
  unfold DY
  rw[if_neg (by rw[ho];simp),if_neg (by rw[hc];simp),if_neg (by rw[hb];simp)]
def tokC :Ce:=fun vs h K=>∃s:List UInt8,s.length<=limE/\vs=[.str s]/\(∀p e,lexM s=.error (p,e)->K (.tup [.sl 0 [] none,.int .i64 p,.int .i64 e]) h)/\
 (∀l,lexM s=.ok l->K (.tup [.sl 6 (encTs l) none,.int .i64 0,.int .i64 0]) h)
def mw :Ce:=fun vs h K=>vs.isEmpty=true/\K (.bool true) h
theorem ln {s:List UInt8}{at' tag:Nat}{l:List Aj}{p:Nat}{e:Int}(h:FM s at' tag l=.error (p,e)):e≠0:=by
 unfold FM at h;simp only at h
 repeat' split at h
 all_goals first|(cases h;done)|(simp only[Except.error.injEq,Prod.mk.injEq] at h;obtain⟨-,rfl⟩:=h;decide)
theorem Xc {s:List UInt8}{tag:Nat}:∀(f at':Nat) (l:List Aj) (p:Nat) (e:Int),A8 s tag f at' l=.error (p,e)->e≠0
 |0,at',l,p,e,h=>by simp only[A8,Except.error.injEq,Prod.mk.injEq] at h;obtain⟨-,rfl⟩:=h;decide
 |f+1,at',l,p,e,h=>by
  unfold A8 at h;simp only at h;split at h
  ·simp only[Except.error.injEq,Prod.mk.injEq] at h;obtain⟨-,rfl⟩:=h;decide
  ·split at h
   ·cases h
   ·split at h
    ·simp only[Except.error.injEq,Prod.mk.injEq] at h;obtain⟨-,rfl⟩:=h;decide
    ·split at h
     ·rename_i e' he;simp only[Except.error.injEq] at h;subst h;exact ln he
     ·exact Xc f _ _ p e h
theorem kf {s:List UInt8}{tag p:Nat}{e:Int}(h:Gs s tag=.error (p,e)):e≠0:=by
 unfold Gs at h;simp only at h;split at h
 ·simp only[Except.error.injEq,Prod.mk.injEq] at h;obtain⟨-,rfl⟩:=h;decide
 ·split at h
  ·rename_i e' he;simp only[Except.error.injEq] at h;subst h;exact Xc _ _ _ p e he
  ·rename_i l b hb;unfold Dc at h;simp only at h
   generalize hk:(if s.getD b 0=47 then 1 else 0:Nat)=k at h
   split at h
   ·simp only[Except.error.injEq,Prod.mk.injEq] at h;obtain⟨-,rfl⟩:=h;decide
   ·split at h
    ·simp only[Except.error.injEq,Prod.mk.injEq] at h;obtain⟨-,rfl⟩:=h;decide
    ·cases h
theorem ni {s:List UInt8}{t:Tok}{p:Nat}{e:Int}(h:IV s t=.error (p,e)):e≠0:=by
 unfold IV at h
 repeat' split at h
 all_goals first|(cases h;done)|(simp only[Except.error.injEq,Prod.mk.injEq] at h;obtain⟨-,rfl⟩:=h;decide)
theorem jc {s:List UInt8}{tag p:Nat}{e:Int}(h:CJ s tag=.error (p,e)):e≠0:=by
 unfold CJ at h;simp only at h
 repeat' split at h
 all_goals first|(cases h;done)|(simp only[Except.error.injEq,Prod.mk.injEq] at h;obtain⟨-,rfl⟩:=h;decide)
theorem kp {s:List UInt8}{a:Nat}{hid:Option Nat}{p:Nat}{e:Int}(h:DY s a hid=.error (p,e)):e≠0:=by
 unfold DY at h;split at h
 ·split at h
  ·rename_i e' he;simp only[Except.error.injEq] at h;subst h;exact kf he
  ·split at h
   ·rename_i e' he;simp only[Except.error.injEq] at h;subst h;exact ni he
   ·cases h
 ·split at h
  ·split at h
   ·rename_i e' he;simp only[Except.error.injEq] at h;subst h;exact jc he
   ·cases h
  ·repeat' split at h
   all_goals first|(cases h;done)|(simp only[Except.error.injEq,Prod.mk.injEq] at h;obtain⟨-,rfl⟩:=h;decide)
theorem Yz {s:List UInt8}:∀(f a:Nat) (hid:Option Nat) (p:Nat) (e:Int),DS s f a hid=.error (p,e)->e≠0
 |0,a,hid,p,e,h=>by cases h
 |f+1,a,hid,p,e,h=>by
  unfold DS at h;split at h
  ·split at h
   ·simp only[Except.error.injEq,Prod.mk.injEq] at h;obtain⟨-,rfl⟩:=h;decide
   ·cases h
  ·split at h
   ·split at h
    ·rename_i e' he;simp only[Except.error.injEq] at h;subst h;exact kp he
    ·split at h
     ·rename_i e' he;simp only[Except.error.injEq] at h;subst h;exact Yz f _ _ p e he
     ·cases h
   ·simp only at h;split at h
    ·rename_i e' he;simp only[Except.error.injEq] at h;subst h;exact Yz f _ _ p e he
    ·cases h
theorem gm {s:List UInt8}{p:Nat}{e:Int}(h:lexM s=.error (p,e)):e≠0:=Yz _ _ _ p e h
theorem Z8 {s:List UInt8}:∀(r:List Tok) (a:Nat) (prev:Option Tok) (hid:Bool),WG s a prev hid r->a<=s.length->r.length<=2*(s.length-a)\/((∃p,prev=some p/\p.kind=2)/\r.length<=2*(s.length-a)+1)
 |[],a,prev,hid,_,_=>.inl (by simp)
 |t::r,a,prev,hid,h,ha=>by
  obtain⟨h1,h2,h3,h4,h5,h6,h7,h8,h9,RM,tJ⟩:=h;have ih:=Z8 r t.to (some t) _ tJ h3;rw[List.length_cons]
  by_cases ht:t.text=[]
  ·have k:=h5 ht;refine .inr ⟨h7 k,?_⟩
   rcases ih with ih|⟨⟨p,hp,hk⟩,_⟩
   ·omega
   ·injection hp with hp;subst hp;rw[k] at hk;cases hk
  ·have:a<t.to:=by
    rcases Nat.lt_or_ge a t.to with q|q
    ·exact q
    ·exfalso;apply ht;rw[<-h4];unfold cut;rw[show t.to-a=0 by omega];rfl
   refine .inl ?_
   rcases ih with ih|⟨_,ih⟩<;>omega
theorem oG (n:Nat)(l:List Aj):AJ n (encAs l)=true:=by
 induction l with
 |nil=>rfl
 |cons a r ih=>show AJ n (Ao a::encAs r)=true;rw[AJ,ih];rfl
theorem gW (n:Nat)(l:List Tok):AJ n (encTs l)=true:=by
 induction l with
 |nil=>rfl
 |cons a r ih=>
  show AJ n (encT a::encTs r)=true;rw[AJ,ih];simp only[encT,CB,Eh,oG,Bool.and_true,Bool.true_and]
def fits (t:Tok):Prop:=(written t).length+t.fr<=t.to/\(t.attrs=[]\/t.kind=2\/t.kind=3)
theorem Z5 (l r:List Aj):(AN (l++r)).length=(AN l).length+(AN r).length:=by
 induction l with
 |nil=>simp[AN]
 |cons a l ih=>
  simp only[List.cons_append,AN,List.length_cons,List.length_append,ih];omega
theorem K5 (l r:List Aj):AN (l++r)=AN l++AN r:=by
 induction l with
 |nil=>rfl
 |cons a l ih=>simp[AN,ih]
theorem dv {s:List UInt8}{at' tag:Nat}{l:List Aj}{a:Aj}{b:Nat}(h:FM s at' tag l=.ok (a,b)):(AN [a]).length+at'<=b+1:=by
 unfold FM at h;simp only at h
 repeat' split at h
 all_goals try (cases h;done)
 simp only[Except.ok.injEq,Prod.mk.injEq] at h;obtain⟨rfl,rfl⟩:=h;simp only[AN,List.length_cons,List.length_append,List.length_take,List.length_nil];omega
theorem Rq {s:List UInt8}{tag:Nat}:∀(f at':Nat) (l l':List Aj) (b:Nat),at'<=s.length->A8 s tag f at' l=.ok (l',b)->(AN l').length+at'<=(AN l).length+b
 |0,at',l,l',b,_,h=>by cases h
 |f+1,at',l,l',b,ha,h=>by
  obtain⟨p1,p2⟩:=Hv ha;unfold A8 at h;simp only at h;split at h
  ·cases h
  ·split at h
   ·simp only[Except.ok.injEq,Prod.mk.injEq] at h;obtain⟨rfl,rfl⟩:=h;omega
   ·split at h
    ·cases h
    ·rename_i BO;split at h
     ·cases h
     ·rename_i a c hc;obtain⟨q1,q2⟩:=Rs hc;have h1:=dv hc;have h2:=Rq f c _ l' b q2 h;rw[Z5] at h2;omega
theorem cn {s:List UInt8}{tag:Nat}{t:Tok}(hl:tag+5<=s.length)(h:Gs s tag=.ok t):fits t:=by
 unfold Gs at h;simp only at h;split at h
 ·cases h
 ·have hn:=GW s (tag+5);split at h
  ·cases h
  ·rename_i l b hb
   have hlen:=Rq _ _ _ _ _ (by omega) hb
   simp only[AN,List.length_nil,Nat.zero_add] at hlen;unfold Dc at h;simp only at h
   generalize hk:(if s.getD b 0=47 then 1 else 0:Nat)=k at h
   split at h
   ·cases h
   ·split at h
    ·cases h
    ·simp only[Except.ok.injEq] at h;subst h
     refine⟨?_,.inr (by by_cases k1:k=1<;>simp[k1])⟩
     unfold written
     by_cases k1:k=1
     ·simp only[if_pos k1]
      rw[if_neg (by decide),if_neg (by decide),if_neg (by decide),if_pos trivial]
      simp only[List.length_append,List.length_take,List.length_drop,Al,List.length_cons,List.length_nil];omega
     ·simp only[if_neg k1]
      rw[if_neg (by decide),if_neg (by decide),if_pos trivial]
      simp only[List.length_append,List.length_take,List.length_drop,Al,List.length_cons,List.length_nil];omega
theorem Zq {s:List UInt8}{tag:Nat}{t:Tok}(hl:tag+6<=s.length)(h:CJ s tag=.ok t):fits t:=by
 unfold CJ at h;simp only at h;split at h
 ·cases h
 ·have hn:=GW s (tag+6)
  obtain⟨q1,q2⟩:=Hv (s:=s) (a:=tag+6+lets s (tag+6)) (by omega)
  split at h
  ·cases h
  ·split at h
   ·cases h
   ·simp only[Except.ok.injEq] at h;subst h;refine⟨?_,.inl rfl⟩;unfold written;rw[if_pos rfl];simp only[List.length_append,List.length_take,List.length_drop,Aa,List.length_cons,List.length_nil];omega
theorem c9 {s:List UInt8}{a:Nat}{hid hid2:Option Nat}{l:List Tok}(ha:a<s.length)(hs:spec s a hid.isSome=true)(h:DY s a hid=.ok (l,hid2)):∀t∈l,fits t:=by
 unfold DY at h;split at h
 ·rename_i ho
  have h5:=GM ho (by simp[Al])
  have e5:Al.length=5:=rfl;split at h
  ·cases h
  ·rename_i t ht;split at h
   ·cases h
   ·rename_i l2 dN;simp only[Except.ok.injEq,Prod.mk.injEq] at h;obtain⟨rfl,rfl⟩:=h
    have hf:=cn (by omega) ht
    rcases Pa dN with ⟨_,rfl⟩|⟨_,_,n,_,rfl⟩
    ·intro x hx;rw[List.mem_singleton] at hx;subst hx;exact hf
    ·intro x hx;simp only[List.mem_cons,List.not_mem_nil,or_false] at hx
     rcases hx with rfl|rfl
     ·exact hf
     ·refine⟨?_,.inl rfl⟩;unfold written
      rw[if_neg (by simp),if_neg (by simp),if_neg (by simp),if_neg (by simp)]
      simp only[List.length_take];omega
 ·rename_i ho;split at h
  ·rename_i hc
   have h6:=GM hc (by simp[Aa])
   have e6:Aa.length=6:=rfl;split at h
   ·cases h
   ·rename_i t ht;simp only[Except.ok.injEq,Prod.mk.injEq] at h;obtain⟨rfl,rfl⟩:=h;intro x hx;rw[List.mem_singleton] at hx;subst hx
    exact Zq (by omega) ht
  ·split at h
   ·split at h
    ·cases h
    ·simp only[Except.ok.injEq,Prod.mk.injEq] at h;obtain⟨rfl,rfl⟩:=h;intro x hx;rw[List.mem_singleton] at hx;subst hx;refine⟨?_,.inl rfl⟩;unfold written
     rw[if_neg (by simp),if_pos rfl]
     simp only[CX,List.length_append,List.length_cons,List.length_nil];omega
   ·simp only[Except.ok.injEq,Prod.mk.injEq] at h;obtain⟨rfl,rfl⟩:=h;intro x hx;rw[List.mem_singleton] at hx;subst hx;refine⟨?_,.inl rfl⟩;unfold written
    rw[if_neg (by simp),if_neg (by simp),if_neg (by simp),if_neg (by simp)]
    simp only[BM,List.length_cons,List.length_nil];omega
theorem Qz {s:List UInt8}:∀(f a:Nat) (hid:Option Nat) (l:List Tok),a<=s.length->DS s f a hid=.ok l->∀t∈l,fits t
 |0,a,hid,l,_,h=>by
  simp only[DS,Except.ok.injEq] at h;subst h;simp
 |f+1,a,hid,l,ha,h=>by
  unfold DS at h;split at h
  ·split at h
   ·cases h
   ·simp only[Except.ok.injEq] at h;subst h;simp
  ·rename_i BC;split at h
   ·rename_i hs;split at h
    ·cases h
    ·rename_i l1 hid2 hn;split at h
     ·cases h
     ·rename_i r hr;simp only[Except.ok.injEq] at h;subst h
      have h1:=c9 (by omega) hs hn
      intro t ht
      rcases List.mem_append.1 ht with ht|ht
      ·exact h1 t ht
      ·by_cases hle:Cs l1 (a+1)<=s.length
       ·exact Qz f _ _ r hle hr t ht
       ·cases f with
        |zero=>
         simp only[DS,Except.ok.injEq] at hr;subst hr;cases ht
        |succ g=>
         unfold DS at hr
         rw[if_pos (by omega)] at hr
         split at hr
         ·cases hr
         ·simp only[Except.ok.injEq] at hr;subst hr;cases ht
   ·simp only at h;split at h
    ·cases h
    ·rename_i r hr;simp only[Except.ok.injEq] at h;subst h
     obtain⟨t1,t2,_⟩:=IP (s:=s) (hid:=hid.isSome) (s.length-a) a (by omega) ha
     intro t ht
     rcases List.mem_cons.1 ht with rfl|ht
     ·refine⟨?_,.inl rfl⟩;unfold written
      rw[if_neg (by simp),if_neg (by simp),if_neg (by simp),if_neg (by simp)]
      simp only[cut,List.length_take];omega
     ·exact Qz f _ _ r t2 hr t ht
theorem Qy {s:List UInt8}{l:List Tok}(h:lexM s=.ok l):∀t∈l,fits t:=Qz _ _ _ l (by omega) h
theorem jy {s:List UInt8}:∀(r:List Tok) (a:Nat) (prev:Option Tok) (hid:Bool),WG s a prev hid r->(∀t∈r,fits t)->a<=s.length->(Bg r).length+a<=s.length
 |[],a,prev,hid,_,_,ha=>by simpa[Bg] using ha
 |t::r,a,prev,hid,h,hf,ha=>by
  obtain⟨h1,h2,h3,h4,h5,h6,h7,h8,h9,RM,tJ⟩:=h
  have ih:=jy r t.to (some t) _ tJ (fun x hx=>hf x (by simp[hx])) h3
  have:=(hf t (by simp)).1
  rw[Bg,List.length_append];omega
theorem IZ (l r:List Tok):Bg (l++r)=Bg l++Bg r:=by
 induction l with
 |nil=>rfl
 |cons a l ih=>simp[Bg,ih]
theorem VR (l:List Aj):l.length<=(AN l).length:=by
 induction l with
 |nil=>simp
 |cons a l ih=>simp only[AN,List.length_cons,List.length_append];omega
theorem RR {t:Tok}(h:fits t):t.attrs.length<=(written t).length:=by
 have:=VR t.attrs
 rcases h.2 with h|h|h
 ·rw[h];simp
 ·unfold written
  rw[if_neg (by omega),if_neg (by omega),if_pos h]
  simp only[List.length_append];omega
 ·unfold written
  rw[if_neg (by omega),if_neg (by omega),if_neg (by omega),if_pos h]
  simp only[List.length_append];omega
end Go.Ai.Ex
end
section
namespace Go.Ai.Ex
open Go.Ai
variable {x a c:List UInt8}
end Go.Ai.Ex
end
section
namespace Go.Ai.Ex
open Go.Ai
variable {x a c:List UInt8}
end Go.Ai.Ex
end
