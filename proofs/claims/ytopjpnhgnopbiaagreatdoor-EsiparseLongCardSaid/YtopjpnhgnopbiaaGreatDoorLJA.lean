/-
  Pieces of a page's text, in plain terms, and the laws of them that the row wants. No statement about the program is made here.
-/
import Derived.Test.YtopjpnhgnopbiaaGreatDoorLAiLaw
import Derived.Test.YtopjpnhgnopbiaaGreatDoorLAiSymP
import Derived.Test.YtopjpnhgnopbiaaGreatDoorLAiPrims
set_option linter.unusedVariables false
set_option linter.unusedSimpArgs false
set_option linter.unnecessarySimpa false
section
namespace Go.Ai.Ex
open Go.Ai Go.RowKit
def CY (x:List UInt8):List UInt8->Option Nat
 |[]=>if x.isEmpty=true then some 0 else none
 |c::r=>if x.isPrefixOf (c::r)=true then some 0 else(CY x r).map (·+ 1)
def Rl (c:UInt8):Bool:=decide (97<=c.toNat)&&decide (c.toNat<=122)
def blB (c:UInt8):Bool:=c==32||c==9||c==10||c==13
def Al :List UInt8:=[60,101,115,105,58]
def Af :List UInt8:=[60,47,101,115,105,58]
def ET :List UInt8:=[60,33,45,45,101,115,105]
def Bq :List UInt8:=[45,45,62]
def BE :List UInt8:=[114,101,109,111,118,101]
def Cp :List UInt8:=[105,110,108,105,110,101]
def KD :List (List UInt8):=[[105,110,99,108,117,100,101],Cp,BE,[99,111,109,109,101,110,116],[116,114,121],[97,116,116,101,109,112,116],[101,120,99,101,112,116],[99,104,111,111,115,101],[119,104,101,110],
 [111,116,104,101,114,119,105,115,101],[118,97,114,115]]
def Bk (n:List UInt8):Bool:=KD.any (·==n)
def lets (s:List UInt8)(at':Nat):Nat:=((s.drop at').takeWhile Rl).length
def past (s:List UInt8)(at':Nat):Nat:=at'+((s.drop at').takeWhile blB).length
def has (s x:List UInt8)(at':Nat):Bool:=x.isPrefixOf (s.drop at')
structure A9 where
 name:List UInt8
 value:List UInt8
 at':Nat
structure Tok where
 kind:Int
 name:List UInt8
 attrs:List A9
 text:List UInt8
 fr:Nat
 to:Nat
def Ao (a:A9):List AV:=[.str a.name,.str a.value,.int .i64 a.at']
def encAs (l:List A9):List (List AV):=l.map Ao
def encT (t:Tok):List AV:=[.int .i64 t.kind,.str t.name,.sl 3 (encAs t.attrs) none,.str t.text,.int .i64 t.fr,.int .i64 t.to]
def encTs (l:List Tok):List (List AV):=l.map encT
abbrev TG :=Nat×Int
def cut (s:List UInt8)(a b:Nat):List UInt8:=(s.drop a).take (b-a)
def DG (s:List UInt8)(at' tag:Nat)(l:List A9):Except TG (A9×Nat):=
 let n:=min (lets s at') 16
 let nm:=(s.drop at').take n
 let i:=at'+n
 if l.any (fun a=>nm==a.name)=true then .error (at',12) else
 if s.length<=i then .error (tag,14) else
 if n=0\/s.getD i 0≠61 then .error (i,12) else
 if s.length<=i+1 then .error (tag,14) else
 if s.getD (i+1) 0≠34/\s.getD (i+1) 0≠39 then .error (i+1,12) else
 match CY [s.getD (i+1) 0] (s.drop (i+2)) with
 |none=>.error (tag,14)
 |some k=>.ok (⟨nm,(s.drop (i+2)).take k,at'⟩,i+2+k+1)
def A8 (s:List UInt8)(tag:Nat):Nat->Nat->List A9->Except TG (List A9×Nat)
 |0,at',l=>.error (tag,14)
 |f+1,at',l=>
  let next:=past s at'
  if s.length<=next then .error (tag,14) else
  if s.getD next 0=62\/s.getD next 0=47 then .ok (l,next) else
  if next=at' then .error (at',12) else
  match DG s next tag l with
  |.error e=>.error e
  |.ok (a,b)=>A8 s tag f b (l++[a])
def CW (s:List UInt8)(tag:Nat)(nm:List UInt8)(l:List A9)(at':Nat):Except TG Tok:=
 let k:=if s.getD at' 0=47 then 1 else 0
 if s.length<=at'+k then .error (tag,14) else
 if s.getD (at'+k) 0≠62 then .error (at'+k,12) else
 .ok ⟨if k=1 then 3 else 2,nm,l,cut s tag (at'+k+1),tag,at'+k+1⟩
def Di (s:List UInt8)(tag:Nat):Except TG Tok:=
 let n:=lets s (tag+5)
 let nm:=(s.drop (tag+5)).take n
 if Bk nm=false then .error (tag,11) else
 match A8 s tag (s.length+1) (tag+5+n) [] with
 |.error e=>.error e
 |.ok (l,b)=>CW s tag nm l b
def Fg (s:List UInt8)(t:Tok):Except TG (List Tok):=
 if t.kind=2/\(t.name=BE\/t.name=Cp) then
  match CY (Af++t.name) (s.drop t.to) with
  |none=>.error (t.fr,14)
  |some n=>match CY Al ((s.drop t.to).take n),decide (t.name=BE) with
   |some k,true=>.error (t.to+k,13)
   |_,_=>.ok [t,⟨7,[],[],(s.drop t.to).take n,t.to,t.to+n⟩]
 else .ok [t]
def BW (s:List UInt8)(tag:Nat):Except TG Tok:=
 let n:=lets s (tag+6)
 let nm:=(s.drop (tag+6)).take n
 if Bk nm=false then .error (tag,11) else
 let b:=past s (tag+6+n)
 if s.length<=b then .error (tag,14) else
 if s.getD b 0≠62 then .error (tag,11) else
 .ok ⟨4,nm,[],cut s tag (b+1),tag,b+1⟩
def C6 (s:List UInt8)(at':Nat):Bool:=has s ET at'&&(decide (at'+7<s.length)&&blB (s.getD (at'+7) 0))
def spec (s:List UInt8)(at':Nat)(hid:Bool):Bool:=has s Al at'||(has s Af at'||(C6 s at'||(has s Bq at'&&hid)))
def CH (s:List UInt8)(at':Nat)(hid:Option Nat):Except TG (List Tok×Option Nat):=
 if has s Al at'=true then
  match Di s at' with
  |.error e=>.error e
  |.ok t=>match Fg s t with
   |.error e=>.error e
   |.ok l=>.ok (l,hid)
 else if has s Af at'=true then
  match BW s at' with
  |.error e=>.error e
  |.ok t=>.ok ([t],hid)
 else if C6 s at'=true then
  (if hid.isSome=true then .error (at',13) else .ok ([⟨5,[],[],cut s at' (at'+8),at',at'+8⟩],some at'))
 else .ok ([⟨6,[],[],Bq,at',at'+3⟩],none)
def BN (s:List UInt8)(hid:Bool):Nat->Nat->Nat
 |0,at'=>at'
 |f+1,at'=>if s.length<=at'\/spec s at' hid=true then at' else BN s hid f (at'+1)
def Bd (l:List Tok)(d:Nat):Nat:=match l.getLast? with
 |some t=>t.to
 |none=>d
def Ce (s:List UInt8):Nat->Nat->Option Nat->Except TG (List Tok)
 |0,_,_=>.ok []
 |f+1,at',hid=>
  if s.length<=at' then(match hid with|some h=>.error (h,14)|none=>.ok []) else
  if spec s at' hid.isSome=true then
   match CH s at' hid with
   |.error e=>.error e
   |.ok (l,Eg)=>match Ce s f (Bd l (at'+1)) Eg with
    |.error e=>.error e
    |.ok r=>.ok (l++r)
  else
   let to:=BN s hid.isSome (s.length-at') at'
   match Ce s f to hid with
   |.error e=>.error e
   |.ok r=>.ok (⟨1,[],[],cut s at' to,at',to⟩::r)
def lexM (s:List UInt8):Except TG (List Tok):=Ce s (s.length+1) 0 none
def DV :GD:=fun k vs=>match Nat.beq k 39,vs with
 |true,[.int .i64 p,.int .i64 e]=>some (p,e)
 |_,_=>none
def hX (s:List UInt8)(at':Int)(L:List (List AV))(hid:Int):Hp:=
 [.grow 0 6 50,.mem 41 [.sl 6 [] (some 0)],.mem 3 [.int .i64 0],.mem 27 [.int .i64 0],.grow L.length 6 50,.mem 89 [.str s,.int .i64 at',.sl 6 L (some 4),.int .i64 hid]]
def rT (k:Int)(nm:List UInt8)(es:List (List AV)):Hp:=[.grow es.length 3 80,.grow 0 3 80,.mem 50 [.int .i64 k,.str nm,.sl 3 es (some 6),.str [],.int .i64 0,.int .i64 0]]
def NZ (s:List UInt8)(at':Int)(L:List (List AV))(hid k:Int)(nm:List UInt8)(es:List (List AV)):Hp:=[.grow 0 6 50,.mem 41 [.sl 6 [] (some 0)],.mem 3 [.int .i64 0],.mem 27 [.int .i64 0],.grow L.length 6 50,.mem 89 [.str s,.int .i64 at',.sl 6 L (some 4),.int .i64 hid],
 .grow es.length 3 80,.grow 0 3 80,.mem 50 [.int .i64 k,.str nm,.sl 3 es (some 6),.str [],.int .i64 0,.int .i64 0]]
def uH (s:List UInt8)(at':Int)(L:List (List AV))(hid k:Int)(nm:List UInt8)(es:List (List AV)):Hp:=[.grow 0 6 50,.mem 41 [.sl 6 [] (some 0)],.mem 3 [.int .i64 0],.mem 27 [.int .i64 0],.grow L.length 6 50,.mem 89 [.str s,.int .i64 at',.sl 6 L (some 4),.int .i64 hid],
 .grow es.length 3 80,.grow 0 3 80,.mem 50 [.int .i64 k,.str nm,.sl 3 es (some 6),.str [],.int .i64 0,.int .i64 0],.mem 80 [.str [],.str [],.int .i64 0]]
def dz (s:List UInt8)(at':Int)(L:List (List AV))(hid k:Int)(nm:List UInt8)(es:List (List AV))(an av:List UInt8)(aa:Int):Hp:=[.grow 0 6 50,.mem 41 [.sl 6 [] (some 0)],.mem 3 [.int .i64 0],.mem 27 [.int .i64 0],.grow L.length 6 50,.mem 89 [.str s,.int .i64 at',.sl 6 L (some 4),.int .i64 hid],
 .grow es.length 3 80,.grow 0 3 80,.mem 50 [.int .i64 k,.str nm,.sl 3 es (some 6),.str [],.int .i64 0,.int .i64 0],.mem 80 [.str [],.str [],.int .i64 0],.mem 80 [.str an,.str av,.int .i64 aa]]
def rB (k:Int)(nm:List UInt8)(es:List (List AV)):Hp:=rT k nm es++[.mem 80 [.str [],.str [],.int .i64 0]]
def rA (k:Int)(nm:List UInt8)(es:List (List AV))(an av:List UInt8)(aa:Int):Hp:=rT k nm es++[.mem 80 [.str [],.str [],.int .i64 0],.mem 80 [.str an,.str av,.int .i64 aa]]
def hG (s:List UInt8)(at':Int)(L:List (List AV))(hid:Int):Hp:=[.grow 0 6 50,.mem 41 [.sl 6 [] (some 0)],.mem 3 [.int .i64 0],.mem 27 [.int .i64 0],.grow L.length 6 50,.mem 89 [.str s,.int .i64 at',.sl 6 L (some 4),.int .i64 hid],.grow 0 3 80]
def mJ (s:List UInt8)(at':Int)(L:List (List AV))(hid k:Int)(nm:List UInt8)(es:List (List AV)):Hp:=[.grow 0 6 50,.mem 41 [.sl 6 [] (some 0)],.mem 3 [.int .i64 0],.mem 27 [.int .i64 0],.grow L.length 6 50,.mem 89 [.str s,.int .i64 at',.sl 6 L (some 4),.int .i64 hid],
 .grow es.length 3 80,.grow 0 3 80,.mem 50 [.int .i64 k,.str nm,.sl 3 es (some 6),.str [],.int .i64 0,.int .i64 0],.grow 0 3 80]
def _root_.Ak.EE (r:Hp)(L:List (List AV)):Prop:=∀(n:Nat) (g:Hp),6+r.length<=n->r.map (AN n g)=r/\AB n g L=L
def limE :Nat:=1000000
def I8 (r:Hp)(s:List UInt8)(KP:PX->Hp->Prop)(x:PX):Prop:=∀(a:Int) (L:List (List AV)) (hid:Int),KP x (hX s a L hid++r)
def Ch :H9:=fun vs h K KP=>∃p e:Int,vs=[.int .i64 p,.int .i64 e]/\KP (p,e) h
def Fv :Ci:=fun vs h K=>∃c:UInt8,vs=[.int .u8 c.toNat]/\K (.bool (Rl c)) h
def E6 :Ci:=fun vs h K=>∃c:UInt8,vs=[.int .u8 c.toNat]/\K (.bool (blB c)) h
def Th :Ci:=fun vs h K=>∃s x:List UInt8,vs=[.str s,.str x]/\K (.bool (x.isPrefixOf s)) h
def kQ :Ci:=fun vs h K=>∃s x:List UInt8,s.length<=limE/\vs=[.str s,.str x]/\K (.int .i64 (IQ s x 0)) h
def ZT :Ci:=fun vs h K=>∃(s:List UInt8) (c:UInt8),s.length<=limE/\vs=[.str s,.int .u8 c.toNat]/\K (.int .i64 (Lib.indexByte s c)) h
def Sf :Ci:=fun vs h K=>∃s:List UInt8,vs=[.str s]/\s=[105,110,99,108,117,100,101,32,105,110,108,105,110,101,32,114,101,109,111,118,101,32,99,111,109,109,101,110,116,32,116,114,121,32,97,116,116,101,109,112,116,32,101,120,99,101,112,116,32,99,104,111,111,115,101,32,119,104,101,110,32,111,116,104,101,114,119,105,115,101,32,118,97,114,115]/\K (.sl 1 (KD.map fun n=>[.str n]) none) h
def kT :Ci:=fun vs h K=>∃(l:List (List UInt8)) (x:List UInt8),vs=[.sl 1 (l.map fun n=>[.str n]) none,.str x]/\l.length<=limE/\K (.bool (l.any (·==x))) h
def dE :Ci:=fun vs h K=>∃(l:List (List UInt8)) (x:List UInt8),vs=[.sl 1 (l.map fun n=>[.str n]) none,.str x]/\l.length<=limE/\∀z:Int,decide (z>=0)=(l.any (·==x))->K (.int .i64 z) h
def HP :H9:=fun vs h K KP=>∃(r:Hp) (s:List UInt8) (a:Nat) (L:List (List AV)) (hid tag:Int),Ak.EE r L/\a<=s.length/\s.length<=limE/\vs=[.ptr 5 0,.int .i64 tag]/\h=hX s a L hid++r/\
 (a=s.length->KP (tag,14) h)/\(a<s.length->K (.int .u8 (s.getD a 0).toNat) h)
def aL :Ci:=fun vs h K=>∃(s:List UInt8) (a:Nat) (L:List (List AV)) (hid:Int),Ak.EE [] L/\a<=s.length/\s.length<=limE/\vs=[.ptr 5 0]/\h=hX s a L hid/\K (.str ((s.drop a).take (lets s a))) (hX s ((a+lets s a:Nat):Int) L hid)
def nF :Ci:=fun vs h K=>∃(r:Hp) (s:List UInt8) (a:Nat) (L:List (List AV)) (hid:Int),Ak.EE r L/\a<=s.length/\s.length<=limE/\vs=[.ptr 5 0]/\h=hX s a L hid++r/\K (.int .i64 ((past s a-a:Nat):Int)) (hX s ((past s a:Nat):Int) L hid++r)
def Om :H9:=fun vs h K KP=>∃(s:List UInt8) (a:Nat) (L:List (List AV)) (hid tag:Int),Ak.EE [] L/\a<=s.length/\s.length<=limE/\vs=[.ptr 5 0,.int .i64 tag]/\h=hX s a L hid/\
 (Bk ((s.drop a).take (lets s a))=false->I8 [] s KP (tag,11))/\(Bk ((s.drop a).take (lets s a))=true->K (.str ((s.drop a).take (lets s a))) (hX s ((a+lets s a:Nat):Int) L hid))
def nZ :H9:=fun vs h K KP=>∃(r:Hp) (s:List UInt8) (a:Nat) (L:List (List AV)) (hid tag:Int) (is:Bool),Ak.EE r L/\a<=s.length/\s.length<=limE/\vs=[.ptr 5 0,.int .i64 tag,.bool is]/\h=hX s a L hid++r/\
 (a=s.length->KP (tag,14) h)/\(a<s.length->is=false->KP ((a:Int),12) h)/\(a<s.length->is=true->K (.tup []) (hX s ((a+1:Nat):Int) L hid++r))
def Rm :Ci:=fun vs h K=>∃(s:List UInt8) (a:Int) (L:List (List AV)) (hid k:Int) (nm:List UInt8) (es:List (List AV)) (an av:List UInt8) (aa:Int) (b:A9),Ak.EE (rA k nm es an av aa) L/\vs=[.agg (Ao b),.ptr 10 0]/\h=dz s a L hid k nm es an av aa/\K (.bool (an==b.name)) h
def eQ :Ci:=fun vs h K=>∃(s:List UInt8) (a:Int) (L:List (List AV)) (hid k:Int) (nm:List UInt8) (l:List A9) (an av:List UInt8) (aa:Int),Ak.EE (rA k nm (encAs l) an av aa) L/\vs=[.sl 3 (encAs l) (some 6),.fn (.func 119) [] [.ptr 10 0]]/\l.length<=limE/\
 h=dz s a L hid k nm (encAs l) an av aa/\K (.bool (l.any fun b=>an==b.name)) h
def jY :Ci:=fun vs h K=>∃(s:List UInt8) (a:Int) (L:List (List AV)) (hid k:Int) (nm:List UInt8) (l:List A9) (an av:List UInt8) (aa:Int),Ak.EE (rA k nm (encAs l) an av aa) L/\vs=[.sl 3 (encAs l) (some 6),.fn (.func 119) [] [.ptr 10 0]]/\l.length<=limE/\
 h=dz s a L hid k nm (encAs l) an av aa/\∀z:Int,decide (z>=0)=(l.any fun b=>an==b.name)->K (.int .i64 z) h
def VE :H9:=fun vs h K KP=>∃(s:List UInt8) (a:Nat) (L:List (List AV)) (hid tag k:Int) (tg:Nat) (nm:List UInt8) (l:List A9),Ak.EE (rT k nm (encAs l)) L/\a<=s.length/\s.length<=limE/\l.length<=limE/\tag=(tg:Int)/\vs=[.ptr 5 0,.int .i64 tag,.sl 3 (encAs l) (some 6)]/\h=NZ s a L hid k nm (encAs l)/\
 (∀p e,DG s a tg l=.error (p,e)->I8 (rT k nm (encAs l)) s KP ((p:Int),e))/\(∀at' b,DG s a tg l=.ok (at',b)->K (.agg (Ao at')) (NZ s (b:Nat) L hid k nm (encAs l)))
def OK :Ci:=fun vs h K=>∃(s:List UInt8) (a:Nat) (L:List (List AV)) (hid k:Int) (nm:List UInt8) (l:List A9),Ak.EE (rT k nm (encAs l)) L/\a<=s.length/\s.length<=limE/\vs=[.ptr 5 0]/\h=NZ s a L hid k nm (encAs l)/\K (.int .i64 ((past s a-a:Nat):Int)) (NZ s ((past s a:Nat):Int) L hid k nm (encAs l))
def T9 :H9:=fun vs h K KP=>∃(s:List UInt8) (a:Nat) (L:List (List AV)) (hid k tag:Int) (nm:List UInt8) (l:List A9) (is:Bool),Ak.EE (rT k nm (encAs l)) L/\a<=s.length/\s.length<=limE/\vs=[.ptr 5 0,.int .i64 tag,.bool is]/\h=NZ s a L hid k nm (encAs l)/\
 (a=s.length->KP (tag,14) h)/\(a<s.length->is=false->KP ((a:Int),12) h)/\(a<s.length->is=true->K (.tup []) (NZ s ((a+1:Nat):Int) L hid k nm (encAs l)))
def UA :H9:=fun vs h K KP=>∃(s:List UInt8) (a:Nat) (L:List (List AV)) (hid k tag:Int) (nm:List UInt8) (l:List A9) (an av:List UInt8) (aa:Int) (is:Bool),Ak.EE (rA k nm (encAs l) an av aa) L/\a<=s.length/\s.length<=limE/\vs=[.ptr 5 0,.int .i64 tag,.bool is]/\h=dz s a L hid k nm (encAs l) an av aa/\
 (a=s.length->KP (tag,14) h)/\(a<s.length->is=false->KP ((a:Int),12) h)/\(a<s.length->is=true->K (.tup []) (dz s ((a+1:Nat):Int) L hid k nm (encAs l) an av aa))
def row (k:Int)(nm:List UInt8)(es:List (List AV))(own:Option Nat)(t:List UInt8)(fr to:Int):List AV:=[.int .i64 k,.str nm,.sl 3 es own,.str t,.int .i64 fr,.int .i64 to]
def RY :Ci:=fun vs h K=>∃(s:List UInt8) (a fr:Nat) (L:List (List AV)) (hid k:Int),Ak.EE [.grow 0 3 80] L/\a<=s.length/\s.length<=limE/\fr<=a/\L.length<=limE/\
 vs=[.ptr 5 0,.agg [.int .i64 k,.str [],.sl 3 [] (some 6),.str [],.int .i64 0,.int .i64 0],.int .i64 fr]/\h=hG s a L hid/\K (.tup []) (hG s a (L++[row k [] [] (some 6) (cut s fr a) fr a]) hid)
def Pw :Ci:=fun vs h K=>∃(s:List UInt8) (a fr:Nat) (L:List (List AV)) (hid k:Int) (nm:List UInt8) (l:List A9),Ak.EE (rT k nm (encAs l)) L/\a<=s.length/\s.length<=limE/\fr<=a/\L.length<=limE/\
 vs=[.ptr 5 0,.agg [.int .i64 k,.str nm,.sl 3 (encAs l) (some 6),.str [],.int .i64 0,.int .i64 0],.int .i64 fr]/\h=NZ s a L hid k nm (encAs l)/\K (.tup []) (NZ s a (L++[row k nm (encAs l) (some 6) (cut s fr a) fr a]) hid k nm (encAs l))
def fS :Ci:=fun vs h K=>∃(s:List UInt8) (a fr:Nat) (L:List (List AV)) (hid k:Int) (nm:List UInt8) (l:List A9),Ak.EE (rT k nm (encAs l)++[.grow 0 3 80]) L/\a<=s.length/\s.length<=limE/\fr<=a/\L.length<=limE/\
 vs=[.ptr 5 0,.agg [.int .i64 7,.str [],.sl 3 [] (some 9),.str [],.int .i64 0,.int .i64 0],.int .i64 fr]/\h=mJ s a L hid k nm (encAs l)/\K (.tup []) (mJ s a (L++[row 7 [] [] (some 9) (cut s fr a) fr a]) hid k nm (encAs l))
def Tf :H9:=fun vs h K KP=>∃(s:List UInt8) (a tag:Nat) (L:List (List AV)) (hid k:Int) (nm:List UInt8) (l:List A9),Ak.EE (rT k nm (encAs l)) L/\a<=s.length/\s.length<=limE/\L.length<=limE/\nm.length<=limE/\
 vs=[.ptr 5 0,.str nm,.int .i64 tag]/\h=NZ s a L hid k nm (encAs l)/\
 (CY (Af++nm) (s.drop a)=none->I8 (rT k nm (encAs l)) s KP ((tag:Int),14))/\
 (∀n,CY (Af++nm) (s.drop a)=some n->(∀j,CY Al ((s.drop a).take n)=some j->nm=BE->I8 (rT k nm (encAs l)) s KP (((a+j:Nat):Int),13))/\
  ((CY Al ((s.drop a).take n)=none\/nm≠BE)->K (.tup []) (NZ s ((a+n:Nat):Int) (L++[row 7 [] [] none ((s.drop a).take n) a ((a+n:Nat):Int)]) hid k nm (encAs l))))
def Kt (s:List UInt8)(a:Nat):Except TG (List Tok):=match Di s a with
 |.error e=>.error e
 |.ok t=>Fg s t
def Oe :H9:=fun vs h K KP=>∃(s:List UInt8) (a:Nat) (l:List Tok) (hid:Int),has s Al a=true/\a<=s.length/\s.length<=limE/\l.length<s.length/\vs=[.ptr 5 0]/\h=hX s a (encTs l) hid/\
 (∀p e,Kt s a=.error (p,e)->I8 [] s KP ((p:Int),e))/\(∀ts,Kt s a=.ok ts->K (.tup []) (hX s ((Bd ts (a+1):Nat):Int) (encTs (l++ts)) hid))
def LN :H9:=fun vs h K KP=>∃(s:List UInt8) (a:Nat) (l:List Tok) (hid:Int),has s Af a=true/\a<=s.length/\s.length<=limE/\l.length<=s.length/\vs=[.ptr 5 0]/\h=hX s a (encTs l) hid/\
 (∀p e,BW s a=.error (p,e)->I8 [] s KP ((p:Int),e))/\(∀t,BW s a=.ok t->K (.tup []) (hX s (t.to:Nat) (encTs (l++[t])) hid))
def PG :H9:=fun vs h K KP=>∃(s:List UInt8) (a:Nat) (l:List Tok) (hid:Int),a+8<=s.length/\s.length<=limE/\l.length<=s.length/\vs=[.ptr 5 0]/\h=hX s a (encTs l) hid/\
 (0<=hid->I8 [] s KP ((a:Int),13))/\(hid<0->K (.tup []) (hX s ((a+8:Nat):Int) (encTs (l++[⟨5,[],[],cut s a (a+8),a,a+8⟩])) a))
def OL :Ci:=fun vs h K=>∃(s:List UInt8) (a:Nat) (l:List Tok) (hid:Int),a+3<=s.length/\s.length<=limE/\l.length<=s.length/\vs=[.ptr 5 0]/\h=hX s a (encTs l) hid/\
 K (.tup []) (hX s ((a+3:Nat):Int) (encTs (l++[⟨6,[],[],cut s a (a+3),a,a+3⟩])) (-1))
def DI (s:List UInt8)(fr a:Nat):List Tok:=if fr<a then [⟨1,[],[],cut s fr a,fr,a⟩] else []
def OB :Ci:=fun vs h K=>∃(s:List UInt8) (fr a:Nat) (l:List Tok) (hid:Int),fr<=a/\a<=s.length/\s.length<=limE/\l.length<=s.length/\vs=[.ptr 5 0,.int .i64 fr]/\h=hX s a (encTs l) hid/\
 K (.tup []) (hX s a (encTs (l++DI s fr a)) hid)
def RB (s:List UInt8)(a:Nat)(hid:Bool):AV:=
 if has s Al a=true then .fn (.func 56) [.ptr 5 0] [] else if has s Af a=true then .fn (.func 57) [.ptr 5 0] [] else if C6 s a=true then .fn (.func 59) [.ptr 5 0] [] else if(has s Bq a&&hid)=true then .fn (.func 60) [.ptr 5 0] [] else .GX
def oy :Ci:=fun vs h K=>∃(s:List UInt8) (a:Nat) (l:List Tok) (hid:Int),a<=s.length/\s.length<=limE/\vs=[.ptr 5 0]/\h=hX s a (encTs l) hid/\K (RB s a (decide (0<=hid))) h
def EA (s:List UInt8)(a:Nat)(hid:Bool):Nat:=if has s Al a=true then 1 else if has s Af a=true then 2 else if C6 s a=true then 3 else if(has s Bq a&&hid)=true then 4 else 0
def PS :Ci:=fun vs h K=>∃(s:List UInt8) (a:Nat) (l:List Tok) (hid:Int),a<=s.length/\s.length<=limE/\vs=[.ptr 5 0]/\h=hX s a (encTs l) hid/\
 (EA s a (decide (0<=hid))=0->K .GX h)/\(EA s a (decide (0<=hid))=1->K (.fn (.func 56) [.ptr 5 0] []) h)/\(EA s a (decide (0<=hid))=2->K (.fn (.func 57) [.ptr 5 0] []) h)/\
 (EA s a (decide (0<=hid))=3->K (.fn (.func 59) [.ptr 5 0] []) h)/\(EA s a (decide (0<=hid))=4->K (.fn (.func 60) [.ptr 5 0] []) h)
def Ks (t:Tok):Bool:=t.kind==2&&(t.name==BE||t.name==Cp)
def WG (s:List UInt8):Nat->Option Tok->Bool->List Tok->Prop
 |at',_,hid,[]=>at'=s.length/\hid=false
 |at',prev,hid,t::r=>t.fr=at'/\at'<=t.to/\t.to<=s.length/\cut s at' t.to=t.text/\(t.text=[]->t.kind=7)/\
   (Ks t=true->∃a b q,r=a::b::q/\a.kind=7/\b.kind=4/\b.name=t.name)/\
   (t.kind=7->∃p,prev=some p/\p.kind=2)/\(t.kind=1->∀p,prev=some p->p.kind≠1)/\
   (t.kind=5->hid=false)/\(t.kind=6->hid=true)/\
   WG s t.to (some t) (if t.kind=5 then true else if t.kind=6 then false else hid) r
theorem aR {p:UInt8->Bool}(l:List UInt8):(l.takeWhile p).length<=l.length:=(List.takeWhile_prefix p).length_le
theorem EM {s:List UInt8}{a:Nat}(h:a<=s.length):a<=past s a/\past s a<=s.length:=by
 unfold past;have:=aR (p:=blB) (s.drop a);rw[List.length_drop] at this;omega
theorem C8 (s:List UInt8)(a:Nat):lets s a<=s.length-a:=by
 unfold lets;have:=aR (p:=Rl) (s.drop a)
 rwa [List.length_drop] at this
theorem HF {x:List UInt8}:∀{s:List UInt8} {n:Nat},CY x s=some n->n+x.length<=s.length
 |[],n,h=>by
  unfold CY at h;split at h
  ·rename_i hx
   have:x=[]:=by simpa using hx
   subst this;simp at h;subst h;simp
  ·cases h
 |c::r,n,h=>by
  unfold CY at h;split at h
  ·rename_i hx
   injection h with h;subst h
   have:=(List.isPrefixOf_iff_prefix.1 hx).length_le;simpa using this
  ·cases hr:CY x r with
   |none=>rw[hr] at h;cases h
   |some m=>
    rw[hr] at h;simp only[Option.map_some,Option.some.injEq] at h;have:=HF hr;simp only[List.length_cons];omega
theorem DD {s x:List UInt8}{a:Nat}(h:has s x a=true)(hx:x≠[]):a+x.length<=s.length:=by
 have h1:=(List.isPrefixOf_iff_prefix.1 h).length_le;rw[List.length_drop] at h1;have:0<x.length:=List.length_pos_iff.2 hx;omega
theorem LU {s:List UInt8}{at' tag:Nat}{l:List A9}{a:A9}{b:Nat}(h:DG s at' tag l=.ok (a,b)):at'<b/\b<=s.length:=by
 unfold DG at h;simp only at h
 repeat' split at h
 all_goals try (cases h;done)
 rename_i k hk;simp only[Except.ok.injEq,Prod.mk.injEq] at h;obtain⟨_,rfl⟩:=h;have:=HF hk;simp only[List.length_singleton,List.length_drop] at this;omega
theorem MY {s:List UInt8}{tag:Nat}:∀(f at':Nat) (l l':List A9) (b:Nat),at'<=s.length->A8 s tag f at' l=.ok (l',b)->at'<=b/\b<s.length
 |0,at',l,l',b,_,h=>by cases h
 |f+1,at',l,l',b,ha,h=>by
  obtain⟨p1,p2⟩:=EM ha;unfold A8 at h;simp only at h;split at h
  ·cases h
  ·split at h
   ·simp only[Except.ok.injEq,Prod.mk.injEq] at h;obtain⟨_,rfl⟩:=h;omega
   ·split at h
    ·cases h
    ·split at h
     ·cases h
     ·rename_i a c hc;obtain⟨q1,q2⟩:=LU hc;obtain⟨q3,q4⟩:=MY f c _ l' b q2 h;omega
theorem QY {s:List UInt8}{tag at':Nat}{nm:List UInt8}{l:List A9}{t:Tok}(h:CW s tag nm l at'=.ok t):
  (t.kind=2\/t.kind=3)/\t.name=nm/\t.fr=tag/\t.text=cut s tag t.to/\at'<t.to/\t.to<=s.length:=by
 unfold CW at h;simp only at h
 generalize hk:(if s.getD at' 0=47 then 1 else 0:Nat)=k at h
 split at h
 ·cases h
 ·split at h
  ·cases h
  ·simp only[Except.ok.injEq] at h;subst h
   refine⟨?_,rfl,rfl,rfl,by simp only;omega,by simp only;omega⟩
   simp only;split
   ·exact .inr rfl
   ·exact .inl rfl
theorem Ku {s:List UInt8}{tag:Nat}{t:Tok}(hl:tag+5<=s.length)(h:Di s tag=.ok t):(t.kind=2\/t.kind=3)/\t.fr=tag/\t.text=cut s tag t.to/\tag<t.to/\t.to<=s.length:=by
 unfold Di at h;simp only at h;split at h
 ·cases h
 ·have hn:=C8 s (tag+5);split at h
  ·cases h
  ·rename_i l b hb
   obtain⟨q1,q2⟩:=MY _ _ _ _ _ (by omega) hb
   obtain⟨k1,k2,k3,k4,k5,k6⟩:=QY h
   exact⟨k1,k3,k4,by omega,k6⟩
theorem GO {s:List UInt8}{tag:Nat}{t:Tok}(hl:tag+6<=s.length)(h:BW s tag=.ok t):t.kind=4/\t.name=(s.drop (tag+6)).takeWhile Rl/\Bk t.name=true/\t.fr=tag/\t.text=cut s tag t.to/\tag<t.to/\t.to<=s.length:=by
 unfold BW at h;simp only at h;split at h
 ·cases h
 ·rename_i oO;have hn:=C8 s (tag+6)
  obtain⟨q1,q2⟩:=EM (s:=s) (a:=tag+6+lets s (tag+6)) (by omega)
  split at h
  ·cases h
  ·split at h
   ·cases h
   ·simp only[Except.ok.injEq] at h;subst h
    refine⟨rfl,?_,by simpa using oO,rfl,rfl,by simp only;omega,by simp only;omega⟩
    exact(List.prefix_iff_eq_take.1 (List.takeWhile_prefix Rl)).symm
theorem GF {s:List UInt8}{hid:Bool}:∀(f at':Nat),s.length<=at'+f->at'<=s.length->at'<=BN s hid f at'/\BN s hid f at'<=s.length/\(BN s hid f at'=s.length\/spec s (BN s hid f at') hid=true)
 |0,at',h,h2=>by simp only[BN];omega
 |f+1,at',h,h2=>by
  unfold BN;split
  ·rename_i hc
   rcases hc with hc|hc
   ·exact⟨by omega,h2,.inl (by omega)⟩
   ·exact⟨by omega,h2,.inr hc⟩
  ·rename_i hc
   have Au:at'<s.length:=by
    rcases Nat.lt_or_ge at' s.length with h|h
    ·exact h
    ·exact absurd (Or.inl h) hc
   obtain⟨t1,t2,t3⟩:=GF (s:=s) (hid:=hid) f (at'+1) (by omega) (by omega)
   exact⟨by omega,t2,t3⟩
theorem La {s:List UInt8}{hid:Bool}{f at':Nat}(h:¬(s.length<=at'))(h2:¬spec s at' hid=true)(h3:s.length<=at'+f):at'<BN s hid f at':=by
 obtain⟨g,rfl⟩:∃g,f=g+1:=⟨f-1,by omega⟩
 unfold BN
 rw[if_neg (by rintro(h4|h4);exact h h4;exact h2 h4)]
 have:=(GF (s:=s) (hid:=hid) g (at'+1) (by omega) (by omega)).1
 omega
theorem Pg {s:List UInt8}{a b:Nat}(h:a<b)(h2:b<=s.length):cut s a b≠[]:=by
 intro e;have:=congrArg List.length e;simp only[cut,List.length_take,List.length_drop,List.length_nil] at this;omega
theorem NC {s nm:List UInt8}{n t0 f:Nat}{hid:Option Nat}{r:List Tok}(ht:t0<=s.length)(hn:CY (Af++nm) (s.drop t0)=some n)(VP:nm=BE\/nm=Cp)(h:Ce s (f+1) (t0+n) hid=.ok r):
  ∃b q,r=b::q/\b.kind=4/\b.name=nm:=by
 have hp:(Af++nm).isPrefixOf (s.drop (t0+n))=true:=by
  have key:∀{x s:List UInt8} {n:Nat},CY x s=some n->x.isPrefixOf (s.drop n)=true:=by
   intro x s
   induction s with
   |nil=>
    intro n h;unfold CY at h;split at h
    ·rename_i hx
     have:x=[]:=by simpa using hx
     subst this;rfl
    ·cases h
   |cons c r ih=>
    intro n h;unfold CY at h;split at h
    ·rename_i hx;injection h with h;subst h;exact hx
    ·cases hr:CY x r with
     |none=>rw[hr] at h;cases h
     |some m=>
      rw[hr] at h;simp only[Option.map_some,Option.some.injEq] at h;subst h;exact ih hr
  rw[<-List.drop_drop];exact key hn
 obtain⟨z,hz⟩:=List.isPrefixOf_iff_prefix.1 hp;have hlen:=congrArg List.length hz;have h6:Af.length=6:=rfl
 have dT:0<nm.length:=by rcases VP with rfl|rfl<;>decide
 simp only[List.length_append,List.length_drop] at hlen
 have hc:has s Af (t0+n)=true:=by
  refine List.isPrefixOf_iff_prefix.2 ⟨nm++z,?_⟩;rw[<-hz,List.append_assoc]
 have ho:has s Al (t0+n)=false:=by
  unfold has;rw[<-hz];simp[Al,Af,List.isPrefixOf]
 have hd:s.drop (t0+n+6)=nm++z:=by
  rw[<-List.drop_drop,<-hz,List.append_assoc];exact List.drop_left' h6
 unfold Ce at h
 rw[if_neg (by omega),if_pos (by unfold spec;rw[ho,hc];rfl)] at h
 unfold CH at h
 rw[if_neg (by rw[ho];simp),if_pos hc] at h
 cases Da:BW s (t0+n) with
 |error e=>rw[Da] at h;cases h
 |ok t=>
  rw[Da] at h;simp only at h
  obtain⟨k1,k2,k3,k4,k5,k6,k7⟩:=GO (by omega) Da
  cases hr:Ce s f (Bd [t] (t0+n+1)) hid with
  |error e=>rw[hr] at h;cases h
  |ok r'=>
   rw[hr] at h;simp only[Except.ok.injEq] at h;refine⟨t,r',h.symm,k1,?_⟩;rw[hd] at k2
   have VO:nm.all Rl=true:=by rcases VP with rfl|rfl<;>decide
   have F8:(nm++z).takeWhile Rl=nm++z.takeWhile Rl:=List.takeWhile_append_of_pos fun c hc=>List.all_eq_true.1 VO c hc
   rw[F8] at k2;have zJ:=k3;unfold Bk KD at k3;rw[k2] at k3;simp only[List.any_cons,List.any_nil,Bool.or_false,Bool.or_eq_true,beq_iff_eq] at k3;rw[k2]
   rcases VP with rfl|rfl
   ·simp only[BE,Cp,List.cons_append,List.nil_append,List.cons.injEq] at k3⊢;simp at k3;simp[k3]
   ·simp only[BE,Cp,List.cons_append,List.nil_append,List.cons.injEq] at k3⊢;simp at k3;simp[k3]
theorem Km {s:List UInt8}{t:Tok}{l:List Tok}(h:Fg s t=.ok l):(Ks t=false/\l=[t])\/
  (Ks t=true/\(t.name=BE\/t.name=Cp)/\∃n,CY (Af++t.name) (s.drop t.to)=some n/\l=[t,⟨7,[],[],(s.drop t.to).take n,t.to,t.to+n⟩]):=by
 unfold Fg at h;split at h
 ·rename_i hc
  have ho:Ks t=true:=by
   unfold Ks
   rcases hc.2 with h2|h2<;>simp[hc.1,h2]
  split at h
  ·cases h
  ·rename_i n hn;split at h
   ·cases h
   ·simp only[Except.ok.injEq] at h;exact .inr ⟨ho,hc.2,n,hn,h.symm⟩
 ·rename_i hc;simp only[Except.ok.injEq] at h;refine .inl ⟨?_,h.symm⟩;unfold Ks;rw[Bool.eq_false_iff];intro hb;simp only[Bool.and_eq_true,Bool.or_eq_true,beq_iff_eq] at hb;exact hc hb
theorem Li {s:List UInt8}{a:Nat}{hid:Bool}(h:spec s a hid=true)(h1:¬has s Al a=true)(h2:¬has s Af a=true)(h3:¬C6 s a=true):has s Bq a=true/\hid=true:=by
 unfold spec at h;rw[Bool.eq_false_iff.2 h1,Bool.eq_false_iff.2 h2,Bool.eq_false_iff.2 h3] at h;simpa using h
theorem Ew {s:List UInt8}{a n:Nat}:cut s a (a+n)=(s.drop a).take n:=by unfold cut;congr 1;omega
theorem EZ {s:List UInt8}:∀(f at':Nat) (hid:Option Nat) (l:List Tok) (prev:Option Tok),s.length-at'<f->at'<=s.length->Ce s f at' hid=.ok l->
  (∀p,prev=some p->p.kind=1->at'=s.length\/spec s at' hid.isSome=true)->WG s at' prev hid.isSome l
 |0,at',hid,l,prev,h,_,_,_=>by omega
 |f+1,at',hid,l,prev,hf,ha,h,hp=>by
  have h0:=h;unfold Ce at h;split at h
  ·split at h
   ·cases h
   ·simp only[Except.ok.injEq] at h;subst h
    exact⟨by omega,rfl⟩
  ·rename_i Au;split at h
   ·rename_i hs;split at h
    ·cases h
    ·rename_i l1 Eg hn;split at h
     ·cases h
     ·rename_i r hr;simp only[Except.ok.injEq] at h;subst h;unfold CH at hn;split at hn
      ·rename_i ho
       have h5:=DD ho (by simp[Al])
       have e5:Al.length=5:=rfl;split at hn
       ·cases hn
       ·rename_i t ht;split at hn
        ·cases hn
        ·rename_i l2 ZX;simp only[Except.ok.injEq,Prod.mk.injEq] at hn;obtain⟨rfl,rfl⟩:=hn
         obtain⟨k1,k2,k3,k4,k5⟩:=Ku (by omega) ht
         have BU:t.text≠[]:=by rw[k3];exact Pg k4 k5
         rcases Km ZX with ⟨o1,rfl⟩|⟨o1,o2,n,o3,rfl⟩
         ·have ih:=EZ f t.to hid r (some t) (by omega) k5 hr fun p hp hk=>by
           injection hp with hp;subst hp;omega
          refine⟨k2,by omega,k5,k3.symm,fun e=>absurd e BU,fun e=>(by rw[o1] at e;cases e),fun e=>by omega,fun e=>by omega,fun e=>by omega,fun e=>by omega,?_⟩
          rw[if_neg (by omega),if_neg (by omega)]
          exact ih
         ·have oO:=HF o3;have e6:Af.length=6:=rfl;simp only[List.length_append,List.length_drop] at oO;have Ms:Ce s f (t.to+n) hid=.ok r:=hr
          have dT:0<t.name.length:=by rcases o2 with e|e<;>rw[e]<;>decide
          obtain⟨g,rfl⟩:∃g,f=g+1:=⟨f-1,by omega⟩
          obtain⟨b,q,rfl,b1,b2⟩:=NC k5 o3 o2 Ms
          have ih:=EZ (g+1) (t.to+n) hid (b::q) (some ⟨7,[],[],(s.drop t.to).take n,t.to,t.to+n⟩) (by omega) (by omega) Ms fun p hp hk=>by
           injection hp with hp;subst hp;simp at hk
          have Mt:t.kind=2:=by
           unfold Ks at o1;simp only[Bool.and_eq_true,beq_iff_eq] at o1;exact o1.1
          refine⟨k2,by omega,k5,k3.symm,fun e=>absurd e BU,fun _=>⟨_,b,q,rfl,rfl,b1,b2⟩,fun e=>by omega,fun e=>by omega,fun e=>by omega,fun e=>by omega,?_⟩
          rw[if_neg (by omega),if_neg (by omega)]
          refine⟨rfl,by simp only;omega,by simp only;omega,Ew,fun _=>rfl,fun e=>by simp[Ks] at e,fun _=>⟨t,rfl,Mt⟩,fun e=>by simp at e,fun e=>by simp at e,fun e=>by simp at e,?_⟩
          exact ih
      ·rename_i ho;split at hn
       ·rename_i hc
        have h6:=DD hc (by simp[Af])
        have e6:Af.length=6:=rfl;split at hn
        ·cases hn
        ·rename_i t ht;simp only[Except.ok.injEq,Prod.mk.injEq] at hn;obtain⟨rfl,rfl⟩:=hn
         obtain⟨k1,-,-,k2,k3,k4,k5⟩:=GO (by omega) ht
         have BU:t.text≠[]:=by rw[k3];exact Pg k4 k5
         have ih:=EZ f t.to hid r (some t) (by omega) k5 hr fun p hp hk=>by
          injection hp with hp;subst hp;omega
         refine⟨k2,by omega,k5,k3.symm,fun e=>absurd e BU,fun e=>by simp[Ks,k1] at e,fun e=>by omega,fun e=>by omega,fun e=>by omega,fun e=>by omega,?_⟩
         rw[if_neg (by omega),if_neg (by omega)]
         exact ih
       ·rename_i hc;split at hn
        ·rename_i hh
         have h8:at'+8<=s.length:=by
          unfold C6 at hh;simp only[Bool.and_eq_true,decide_eq_true_eq] at hh;omega
         split at hn
         ·cases hn
         ·rename_i Nr;simp only[Except.ok.injEq,Prod.mk.injEq] at hn;obtain⟨rfl,rfl⟩:=hn
          have ih:=EZ f (at'+8) (some at') r (some ⟨5,[],[],cut s at' (at'+8),at',at'+8⟩) (by omega) h8 hr fun p hp hk=>by
           injection hp with hp;subst hp;simp at hk
          refine⟨rfl,by simp only;omega,h8,rfl,fun e=>absurd e (Pg (by omega) h8),fun e=>by simp[Ks] at e,fun e=>by simp at e,fun e=>by simp at e,fun _=>by simpa using Nr,fun e=>by simp at e,?_⟩
          exact ih
        ·rename_i hh;simp only[Except.ok.injEq,Prod.mk.injEq] at hn;obtain⟨rfl,rfl⟩:=hn;obtain⟨s1,s2⟩:=Li hs ho hc hh
         have h3:=DD s1 (by simp[Bq])
         have e3:Bq.length=3:=rfl
         have MO:cut s at' (at'+3)=Bq:=by
          rw[Ew];exact(List.prefix_iff_eq_take.1 (List.isPrefixOf_iff_prefix.1 s1)).symm
         have ih:=EZ f (at'+3) none r (some ⟨6,[],[],Bq,at',at'+3⟩) (by omega) (by omega) hr fun p hp hk=>by
          injection hp with hp;subst hp;simp at hk
         refine⟨rfl,by simp only;omega,by simp only;omega,MO,fun e=>by simp[Bq] at e,fun e=>by simp[Ks] at e,fun e=>by simp at e,fun e=>by simp at e,fun e=>by simp at e,fun _=>s2,?_⟩
         exact ih
   ·rename_i hs;simp only at h;split at h
    ·cases h
    ·rename_i r hr;simp only[Except.ok.injEq] at h;subst h
     obtain⟨q1,q2,q3⟩:=GF (s:=s) (hid:=hid.isSome) (s.length-at') at' (by omega) ha
     have q4:=La (f:=s.length-at') (fun e=>Au e) hs (by omega)
     generalize BN s hid.isSome (s.length-at') at'=to at *
     have ih:=EZ f to hid r (some ⟨1,[],[],cut s at' to,at',to⟩) (by omega) q2 hr fun p hp hk=>q3
     refine⟨rfl,by simp only;omega,q2,rfl,fun e=>absurd e (Pg q4 q2),fun e=>by simp[Ks] at e,fun e=>by simp at e,fun _ p sr hk=> ?_,fun e=>by simp at e,fun e=>by simp at e,?_⟩
     ·rcases hp p sr hk with e|e
      ·omega
      ·exact hs e
     ·exact ih
theorem Hq {s:List UInt8}{l:List Tok}(h:lexM s=.ok l):WG s 0 none false l:=EZ (s.length+1) 0 none l none (by omega) (by omega) h (fun p hp=>by cases hp)
def iy (v:List UInt8):UInt8:=if v.contains 34=true then 39 else 34
def DS :List A9->List UInt8
 |[]=>[]
 |a::r=>32::(a.name++61::iy a.value::(a.value++iy a.value::DS r))
def written (t:Tok):List UInt8:=
 if t.kind=4 then Af++(t.name++[62]) else if t.kind=5 then ET++[32] else
 if t.kind=2 then Al++(t.name++(DS t.attrs++[62])) else if t.kind=3 then Al++(t.name++(DS t.attrs++[47,62])) else t.text
def cL (a:A9):Prop:=a.name≠[]/\a.name.length<=16/\(∀c∈a.name,Rl c=true)/\¬(34∈a.value/\39∈a.value)
def Ih :List A9->List A9->Prop
 |_,[]=>True
 |seen,a::r=>cL a/\(∀b∈seen,a.name≠b.name)/\Ih (seen++[a]) r
theorem Oj :∀(r seen:List A9) (a:A9),Ih seen r->cL a->(∀b∈seen++r,a.name≠b.name)->Ih seen (r++[a])
 |[],seen,a,_,h,h2=>⟨h,fun b hb=>h2 b (by simpa using hb),trivial⟩
 |x::r,seen,a,hr,h,h2=>⟨hr.1,hr.2.1,Oj r (seen++[x]) a hr.2.2 h fun b hb=>h2 b (by simpa using hb)⟩
theorem Ws {x:List UInt8}:∀{s:List UInt8} {n:Nat},CY x s=some n->x.isPrefixOf (s.drop n)=true/\∀j,j<n->x.isPrefixOf (s.drop j)=false
 |[],n,h=>by
  unfold CY at h;split at h
  ·rename_i hx
   have:x=[]:=by simpa using hx
   subst this;simp at h;subst h
   exact⟨rfl,fun j hj=>by omega⟩
  ·cases h
 |c::r,n,h=>by
  unfold CY at h;split at h
  ·rename_i hx
   injection h with h;subst h
   exact⟨hx,fun j hj=>by omega⟩
  ·rename_i hx
   cases hr:CY x r with
   |none=>rw[hr] at h;cases h
   |some m=>
    rw[hr] at h;simp only[Option.map_some,Option.some.injEq] at h;subst h;obtain⟨h1,h2⟩:=Ws hr
    refine⟨h1,fun j hj=> ?_⟩
    cases j with
    |zero=>exact Bool.eq_false_iff.2 hx
    |succ j=>exact h2 j (by omega)
theorem eD {x:List UInt8}:∀{s:List UInt8} {n:Nat},x.isPrefixOf (s.drop n)=true->(∀j,j<n->x.isPrefixOf (s.drop j)=false)->n<=s.length->CY x s=some n
 |[],n,h,_,hn=>by
  have:n=0:=by simpa using hn
  subst this
  have hx:x=[]:=by simpa using h
  subst hx;rfl
 |c::r,0,h,_,_=>by
  unfold CY;exact if_pos h
 |c::r,n+1,h,h2,hn=>by
  unfold CY
  have h0:=h2 0 (by omega)
  rw[List.drop_zero] at h0
  rw[h0,if_neg (by simp),eD (s:=r) (n:=n) h (fun j hj=>h2 (j+1) (by omega)) (by simpa using hn)]
  rfl
theorem Zg {m:UInt8}{s:List UInt8}{n:Nat}(h:CY [m] s=some n):m∉s.take n:=by
 obtain⟨_,h2⟩:=Ws h;intro hm;obtain⟨j,hj⟩:=List.mem_iff_getElem?.1 hm
 have Au:j<n:=by
  rcases Nat.lt_or_ge j n with h|h
  ·exact h
  ·rw[List.getElem?_eq_none (by simp;omega)] at hj;cases hj
 rw[List.getElem?_take,if_pos Au] at hj;have h3:=h2 j Au
 obtain⟨q,hq⟩:∃q,s.drop j=m::q:=⟨s.drop (j+1),by
  obtain⟨KJ,he⟩:=List.getElem?_eq_some_iff.1 hj
  rw[List.drop_eq_getElem_cons KJ,he]⟩
 rw[hq] at h3;simp[List.isPrefixOf] at h3
theorem aS {p:UInt8->Bool}:∀(l:List UInt8),∀c∈l.takeWhile p,p c=true
 |[],c,h=>by simp at h
 |x::r,c,h=>by
  rw[List.takeWhile_cons] at h;split at h
  ·rename_i hx
   rcases List.mem_cons.1 h with rfl|h
   ·exact hx
   ·exact aS r c h
  ·cases h
theorem fk {p:UInt8->Bool}{l:List UInt8}{n:Nat}(h:n<=(l.takeWhile p).length):∀c∈l.take n,p c=true:=by
 intro c hc
 have hp:l.take n=(l.takeWhile p).take n:=by
  have:=List.prefix_iff_eq_take.1 (List.takeWhile_prefix (p:=p) (l:=l));rw[this,List.take_take,Nat.min_eq_left h]
 rw[hp] at hc;exact aS l c (List.mem_of_mem_take hc)
theorem Zt {s:List UInt8}{at' tag:Nat}{l:List A9}{a:A9}{b:Nat}(h:DG s at' tag l=.ok (a,b)):cL a/\∀c∈l,a.name≠c.name:=by
 unfold DG at h;simp only at h;split at h
 ·cases h
 ·rename_i hn;split at h
  ·cases h
  ·split at h
   ·cases h
   ·rename_i h2;split at h
    ·cases h
    ·split at h
     ·cases h
     ·rename_i hm;split at h
      ·cases h
      ·rename_i k hk;simp only[Except.ok.injEq,Prod.mk.injEq] at h;obtain⟨rfl,-⟩:=h;have hl:=C8 s at';have hle:min (lets s at') 16<=lets s at':=Nat.min_le_left _ _;refine⟨⟨?_,?_,?_,?_⟩,?_⟩
       ·intro e;have:=congrArg List.length e;simp only[List.length_take,List.length_drop,List.length_nil] at this
        have:min (lets s at') 16≠0:=fun e=>h2 (.inl e)
        omega
       ·simp only[List.length_take];omega
       ·exact fk (p:=Rl) hle
       ·have K1:=Zg hk
        rintro⟨yM,yL⟩
        have tB:s.getD (at'+min (lets s at') 16+1) 0=34\/s.getD (at'+min (lets s at') 16+1) 0=39:=by
         by_cases e:s.getD (at'+min (lets s at') 16+1) 0=34
         ·exact .inl e
         ·right
          exact Decidable.not_not.1 fun e2=>hm ⟨e,e2⟩
        rcases tB with e|e
        ·rw[e] at K1;exact K1 yM
        ·rw[e] at K1;exact K1 yL
       ·intro c hc e;apply hn;rw[List.any_eq_true]
        exact⟨c,hc,by simpa using e⟩
theorem Pq {s:List UInt8}{tag:Nat}:∀(f at':Nat) (l l':List A9) (b:Nat),Ih [] l->A8 s tag f at' l=.ok (l',b)->Ih [] l'
 |0,at',l,l',b,_,h=>by cases h
 |f+1,at',l,l',b,hl,h=>by
  unfold A8 at h;simp only at h;split at h
  ·cases h
  ·split at h
   ·simp only[Except.ok.injEq,Prod.mk.injEq] at h;obtain⟨rfl,_⟩:=h;exact hl
   ·split at h
    ·cases h
    ·split at h
     ·cases h
     ·rename_i a c hc;obtain⟨h1,h2⟩:=Zt hc
      exact Pq f c _ l' b (Oj l [] a hl h1 (by simpa using h2)) h
theorem ZE {s:List UInt8}{tag:Nat}{t:Tok}(h:Di s tag=.ok t):Bk t.name=true/\Ih [] t.attrs:=by
 unfold Di at h;simp only at h;split at h
 ·cases h
 ·rename_i hk;split at h
  ·cases h
  ·rename_i l b hb;have ha:=Pq _ _ [] l b trivial hb
   have hn:t.name=(s.drop (tag+5)).take (lets s (tag+5))/\t.attrs=l:=by
    unfold CW at h;simp only at h
    generalize (if s.getD b 0=47 then 1 else 0:Nat)=k at h
    split at h
    ·cases h
    ·split at h
     ·cases h
     ·simp only[Except.ok.injEq] at h;subst h;exact⟨rfl,rfl⟩
   rw[hn.1,hn.2]
   exact⟨by simpa using hk,ha⟩
def Kh (r:List UInt8)(hid:Bool):Bool:=Al.isPrefixOf r||(Af.isPrefixOf r||((ET.isPrefixOf r&&(match r.drop 7 with|c::_=>blB c|[]=>false))||(Bq.isPrefixOf r&&hid)))
theorem fw (s:List UInt8)(a:Nat)(hid:Bool):spec s a hid=Kh (s.drop a) hid:=by
 have h:C6 s a=(ET.isPrefixOf (s.drop a)&&(match(s.drop a).drop 7 with|c::_=>blB c|[]=>false)):=by
  unfold C6 has
  congr 1
  rw[List.drop_drop]
  by_cases hl:a+7<s.length
  ·rw[decide_eq_true hl,List.drop_eq_getElem_cons hl];simp[List.getD_eq_getElem?_getD,hl]
  ·rw[decide_eq_false hl,List.drop_eq_nil_of_le (by omega)]
   rfl
 unfold spec Kh;rw[h];rfl
def FC (r:List UInt8):Prop:=r=[]\/(∃q,r=60::q)\/∃q,r=45::45::62::q
theorem Yy {x u r:List UInt8}(h:x.isPrefixOf (u++r)=true):x.isPrefixOf u=true\/∃y,y≠[]/\x=u++y/\y.isPrefixOf r=true:=by
 obtain⟨z,hz⟩:=List.isPrefixOf_iff_prefix.1 h
 rcases List.append_eq_append_iff.1 hz with ⟨y,h1,h2⟩|⟨y,h1,h2⟩
 ·left;exact List.isPrefixOf_iff_prefix.2 ⟨y,h1.symm⟩
 ·by_cases hy:y=[]
  ·subst hy;left;rw[List.append_nil] at h1;subst h1;exact List.isPrefixOf_iff_prefix.2 (List.prefix_refl _)
  ·right;exact⟨y,hy,h1,List.isPrefixOf_iff_prefix.2 ⟨z,h2.symm⟩⟩
theorem JI {x u r:List UInt8}(hu:u≠[])(hb:FC r)(h1:∀k,1<=k->k<x.length->(x.drop k).head?≠some 60/\((x.drop k).take 3).isPrefixOf [45,45,62]=false)(h:x.isPrefixOf (u++r)=true):x.isPrefixOf u=true:=by
 rcases Yy h with h|⟨y,hy,pg,wQ⟩
 ·exact h
 ·exfalso;have wZ:0<u.length:=List.length_pos_iff.2 hu;have dJ:0<y.length:=List.length_pos_iff.2 hy
  have hd:x.drop u.length=y:=by rw[pg,List.drop_left' rfl]
  obtain⟨k1,k2⟩:=h1 u.length wZ (by rw[pg,List.length_append];omega)
  rw[hd] at k1 k2;obtain⟨z,hz⟩:=List.isPrefixOf_iff_prefix.1 wQ
  obtain⟨c,q,rfl⟩:∃c q,y=c::q:=by cases y with|nil=>exact absurd rfl hy|cons c q=>exact⟨c,q,rfl⟩
  rcases hb with rfl|⟨q',rfl⟩|⟨q',rfl⟩
  ·cases hz
  ·simp only[List.cons_append,List.cons.injEq] at hz
   exact k1 (by rw[hz.1];rfl)
  ·have:((c::q).take 3).isPrefixOf [45,45,62]=true:=by
    refine List.isPrefixOf_iff_prefix.2 ?_
    have h3:(c::q).take 3<+:((c::q)++z).take 3:=by
     rw[List.take_append];exact List.prefix_append _ _
    rw[hz] at h3;simpa using h3
   rw[this] at k2;cases k2
theorem rv :(∀k,1<=k->k<Al.length->(Al.drop k).head?≠some 60/\((Al.drop k).take 3).isPrefixOf [45,45,62]=false)/\(∀k,1<=k->k<Af.length->(Af.drop k).head?≠some 60/\((Af.drop k).take 3).isPrefixOf [45,45,62]=false)/\
  (∀k,1<=k->k<ET.length->(ET.drop k).head?≠some 60/\((ET.drop k).take 3).isPrefixOf [45,45,62]=false)/\(∀k,1<=k->k<Bq.length->(Bq.drop k).head?≠some 60/\((Bq.drop k).take 3).isPrefixOf [45,45,62]=false):=by
 have key:∀x:List UInt8,(∀k:Fin 8,(k.val=0\/x.length<=k.val)\/((x.drop k.val).head?≠some 60/\((x.drop k.val).take 3).isPrefixOf [45,45,62]=false))->x.length<=8->∀k,1<=k->k<x.length->(x.drop k).head?≠some 60/\((x.drop k).take 3).isPrefixOf [45,45,62]=false:=fun x h hl k h1 h2=>by
  rcases h ⟨k,by omega⟩ with h|h
  ·simp only at h;omega
  ·exact h
 exact⟨key _ (by decide) (by decide),key _ (by decide) (by decide),key _ (by decide) (by decide),key _ (by decide) (by decide)⟩
theorem Kg {r:List UInt8}{hid:Bool}:Kh r hid=false↔Al.isPrefixOf r=false/\Af.isPrefixOf r=false/\(ET.isPrefixOf r&&(match r.drop 7 with|c::_=>blB c|[]=>false))=false/\(Bq.isPrefixOf r&&hid)=false:=by
 unfold Kh;simp only[Bool.or_eq_false_iff]
theorem Ue {r:List UInt8}(h:ET.isPrefixOf r=true):7<=r.length:=by
 have:=(List.isPrefixOf_iff_prefix.1 h).length_le;exact this
theorem inner {u r:List UInt8}{hid:Bool}(hu:u≠[])(h:Kh u hid=false)(hb:FC r):Kh (u++r) hid=false:=by
 obtain⟨p1,p2,p3,p4⟩:=rv;obtain⟨h1,h2,h3,h4⟩:=Kg.1 h;refine Kg.2 ⟨?_,?_,?_,?_⟩
 ·rw[Bool.eq_false_iff] at h1⊢;exact fun e=>h1 (JI hu hb p1 e)
 ·rw[Bool.eq_false_iff] at h2⊢;exact fun e=>h2 (JI hu hb p2 e)
 ·cases he:ET.isPrefixOf (u++r) with
  |false=>rfl
  |true=>
   have pj:=JI hu hb p3 he;rw[pj] at h3;simp only[Bool.true_and] at h3⊢;have hl:=Ue pj;rw[List.drop_append_of_le_length hl]
   cases hd:u.drop 7 with
   |cons c q=>rw[hd] at h3;exact h3
   |nil=>
    rw[List.nil_append]
    rcases hb with rfl|⟨q',rfl⟩|⟨q',rfl⟩<;>rfl
 ·cases he:Bq.isPrefixOf (u++r) with
  |false=>rfl
  |true=>
   have pj:=JI hu hb p4 he;rw[pj] at h4;exact h4
theorem Vr {u r:List UInt8}{hid:Bool}(h:Kh (u++r) hid=false):Kh u hid=false:=by
 have up:∀{x:List UInt8},x.isPrefixOf u=true->x.isPrefixOf (u++r)=true:=fun hx=>by
  obtain⟨z,hz⟩:=List.isPrefixOf_iff_prefix.1 hx
  exact List.isPrefixOf_iff_prefix.2 ⟨z++r,by rw[<-List.append_assoc,hz]⟩
 obtain⟨h1,h2,h3,h4⟩:=Kg.1 h;refine Kg.2 ⟨?_,?_,?_,?_⟩
 ·rw[Bool.eq_false_iff] at h1⊢;exact fun e=>h1 (up e)
 ·rw[Bool.eq_false_iff] at h2⊢;exact fun e=>h2 (up e)
 ·cases he:ET.isPrefixOf u with
  |false=>rfl
  |true=>
   rw[up he] at h3;simp only[Bool.true_and] at h3⊢;rw[List.drop_append_of_le_length (Ue he)] at h3
   cases hd:u.drop 7 with
   |cons c q=>rw[hd] at h3;exact h3
   |nil=>rfl
 ·cases he:Bq.isPrefixOf u with
  |false=>rfl
  |true=>rw[up he] at h4;exact h4
inductive VG:Bool->List Tok->Prop
 |nil:VG false []
 |text {hid:Bool} {t:Tok} {r:List Tok}:t.kind=1->t.name=[]->t.attrs=[]->t.text≠[]->(∀j,j<t.text.length->Kh (t.text.drop j) hid=false)->(∀u q,r=u::q->u.kind≠1)->VG hid r->VG hid (t::r)
 |tag {hid:Bool} {t:Tok} {r:List Tok}:(t.kind=3\/t.kind=2/\Ks t=false)->Bk t.name=true->Ih [] t.attrs->VG hid r->VG hid (t::r)
 |own {hid:Bool} {t a c:Tok} {q:List Tok}:t.kind=2->(t.name=BE\/t.name=Cp)->Ih [] t.attrs->a.kind=7->a.name=[]->a.attrs=[]->c.kind=4->c.name=t.name->
   CY (Af++t.name) (a.text++(Af++t.name))=some a.text.length->(t.name=BE->CY Al a.text=none)->VG hid (c::q)->VG hid (t::a::c::q)
 |close {hid:Bool} {t:Tok} {r:List Tok}:t.kind=4->t.attrs=[]->Bk t.name=true->VG hid r->VG hid (t::r)
 |kv {t:Tok} {r:List Tok}:t.kind=5->t.name=[]->t.attrs=[]->VG true r->VG false (t::r)
 |shown {t:Tok} {r:List Tok}:t.kind=6->t.name=[]->t.attrs=[]->t.text=Bq->VG false r->VG true (t::r)
theorem gF {s:List UInt8}{t:Tok}{l:List Tok}{n:Nat}(h:Fg s t=.ok l)(hk:t.kind=2)(hn:t.name=BE)(hf:CY (Af++t.name) (s.drop t.to)=some n):CY Al ((s.drop t.to).take n)=none:=by
 unfold Fg at h;rw[if_pos ⟨hk,.inl hn⟩,hf] at h;simp only at h
 cases ho:CY Al ((s.drop t.to).take n) with
 |none=>rfl
 |some k=>
  rw[ho,decide_eq_true hn] at h;cases h
theorem Yx {s x:List UInt8}{n:Nat}(h:CY x s=some n):CY x (s.take n++x)=some (s.take n).length:=by
 obtain⟨h1,h2⟩:=Ws h;have hl:=HF h
 have hn:(s.take n).length=n:=by simp only[List.length_take];omega
 obtain⟨z,hz⟩:=List.isPrefixOf_iff_prefix.1 h1
 have hs:s=s.take n++(x++z):=by rw[hz,List.take_append_drop]
 refine eD (by rw[List.drop_left' rfl];exact List.isPrefixOf_iff_prefix.2 (List.prefix_refl x)) (fun j hj=> ?_) (by simp)
 have h3:=h2 j (by omega)
 rw[Bool.eq_false_iff] at h3⊢;intro e;apply h3;obtain⟨y,hy⟩:=List.isPrefixOf_iff_prefix.1 e;refine List.isPrefixOf_iff_prefix.2 ⟨y++z,?_⟩;rw[<-List.append_assoc,hy]
 rw[List.drop_append_of_le_length (by omega),List.append_assoc,<-List.drop_append_of_le_length (by omega),<-hs]
theorem XE {s:List UInt8}{tag:Nat}{t:Tok}(h:BW s tag=.ok t):t.attrs=[]:=by
 unfold BW at h;simp only at h
 repeat' split at h
 all_goals first|(cases h;done)|(simp only[Except.ok.injEq] at h;subst h;rfl)
theorem QW {s:List UInt8}{hid:Bool}:∀(f at':Nat) (j:Nat),at'<=j->j<BN s hid f at'->spec s j hid=false
 |0,at',j,h1,h2=>by simp only[BN] at h2;omega
 |f+1,at',j,h1,h2=>by
  unfold BN at h2;split at h2
  ·omega
  ·rename_i hc
   rcases Nat.eq_or_lt_of_le h1 with rfl|h
   ·exact Bool.eq_false_iff.2 fun e=>hc (.inr e)
   ·exact QW f (at'+1) j h h2
theorem Gb {s:List UInt8}:∀(f at':Nat) (hid:Option Nat) (l:List Tok),s.length-at'<f->at'<=s.length->Ce s f at' hid=.ok l->VG hid.isSome l
 |0,at',hid,l,h,_,_=>by omega
 |f+1,at',hid,l,hf,ha,h=>by
  unfold Ce at h;split at h
  ·split at h
   ·cases h
   ·simp only[Except.ok.injEq] at h;subst h;exact .nil
  ·rename_i Au;split at h
   ·rename_i hs;split at h
    ·cases h
    ·rename_i l1 Eg hn;split at h
     ·cases h
     ·rename_i r hr;simp only[Except.ok.injEq] at h;subst h;unfold CH at hn;split at hn
      ·rename_i ho
       have h5:=DD ho (by simp[Al])
       have e5:Al.length=5:=rfl;split at hn
       ·cases hn
       ·rename_i t ht;split at hn
        ·cases hn
        ·rename_i l2 ZX;simp only[Except.ok.injEq,Prod.mk.injEq] at hn;obtain⟨rfl,rfl⟩:=hn
         obtain⟨k1,k2,k3,k4,k5⟩:=Ku (by omega) ht
         obtain⟨m1,m2⟩:=ZE ht
         rcases Km ZX with ⟨o1,rfl⟩|⟨o1,o2,n,o3,rfl⟩
         ·have ih:=Gb f t.to hid r (by omega) k5 hr
          exact .tag (k1.symm.imp_right fun k=>⟨k,o1⟩) m1 m2 ih
         ·have oO:=HF o3;simp only[List.length_append,List.length_drop] at oO;have Ms:Ce s f (t.to+n) hid=.ok r:=hr
          obtain⟨g,rfl⟩:∃g,f=g+1:=⟨f-1,by omega⟩
          obtain⟨b,q,rfl,b1,b2⟩:=NC k5 o3 o2 Ms
          have ih:=Gb (g+1) (t.to+n) hid (b::q) (by omega) (by omega) Ms
          have Mt:t.kind=2:=by
           unfold Ks at o1;simp only[Bool.and_eq_true,beq_iff_eq] at o1;exact o1.1
          exact .own Mt o2 m2 rfl rfl rfl b1 b2 (Yx o3) (fun wj=>gF ZX Mt wj o3) ih
      ·rename_i ho;split at hn
       ·rename_i hc
        have h6:=DD hc (by simp[Af])
        have e6:Af.length=6:=rfl;split at hn
        ·cases hn
        ·rename_i t ht;simp only[Except.ok.injEq,Prod.mk.injEq] at hn;obtain⟨rfl,rfl⟩:=hn
         obtain⟨k1,-,kk,k2,k3,k4,k5⟩:=GO (by omega) ht
         have ih:=Gb f t.to hid r (by omega) k5 hr
         exact .close k1 (XE ht) kk ih
       ·rename_i hc;split at hn
        ·rename_i hh
         have h8:at'+8<=s.length:=by
          unfold C6 at hh;simp only[Bool.and_eq_true,decide_eq_true_eq] at hh;omega
         split at hn
         ·cases hn
         ·rename_i Nr;simp only[Except.ok.injEq,Prod.mk.injEq] at hn;obtain⟨rfl,rfl⟩:=hn
          have ih:=Gb f (at'+8) (some at') r (by omega) h8 hr
          have xH:hid.isSome=false:=by simpa using Nr
          rw[xH];exact .kv rfl rfl rfl ih
        ·rename_i hh;simp only[Except.ok.injEq,Prod.mk.injEq] at hn;obtain⟨rfl,rfl⟩:=hn;obtain⟨s1,s2⟩:=Li hs ho hc hh
         have h3:=DD s1 (by simp[Bq])
         have e3:Bq.length=3:=rfl
         have ih:=Gb f (at'+3) none r (by omega) (by omega) hr
         rw[s2];exact .shown rfl rfl rfl rfl ih
   ·rename_i hs;simp only at h;split at h
    ·cases h
    ·rename_i r hr;simp only[Except.ok.injEq] at h;subst h
     obtain⟨q1,q2,q3⟩:=GF (s:=s) (hid:=hid.isSome) (s.length-at') at' (by omega) ha
     have q4:=La (f:=s.length-at') (fun e=>Au e) hs (by omega)
     have q5:=QW (s:=s) (hid:=hid.isSome) (s.length-at') at';generalize BN s hid.isSome (s.length-at') at'=to at *
     have ih:=Gb f to hid r (by omega) q2 hr
     have hW:=EZ f to hid r (some ⟨1,[],[],cut s at' to,at',to⟩) (by omega) q2 hr fun p hp hk=>q3
     refine .text rfl rfl rfl (Pg q4 q2) (fun j hj=> ?_) (fun u q wi=> ?_) ih
     ·have Da:(cut s at' to).length=to-at':=by simp only[cut,List.length_take,List.length_drop];omega
      simp only[Da] at hj
      have D9:=q5 (at'+j) (by omega) (by omega)
      rw[fw,<-List.drop_drop] at D9
      have kg:(s.drop at').drop j=(cut s at' to).drop j++s.drop to:=by
       have:s.drop at'=cut s at' to++s.drop to:=by
        unfold cut
        have h2:s.drop to=(s.drop at').drop (to-at'):=by rw[List.drop_drop];congr 1;omega
        rw[h2,List.take_append_drop]
       rw[this,List.drop_append_of_le_length (by omega)]
      rw[kg] at D9;exact Vr D9
     ·subst wi;obtain⟨-,-,-,-,-,-,w7,w1,-,-,-⟩:=hW
      exact fun e=>w1 e _ rfl rfl
theorem JM {s:List UInt8}{l:List Tok}(h:lexM s=.ok l):VG false l:=Gb (s.length+1) 0 none l (by omega) (by omega) h
theorem QX {s:List UInt8}{hid:Bool}:∀(n f p:Nat),(∀j,j<n->spec s (p+j) hid=false)->p+n<=s.length->(p+n=s.length\/spec s (p+n) hid=true)->n<=f->BN s hid f p=p+n
 |0,f,p,h1,h2,h3,hf=>by
  cases f with
  |zero=>rfl
  |succ f=>
   unfold BN
   rw[if_pos (by
    rcases h3 with h3|h3
    ·left;omega
    ·right;exact h3)]
   rfl
 |n+1,f,p,h1,h2,h3,hf=>by
  obtain⟨g,rfl⟩:∃g,f=g+1:=⟨f-1,by omega⟩
  unfold BN
  have h0:=h1 0 (by omega)
  rw[Nat.add_zero] at h0
  rw[if_neg (by rintro(h|h);omega;rw[h0] at h;cases h),QX n g (p+1) (fun j hj=>by
   have:=h1 (j+1) (by omega)
   rwa [show p+(j+1)=p+1+j by omega] at this) (by omega) (by rwa [show p+1+n=p+(n+1) by omega]) (by omega)]
  omega
def tokC :Ci:=fun vs h K=>∃s:List UInt8,s.length<=limE/\vs=[.str s]/\(∀p e,lexM s=.error (p,e)->K (.tup [.sl 0 [] none,.int .i64 p,.int .i64 e]) h)/\
 (∀l,lexM s=.ok l->K (.tup [.sl 6 (encTs l) none,.int .i64 0,.int .i64 0]) h)
def fi :Ci:=fun vs h K=>vs.isEmpty=true/\K (.bool true) h
theorem YY {s:List UInt8}{at' tag:Nat}{l:List A9}{p:Nat}{e:Int}(h:DG s at' tag l=.error (p,e)):e≠0:=by
 unfold DG at h;simp only at h
 repeat' split at h
 all_goals first|(cases h;done)|(simp only[Except.error.injEq,Prod.mk.injEq] at h;obtain⟨-,rfl⟩:=h;decide)
theorem VD {s:List UInt8}{tag:Nat}:∀(f at':Nat) (l:List A9) (p:Nat) (e:Int),A8 s tag f at' l=.error (p,e)->e≠0
 |0,at',l,p,e,h=>by simp only[A8,Except.error.injEq,Prod.mk.injEq] at h;obtain⟨-,rfl⟩:=h;decide
 |f+1,at',l,p,e,h=>by
  unfold A8 at h;simp only at h;split at h
  ·simp only[Except.error.injEq,Prod.mk.injEq] at h;obtain⟨-,rfl⟩:=h;decide
  ·split at h
   ·cases h
   ·split at h
    ·simp only[Except.error.injEq,Prod.mk.injEq] at h;obtain⟨-,rfl⟩:=h;decide
    ·split at h
     ·rename_i e' he;simp only[Except.error.injEq] at h;subst h;exact YY he
     ·exact VD f _ _ p e h
theorem Xh {s:List UInt8}{tag p:Nat}{e:Int}(h:Di s tag=.error (p,e)):e≠0:=by
 unfold Di at h;simp only at h;split at h
 ·simp only[Except.error.injEq,Prod.mk.injEq] at h;obtain⟨-,rfl⟩:=h;decide
 ·split at h
  ·rename_i e' he;simp only[Except.error.injEq] at h;subst h;exact VD _ _ _ p e he
  ·rename_i l b hb;unfold CW at h;simp only at h
   generalize hk:(if s.getD b 0=47 then 1 else 0:Nat)=k at h
   split at h
   ·simp only[Except.error.injEq,Prod.mk.injEq] at h;obtain⟨-,rfl⟩:=h;decide
   ·split at h
    ·simp only[Except.error.injEq,Prod.mk.injEq] at h;obtain⟨-,rfl⟩:=h;decide
    ·cases h
theorem j5 {s:List UInt8}{t:Tok}{p:Nat}{e:Int}(h:Fg s t=.error (p,e)):e≠0:=by
 unfold Fg at h
 repeat' split at h
 all_goals first|(cases h;done)|(simp only[Except.error.injEq,Prod.mk.injEq] at h;obtain⟨-,rfl⟩:=h;decide)
theorem ed {s:List UInt8}{tag p:Nat}{e:Int}(h:BW s tag=.error (p,e)):e≠0:=by
 unfold BW at h;simp only at h
 repeat' split at h
 all_goals first|(cases h;done)|(simp only[Except.error.injEq,Prod.mk.injEq] at h;obtain⟨-,rfl⟩:=h;decide)
theorem Xo {s:List UInt8}{a:Nat}{hid:Option Nat}{p:Nat}{e:Int}(h:CH s a hid=.error (p,e)):e≠0:=by
 unfold CH at h;split at h
 ·split at h
  ·rename_i e' he;simp only[Except.error.injEq] at h;subst h;exact Xh he
  ·split at h
   ·rename_i e' he;simp only[Except.error.injEq] at h;subst h;exact j5 he
   ·cases h
 ·split at h
  ·split at h
   ·rename_i e' he;simp only[Except.error.injEq] at h;subst h;exact ed he
   ·cases h
  ·repeat' split at h
   all_goals first|(cases h;done)|(simp only[Except.error.injEq,Prod.mk.injEq] at h;obtain⟨-,rfl⟩:=h;decide)
theorem WS {s:List UInt8}:∀(f a:Nat) (hid:Option Nat) (p:Nat) (e:Int),Ce s f a hid=.error (p,e)->e≠0
 |0,a,hid,p,e,h=>by cases h
 |f+1,a,hid,p,e,h=>by
  unfold Ce at h;split at h
  ·split at h
   ·simp only[Except.error.injEq,Prod.mk.injEq] at h;obtain⟨-,rfl⟩:=h;decide
   ·cases h
  ·split at h
   ·split at h
    ·rename_i e' he;simp only[Except.error.injEq] at h;subst h;exact Xo he
    ·split at h
     ·rename_i e' he;simp only[Except.error.injEq] at h;subst h;exact WS f _ _ p e he
     ·cases h
   ·simp only at h;split at h
    ·rename_i e' he;simp only[Except.error.injEq] at h;subst h;exact WS f _ _ p e he
    ·cases h
theorem cj {s:List UInt8}{p:Nat}{e:Int}(h:lexM s=.error (p,e)):e≠0:=WS _ _ _ p e h
theorem XN {s:List UInt8}:∀(r:List Tok) (a:Nat) (prev:Option Tok) (hid:Bool),WG s a prev hid r->a<=s.length->r.length<=2*(s.length-a)\/((∃p,prev=some p/\p.kind=2)/\r.length<=2*(s.length-a)+1)
 |[],a,prev,hid,_,_=>.inl (by simp)
 |t::r,a,prev,hid,h,ha=>by
  obtain⟨h1,h2,h3,h4,h5,h6,h7,h8,h9,Py,yP⟩:=h;have ih:=XN r t.to (some t) _ yP h3;rw[List.length_cons]
  by_cases ht:t.text=[]
  ·have k:=h5 ht;refine .inr ⟨h7 k,?_⟩
   rcases ih with ih|⟨⟨p,hp,hk⟩,_⟩
   ·omega
   ·injection hp with hp;subst hp;rw[k] at hk;cases hk
  ·have:a<t.to:=by
    rcases Nat.lt_or_ge a t.to with q|q
    ·exact q
    ·exfalso;apply ht;rw[<-h4];unfold cut;rw[show t.to-a=0 by omega];rfl
   refine .inl ?_
   rcases ih with ih|⟨_,ih⟩<;>omega
theorem ME (n:Nat)(l:List A9):Ab n (encAs l)=true:=by
 induction l with
 |nil=>rfl
 |cons a r ih=>show Ab n (Ao a::encAs r)=true;rw[Ab,ih];rfl
theorem cQ (n:Nat)(l:List Tok):Ab n (encTs l)=true:=by
 induction l with
 |nil=>rfl
 |cons a r ih=>
  show Ab n (encT a::encTs r)=true;rw[Ab,ih];simp only[encT,CA,Dw,ME,Bool.and_true,Bool.true_and]
def fits (t:Tok):Prop:=(written t).length+t.fr<=t.to/\(t.attrs=[]\/t.kind=2\/t.kind=3)
theorem XK (l r:List A9):(DS (l++r)).length=(DS l).length+(DS r).length:=by
 induction l with
 |nil=>simp[DS]
 |cons a l ih=>
  simp only[List.cons_append,DS,List.length_cons,List.length_append,ih];omega
theorem Zs {s:List UInt8}{at' tag:Nat}{l:List A9}{a:A9}{b:Nat}(h:DG s at' tag l=.ok (a,b)):(DS [a]).length+at'<=b+1:=by
 unfold DG at h;simp only at h
 repeat' split at h
 all_goals try (cases h;done)
 simp only[Except.ok.injEq,Prod.mk.injEq] at h;obtain⟨rfl,rfl⟩:=h;simp only[DS,List.length_cons,List.length_append,List.length_take,List.length_nil];omega
theorem Pp {s:List UInt8}{tag:Nat}:∀(f at':Nat) (l l':List A9) (b:Nat),at'<=s.length->A8 s tag f at' l=.ok (l',b)->(DS l').length+at'<=(DS l).length+b
 |0,at',l,l',b,_,h=>by cases h
 |f+1,at',l,l',b,ha,h=>by
  obtain⟨p1,p2⟩:=EM ha;unfold A8 at h;simp only at h;split at h
  ·cases h
  ·split at h
   ·simp only[Except.ok.injEq,Prod.mk.injEq] at h;obtain⟨rfl,rfl⟩:=h;omega
   ·split at h
    ·cases h
    ·rename_i BU;split at h
     ·cases h
     ·rename_i a c hc;obtain⟨q1,q2⟩:=LU hc;have h1:=Zs hc;have h2:=Pp f c _ l' b q2 h;rw[XK] at h2;omega
theorem ZD {s:List UInt8}{tag:Nat}{t:Tok}(hl:tag+5<=s.length)(h:Di s tag=.ok t):fits t:=by
 unfold Di at h;simp only at h;split at h
 ·cases h
 ·have hn:=C8 s (tag+5);split at h
  ·cases h
  ·rename_i l b hb
   have hlen:=Pp _ _ _ _ _ (by omega) hb
   simp only[DS,List.length_nil,Nat.zero_add] at hlen;unfold CW at h;simp only at h
   generalize hk:(if s.getD b 0=47 then 1 else 0:Nat)=k at h
   split at h
   ·cases h
   ·split at h
    ·cases h
    ·simp only[Except.ok.injEq] at h;subst h
     refine⟨?_,.inr (by by_cases k1:k=1<;>simp[k1])⟩
     unfold written
     by_cases k1:k=1
     ·simp only[if_pos k1]
      rw[if_neg (by decide),if_neg (by decide),if_neg (by decide),if_pos trivial]
      simp only[List.length_append,List.length_take,List.length_drop,Al,List.length_cons,List.length_nil];omega
     ·simp only[if_neg k1]
      rw[if_neg (by decide),if_neg (by decide),if_pos trivial]
      simp only[List.length_append,List.length_take,List.length_drop,Al,List.length_cons,List.length_nil];omega
theorem XD {s:List UInt8}{tag:Nat}{t:Tok}(hl:tag+6<=s.length)(h:BW s tag=.ok t):fits t:=by
 unfold BW at h;simp only at h;split at h
 ·cases h
 ·have hn:=C8 s (tag+6)
  obtain⟨q1,q2⟩:=EM (s:=s) (a:=tag+6+lets s (tag+6)) (by omega)
  split at h
  ·cases h
  ·split at h
   ·cases h
   ·simp only[Except.ok.injEq] at h;subst h;refine⟨?_,.inl rfl⟩;unfold written;rw[if_pos rfl];simp only[List.length_append,List.length_take,List.length_drop,Af,List.length_cons,List.length_nil];omega
theorem ZK {s:List UInt8}{a:Nat}{hid Eg:Option Nat}{l:List Tok}(ha:a<s.length)(hs:spec s a hid.isSome=true)(h:CH s a hid=.ok (l,Eg)):∀t∈l,fits t:=by
 unfold CH at h;split at h
 ·rename_i ho
  have h5:=DD ho (by simp[Al])
  have e5:Al.length=5:=rfl;split at h
  ·cases h
  ·rename_i t ht;split at h
   ·cases h
   ·rename_i l2 ZX;simp only[Except.ok.injEq,Prod.mk.injEq] at h;obtain⟨rfl,rfl⟩:=h
    have hf:=ZD (by omega) ht
    rcases Km ZX with ⟨_,rfl⟩|⟨_,_,n,_,rfl⟩
    ·intro x hx;rw[List.mem_singleton] at hx;subst hx;exact hf
    ·intro x hx;simp only[List.mem_cons,List.not_mem_nil,or_false] at hx
     rcases hx with rfl|rfl
     ·exact hf
     ·refine⟨?_,.inl rfl⟩;unfold written
      rw[if_neg (by simp),if_neg (by simp),if_neg (by simp),if_neg (by simp)]
      simp only[List.length_take];omega
 ·rename_i ho;split at h
  ·rename_i hc
   have h6:=DD hc (by simp[Af])
   have e6:Af.length=6:=rfl;split at h
   ·cases h
   ·rename_i t ht;simp only[Except.ok.injEq,Prod.mk.injEq] at h;obtain⟨rfl,rfl⟩:=h;intro x hx;rw[List.mem_singleton] at hx;subst hx
    exact XD (by omega) ht
  ·split at h
   ·split at h
    ·cases h
    ·simp only[Except.ok.injEq,Prod.mk.injEq] at h;obtain⟨rfl,rfl⟩:=h;intro x hx;rw[List.mem_singleton] at hx;subst hx;refine⟨?_,.inl rfl⟩;unfold written
     rw[if_neg (by simp),if_pos rfl]
     simp only[ET,List.length_append,List.length_cons,List.length_nil];omega
   ·simp only[Except.ok.injEq,Prod.mk.injEq] at h;obtain⟨rfl,rfl⟩:=h;intro x hx;rw[List.mem_singleton] at hx;subst hx;refine⟨?_,.inl rfl⟩;unfold written
    rw[if_neg (by simp),if_neg (by simp),if_neg (by simp),if_neg (by simp)]
    simp only[Bq,List.length_cons,List.length_nil];omega
theorem Ox {s:List UInt8}:∀(f a:Nat) (hid:Option Nat) (l:List Tok),a<=s.length->Ce s f a hid=.ok l->∀t∈l,fits t
 |0,a,hid,l,_,h=>by
  simp only[Ce,Except.ok.injEq] at h;subst h;simp
 |f+1,a,hid,l,ha,h=>by
  unfold Ce at h;split at h
  ·split at h
   ·cases h
   ·simp only[Except.ok.injEq] at h;subst h;simp
  ·rename_i Au;split at h
   ·rename_i hs;split at h
    ·cases h
    ·rename_i l1 Eg hn;split at h
     ·cases h
     ·rename_i r hr;simp only[Except.ok.injEq] at h;subst h
      have h1:=ZK (by omega) hs hn
      intro t ht
      rcases List.mem_append.1 ht with ht|ht
      ·exact h1 t ht
      ·by_cases hle:Bd l1 (a+1)<=s.length
       ·exact Ox f _ _ r hle hr t ht
       ·cases f with
        |zero=>
         simp only[Ce,Except.ok.injEq] at hr;subst hr;cases ht
        |succ g=>
         unfold Ce at hr
         rw[if_pos (by omega)] at hr
         split at hr
         ·cases hr
         ·simp only[Except.ok.injEq] at hr;subst hr;cases ht
   ·simp only at h;split at h
    ·cases h
    ·rename_i r hr;simp only[Except.ok.injEq] at h;subst h
     obtain⟨t1,t2,_⟩:=GF (s:=s) (hid:=hid.isSome) (s.length-a) a (by omega) ha
     intro t ht
     rcases List.mem_cons.1 ht with rfl|ht
     ·refine⟨?_,.inl rfl⟩;unfold written
      rw[if_neg (by simp),if_neg (by simp),if_neg (by simp),if_neg (by simp)]
      simp only[cut,List.length_take];omega
     ·exact Ox f _ _ r t2 hr t ht
theorem Ow {s:List UInt8}{l:List Tok}(h:lexM s=.ok l):∀t∈l,fits t:=Ox _ _ _ l (by omega) h
theorem Sy (l:List A9):l.length<=(DS l).length:=by
 induction l with
 |nil=>simp
 |cons a l ih=>simp only[DS,List.length_cons,List.length_append];omega
theorem PR {t:Tok}(h:fits t):t.attrs.length<=(written t).length:=by
 have:=Sy t.attrs
 rcases h.2 with h|h|h
 ·rw[h];simp
 ·unfold written
  rw[if_neg (by omega),if_neg (by omega),if_pos h]
  simp only[List.length_append];omega
 ·unfold written
  rw[if_neg (by omega),if_neg (by omega),if_neg (by omega),if_pos h]
  simp only[List.length_append];omega
def QO :Ci:=fun vs h K=>∃(s x:List UInt8) (a:Nat),x≠[]/\s.length<=limE/\x.length<=limE/\a<=limE/\vs=[.str s,.int .i64 a,.str x]/\K (.bool (has s x a)) h
def PE :Ci:=fun vs h K=>∃(s:List UInt8) (a:Nat),s.length<=limE/\a<=limE/\vs=[.str s,.int .i64 a]/\K (.bool (C6 s a)) h
def TU :Ci:=fun vs h K=>∃(s:List UInt8) (a:Nat) (hid:Bool),s.length<=limE/\a<=limE/\vs=[.str s,.int .i64 a,.bool hid]/\K (.bool (spec s a hid)) h
def Il :Ci:=fun vs h K=>∃(s:List UInt8) (a:Nat),s.length<=limE/\a<=s.length/\vs=[.str s,.int .i64 a]/\K (.int .i64 (lets s a)) h
def OV :Ci:=fun vs h K=>∃(s:List UInt8) (a:Nat),s.length<=limE/\a<=s.length/\vs=[.str s,.int .i64 a]/\K (.int .i64 (past s a)) h
def KG :Ci:=fun vs h K=>∃s:List UInt8,vs=[.str s]/\K (.bool (Bk s)) h
def BV (s x:List UInt8)(a:Nat):Int:=match CY x (s.drop a) with
 |some n=>((a+n:Nat):Int)
 |none=> -1
def lP :Ci:=fun vs h K=>∃(s x:List UInt8) (a:Nat),x≠[]/\s.length<=limE/\x.length<=limE/\a<=s.length/\vs=[.str s,.int .i64 a,.str x]/\K (.int .i64 (BV s x a)) h
def Ol :Ci:=fun vs h K=>vs.isEmpty=true/\K (.sl 1 (KD.map fun n=>[.str n]) none) h
def S6 (s:List UInt8)(tag:Nat):Nat->Nat->List A9->List A9
 |0,_,l=>l
 |f+1,at',l=>
  if s.length<=past s at' then l else
  if s.getD (past s at') 0=62\/s.getD (past s at') 0=47 then l else
  if past s at'=at' then l else
  match DG s (past s at') tag l with
  |.error _=>l
  |.ok (a,b)=>S6 s tag f b (l++[a])
def JV (s:List UInt8)(tag:Nat):Tok:=⟨4,(s.drop (tag+6)).take (lets s (tag+6)),[],[],tag,0⟩
def B9 (s:List UInt8)(tag:Nat):Tok:=
 if Bk ((s.drop (tag+5)).take (lets s (tag+5)))=false then⟨2,(s.drop (tag+5)).take (lets s (tag+5)),[],[],tag,0⟩ else
 match A8 s tag (s.length+1) (tag+5+lets s (tag+5)) [] with
 |.error _=>⟨2,(s.drop (tag+5)).take (lets s (tag+5)),S6 s tag (s.length+1) (tag+5+lets s (tag+5)) [],[],tag,0⟩
 |.ok (l,b)=>⟨if s.getD b 0=47 then 3 else 2,(s.drop (tag+5)).take (lets s (tag+5)),l,[],tag,0⟩
def Ss :Ci:=fun vs h K=>∃(s:List UInt8) (tag:Nat),s.length<=limE/\tag+6<=s.length/\vs=[.str s,.int .i64 tag]/\(∀p e,BW s tag=.error (p,e)->K (.tup [.agg (encT (JV s tag)),.int .i64 p,.int .i64 e]) h)/\
 (∀t,BW s tag=.ok t->K (.tup [.agg (encT t),.int .i64 0,.int .i64 0]) h)
def Pr :Ci:=fun vs h K=>∃(s:List UInt8) (a tag:Nat) (l:List A9),s.length<=limE/\a<=s.length/\tag<=s.length/\l.length<=limE/\vs=[.str s,.int .i64 a,.int .i64 tag,.sl 3 (encAs l) none]/\
 (∀p e,DG s a tag l=.error (p,e)->∀x:A9,K (.tup [.agg (Ao x),.int .i64 0,.int .i64 p,.int .i64 e]) h)/\(∀x b,DG s a tag l=.ok (x,b)->K (.tup [.agg (Ao x),.int .i64 b,.int .i64 0,.int .i64 0]) h)
def V9 :Ci:=fun vs h K=>∃(s:List UInt8) (tag:Nat),s.length<=limE/\tag+5<=s.length/\vs=[.str s,.int .i64 tag]/\(∀p e,Di s tag=.error (p,e)->K (.tup [.agg (encT (B9 s tag)),.int .i64 p,.int .i64 e]) h)/\
 (∀t,Di s tag=.ok t->K (.tup [.agg (encT t),.int .i64 0,.int .i64 0]) h)
def AK (t:Tok):List AV:=if t.kind=7 then [.int .i64 7,.str t.name,.sl 0 [] none,.str t.text,.int .i64 t.fr,.int .i64 t.to] else encT t
def D7 (s:List UInt8)(a:Nat):List (List AV):=
 if has s Al a=true then(match Di s a with|.error _=>[encT (B9 s a)]|.ok _=>[]) else
 if has s Af a=true then [encT (JV s a)] else []
def T8 :Ci:=fun vs h K=>∃(s:List UInt8) (a:Nat) (hid:Option Nat),s.length<=limE/\a<s.length/\spec s a hid.isSome=true/\vs=[.str s,.int .i64 a,.bool hid.isSome]/\
 (∀p e,CH s a hid=.error (p,e)->K (.tup [.sl 6 (D7 s a) none,.int .i64 p,.int .i64 e]) h)/\
 (∀l Eg,CH s a hid=.ok (l,Eg)->K (.tup [.sl 6 (l.map AK) none,.int .i64 0,.int .i64 0]) h)
def ia :Ci:=fun vs h K=>∃s:List UInt8,s.length<=limE/\vs=[.str s]/\(∀p e,lexM s=.error (p,e)->K (.tup [.sl 6 [] none,.int .i64 p,.int .i64 e]) h)/\
 (∀l,lexM s=.ok l->K (.tup [.sl 6 (l.map AK) none,.int .i64 0,.int .i64 0]) h)
theorem Ot (n:Nat)(l:List Tok):Ab n (l.map AK)=true:=by
 induction l with
 |nil=>rfl
 |cons t r ih=>
  rw[List.map_cons]
  have h:CA n (AK t)=true:=by
   unfold AK;split
   ·rfl
   ·have:=ME n t.attrs;simp only[encT,CA,Dw,this,Bool.and_self]
  simp only[Ab,h,ih,Bool.and_self]
theorem gE {s:List UInt8}{t:Tok}{l:List Tok}(ht:t.to<=s.length)(h:Fg s t=.ok l):∃r,l=t::r/\t.to<=Bd l 0/\Bd l 0<=s.length/\l.length<=2:=by
 rcases Km h with ⟨_,rfl⟩|⟨_,_,n,hn,rfl⟩
 ·exact⟨[],rfl,Nat.le_refl _,ht,by simp⟩
 ·have:=HF hn;rw[List.length_drop,List.length_append] at this
  refine⟨_,rfl,?_,?_,by simp⟩
  ·show t.to<=t.to+n;omega
  ·show t.to+n<=s.length;omega
theorem T7 {s:List UInt8}{a:Nat}{hid Eg:Option Nat}{l:List Tok}(ha:a<s.length)(D9:spec s a hid.isSome=true)(h:CH s a hid=.ok (l,Eg)):
  ∃t r,l=t::r/\t.kind≠7/\Eg=(if t.kind=5 then some a else if t.kind=6 then none else hid)/\a<Bd l 0/\Bd l 0<=s.length/\l.length<=2:=by
 unfold CH at h
 by_cases ho:has s Al a=true
 ·have h5:=DD ho (by simp[Al])
  have e5:Al.length=5:=rfl;rw[if_pos ho] at h
  cases Bc:Di s a with
  |error e=>rw[Bc] at h;cases h
  |ok t=>
   rw[Bc] at h;simp only at h
   obtain⟨k1,k2,k3,k4,k5⟩:=Ku (by omega) Bc
   cases hr:Fg s t with
   |error e=>rw[hr] at h;cases h
   |ok l'=>
    rw[hr] at h;simp only[Except.ok.injEq,Prod.mk.injEq] at h;obtain⟨rfl,rfl⟩:=h;obtain⟨r,q1,q2,q3,q4⟩:=gE k5 hr
    exact⟨t,r,q1,by omega,by rw[if_neg (by omega),if_neg (by omega)],by omega,q3,q4⟩
 ·rw[if_neg ho] at h
  by_cases hc:has s Af a=true
  ·have h6:=DD hc (by simp[Af])
   have e6:Af.length=6:=rfl;rw[if_pos hc] at h
   cases Bc:BW s a with
   |error e=>rw[Bc] at h;cases h
   |ok t=>
    rw[Bc] at h;simp only[Except.ok.injEq,Prod.mk.injEq] at h;obtain⟨rfl,rfl⟩:=h
    obtain⟨k1,k2,k3,k4,k5,k6,k7⟩:=GO (by omega) Bc
    exact⟨t,[],rfl,by omega,by rw[if_neg (by omega),if_neg (by omega)],by show a<t.to;omega,by show t.to<=_;omega,by simp⟩
  ·rw[if_neg hc] at h
   by_cases hh:C6 s a=true
   ·have h8:a+8<=s.length:=by
     unfold C6 at hh;simp only[Bool.and_eq_true,decide_eq_true_eq] at hh;omega
    rw[if_pos hh] at h;split at h
    ·cases h
    ·simp only[Except.ok.injEq,Prod.mk.injEq] at h;obtain⟨rfl,rfl⟩:=h
     exact⟨_,[],rfl,(show(5:Int)≠7 by decide),rfl,by show a<a+8;omega,h8,by simp⟩
   ·rw[if_neg hh] at h;simp only[Except.ok.injEq,Prod.mk.injEq] at h;obtain⟨rfl,rfl⟩:=h
    have h3:has s Bq a=true:=by
     unfold spec at D9;simp only[Bool.or_eq_true,Bool.and_eq_true] at D9
     rcases D9 with h|h|h|h
     ·exact absurd h ho
     ·exact absurd h hc
     ·exact absurd h hh
     ·exact h.1
    have h3:=DD h3 (by simp[Bq])
    have e3:Bq.length=3:=rfl
    exact⟨_,[],rfl,(show(6:Int)≠7 by decide),rfl,by show a<a+3;omega,by show a+3<=_;omega,by simp⟩
theorem cp {t:Tok}{r:List Tok}(d d':Nat):Bd (t::r) d=Bd (t::r) d':=by
 unfold Bd;rw[List.getLast?_cons]
theorem WT {t:Tok}{r:List Tok}(d:Nat):∃h:(t::r).length-1<(t::r).length,Bd (t::r) d=((t::r)[(t::r).length-1]).to:=by
 refine⟨by simp,?_⟩
 unfold Bd;rw[List.getLast?_eq_getElem?];simp
def nN (l:List Tok):Except TG (List Tok)->Except TG (List Tok)
 |.error e=>.error e
 |.ok q=>.ok (l++q)
theorem ZQ {s:List UInt8}{f a:Nat}{hid Eg:Option Nat}{l:List Tok}(h1:¬s.length<=a)(h2:spec s a hid.isSome=true)(h3:CH s a hid=.ok (l,Eg)):
  Ce s (f+1) a hid=nN l (Ce s f (Bd l (a+1)) Eg):=by
 conv=>lhs;unfold Ce
 rw[if_neg h1,if_pos h2,h3];simp only
 cases Ce s f (Bd l (a+1)) Eg<;>rfl
theorem ZP {s:List UInt8}{f a:Nat}{hid:Option Nat}(h1:¬s.length<=a)(h2:¬spec s a hid.isSome=true):
  Ce s (f+1) a hid=nN [⟨1,[],[],cut s a (BN s hid.isSome (s.length-a) a),a,BN s hid.isSome (s.length-a) a⟩] (Ce s f (BN s hid.isSome (s.length-a) a) hid):=by
 conv=>lhs;unfold Ce
 rw[if_neg h1,if_neg h2];simp only
 cases Ce s f (BN s hid.isSome (s.length-a) a) hid<;>rfl
end Go.Ai.Ex
end
