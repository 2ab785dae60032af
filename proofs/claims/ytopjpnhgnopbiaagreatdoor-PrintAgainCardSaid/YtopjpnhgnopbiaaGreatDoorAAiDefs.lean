/-
  The abstract interpreter: values, heap, evaluator. No statement about the program is made here.
-/
import Derived.WalkKit
set_option linter.unusedVariables false
set_option linter.unusedSimpArgs false
set_option linter.unnecessarySimpa false
namespace Go.Ai
open Go.RowKit
inductive AV where
 |top
 |bool (b:Bool)
 |int (k:IntKind) (n:Int)
 |str (s:List UInt8)
 |Gb
 |ptr (b o:Nat)
 |ro (cs:List AV)
 |sl (sz:Nat) (es:List (List AV)) (own:Option Nat)
 |KR (b off len sz:Nat)
 |fn (f:Fn) (first captured:List AV)
 |HO
 |iface (t:TypeId) (v:AV)
 |JX
 |agg (cs:List AV)
 |tup (vs:List AV)
 |Wr (b:Nat)
 |C9 (l:List AV)
 |CM (b g d sz len:Nat)
 |Bf (b g d o:Nat)
 |Gw (b g d sz:Nat) (es:List (List AV))
 |PD (ks:List Int) (vs:List (List AV))
 deriving Inhabited
inductive Blk where
 |mem (t:TypeId) (cs:List AV)
 |grow (n sz:Nat) (e:TypeId)
 |dead
 |iter (s:List UInt8) (pos:Nat)
 |Bi (g:Nat) (t:TypeId) (sz kc:Nat) (ke:TypeId) (ksz:Nat) (rows:List (Nat×List AV))
 deriving Inhabited
inductive XT where
 |normal
 |exit (id:Nat)
 |goto (l:Nat)
 |ret
 deriving Inhabited
abbrev Fr :=List (Nat×Bool×AV)
abbrev Hp :=List Blk
def lk :Fr->Nat->Bool×AV
 |[],_=>(true,.top)
 |(s,e)::r,n=>bif Nat.beq s n then e else lk r n
def Av (F:Fr)(d:Option Nat)(e:Bool×AV):Fr:=
 match d with
 |some d=>(d,e)::F
 |none=>F
structure Bm where
 P:Program
 G:Nat->Option (List AV)
 live:FuncId->Nat->List Nat
 heap:FuncId->Bool
 FM:FuncId->Option (List AV->Option (Bool×AV))
 ok:FuncId->Bool
 ident:FuncId->Bool
 Fv:FuncId->Bool
 Pr:FuncId->Bool:=fun _=>false
 Cr:FuncId->Option (List AV->Hp->Option (AV×Hp))
 C9:FuncId->Bool
 LW:FuncId->Bool
 rO:Oper->Option (Nat×TypeId×Nat):=fun _=>none
 Hk:FuncId->Nat->Bool:=fun _ _=>false
 reader:FuncId->Bool:=fun _=>false
 pre:FuncId->Option Nat:=fun _=>none
def ofConst :Value->AV
 |.bool b=>.bool b
 |.int k n=>.int k n
 |.string s=>.str s.data.toList
 |.pointer none=>.Gb
 |.slice none 0 0=>.sl 0 [] none
 |.nilFunc=>.HO
 |.nilIface=>.JX
 |_=>.top
def Ql (v:Value):AV:=match v with
 |.agg a=>match a.toList.all (·.oneCell') with
  |true=>.agg (a.toList.map ofConst)
  |false=>.top
 |v=>ofConst v
def ev (G:Nat->Option (List AV))(F:Fr):Operand->Bool×AV
 |.tmp t=>lk F t
 |.const v=>(true,Ql v)
 |.global g=>(true,match G g with|some cs=>.ro cs|none=>.top)
 |.func f=>(true,.fn (.func f) [] [])
def GF (P:Program)(t:TypeId):Bool:=
 match P.underlying t with
 |some (.struct _)|some (.array _ _)=>true
 |_=>false
def flat :AV->List AV
 |.agg cs=>cs
 |v=>[v]
def one :AV->Bool
 |.agg _|.tup _|.top|.C9 _=>false
 |_=>true
def CP :AV->Bool
 |.agg _=>true
 |v=>one v
def rd (P:Program)(t:TypeId)(cs:List AV):Option AV:=
 match P.underlying t,P.info? t with
 |some _,some i=>
  match GF P t with
  |true=>bif Nat.ble i.size cs.length then some (.agg (cs.take i.size)) else none
  |false=>match cs with
   |c::_=>some c
   |[]=>none
 |_,_=>none
def Et (cs:List AV)(o:Nat)(vs:List AV):List AV:=cs.take o++vs++cs.drop (o+vs.length)
def cond {α:Type}(b:Bool)(x y:α):α:=match b with|true=>x|false=>y
def UL (c:Bool)(a b:AV):AV:=
 match a,b with
 |.bool x,.bool y=>.bool (cond c x y)
 |.int k x,.int k' y=>bif decide (k=k') then .int k (cond c x y) else cond c a b
 |.str x,.str y=>.str (cond c x y)
 |_,_=>cond c a b
def WS :Value->Bool
 |.slice none 0 0=>true
 |_=>false
def PU (P:Program):Nat->TypeId->List (Option TypeId)
 |0,_=>[]
 |d+1,t=>
  match P.underlying t with
  |some (.struct fs)=>(fs.toList.map fun f=>PU P d f.type).flatten
  |some (.array n e)=>(List.replicate n (PU P d e)).flatten
  |some (.slice e)=>[some e]
  |_=>[none]
def DJ (P:Program):List Value->List (Option TypeId)->Nat->List AV×Hp
 |[],_,_=>([],[])
 |v::vs,some e::ts,n=>
  match WS v with
  |true=>
   let r:=DJ P vs ts (n+1)
   (.sl (P.cellsOf e) [] (some n)::r.1,.grow 0 (P.cellsOf e) e::r.2)
  |false=>
   let r:=DJ P vs ts n
   (ofConst v::r.1,r.2)
 |v::vs,ts,n=>
  let r:=DJ P vs (ts.drop 1) n
  (ofConst v::r.1,r.2)
def zeroOf (P:Program)(dr:Bool)(t:TypeId)(n:Nat):Option (List AV×Hp):=
 match P.info? t with
 |none=>none
 |some i=>match i.zero with
  |none=>none
  |some z=>
   bif !(z.cells.toList.all (·.oneCell')) then none else
   match dr with
   |true=>some (z.cells.toList.map ofConst,[])
   |false=>some (DJ P z.cells.toList (PU P 20 t) n)
def Od (place:Nat->Option (Nat×Nat)):List AV->List (Nat×AV)->Option (List AV)
 |cs,[]=>some cs
 |cs,(i,v)::rest=>
  match place i with
  |none=>none
  |some (off,size)=>
   bif Nat.beq (flat v).length size&&Nat.ble (off+size) cs.length then Od place (Et cs off (flat v)) rest else none
def Nw (G:Nat->Option (List AV))(F:Fr)(l:List Operand):Bool×List AV:=
 (l.all fun x=>(ev G F x).1,l.map fun x=>(ev G F x).2)
def E7 (h:Hp)(n sz:Nat)(e:TypeId):Option Nat->Bool
 |none=>false
 |some id=>match h[id]? with
  |some (.grow m EB e')=>Nat.beq m n&&Nat.beq EB sz&&Nat.beq e' e
  |_=>false
def lO (P:Program)(op:BinOp)(_t:TypeId)(x y:AV):Option (Bool×AV):=
 match op,x,y with
 |.shl,.int k a,.int _ b=>some (decide (0<=b),.int k (k.wrap (a*2^(min b.toNat k.bits))))
 |.shr,.int k a,.int _ b=>some (decide (0<=b),.int k (a.fdiv (2^(min b.toNat k.bits))))
 |.add,.int k a,.int k' b=>some (decide (k=k'),.int k (k.wrap (a+b)))
 |.sub,.int k a,.int k' b=>some (decide (k=k'),.int k (k.wrap (a-b)))
 |.mul,.int k a,.int k' b=>some (decide (k=k'),.int k (k.wrap (a*b)))
 |.quo,.int k a,.int k' b=>some (decide (k=k')&& !decide (b=0),.int k (k.wrap (a.tdiv b)))
 |.rem,.int k a,.int k' b=>some (decide (k=k')&& !decide (b=0),.int k (a.tmod b))
 |.and,.int k a,.int k' b=>some (decide (k=k'),.int k (bits .and k a b))
 |.or,.int k a,.int k' b=>some (decide (k=k'),.int k (bits .or k a b))
 |.xor,.int k a,.int k' b=>some (decide (k=k'),.int k (bits .xor k a b))
 |.andNot,.int k a,.int k' b=>some (decide (k=k'),.int k (bits .andNot k a b))
 |.eql,.int k a,.int k' b=>some (decide (k=k'),.bool (a==b))
 |.neq,.int k a,.int k' b=>some (decide (k=k'),.bool (a !=b))
 |.lss,.int k a,.int k' b=>some (decide (k=k'),.bool (decide (a<b)))
 |.leq,.int k a,.int k' b=>some (decide (k=k'),.bool (decide (a<=b)))
 |.gtr,.int k a,.int k' b=>some (decide (k=k'),.bool (decide (a>b)))
 |.geq,.int k a,.int k' b=>some (decide (k=k'),.bool (decide (a>=b)))
 |.add,.str a,.str b=>some (decide (a.length+b.length<=9223372036854775807),.str (a++b))
 |.eql,.str a,.str b=>some (true,.bool (a==b))
 |.neq,.str a,.str b=>some (true,.bool (!(a==b)))
 |.lss,.str a,.str b=>some (true,.bool (Op.bytesLess a b))
 |_,_,_=>none
def uM (op:UnOp)(x:AV):Option (Bool×AV):=
 match op,x with
 |.neg,.int k n=>some (true,.int k (k.wrap (0-n)))
 |.not,.bool b=>some (true,.bool !b)
 |_,_=>none
def jI (P:Program)(src dst:TypeId)(x:AV):Option (Bool×AV):=
 match P.underlying src,P.underlying dst,x with
 |some _,some (.int k),.int _ n=>some (true,.int k (k.wrap n))
 |some .string,some .string,.str s=>some (true,.str s)
 |_,_,_=>none
def Mh :AV->AV->Option Bool
 |.bool a,.bool b=>some (a==b)
 |.Gb,.Gb=>some true
 |.Gb,.ptr _ _=>some false
 |.ptr _ _,.Gb=>some false
 |.Gb,.ro _=>some false
 |.ro _,.Gb=>some false
 |.ptr b o,.ptr b' o'=>bif Nat.beq b b' then some (Nat.beq o o') else none
 |.HO,.HO=>some true
 |.HO,.fn _ _ _=>some false
 |.fn _ _ _,.HO=>some false
 |.JX,.JX=>some true
 |.JX,.iface _ _=>some false
 |.iface _ _,.JX=>some false
 |_,_=>none
def Oj (P:Program)(t:TypeId)(x:AV):Bool:=
 match P.underlying t,x with
 |some .bool,.bool _=>true
 |some (.pointer e),.Gb=>true
 |some (.pointer e),.ptr _ _=>match P.info? e with
  |some i=>!Nat.beq i.size 0
  |none=>false
 |some (.pointer e),.ro _=>true
 |some (.func _ _ _),.HO=>true
 |some (.func _ _ _),.fn _ _ _=>true
 |some (.interface _),.JX=>true
 |some (.interface _),.iface _ _=>true
 |_,_=>false
def Mm :AV->AV->Bool
 |.JX,.JX=>true
 |_,_=>false
def gn :Operand->Bool
 |.const _=>true
 |_=>false
def CH (es:List (List AV))(i:Int):List AV:=es.getD i.toNat []
def Dk (i:Int)(n:Nat):Bool:=decide (0<=i)&&decide (i<n)
def NS :Option (Bool×AV)->Option (Bool×Option Int)
 |none=>some (true,none)
 |some (g,.int _ a)=>some (g,some a)
 |_=>none
def CL (len:Nat):Option Int->Option Int->Bool
 |none,none=>true
 |some a,none=>decide (0<=a)&&decide (a<=len)
 |none,some b=>decide (0<=b)&&decide (b<=len)
 |some a,some b=>decide (0<=a)&&decide (a<=b)&&decide (b<=len)
def Dh {α:Type}(s:List α):Option Int->Option Int->List α
 |none,none=>s
 |some a,none=>s.drop a.toNat
 |none,some b=>s.take b.toNat
 |some a,some b=>(s.take b.toNat).drop a.toNat
abbrev K3 :=Option (Bool×(Bool×AV)×Hp)
def HY (C:Bm)(dr:Bool)(F:Fr)(h:Hp)(ty:TypeId)(x:Operand):K3:=
 match x with
 |.const v=>
  match WS v with
  |true=>
   match dr,C.P.underlying ty with
   |false,some (.slice e)=>some (true,(true,.sl (C.P.cellsOf e) [] (some h.length)),h++[.grow 0 (C.P.cellsOf e) e])
   |_,_=>some (true,(true,.sl 0 [] none),h)
  |false=>some (true,(true,ofConst v),h)
 |x=>some (true,ev C.G F x,h)
def RV (C:Bm)(F:Fr)(h:Hp)(c a b:Operand):K3:=
 match ev C.G F c with
 |(gc,.bool c')=>some (gc,((ev C.G F a).1&&(ev C.G F b).1||cond c' (ev C.G F a).1 (ev C.G F b).1,UL c' (ev C.G F a).2 (ev C.G F b).2),h)
 |_=>none
def VB (C:Bm)(dr:Bool)(h:Hp)(t:TypeId):K3:=
 match zeroOf C.P dr t h.length with
 |some (cs,more)=>some (true,(true,.ptr (h.length+more.length) 0),h++more++[.mem t cs])
 |none=>none
def Kb (C:Bm)(dr:Bool)(F:Fr)(h:Hp)(t:TypeId)(parts:Array (Nat×Operand)):K3:=
 match C.P.underlying t,zeroOf C.P dr t h.length with
 |some (.struct fs),some (z,more)=>
  match Od (fun i=>(fs[i]?).map fun f=>(f.offset,C.P.cellsOf f.type)) z (parts.toList.map fun p=>(p.1,(ev C.G F p.2).2)) with
  |some cs=>some ((parts.toList.all fun p=>(ev C.G F p.2).1&&CP (ev C.G F p.2).2)&&(fs.toList.all fun f=>(C.P.info? f.type).isSome),(true,.agg cs),h++more)
  |none=>none
 |some (.array _ e),some (z,more)=>
  match Od (fun i=>some (i*C.P.cellsOf e,C.P.cellsOf e)) z (parts.toList.map fun p=>(p.1,(ev C.G F p.2).2)) with
  |some cs=>some ((parts.toList.all fun p=>(ev C.G F p.2).1&&CP (ev C.G F p.2).2)&&(C.P.info? e).isSome,(true,.agg cs),h++more)
  |none=>none
 |_,_=>none
def C7 (C:Bm)(dr:Bool)(F:Fr)(h:Hp)(t:TypeId)(len:Nat)(parts:Array (Nat×Operand)):K3:=
 match C.P.underlying t with
 |some (.slice e)=>
  bif Nat.beq parts.size len&&(parts.toList.zipIdx.all fun p=>Nat.beq p.1.1 p.2)&&(parts.toList.all fun p=>Nat.beq (flat (ev C.G F p.2).2).length (C.P.cellsOf e))&&
    Nat.ble (len*C.P.cellsOf e) 16777216&&Nat.ble 1 (C.P.cellsOf e)&&((C.P.info? e).bind (·.zero)).isSome then
   match dr with
   |true=>some (parts.toList.all fun p=>(ev C.G F p.2).1&&CP (ev C.G F p.2).2,(true,.sl (C.P.cellsOf e) (parts.toList.map fun p=>flat (ev C.G F p.2).2) none),h)
   |false=>some (parts.toList.all fun p=>(ev C.G F p.2).1&&CP (ev C.G F p.2).2,(true,.sl (C.P.cellsOf e) (parts.toList.map fun p=>flat (ev C.G F p.2).2) (some h.length)),h++[.grow len (C.P.cellsOf e) e])
  else none
 |_=>none
def JD (C:Bm)(F:Fr)(h:Hp)(t:TypeId)(a:Operand):K3:=
 match ev C.G F a with
 |(g,.ro cs)=>match rd C.P t cs with
  |some v=>some (g,(true,v),h)
  |none=>none
 |(g,.ptr b o)=>match h[b]? with
  |some (.mem _ cs)=>match rd C.P t (cs.drop o) with
   |some v=>some (g,(true,v),h)
   |none=>none
  |_=>none
 |_=>none
def Pl (C:Bm)(F:Fr)(h:Hp)(t:TypeId)(a x:Operand):K3:=
 match ev C.G F a with
 |(g,.ptr b o)=>match h[b]?,C.P.info? t with
  |some (.mem t0 cs),some i=>
   some (g&&(ev C.G F x).1&&CP (ev C.G F x).2&&Nat.beq (flat (ev C.G F x).2).length i.size&&Nat.ble (o+i.size) cs.length,(true,.top),h.set b (.mem t0 (Et cs o (flat (ev C.G F x).2))))
  |_,_=>none
 |_=>none
def Ez (C:Bm)(F:Fr)(h:Hp)(x:Operand):K3:=
 match ev C.G F x with
 |(g,.ptr b o)=>some (g,(true,.ptr b o),h)
 |(g,.ro cs)=>some (g,(true,.ro cs),h)
 |_=>none
def JC (C:Bm)(F:Fr)(h:Hp)(t:TypeId)(x:Operand)(lo hi mx:Option Operand):K3:=
 match mx,NS (lo.map (ev C.G F)),NS (hi.map (ev C.G F)),C.P.underlying t,ev C.G F x with
 |none,some (g1,l),some (g2,r),some .string,(g,.str s)=>some (g&&g1&&g2&&CL s.length l r,(true,.str (Dh s l r)),h)
 |none,some (g1,l),some (g2,r),some (.slice e),(g,.sl sz es _)=>
  some (g&&g1&&g2&&CL es.length l r&&(Nat.beq sz (C.P.cellsOf e)||es.isEmpty)&&(C.P.info? e).isSome,(true,.sl sz (Dh es l r) none),h)
 |_,_,_,_,_=>none
def KA (C:Bm)(dr:Bool)(F:Fr)(h:Hp)(t:TypeId)(x:Operand)(lo hi mx:Option Operand):K3:=
 match dr,mx,hi,NS (lo.map (ev C.G F)),C.P.underlying t,ev C.G F x with
 |false,none,none,some (g1,some l),some (.array n e),(g,.ptr b o)=>
  match h[b]? with
  |some (.mem _ cs)=>some (g&&g1&&decide (0<=l)&&decide (l<n)&&(C.P.info? e).isSome&&Nat.ble (o+n*C.P.cellsOf e) cs.length&&Nat.ble n 1000000,(true,.KR b (o+l.toNat*C.P.cellsOf e) (n-l.toNat) (C.P.cellsOf e)),h)
  |_=>none
 |_,_,_,_,_,_=>none
def EH (C:Bm)(F:Fr)(h:Hp)(s:TypeId)(x:Operand)(f:Nat):K3:=
 match C.P.underlying s with
 |some (.struct fs)=>match fs[f]? with
  |some fd=>
   bif Nat.beq (C.P.cellsOf fd.type) 0 then none else
   match ev C.G F x with
   |(g,.ptr b o)=>some (g,(true,.ptr b (o+fd.offset)),h)
   |(g,.ro cs)=>some (g,(true,.ro (cs.drop fd.offset)),h)
   |_=>none
  |none=>none
 |_=>none
def Ma (C:Bm)(F:Fr)(h:Hp)(s:TypeId)(x:Operand)(f:Nat):K3:=
 match C.P.underlying s with
 |some (.struct fs)=>match fs[f]?,ev C.G F x with
  |some fd,(g,.agg cs)=>match rd C.P fd.type (cs.drop fd.offset) with
   |some v=>some (g,(true,v),h)
   |none=>none
  |_,_=>none
 |_=>none
def EG (C:Bm)(F:Fr)(h:Hp)(t:TypeId)(x i:Operand):K3:=
 match C.P.underlying t,ev C.G F x,ev C.G F i with
 |some (.slice e),(g,.sl sz es _),(g',.int _ n)=>
  some (g&&g'&&Dk n es.length&&Nat.beq sz (C.P.cellsOf e)&&Nat.ble 1 sz,(true,.ro (CH es n)),h)
 |some (.slice e),(g,.KR b off len sz),(g',.int _ n)=>
  some (g&&g'&&Dk n len&&Nat.beq sz (C.P.cellsOf e)&&Nat.ble 1 sz,(true,.ptr b (off+n.toNat*sz)),h)
 |some (.array m e),(g,.ro cs),(g',.int _ n)=>
  some (g&&g'&&Dk n m&&Nat.ble 1 (C.P.cellsOf e),(true,.ro (cs.drop (n.toNat*C.P.cellsOf e))),h)
 |some (.array m e),(g,.ptr b o),(g',.int _ n)=>
  some (g&&g'&&Dk n m&&Nat.ble 1 (C.P.cellsOf e),(true,.ptr b (o+n.toNat*C.P.cellsOf e)),h)
 |_,_,_=>none
def MZ (C:Bm)(F:Fr)(h:Hp)(t:TypeId)(x i:Operand):K3:=
 match C.P.underlying t,ev C.G F x,ev C.G F i with
 |some .string,(g,.str s),(g',.int _ n)=>some (g&&g'&&Dk n s.length,(true,.int .u8 ((s.getD n.toNat 0).toNat:Int)),h)
 |_,_,_=>none
def Ih (C:Bm)(F:Fr)(h:Hp)(t:Operand)(ix:Nat):K3:=
 match ev C.G F t with
 |(g,.tup vs)=>match vs[ix]? with
  |some v=>some (g,(true,v),h)
  |none=>none
 |_=>none
def TW (C:Bm)(F:Fr)(h:Hp)(x:Operand)(t:TypeId):K3:=
 match C.P.underlying t,ev C.G F x with
 |some .string,(g,.str s)=>some (g,(true,.int .i64 s.length),h)
 |some (.slice _),(g,.sl _ es _)=>some (g,(true,.int .i64 es.length),h)
 |some (.slice _),(g,.KR _ _ len _)=>some (g,(true,.int .i64 len),h)
 |_,_=>none
def bR (C:Bm)(F:Fr)(h:Hp)(x y:Operand):K3:=
 match ev C.G F x,ev C.G F y with
 |(g,.int k a),(g',.int k' b)=>some (g&&g'&&decide (k=k'),(true,.int k (max a b)),h)
 |_,_=>none
def bQ (C:Bm)(F:Fr)(h:Hp)(x y:Operand):K3:=
 match ev C.G F x,ev C.G F y with
 |(g,.int k a),(g',.int k' b)=>some (g&&g'&&decide (k=k'),(true,.int k (min a b)),h)
 |_,_=>none
def Mc (C:Bm)(F:Fr)(h:Hp)(s x:Operand)(t t':TypeId):K3:=
 match C.P.underlying t,ev C.G F s,ev C.G F x with
 |some (.slice e),(g,.sl sz es (some id)),(g',.sl EB ns _)=>
  match C.P.info? e with
  |some i=>
   match i.zero with
   |some z=>
    some (g&&g'&&Nat.beq t t'&&E7 h es.length (C.P.cellsOf e) e (some id)&&(Nat.beq sz (C.P.cellsOf e)||es.isEmpty)&&(Nat.beq EB (C.P.cellsOf e)||ns.isEmpty)&&Nat.ble 1 (C.P.cellsOf e)
      &&decide ((es.length+ns.length)*i.bytes<=140737488355328)&&Nat.ble 1 i.bytes&&Nat.beq z.cells.size i.size,
     (true,.sl (C.P.cellsOf e) (es++ns) (some id)),h.set id (.grow (es.length+ns.length) (C.P.cellsOf e) e))
   |none=>none
  |none=>none
 |_,_,_=>none
def Kc (C:Bm)(F:Fr)(h:Hp)(s x:Operand)(t t':TypeId):K3:=
 match C.P.underlying t,C.P.underlying t',ev C.G F s,ev C.G F x with
 |some (.slice e),some .string,(g,.sl sz es (some id)),(g',.str l)=>
  match C.P.info? e with
  |some i=>
   match i.zero with
   |some z=>
    some (g&&g'&&E7 h es.length (C.P.cellsOf e) e (some id)&&(Nat.beq sz (C.P.cellsOf e)||es.isEmpty)&&Nat.beq (C.P.cellsOf e) 1
      &&decide ((es.length+l.length)*i.bytes<=140737488355328)&&Nat.ble 1 i.bytes&&Nat.beq z.cells.size i.size,
     (true,.sl (C.P.cellsOf e) (es++l.map fun b=>[.int .u8 (b.toNat:Int)]) (some id)),h.set id (.grow (es.length+l.length) (C.P.cellsOf e) e))
   |none=>none
  |none=>none
 |_,_,_,_=>none
def dU (P:Program)(eq:TypeId->AV->AV->Option Bool):List Field->List AV->List AV->Option Bool
 |[],_,_=>some true
 |f::fs,xs,ys=>
  match rd P f.type (xs.drop f.offset),rd P f.type (ys.drop f.offset) with
  |some a,some b=>
   match eq f.type a b,dU P eq fs xs ys with
   |some p,some q=>some (p&&q)
   |_,_=>none
  |_,_=>none
def iz (P:Program):Nat->TypeId->AV->AV->Option Bool
 |0,_,_,_=>none
 |n+1,t,x,y=>
  match P.underlying t,x,y with
  |some (.int _),.int k a,.int k' b=>bif decide (k=k') then some (a==b) else none
  |some .string,.str a,.str b=>some (a==b)
  |some .bool,.bool a,.bool b=>some (a==b)
  |some (.struct fs),.agg xs,.agg ys=>dU P (iz P n) fs.toList xs ys
  |_,_,_=>none
def WL (P:Program):Nat->TypeId->Bool
 |0,_=>true
 |n+1,t=>match P.underlying t with
  |some (.struct fs)=>!P.stoodInHeld t&&fs.toList.all fun f=>!(f.name== "_")&&WL P n f.type
  |_=>true
def XK (C:Bm)(F:Fr)(h:Hp)(op:BinOp)(t:TypeId)(x y:Operand):K3:=
 match op,ev C.G F x,ev C.G F y with
 |.eql,(g,.agg xs),(g',.agg ys)=>
  match iz C.P 100 t (.agg xs) (.agg ys) with
  |some b=>some (g&&g'&& !C.P.eqGuardType C.P.depth t&&WL C.P 100 t,(true,.bool b),h)
  |none=>none
 |.neq,(g,.agg xs),(g',.agg ys)=>
  match iz C.P 100 t (.agg xs) (.agg ys) with
  |some b=>some (g&&g'&& !C.P.eqGuardType C.P.depth t&&WL C.P 100 t,(true,.bool !b),h)
  |none=>none
 |_,_,_=>none
def XL (C:Bm)(F:Fr)(h:Hp)(op:BinOp)(t:TypeId)(x y:Operand):K3:=
 match lO C.P op t (ev C.G F x).2 (ev C.G F y).2 with
 |some r=>some ((ev C.G F x).1&&(ev C.G F y).1&&r.1,(true,r.2),h)
 |none=>
  match op,Mh (ev C.G F x).2 (ev C.G F y).2 with
  |.eql,some b=>some ((ev C.G F x).1&&(ev C.G F y).1&&Oj C.P t (ev C.G F x).2&&Oj C.P t (ev C.G F y).2&&(gn x||gn y|| !Mm (ev C.G F x).2 (ev C.G F y).2),(true,.bool b),h)
  |.neq,some b=>some ((ev C.G F x).1&&(ev C.G F y).1&&Oj C.P t (ev C.G F x).2&&Oj C.P t (ev C.G F y).2&&(gn x||gn y|| !Mm (ev C.G F x).2 (ev C.G F y).2),(true,.bool !b),h)
  |_,_=>XK C F h op t x y
def On :List AV->Option UInt8
 |[.int .u8 n]=>bif decide (0<=n)&&decide (n<256) then some (UInt8.ofNat n.toNat) else none
 |_=>none
def GK :List (List AV)->Option (List UInt8)
 |[]=>some []
 |e::es=>match On e,GK es with
  |some b,some l=>some (b::l)
  |_,_=>none
def XV :AV->UInt8
 |.int _ n=>UInt8.ofNat n.toNat
 |_=>0
def bZ :AV->Bool
 |.int .u8 n=>decide (0<=n)&&decide (n<256)
 |_=>false
def Zo (cs:List AV):Bool:=cs.all bZ
def nL :List AV->Bool
 |[c]=>bZ c
 |_=>false
def j8 :List AV->UInt8
 |[c]=>XV c
 |_=>0
def fU (es:List (List AV)):Bool:=es.all nL
def U9 (C:Bm)(F:Fr)(h:Hp)(t:TypeId)(l c:Operand):K3:=
 match C.P.underlying t with
 |some (.slice e)=>
  match C.P.info? e,ev C.G F l,ev C.G F c with
  |some i,(g,.int _ n),(g',.int _ m)=>
   match i.zero with
   |some z=>
    some (g&&g'&&decide (0<=n)&&decide (n=m)&&decide ((i.bytes:Int)*m<=281474976710656)&&decide (m<=9223372036854775807)&&Nat.beq i.size 1&&Nat.beq z.cells.size 1&&z.cells.toList.all (·.oneCell'),
     (true,.KR h.length 0 n.toNat 1),h++[.mem e (List.replicate n.toNat (match z.cells.toList with|[v]=>ofConst v|_=>.top))])
   |none=>none
  |_,_,_=>none
 |_=>none
def Ii (C:Bm)(F:Fr)(h:Hp)(src dst:TypeId)(x:Operand):K3:=
 match C.P.underlying src,C.P.underlying dst,ev C.G F x with
 |some (.pointer t),some .unsafePointer,(g,.ptr b o)=>
  match h[b]?,C.P.info? t with
  |some (.mem _ cs),some i=>some (g&& !Nat.beq i.size 0&&Nat.blt o cs.length,(true,.ptr b o),h)
  |_,_=>none
 |some .unsafePointer,some (.pointer u),(g,.ptr b o)=>
  match h[b]?,C.P.info? u with
  |some (.mem t cs),some i=>some (g&&Nat.beq t u&&Nat.beq o 0&& !Nat.beq i.size 0&&Nat.ble i.size cs.length,(true,.ptr b o),h)
  |_,_=>none
 |some (.int _),some .string,(g,.int _ n)=>some (g,(true,.str (Utf8.encode n).data.toList),h)
 |some (.slice e),some .string,(g,.sl _ es _)=>
  match C.P.underlying e with
  |some (.int .u8)=>some (g&&fU es,(true,.str (es.map j8)),h)
  |_=>none
 |some (.slice e),some .string,(g,.KR b off len sz)=>
  match C.P.underlying e,h[b]? with
  |some (.int .u8),some (.mem _ cs)=>
   some (g&&Nat.beq sz 1&&Zo ((cs.drop off).take len),(true,.str (((cs.drop off).take len).map XV)),h)
  |_,_=>none
 |some .string,some (.slice e),(g,.str l)=>
  match C.P.underlying e with
  |some (.int .u8)=>some (g&&Nat.ble l.length 140737488355328,(true,.KR h.length 0 l.length 1),h++[.mem e (l.map fun b=>.int .u8 (b.toNat:Int))])
  |_=>none
 |_,_,_=>
  match jI C.P src dst (ev C.G F x).2 with
  |some r=>some ((ev C.G F x).1&&r.1,(true,r.2),h)
  |none=>none
def HE (C:Bm)(F:Fr)(h:Hp)(b:Builtin)(args:List Operand)(ts:List TypeId):K3:=
 match b,args,ts with
 |.len,[x],[t]=>TW C F h x t
 |.max,[x,y],_=>bR C F h x y
 |.min,[x,y],_=>bQ C F h x y
 |.append,[s,x],[t,t']=>match C.P.underlying t' with
  |some .string=>Kc C F h s x t t'
  |_=>Mc C F h s x t t'
 |_,_,_=>none
def U8 (C:Bm)(F:Fr)(h:Hp)(t:TypeId)(x:Operand):K3:=
 match C.P.underlying t,ev C.G F x with
 |some .string,(g,.str s)=>some (g,(true,.Wr h.length),h++[.iter s 0])
 |_,_=>none
def Zb (C:Bm)(F:Fr)(h:Hp)(it:Operand)(isString:Bool):K3:=
 match isString,ev C.G F it with
 |true,(g,.Wr b)=>match h[b]? with
  |some (.iter s p)=>
   match Nat.blt p s.length with
   |true=>some (g,(true,.tup [.bool true,.int .i64 p,.int .i32 (Utf8.decode ⟨s.toArray⟩ p).1]),h.set b (.iter s (p+(Utf8.decode ⟨s.toArray⟩ p).2)))
   |false=>some (g,(true,.tup [.bool false]),h)
  |_=>none
 |_,_=>none
def Mb (C:Bm)(F:Fr)(h:Hp)(x:Operand)(t:TypeId)(ok:Bool):K3:=
 match C.P.underlying t with
 |some (.interface _)=>none
 |some _=>match ev C.G F x with
  |(g,.iface u v)=>some (g&&Nat.beq u t,(true,match ok with|true=>.tup [v,.bool true]|false=>v),h)
  |_=>none
 |none=>none
def evalOp (C:Bm)(dr:Bool)(F:Fr)(h:Hp)(o:Oper):K3:=
 match o.op with
 |.move x=>HY C dr F h o.type x
 |.assign x=>HY C dr F h o.type x
 |.pick c a b=>RV C F h c a b
 |.alloc t=>VB C dr h t
 |.box t x=>some ((ev C.G F x).1&&CP (ev C.G F x).2,(true,.ptr h.length 0),h++[.mem t (flat (ev C.G F x).2)])
 |.build t parts=>Kb C dr F h t parts
 |.buildSlice t len parts=>C7 C dr F h t len parts
 |.load t a=>JD C F h t a
 |.store t a x=>Pl C F h t a x
 |.nilCheck x=>Ez C F h x
 |.binOp op t x y _=>XL C F h op t x y
 |.unOp op _ x=>match uM op (ev C.G F x).2 with
  |some r=>some ((ev C.G F x).1&&r.1,(true,r.2),h)
  |none=>none
 |.convert src dst x=>Ii C F h src dst x
 |.makeFunc f first cap=>some ((Nw C.G F first.toList).1&&(Nw C.G F cap.toList).1,(true,.fn f (Nw C.G F first.toList).2 (Nw C.G F cap.toList).2),h)
 |.slice t x lo hi mx=>match JC C F h t x lo hi mx with
  |some r=>some r
  |none=>KA C dr F h t x lo hi mx
 |.fieldAddr s x f=>EH C F h s x f
 |.field s x f=>Ma C F h s x f
 |.indexAddr t x i=>EG C F h t x i
 |.index t x i=>MZ C F h t x i
 |.extract t ix=>Ih C F h t ix
 |.range t x=>U8 C F h t x
 |.next it isString=>Zb C F h it isString
 |.makeSlice t l c=>U9 C F h t l c
 |.typeAssert x _ t ok=>Mb C F h x t ok
 |.call c=>match c.callee with
  |.builtin b=>HE C F h b c.args.toList c.argTypes.toList
  |_=>none
 |_=>none
def LR :List Int->List (List AV)->Int->Option (List AV)
 |k::ks,v::vs,m=>bif decide (k=m) then some v else LR ks vs m
 |_,_,_=>none
def rowOf (h:Hp)(kc:Nat)(ke:TypeId)(ksz:Nat)(cs:List AV):Bool×(Nat×List AV)×Hp:=
 match cs[kc]? with
 |some (.sl _ es (some id))=>(E7 h es.length ksz ke (some id),(es.length,cs.set kc (.sl ksz es none)),h.set id .dead)
 |_=>(true,(0,cs.set kc .top),h)
def B6 (C:Bm)(F:Fr)(h:Hp)(o:Oper):K3:=
 match o.op with
 |.buildSlice t len parts=>match C.rO o,C.P.underlying t,parts.toList with
  |some (kc,ke,ksz),some (.slice e),[p]=>
   some (Nat.beq parts.size len&&Nat.beq p.1 0&&Nat.beq (flat (ev C.G F p.2).2).length (C.P.cellsOf e)&&Nat.beq len 1&&Nat.ble (C.P.cellsOf e) 16777216&&Nat.ble 1 (C.P.cellsOf e)&&((C.P.info? e).bind (·.zero)).isSome&&
     (ev C.G F p.2).1&&CP (ev C.G F p.2).2&&(rowOf h kc ke ksz (flat (ev C.G F p.2).2)).1,
    (true,.CM h.length 0 0 (C.P.cellsOf e) 1),(rowOf h kc ke ksz (flat (ev C.G F p.2).2)).2.2++[.Bi 0 e (C.P.cellsOf e) kc ke ksz [(rowOf h kc ke ksz (flat (ev C.G F p.2).2)).2.1]])
  |_,_,_=>none
 |.load t a=>match ev C.G F a with
  |(g,.Bf b n d o')=>match h[b]? with
   |some (.Bi n' _ _ kc _ _ rows)=>match rows[d]? with
    |some r=>match rd C.P t (r.2.drop o') with
     |some (.sl s es own)=>match Nat.beq o' kc with
      |true=>some (g&&Nat.beq n n',(true,.Gw b n d s es),h)
      |false=>some (g&&Nat.beq n n',(true,.sl s es own),h)
     |some v=>some (g&&Nat.beq n n',(true,v),h)
     |none=>none
    |none=>none
   |_=>none
  |_=>none
 |.store t a x=>match ev C.G F a with
  |(g,.Bf b n d o')=>match h[b]?,C.P.info? t with
   |some (.Bi n' e sz kc ke ksz rows),some i=>match rows[d]? with
    |some r=>match Nat.beq o' kc,ev C.G F x with
     |true,(g',.Gw b' n1 d' s es)=>some (g&&g'&&Nat.beq n n'&&Nat.beq b b'&&Nat.beq n1 n&&Nat.beq d d'&&Nat.beq es.length r.1&&Nat.beq i.size 1&&Nat.blt kc r.2.length,(true,.top),
       h.set b (.Bi n' e sz kc ke ksz (rows.set d (r.1,r.2.set kc (.sl s es none)))))
     |true,_=>none
     |false,(g',v)=>match Nat.beq o' 0&&Nat.beq i.size sz with
      |true=>some (g&&g'&&CP v&&Nat.beq n n'&&Nat.beq (flat v).length sz&&Nat.ble r.1 (rowOf h kc ke ksz (flat v)).2.1.1&&(rowOf h kc ke ksz (flat v)).1,(true,.top),
        (rowOf h kc ke ksz (flat v)).2.2.set b (.Bi n' e sz kc ke ksz (rows.set d (rowOf h kc ke ksz (flat v)).2.1)))
      |false=>some (g&&g'&&CP v&&Nat.beq n n'&&Nat.beq (flat v).length i.size&&Nat.ble (o'+i.size) r.2.length&&(Nat.ble (o'+i.size) kc||Nat.blt kc o'),(true,.top),
        h.set b (.Bi n' e sz kc ke ksz (rows.set d (r.1,Et r.2 o' (flat v)))))
    |none=>none
   |_,_=>none
  |_=>none
 |.nilCheck x=>match ev C.G F x with
  |(g,.Bf b n d o')=>some (g,(true,.Bf b n d o'),h)
  |_=>none
 |.fieldAddr s x f=>match C.P.underlying s,ev C.G F x with
  |some (.struct fs),(g,.Bf b n d o')=>match fs[f]? with
   |some fd=>some (g&& !Nat.beq (C.P.cellsOf fd.type) 0,(true,.Bf b n d (o'+fd.offset)),h)
   |none=>none
  |_,_=>none
 |.indexAddr t x i=>match C.P.underlying t,ev C.G F x,ev C.G F i with
  |some (.slice e),(g,.CM b n d sz len),(g',.int _ m)=>
   some (g&&g'&&decide (m=(len:Int)-1)&&Nat.ble 1 len&&Nat.beq sz (C.P.cellsOf e)&&Nat.ble 1 sz,(true,.Bf b n d 0),h)
  |some (.slice e),(g,.Gw _ _ _ sz es),(g',.int _ m)=>
   some (g&&g'&&Dk m es.length&&Nat.beq sz (C.P.cellsOf e)&&Nat.ble 1 sz,(true,.ro (CH es m)),h)
  |_,_,_=>none
 |.slice t x lo hi mx=>match mx,lo,NS (hi.map (ev C.G F)),C.P.underlying t,ev C.G F x with
  |none,none,some (g2,some r),some (.slice e),(g,.CM b n d sz len)=>match h[b]? with
   |some (.Bi n' e' H6 kc ke ksz rows)=>
    some (g&&g2&&decide (r=(len:Int)-1)&&Nat.ble 1 len&&Nat.beq sz (C.P.cellsOf e)&&(C.P.info? e).isSome&&Nat.beq n n',(true,.CM b (n'+1) 0 sz (len-1)),h.set b (.Bi (n'+1) e' H6 kc ke ksz (rows.drop (d+1))))
   |_=>none
  |_,_,_,_,_=>none
 |.lookup t x i ok=>match C.P.underlying t,ev C.G F x,ev C.G F i,ok with
  |some (.map k _),(g,.PD ks vs),(g',.int .i64 m),false=>match C.P.underlying k,LR ks vs m with
   |some (.int .i64),some r=>some (g&&g',(true,.agg r),h)
   |_,_=>none
  |_,_,_,_=>none
 |.call {callee:=.builtin .len,args,argTypes}=>match args.toList,argTypes.toList with
  |[x],[t]=>match C.P.underlying t,ev C.G F x with
   |some (.slice _),(g,.CM _ _ _ _ len)=>some (g,(true,.int .i64 len),h)
   |some (.slice _),(g,.Gw _ _ _ _ es)=>some (g,(true,.int .i64 es.length),h)
   |_,_=>none
  |_,_=>none
 |.call {callee:=.builtin .append,args,argTypes}=>match args.toList,argTypes.toList with
  |[s,x],[t,t']=>match C.P.underlying t,ev C.G F s,ev C.G F x with
   |some (.slice e),(g,.CM b n d sz len),(g',.sl EB ns _)=>match h[b]?,C.P.info? e with
    |some (.Bi n' e' H6 kc ke ksz rows),some i=>match i.zero with
     |some z=>some (g&&g'&&Nat.beq t t'&&Nat.beq n n'&&Nat.beq e e'&&Nat.beq sz (C.P.cellsOf e)&&Nat.beq H6 sz&&(Nat.beq EB (C.P.cellsOf e)||ns.isEmpty)&&Nat.ble 1 (C.P.cellsOf e)
        &&decide ((len+ns.length)*i.bytes<=140737488355328)&&Nat.ble 1 i.bytes&&Nat.beq z.cells.size i.size,
       (true,.CM b (n'+1) 0 (C.P.cellsOf e) (len+ns.length)),h.set b (.Bi (n'+1) e' H6 kc ke ksz ((ns.map fun r=>(0,r.set kc .top)).reverse++rows.drop d)))
     |none=>none
    |_,_=>none
   |some (.slice e),(g,.Gw b n d sz es),(g',.sl EB ns _)=>match h[b]?,C.P.info? e with
    |some (.Bi n' e' H6 kc ke ksz rows),some i=>match i.zero,rows[d]? with
     |some z,some r=>some (g&&g'&&Nat.beq t t'&&Nat.beq n n'&&Nat.beq e ke&&Nat.beq ksz (C.P.cellsOf e)&&(Nat.beq sz (C.P.cellsOf e)||es.isEmpty)&&Nat.beq es.length r.1&&(Nat.beq EB (C.P.cellsOf e)||ns.isEmpty)&&Nat.ble 1 (C.P.cellsOf e)
        &&decide ((es.length+ns.length)*i.bytes<=140737488355328)&&Nat.ble 1 i.bytes&&Nat.beq z.cells.size i.size,
       (true,.Gw b n d (C.P.cellsOf e) (es++ns)),h.set b (.Bi n' e' H6 kc ke ksz (rows.set d (es.length+ns.length,r.2))))
     |_,_=>none
    |_,_=>none
   |_,_,_=>none
  |_,_=>none
 |_=>none
def Bl (C:Bm)(dr:Bool)(F:Fr)(h:Hp)(o:Oper):K3:=
 match dr with
 |true=>evalOp C true F h o
 |false=>match B6 C F h o with
  |some r=>some r
  |none=>evalOp C false F h o
def guardOf (ops:Array Oper)(F:Fr)(o:Oper):Option Bool:=
 match o.guard with
 |none=>some true
 |some (j,want)=>
  match(ops[j]?).bind (·.dst) with
  |some d=>match lk F d with
   |(g,.bool b)=>some (g&&(b==want))
   |(false,_)=>some false
   |_=>none
  |none=>none
mutual
def strip (n:Nat)(h:Hp):AV->AV
 |.ptr b o=>bif Nat.blt b n then .ptr b o else .top
 |.ro cs=>.ro (AQ n h cs)
 |.sl sz es own=>.sl sz (AE n h es) (match own with|some id=>bif Nat.blt id n then some id else none|none=>none)
 |.KR b off len sz=>bif Nat.blt b n then .KR b off len sz else .top
 |.Wr b=>bif Nat.blt b n then .Wr b else .top
 |.fn f a c=>.fn f (AQ n h a) (AQ n h c)
 |.iface t v=>.iface t (strip n h v)
 |.agg cs=>.agg (AQ n h cs)
 |.tup cs=>.tup (AQ n h cs)
 |.C9 cs=>.C9 (AQ n h cs)
 |.CM b g d sz len=>bif Nat.blt b n then .CM b g d sz len else .top
 |.Bf b g d o=>bif Nat.blt b n then .Bf b g d o else .top
 |.Gw b g d sz es=>bif Nat.blt b n then .Gw b g d sz (AE n h es) else .top
 |.PD ks vs=>.PD ks (AE n h vs)
 |v=>v
def AQ (n:Nat)(h:Hp):List AV->List AV
 |[]=>[]
 |v::r=>strip n h v::AQ n h r
def AE (n:Nat)(h:Hp):List (List AV)->List (List AV)
 |[]=>[]
 |v::r=>AQ n h v::AE n h r
end
def bh :AV->Bool
 |.bool _|.int _ _|.str _=>true
 |_=>false
def Bh (h:Hp)(b off len sz:Nat):AV:=
 match h[b]? with
 |some (.mem _ cs)=>bif Nat.beq sz 1&&((cs.drop off).take len).all bh then .sl 1 (((cs.drop off).take len).map fun c=>[c]) none else .top
 |_=>.top
def Lp (n:Nat)(h:Hp):AV->AV
 |.KR b off len sz=>bif Nat.blt b n then .KR b off len sz else Bh h b off len sz
 |v=>strip n h v
def stripR (n:Nat)(h:Hp):AV->AV
 |.tup vs=>.tup (vs.map (Lp n h))
 |v=>Lp n h v
def Gq (LW:Bool)(n len:Nat)(v:AV):Nat:=
 match LW with
 |false=>n
 |true=>match v with
  |.sl _ _ (some id)=>bif Nat.blt id len then max n (id+1) else n
  |_=>n
def AN (n:Nat)(h:Hp):Blk->Blk
 |.mem t cs=>.mem t (AQ n h cs)
 |.Bi g t sz kc ke ksz rows=>.Bi g t sz kc ke ksz (rows.map fun r=>(r.1,AQ n h r.2))
 |b=>b
def DC (n:Nat)(h:Hp)(F:Fr):Fr:=F.map fun e=>(e.1,e.2.1,strip n h e.2.2)
def Dz :Nat->List AV->Fr
 |_,[]=>[]
 |n,v::r=>bif Nat.beq n 1000000 then [] else(n,true,v)::Dz (n+1) r
def QO (P:Program)(F:Fr)(h:Hp):ResultVar->Option (Bool×AV)
 |.tmp t=>some (lk F t)
 |.cell a t=>match lk F a with
  |(g,.ptr b o)=>match h[b]? with
   |some (.mem _ cs)=>(rd P t (cs.drop o)).map fun v=>(g,v)
   |_=>none
  |_=>none
def LI (P:Program)(F:Fr)(h:Hp):List ResultVar->Option (Bool×List AV)
 |[]=>some (true,[])
 |r::rs=>match QO P F h r,LI P F h rs with
  |some (g,v),some (g',vs)=>some (g&&g',v::vs)
  |_,_=>none
def result (P:Program)(fn:Func)(F:Fr)(h:Hp):Option AV:=
 match LI P F h fn.results.toList with
 |some (true,[v])=>some v
 |some (true,vs)=>some (.tup vs)
 |_=>none
def Vi (P:Program)(src dst:TypeId):Bool:=
 match P.underlying src,P.underlying dst with
 |some .string,some (.slice _)=>true
 |_,_=>false
def effect (P:Program):Op->Bool
 |.convert src dst _=>Vi P src dst
 |.alloc _|.box .. |.store .. |.range .. |.next .. |.makeSlice .. =>true
 |.call {callee:=.builtin .append,..}=>true
 |_=>false
def Ta (P:Program)(src dst:TypeId):Bool:=
 match P.underlying src,P.underlying dst with
 |some (.int _),_=>false
 |some .string,some .string=>false
 |_,_=>true
def DZ (P:Program):Op->Bool
 |.load .. =>true
 |.convert src dst _=>Ta P src dst
 |o=>effect P o
def tb :Op->Op->Bool
 |.load _ _,.alloc _=>true
 |_,_=>false
def calm (P:Program)(x y:Op):Bool:=(!(effect P x&&DZ P y)&& !(DZ P x&&effect P y))||tb x y
def bitsOf (look:Nat->Nat)(o:Oper):Nat:=
 o.after.toList.foldr (fun e s=>bif Region.binds .any e then Nat.lor (Nat.lor (2^e.on) (look e.on)) s else s) 0
def ij {α:Type}(n:Nat)(k:Nat->α):α:=
 match n with
 |0=>k 0
 |m+1=>k (m+1)
def Mo :List Oper->List Nat->List Nat
 |[],acc=>acc
 |o::os,acc=>ij (bitsOf (fun i=>acc.getD i 0) o) fun v=>Mo os (acc++[v])
def gD :Op->Bool
 |.select .. =>false
 |_=>true
def OJ (ops:List Oper)(t:Nat):Bool:=ops.all fun o=>match o.dst with
 |some d=>!Nat.beq d t
 |none=>true
def nG (o:Oper):Option Nat:=
 match o.op,o.guard with
 |.move (.tmp x),none=>some x
 |.nilCheck (.tmp x),none=>some x
 |.fieldAddr _ (.tmp x) _,none=>some x
 |_,_=>none
def K7 (t:Nat)(o:Oper):Bool:=match o.dst with
 |some d=>Nat.beq d t
 |none=>false
def Vl (ops:List Oper)(t:Nat):Option Nat:=
 match ops.filter (K7 t) with
 |[o]=>nG o
 |_=>none
def Ej (ops:List Oper):Nat->Nat->Option Nat
 |0,_=>none
 |n+1,t=>match OJ ops t with
  |true=>some t
  |false=>match Vl ops t with
   |some x=>Ej ops n x
   |none=>none
def HM :Nat:=20
def Xm (ops:List Oper)(x y:Oper):Bool:=
 match x.op,y.op,x.guard,y.guard with
 |.load _ (.tmp p),.store _ (.tmp q) _,none,none=>match Ej ops HM p,Ej ops HM q with
  |some r,some r'=>!Nat.beq r r'
  |_,_=>false
 |_,_,_,_=>false
def pk (ops:List Oper)(F:Fr)(x y:Oper):Bool:=
 match x.op,y.op with
 |.load _ (.tmp p),.store _ (.tmp q) _=>match Ej ops HM p,Ej ops HM q with
  |some r,some r'=>match lk F r,lk F r' with
   |(true,.ptr b _),(true,.ptr b' _)=>!Nat.beq b b'
   |_,_=>false
  |_,_=>false
 |_,_=>false
def fV (ops:List Oper)(F:Fr)(t:Nat):Bool:=
 match Ej ops HM t with
 |some r=>match lk F t with
  |(_,.ptr b _)=>match lk F r with
   |(_,.ptr b' _)=>Nat.beq b b'
   |_=>false
  |_=>true
 |none=>true
def Un :Op->Bool
 |.store .. =>true
 |_=>false
def Ui (ops:List Oper)(F:Fr):Bool:=(ops.all fun x=>ops.all fun y=>!Xm ops x y||pk ops F x y)&&
 (!(ops.any fun o=>Un o.op)||ops.all fun o=>match o.dst with|some t=>fV ops F t|none=>true)
def JT (o:Oper):Option Nat:=match o.op with
 |.alloc _=>o.dst
 |_=>none
def bu (ops:Array Oper):Bool:=Nat.ble 2 (ops.toList.filterMap JT).length
def oD (ops:Array Oper)(p:Nat):Bool:=ops.toList.any fun z=>K7 p z&&(match z.op with
 |.indexAddr .. =>true
 |_=>false)
def vG (ops:Array Oper)(o:Oper):Bool:=match o.op with
 |.load _ (.tmp p)=>oD ops p
 |_=>false
def Xy (ops:Array Oper)(x y:Oper):Bool:=bu ops&&((JT x).isSome&&(JT y).isSome||vG ops x)
def GA (ops:Array Oper)(draw:Bool):List Nat:=match draw with
 |false=>[]
 |true=>match bu ops with
  |false=>[]
  |true=>ops.toList.filterMap JT
def JW :List Nat->Nat->Fr->Fr
 |[],_,F=>F
 |d::l,n,F=>JW l (n+1) ((d,(lk F d).1,.C9 [.int .i64 (.ofNat n)])::F)
def Rz :List Nat->Hp->Hp
 |[],h=>h
 |_::l,h=>Rz l (h++[.dead])
def II (P:Program)(ops:Array Oper):Bool:=
 let b:=Mo ops.toList []
 (ops.toList.zipIdx.all fun y=>gD y.1.op&&y.1.after.toList.all fun e=>!Region.binds .any e||Nat.blt e.on y.2)&&
 ops.toList.zipIdx.all fun y=>ops.toList.zipIdx.all fun x=>
  !Nat.blt x.2 y.2||(b.getD y.2 0).testBit x.2||(x.1.apart ops y.1&&(calm P x.1.op y.1.op||Xm ops.toList x.1 y.1||Xm ops.toList y.1 x.1||Xy ops x.1 y.1))
def dS :Nat:=1000000
def EE (o:Oper):Bool:=
 match o.op,o.guard with
 |.defer _,none=>true
 |_,_=>false
def Fb (ops:List Oper):Bool:=ops.any EE
def DF (draw:Bool)(o:Oper):Option Nat:=
 match draw with
 |true=>o.dst
 |false=>match EE o with
  |true=>some dS
  |false=>o.dst
def F6 (n:Nat):Option Nat->Bool
 |none=>true
 |some d=>Nat.blt d n&& !Nat.beq d dS
def Mf (ops:Array Oper):Bool:=
 let b:=Mo ops.toList []
 (ops.toList.zipIdx.all fun y=>gD y.1.op&&(!EE y.1&&y.1.after.toList.all fun e=>!Region.binds .any e||Nat.blt e.on y.2))&&
 ops.toList.zipIdx.all fun y=>ops.toList.zipIdx.all fun x=>!Nat.blt x.2 y.2||(b.getD y.2 0).testBit x.2||x.1.apart ops y.1
def Bn (P:Program)(n:Nat)(D:Nat->Bool):Code->Bool
 |.region id ops draw=>(ops.toList.all fun o=>F6 n o.dst)&&(!draw||match D id with|true=>Mf ops|false=>II P ops)
 |.seq a b=>Bn P n D a&&Bn P n D b
 |.cond _ a b=>Bn P n D a&&Bn P n D b
 |.block _ a=>Bn P n D a
 |.loop a=>Bn P n D a
 |.scope a=>Bn P n D a
 |_=>true
def BF (C:Bm)(cl:FuncId->List AV->Hp->Except (List Nat) (AV×Hp))(draw:Bool)(o:Oper)(F:Fr)(h:Hp):Except (List Nat) ((Bool×AV)×Hp):=
 match o.op with
 |.call {callee:=.value x,args,argTypes:=_}=>
  match ev C.G F x,Nw C.G F args.toList with
  |(true,.fn (.func k) first cap),(true,vs)=>
   match C.ident k,first++vs++cap with
   |true,[v]=>.ok ((true,v),h)
   |true,_=>.error [1017]
   |false,l=>
    match cl k l h with
    |.ok (v,h')=>.ok ((true,v),h')
    |.error e=>.error (3000::e)
  |_,_=>.error [1005]
 |.defer {callee:=.value x,args,argTypes:=_}=>
  match draw|| !EE o||o.dst.isSome|| !args.toList.isEmpty,ev C.G F x,lk F dS with
  |false,(true,.fn f first cap),(_,.C9 l)=>.ok ((true,.C9 (.fn f first cap::l)),h)
  |_,_,_=>.error [1020]
 |_=>
  match Bl C (draw||o.guard.isSome) F h o with
  |some (true,e,h')=>.ok (e,h')
  |some (false,_,_)=>.error [1006]
  |none=>.error [1007]
def TT (P:Program)(t:TypeId)(v:AV)(h:Hp):Except (List Nat) ((Bool×AV)×Hp):=
 match v with
 |.C9 [.int .i64 (.ofNat b)]=>match h[b]?,zeroOf P true t 0 with
  |some .dead,some (cs,_)=>.ok ((true,.ptr b 0),h.set b (.mem t cs))
  |_,_=>.error [1033]
 |_=>.error [1034]
def FL (P:Program)(draw:Bool)(ops:Array Oper)(o:Oper)(F:Fr)(h:Hp):Option (Except (List Nat) ((Bool×AV)×Hp)):=
 match draw&&bu ops with
 |false=>none
 |true=>match o.op,o.dst with
  |.alloc t,some d=>some (TT P t (lk F d).2 h)
  |.load _ (.tmp p),_=>match oD ops p,(lk F p).2 with
   |true,.ro _=>none
   |true,_=>some (.error [1035])
   |false,_=>none
  |_,_=>none
def AW (C:Bm)(cl:FuncId->List AV->Hp->Except (List Nat) (AV×Hp))(ops:Array Oper)(draw:Bool)(o:Oper)(F:Fr)(h:Hp):Except (List Nat) ((Bool×AV)×Hp):=
 match guardOf ops F o with
 |none=>.error [1004]
 |some false=>.ok ((false,.top),h)
 |some true=>match FL C.P draw ops o F h with
  |some r=>r
  |none=>BF C cl draw o F h
def BQ (C:Bm)(cl:FuncId->List AV->Hp->Except (List Nat) (AV×Hp))(ops:Array Oper)(draw:Bool):List Oper->Fr->Hp->Except (List Nat) (Fr×Hp)
 |[],F,h=>.ok (F,h)
 |o::os,F,h=>
  match AW C cl ops draw o F h with
  |.ok (e,h')=>BQ C cl ops draw os (Av F (DF draw o) e) h'
  |.error x=>.error (os.length::x)
def Np (C:Bm)(o:Oper):Bool:=
 match o.op,o.guard with
 |.call {callee:=.value (.func k),args:=_,argTypes:=_},none=>(C.Cr k).isSome||C.heap k
 |_,_=>false
def Dj (ops:Array Oper)(i j:Nat):Bool:=((Mo ops.toList []).getD j 0).testBit i
def mS (ops:Array Oper)(j p:Nat):Bool:=match ops[j]? with
 |some o=>K7 p o
 |none=>false
def JA (C:Bm)(ops:Array Oper)(m i:Nat):Bool:=
 match ops[i]? with
 |some o=>!DZ C.P o.op||(match o.op,o.guard with
  |.load _ (.tmp p),none=>(List.range m).all fun j=>!Nat.ble i j|| !mS ops j p
  |_,_=>false)
 |none=>false
def HP (C:Bm)(ops:Array Oper)(m:Nat):Bool:=
 match ops[m]? with
 |some o=>Np C o&&((List.range m).all fun i=>Dj ops i m||JA C ops m i)&&(List.range ops.size).all fun j=>!Nat.blt m j||Dj ops m j
 |none=>false
def RO (ops:Array Oper)(m i:Nat):List Nat:=match Dj ops i m,ops[i]? with
 |false,some o=>(match o.op with
  |.load _ (.tmp p)=>[p]
  |_=>[])
 |_,_=>[]
def ZS (ops:Array Oper)(m:Nat):List Nat:=((List.range m).map fun i=>RO ops m i).flatten
def Kt (F:Fr)(h h':Hp)(p:Nat):Prop:=match lk F p with
 |(_,.ptr b _)=>h[b]?=h'[b]?
 |(_,.ro _)=>True
 |_=>False
noncomputable def Ek(C:Bm)(ops:Array Oper)(draw:Bool)(i:Nat)(F:Fr)(h h':Hp):Bool:=
 match draw&&HP C ops i with
 |false=>true
 |true=>match ZS ops i with
  |[]=>true
  |l=>@decide (∀p∈l,Kt F h h' p) (Classical.propDecidable _)
def BB (C:Bm)(ops:Array Oper)(draw:Bool)(i:Nat):Bool:=draw&& !HP C ops i
noncomputable def DI(C:Bm)(cl:Bool->FuncId->List AV->Hp->Except (List Nat) (AV×Hp))(ops:Array Oper)(draw:Bool):Nat->List Oper->Fr->Hp->Except (List Nat) (Fr×Hp)
 |_,[],F,h=>.ok (F,h)
 |i,o::os,F,h=>
  match AW C (cl (BB C ops draw i)) ops (BB C ops draw i) o F h with
  |.ok (e,h')=>match Ek C ops draw i F h h' with
   |true=>DI C cl ops draw (i+1) os (Av F (DF (BB C ops draw i) o) e) h'
   |false=>.error [1022]
  |.error x=>.error (os.length::x)
def Je (o:Oper):Bool:=match o.op with
 |.buildSlice .. |.move _|.assign _=>true
 |_=>false
def EW (C:Bm)(cl:Bool->FuncId->List AV->Hp->Except (List Nat) (AV×Hp))(ops:Array Oper)(o:Oper)(F:Fr)(h:Hp):Except (List Nat) ((Bool×AV)×Hp):=AW C (cl (Je o)) ops (Je o) o F h
def Oy (C:Bm)(cl:Bool->FuncId->List AV->Hp->Except (List Nat) (AV×Hp))(ops:Array Oper):List Oper->Fr->Hp->Except (List Nat) (Fr×Hp)
 |[],F,h=>.ok (F,h)
 |o::os,F,h=>match EW C cl ops o F h with
  |.ok (e,h')=>Oy C cl ops os (Av F o.dst e) h'
  |.error x=>.error (os.length::x)
def Eb (C:Bm)(o:Oper):Bool:=match o.op with
 |.load .. |.nilCheck _|.fieldAddr .. |.field .. |.indexAddr .. |.index .. |.extract .. |.binOp .. |.unOp .. |.pick .. |.move _|.assign _|.buildSlice .. =>true
 |.call {callee:=.builtin .len,..}=>true
 |.call {callee:=.value (.func k),..}=>C.reader k
 |_=>false
def FQ (ops:Array Oper)(l:List Nat)(i:Nat):Bool:=l.all fun j=>!Dj ops j i
def MA (o:Oper):Bool:=o.guard.isNone&&match o.op with
 |.nilCheck _|.fieldAddr .. |.indexAddr .. |.buildSlice .. =>true
 |.call {callee:=.builtin .len,..}=>true
 |_=>false
def Oa (C:Bm)(ops:Array Oper)(l:List Nat)(i:Nat):Bool:=FQ ops l i&&(match ops[i]? with
 |some o=>Eb C o
 |none=>false)&&((match ops[i]? with
  |some o=>MA o
  |none=>false)||l.all fun j=>Nat.beq j i||(match ops[j]? with
  |some y=>Eb C y
  |none=>true)||Dj ops i j)
def PR (C:Bm)(cl:Bool->FuncId->List AV->Hp->Except (List Nat) (AV×Hp))(ops:Array Oper)(Post:Fr->Hp->Prop):Nat->List Nat->Fr->Hp->Prop
 |0,_,_,_=>False
 |_+1,[],F,h=>Post F h
 |n+1,k::l,F,h=>
  (∃i o e,i∈k::l/\Oa C ops (k::l) i=true/\ops[i]?=some o/\EW C cl ops o F h=.ok (e,h)/\PR C cl ops Post n ((k::l).erase i) (Av F o.dst e) h)\/
  ∀i∈k::l,FQ ops (k::l) i=true->∃o e h1,ops[i]?=some o/\EW C cl ops o F h=.ok (e,h1)/\(Eb C o=true->h1=h)/\PR C cl ops Post n ((k::l).erase i) (Av F o.dst e) h1
noncomputable def J9(C:Bm)(cl:Bool->FuncId->List AV->Hp->Except (List Nat) (AV×Hp))(ops:Array Oper)(F:Fr)(h:Hp):Except (List Nat) (Fr×Hp):=
 match Oy C cl ops ops.toList F h with
 |.ok (G,h')=>match @decide (PR C cl ops (fun G' h1=>(∀n,lk G' n=lk G n)/\h1=h') (ops.size+1) (List.range ops.size) F h) (Classical.propDecidable _) with
  |true=>.ok (G,h')
  |false=>.error [1040]
 |.error e=>.error e
def Ox (C:Bm)(cl:FuncId->List AV->Hp->Except (List Nat) (AV×Hp)):List AV->Hp->Option Hp
 |[],h=>some h
 |.fn (.func k) first cap::l,h=>
  match(C.Cr k).isSome||(C.FM k).isSome||C.C9 k,cl k (first++cap) h with
  |false,.ok (_,h')=>Ox C cl l h'
  |_,_=>none
 |_::_,_=>none
def finish (C:Bm)(cl:FuncId->List AV->Hp->Except (List Nat) (AV×Hp))(k:FuncId)(fn:Func)(F:Fr)(h:Hp):Option (AV×Hp):=
 match C.C9 k with
 |false=>match result C.P fn F h with
  |some v=>some (v,h)
  |none=>none
 |true=>match lk F dS with
  |(_,.C9 l)=>match Ox C cl l h with
   |some h'=>match result C.P fn F h' with
    |some v=>some (v,h')
    |none=>none
   |none=>none
  |_=>none
def DL (C:Bm)(k:FuncId)(vs:List AV):Fr:=
 match C.C9 k with
 |false=>Dz 0 vs
 |true=>Dz 0 vs++[(dS,true,.C9 [])]
def rh :Option Blk->Bool
 |some (.mem _ _)=>true
 |_=>false
def OT :Blk->Bool
 |.Bi .. =>true
 |_=>false
def cr :Hp->Nat
 |[]=>0
 |b::r=>bif rh (some b) then 0 else cr r+1
def MB (m:Nat)(h:Hp):Bool:=Nat.blt (cr h) m&&Nat.ble m h.length&&rh h[cr h]? &&Nat.blt (cr h) 4&&Nat.ble 4 m&&h.all fun b=>!OT b
def O6 (m:Nat)(h:Hp):Nat:=bif Nat.ble m h.length then m else h.length
mutual
noncomputable def exec(C:Bm)(f:FuncId):Nat->Code->Fr->Hp->Except (List Nat) (XT×Fr×Hp)
 |0,_,_,_=>.error []
 |n+1,c,F,h=>
  match c with
  |.skip=>.ok (.normal,F,h)
  |.ret=>.ok (.ret,F,h)
  |.exit id=>.ok (.exit id,F,h)
  |.label _=>.ok (.normal,F,h)
  |.goto l=>.ok (.goto l,F,h)
  |.scope a=>EM C f n a a F h
  |.seq a b=>
   match exec C f n a F h with
   |.ok (.normal,F',h')=>exec C f n b F' h'
   |r=>r
  |.cond x a b=>
   match ev C.G F x with
   |(true,.bool true)=>exec C f n a F h
   |(true,.bool false)=>exec C f n b F h
   |_=>.error [f,1001]
  |.block id a=>
   match exec C f n a F h with
   |.ok (.exit pr,F',h')=>bif Nat.beq pr id then .ok (.normal,F',h') else .ok (.exit pr,F',h')
   |r=>r
  |.loop a=>
   match exec C f n a F h with
   |.ok (.normal,F',h')=>match C.Fv f with
    |true=>exec C f n (.loop a) (DC h.length h' F') ((h'.take h.length).map (AN h.length h'))
    |false=>exec C f n (.loop a) F' h'
   |r=>r
  |.region id ops draw=>
   match draw&&C.Hk f id with
   |true=>match J9 C (fun d=>call C d n) ops ((C.live f id).map fun s=>(s,lk F s)) h with
    |.ok (F',h')=>.ok (.normal,F',h')
    |.error e=>.error (f::id::e)
   |false=>
   match(!C.C9 f&&Fb ops.toList)||(draw&& !Ui ops.toList (JW (GA ops draw) h.length ((C.live f id).map fun s=>(s,lk F s)))) with
   |true=>.error [f,1021]
   |false=>
   match DI C (fun d=>call C d n) ops draw 0 ops.toList (JW (GA ops draw) h.length ((C.live f id).map fun s=>(s,lk F s))) (Rz (GA ops draw) h) with
   |.ok (F',h')=>.ok (.normal,F',h')
   |.error e=>.error (f::id::e)
  |_=>.error [f,1003]
noncomputable def EM(C:Bm)(f:FuncId):Nat->Code->Code->Fr->Hp->Except (List Nat) (XT×Fr×Hp)
 |0,_,_,_,_=>.error []
 |n+1,c,cur,F,h=>
  match exec C f n cur F h with
  |.ok (.goto l,F',h')=>
   match findLabel c l with
   |some rest=>EM C f n c rest F' h'
   |none=>.ok (.goto l,F',h')
  |r=>r
noncomputable def call(C:Bm)(draw:Bool):Nat->FuncId->List AV->Hp->Except (List Nat) (AV×Hp)
 |0,_,_,_=>.error []
 |n+1,k,vs,h=>
  bif !C.ok k then .error [k,1008] else
  match C.Cr k with
  |some g=>
   bif draw then .error [k,1018] else
   match g vs h with
   |some r=>.ok r
   |none=>.error [k,1019]
  |none=>
  match C.FM k with
  |some g=>match g (AQ 0 [] vs) with
   |some (true,v)=>.ok (strip 0 [] v,h)
   |_=>.error [k,1009]
  |none=>
   match C.P.funcs[k]? with
   |none=>.error [k,1010]
   |some fn=>match fn.body with
    |none=>.error [k,1011]
    |some c=>
     match C.heap k with
     |true=>
      bif draw then .error [k,1012] else
      match C.pre k with
      |some m=>
       match MB (O6 m h) h with
       |false=>.error [k,1015]
       |true=>
        match exec C k n c (DL C k (AQ (O6 m h) [] vs)) ((h.take (O6 m h)).map (AN (O6 m h) [])) with
        |.ok (.ret,F',h')|.ok (.normal,F',h')=>
         match finish C (call C false n) k fn F' h' with
         |some (v,h')=>.ok (stripR (O6 m h) h' v,(h'.take (O6 m h)).map (AN (O6 m h) h')++h.drop (O6 m h))
         |none=>.error [k,1013]
        |.error e=>.error e
        |_=>.error [k,1014]
      |none=>
      match exec C k n c (DL C k vs) h with
      |.ok (.ret,F',h')|.ok (.normal,F',h')=>
       match finish C (call C false n) k fn F' h' with
       |some (v,h')=>.ok (stripR (Gq (C.LW k) h.length h'.length v) h' v,(h'.take (Gq (C.LW k) h.length h'.length v)).map (AN (Gq (C.LW k) h.length h'.length v) h'))
       |none=>.error [k,1013]
      |.error e=>.error e
      |_=>.error [k,1014]
     |false=>
      match exec C k n c (DL C k (AQ 0 [] vs)) [] with
      |.ok (.ret,F',h')|.ok (.normal,F',h')=>
       match finish C (call C false n) k fn F' h' with
       |some (v,h')=>.ok (stripR 0 h' v,h)
       |none=>.error [k,1013]
      |.error e=>.error e
      |_=>.error [k,1014]
end
end Go.Ai
