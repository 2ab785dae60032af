/-
  The abstract interpreter: values, heap, evaluator. No statement about the program is made here.
-/
import Derived.WalkKit
namespace Go.Ai
set_option linter.unusedVariables false
set_option linter.unusedSimpArgs false
set_option linter.unnecessarySimpa false
open Go.RowKit

/-- Abstract values. -/
inductive AV where
  | top
  | bool (b : Bool)
  | int (k : IntKind) (n : Int)
  | str (s : List UInt8)
  | nilp
  | ptr (b o : Nat)
  | ro (cs : List AV)
  | sl (sz : Nat) (es : List (List AV)) (own : Option Nat)
  | osl (b off len sz : Nat)
  | fn (f : Fn) (first captured : List AV)
  | nilf
  | iface (t : TypeId) (v : AV)
  | nili
  | agg (cs : List AV)
  | tup (vs : List AV)
  | itr (b : Nat)
  | dfr (l : List AV)
  deriving Inhabited

/-- Blocks of the abstract heap: memory that may be written; a lineage of appends (elements so far, cells of each, their type); gone. -/
inductive Blk where
  | mem (t : TypeId) (cs : List AV)
  | grow (n sz : Nat) (e : TypeId)
  | dead
  | iter (s : List UInt8) (pos : Nat)
  deriving Inhabited

/-- How a piece of code ends. -/
inductive XT where
  | normal
  | exit (id : Nat)
  | goto (l : Nat)
  | ret
  deriving Inhabited

abbrev Fr := List (Nat × Bool × AV)
abbrev Hp := List Blk

def lk : Fr → Nat → Bool × AV
  | [], _ => (true, .top)
  | (s, e) :: r, n => bif Nat.beq s n then e else lk r n

def putF (F : Fr) (d : Option Nat) (e : Bool × AV) : Fr :=
  match d with
  | some d => (d, e) :: F
  | none => F

structure Cfg where
  P : Program
  G : Nat → Option (List AV)
  live : FuncId → Nat → List Nat
  heap : FuncId → Bool
  prim : FuncId → Option (List AV → Option (Bool × AV))
  ok : FuncId → Bool
  ident : FuncId → Bool
  trunc : FuncId → Bool
  hprim : FuncId → Option (List AV → Hp → Option (AV × Hp))
  dfr : FuncId → Bool

def ofConst : Value → AV
  | .bool b => .bool b
  | .int k n => .int k n
  | .string s => .str s.data.toList
  | .pointer none => .nilp
  | .slice none 0 0 => .sl 0 [] none
  | .nilFunc => .nilf
  | .nilIface => .nili
  | _ => .top

def ev (G : Nat → Option (List AV)) (F : Fr) : Operand → Bool × AV
  | .tmp t => lk F t
  | .const v => (true, ofConst v)
  | .global g => (true, match G g with | some cs => .ro cs | none => .top)
  | .func f => (true, .fn (.func f) [] [])

def isAggT (P : Program) (t : TypeId) : Bool :=
  match P.underlying t with
  | some (.struct _) | some (.array _ _) => true
  | _ => false

def flat : AV → List AV
  | .agg cs => cs
  | v => [v]

/-- Is a value one that lies in one cell? -/
def one : AV → Bool
  | .agg _ | .tup _ | .top | .dfr _ => false
  | _ => true

def flatOk : AV → Bool
  | .agg _ => true
  | v => one v

/-- The value of a type that lies at the head of cells. -/
def rd (P : Program) (t : TypeId) (cs : List AV) : Option AV :=
  match P.underlying t, P.info? t with
  | some _, some i =>
    match isAggT P t with
    | true => bif Nat.ble i.size cs.length then some (.agg (cs.take i.size)) else none
    | false => match cs with
      | c :: _ => some c
      | [] => none
  | _, _ => none

def splice (cs : List AV) (o : Nat) (vs : List AV) : List AV := cs.take o ++ vs ++ cs.drop (o + vs.length)

def cond {α : Type} (b : Bool) (x y : α) : α := match b with | true => x | false => y

def pickAV (c : Bool) (a b : AV) : AV :=
  match a, b with
  | .bool x, .bool y => .bool (cond c x y)
  | .int k x, .int k' y => bif decide (k = k') then .int k (cond c x y) else cond c a b
  | .str x, .str y => .str (cond c x y)
  | _, _ => cond c a b

def nilSl : Value → Bool
  | .slice none 0 0 => true
  | _ => false

/-- The slice cells of a type, in order: for each cell, whether it is a slice, and of what. -/
def slCells (P : Program) : Nat → TypeId → List (Option TypeId)
  | 0, _ => []
  | d + 1, t =>
    match P.underlying t with
    | some (.struct fs) => (fs.toList.map fun f => slCells P d f.type).flatten
    | some (.array n e) => (List.replicate n (slCells P d e)).flatten
    | some (.slice e) => [some e]
    | _ => [none]

/-- Cells of a zero value; each nil slice gets a lineage of its own. -/
def zeroFill (P : Program) : List Value → List (Option TypeId) → Nat → List AV × Hp
  | [], _, _ => ([], [])
  | v :: vs, some e :: ts, n =>
    match nilSl v with
    | true =>
      let r := zeroFill P vs ts (n + 1)
      (.sl (P.cellsOf e) [] (some n) :: r.1, .grow 0 (P.cellsOf e) e :: r.2)
    | false =>
      let r := zeroFill P vs ts n
      (ofConst v :: r.1, r.2)
  | v :: vs, ts, n =>
    let r := zeroFill P vs (ts.drop 1) n
    (ofConst v :: r.1, r.2)

def zeroOf (P : Program) (dr : Bool) (t : TypeId) (n : Nat) : Option (List AV × Hp) :=
  match P.info? t with
  | none => none
  | some i => match i.zero with
    | none => none
    | some z =>
      bif !(z.cells.toList.all (·.oneCell')) then none else
      match dr with
      | true => some (z.cells.toList.map ofConst, [])
      | false => some (zeroFill P z.cells.toList (slCells P 20 t) n)

def fillA (place : Nat → Option (Nat × Nat)) : List AV → List (Nat × AV) → Option (List AV)
  | cs, [] => some cs
  | cs, (i, v) :: rest =>
    match place i with
    | none => none
    | some (off, size) =>
      bif Nat.beq (flat v).length size && Nat.ble (off + size) cs.length then fillA place (splice cs off (flat v)) rest else none

def evs (G : Nat → Option (List AV)) (F : Fr) (l : List Operand) : Bool × List AV :=
  (l.all fun x => (ev G F x).1, l.map fun x => (ev G F x).2)

def tagOk (h : Hp) (n sz : Nat) (e : TypeId) : Option Nat → Bool
  | none => false
  | some id => match h[id]? with
    | some (.grow m sz' e') => Nat.beq m n && Nat.beq sz' sz && Nat.beq e' e
    | _ => false

def binA (P : Program) (op : BinOp) (_t : TypeId) (x y : AV) : Option (Bool × AV) :=
  match op, x, y with
  | .shl, .int k a, .int _ b => some (decide (0 ≤ b), .int k (k.wrap (a * 2 ^ (min b.toNat k.bits))))
  | .shr, .int k a, .int _ b => some (decide (0 ≤ b), .int k (a.fdiv (2 ^ (min b.toNat k.bits))))
  | .add, .int k a, .int k' b => some (decide (k = k'), .int k (k.wrap (a + b)))
  | .sub, .int k a, .int k' b => some (decide (k = k'), .int k (k.wrap (a - b)))
  | .mul, .int k a, .int k' b => some (decide (k = k'), .int k (k.wrap (a * b)))
  | .quo, .int k a, .int k' b => some (decide (k = k') && !decide (b = 0), .int k (k.wrap (a.tdiv b)))
  | .rem, .int k a, .int k' b => some (decide (k = k') && !decide (b = 0), .int k (a.tmod b))
  | .and, .int k a, .int k' b => some (decide (k = k'), .int k (bits .and k a b))
  | .or, .int k a, .int k' b => some (decide (k = k'), .int k (bits .or k a b))
  | .xor, .int k a, .int k' b => some (decide (k = k'), .int k (bits .xor k a b))
  | .andNot, .int k a, .int k' b => some (decide (k = k'), .int k (bits .andNot k a b))
  | .eql, .int k a, .int k' b => some (decide (k = k'), .bool (a == b))
  | .neq, .int k a, .int k' b => some (decide (k = k'), .bool (a != b))
  | .lss, .int k a, .int k' b => some (decide (k = k'), .bool (decide (a < b)))
  | .leq, .int k a, .int k' b => some (decide (k = k'), .bool (decide (a ≤ b)))
  | .gtr, .int k a, .int k' b => some (decide (k = k'), .bool (decide (a > b)))
  | .geq, .int k a, .int k' b => some (decide (k = k'), .bool (decide (a ≥ b)))
  | .add, .str a, .str b => some (decide (a.length + b.length ≤ 9223372036854775807), .str (a ++ b))
  | .eql, .str a, .str b => some (true, .bool (a == b))
  | .neq, .str a, .str b => some (true, .bool (!(a == b)))
  | .lss, .str a, .str b => some (true, .bool (Op.bytesLess a b))
  | _, _, _ => none

def unA (op : UnOp) (x : AV) : Option (Bool × AV) :=
  match op, x with
  | .neg, .int k n => some (true, .int k (k.wrap (0 - n)))
  | .not, .bool b => some (true, .bool !b)
  | _, _ => none

def convA (P : Program) (src dst : TypeId) (x : AV) : Option (Bool × AV) :=
  match P.underlying src, P.underlying dst, x with
  | some _, some (.int k), .int _ n => some (true, .int k (k.wrap n))
  | some .string, some .string, .str s => some (true, .str s)
  | _, _, _ => none

/-- Comparisons that need no more than the form of both. -/
def cmpA : AV → AV → Option Bool
  | .bool a, .bool b => some (a == b)
  | .nilp, .nilp => some true
  | .nilp, .ptr _ _ => some false
  | .ptr _ _, .nilp => some false
  | .nilp, .ro _ => some false
  | .ro _, .nilp => some false
  | .ptr b o, .ptr b' o' => bif Nat.beq b b' then some (Nat.beq o o') else none
  | .nilf, .nilf => some true
  | .nilf, .fn _ _ _ => some false
  | .fn _ _ _, .nilf => some false
  | .nili, .nili => some true
  | .nili, .iface _ _ => some false
  | .iface _ _, .nili => some false
  | _, _ => none

def cmpOk (P : Program) (t : TypeId) (x : AV) : Bool :=
  match P.underlying t, x with
  | some .bool, .bool _ => true
  | some (.pointer e), .nilp => true
  | some (.pointer e), .ptr _ _ => match P.info? e with
    | some i => !Nat.beq i.size 0
    | none => false
  | some (.pointer e), .ro _ => true
  | some (.func _ _ _), .nilf => true
  | some (.func _ _ _), .fn _ _ _ => true
  | some (.interface _), .nili => true
  | some (.interface _), .iface _ _ => true
  | _, _ => false

def bothNil : AV → AV → Bool
  | .nili, .nili => true
  | _, _ => false

def isC : Operand → Bool
  | .const _ => true
  | _ => false

def getE (es : List (List AV)) (i : Int) : List AV := es.getD i.toNat []

def inR (i : Int) (n : Nat) : Bool := decide (0 ≤ i) && decide (i < n)

def optI : Option (Bool × AV) → Option (Bool × Option Int)
  | none => some (true, none)
  | some (g, .int _ a) => some (g, some a)
  | _ => none
def cutOb (len : Nat) : Option Int → Option Int → Bool
  | none, none => true
  | some a, none => decide (0 ≤ a) && decide (a ≤ len)
  | none, some b => decide (0 ≤ b) && decide (b ≤ len)
  | some a, some b => decide (0 ≤ a) && decide (a ≤ b) && decide (b ≤ len)
def cutL {α : Type} (s : List α) : Option Int → Option Int → List α
  | none, none => s
  | some a, none => s.drop a.toNat
  | none, some b => s.take b.toNat
  | some a, some b => (s.take b.toNat).drop a.toNat

abbrev OpR := Option (Bool × (Bool × AV) × Hp)

def evMove (C : Cfg) (dr : Bool) (F : Fr) (h : Hp) (ty : TypeId) (x : Operand) : OpR :=
  match x with
  | .const v =>
    match nilSl v with
    | true =>
      match dr, C.P.underlying ty with
      | false, some (.slice e) => some (true, (true, .sl (C.P.cellsOf e) [] (some h.length)), h ++ [.grow 0 (C.P.cellsOf e) e])
      | _, _ => some (true, (true, .sl 0 [] none), h)
    | false => some (true, (true, ofConst v), h)
  | x => some (true, ev C.G F x, h)

def evPick (C : Cfg) (F : Fr) (h : Hp) (c a b : Operand) : OpR :=
  match ev C.G F c with
  | (gc, .bool c') => some (gc, ((ev C.G F a).1 && (ev C.G F b).1 || cond c' (ev C.G F a).1 (ev C.G F b).1, pickAV c' (ev C.G F a).2 (ev C.G F b).2), h)
  | _ => none

def evAlloc (C : Cfg) (dr : Bool) (h : Hp) (t : TypeId) : OpR :=
  match zeroOf C.P dr t h.length with
  | some (cs, more) => some (true, (true, .ptr (h.length + more.length) 0), h ++ more ++ [.mem t cs])
  | none => none

def evBuild (C : Cfg) (dr : Bool) (F : Fr) (h : Hp) (t : TypeId) (parts : Array (Nat × Operand)) : OpR :=
  match C.P.underlying t, zeroOf C.P dr t h.length with
  | some (.struct fs), some (z, more) =>
    match fillA (fun i => (fs[i]?).map fun f => (f.offset, C.P.cellsOf f.type)) z (parts.toList.map fun p => (p.1, (ev C.G F p.2).2)) with
    | some cs => some ((parts.toList.all fun p => (ev C.G F p.2).1 && flatOk (ev C.G F p.2).2) && (fs.toList.all fun f => (C.P.info? f.type).isSome), (true, .agg cs), h ++ more)
    | none => none
  | some (.array _ e), some (z, more) =>
    match fillA (fun i => some (i * C.P.cellsOf e, C.P.cellsOf e)) z (parts.toList.map fun p => (p.1, (ev C.G F p.2).2)) with
    | some cs => some ((parts.toList.all fun p => (ev C.G F p.2).1 && flatOk (ev C.G F p.2).2) && (C.P.info? e).isSome, (true, .agg cs), h ++ more)
    | none => none
  | _, _ => none

def evBuildSlice (C : Cfg) (dr : Bool) (F : Fr) (h : Hp) (t : TypeId) (len : Nat) (parts : Array (Nat × Operand)) : OpR :=
  match C.P.underlying t with
  | some (.slice e) =>
    bif Nat.beq parts.size len && (parts.toList.zipIdx.all fun p => Nat.beq p.1.1 p.2) && (parts.toList.all fun p => Nat.beq (flat (ev C.G F p.2).2).length (C.P.cellsOf e)) &&
        Nat.ble (len * C.P.cellsOf e) 16777216 && Nat.ble 1 (C.P.cellsOf e) && ((C.P.info? e).bind (·.zero)).isSome then
      match dr with
      | true => some (parts.toList.all fun p => (ev C.G F p.2).1 && flatOk (ev C.G F p.2).2, (true, .sl (C.P.cellsOf e) (parts.toList.map fun p => flat (ev C.G F p.2).2) none), h)
      | false => some (parts.toList.all fun p => (ev C.G F p.2).1 && flatOk (ev C.G F p.2).2, (true, .sl (C.P.cellsOf e) (parts.toList.map fun p => flat (ev C.G F p.2).2) (some h.length)), h ++ [.grow len (C.P.cellsOf e) e])
    else none
  | _ => none

def evLoad (C : Cfg) (F : Fr) (h : Hp) (t : TypeId) (a : Operand) : OpR :=
  match ev C.G F a with
  | (g, .ro cs) => match rd C.P t cs with
    | some v => some (g, (true, v), h)
    | none => none
  | (g, .ptr b o) => match h[b]? with
    | some (.mem _ cs) => match rd C.P t (cs.drop o) with
      | some v => some (g, (true, v), h)
      | none => none
    | _ => none
  | _ => none

def evStore (C : Cfg) (F : Fr) (h : Hp) (t : TypeId) (a x : Operand) : OpR :=
  match ev C.G F a with
  | (g, .ptr b o) => match h[b]?, C.P.info? t with
    | some (.mem t0 cs), some i =>
      some (g && (ev C.G F x).1 && flatOk (ev C.G F x).2 && Nat.beq (flat (ev C.G F x).2).length i.size && Nat.ble (o + i.size) cs.length, (true, .top), h.set b (.mem t0 (splice cs o (flat (ev C.G F x).2))))
    | _, _ => none
  | _ => none

def evNilCheck (C : Cfg) (F : Fr) (h : Hp) (x : Operand) : OpR :=
  match ev C.G F x with
  | (g, .ptr b o) => some (g, (true, .ptr b o), h)
  | (g, .ro cs) => some (g, (true, .ro cs), h)
  | _ => none

def evSlice (C : Cfg) (F : Fr) (h : Hp) (t : TypeId) (x : Operand) (lo hi mx : Option Operand) : OpR :=
  match mx, optI (lo.map (ev C.G F)), optI (hi.map (ev C.G F)), C.P.underlying t, ev C.G F x with
  | none, some (g1, l), some (g2, r), some .string, (g, .str s) => some (g && g1 && g2 && cutOb s.length l r, (true, .str (cutL s l r)), h)
  | none, some (g1, l), some (g2, r), some (.slice e), (g, .sl sz es _) =>
    some (g && g1 && g2 && cutOb es.length l r && (Nat.beq sz (C.P.cellsOf e) || es.isEmpty) && (C.P.info? e).isSome, (true, .sl sz (cutL es l r) none), h)
  | _, _, _, _, _ => none

/-- A slice of an array that lies in memory of the call's own. -/
def evSliceP (C : Cfg) (dr : Bool) (F : Fr) (h : Hp) (t : TypeId) (x : Operand) (lo hi mx : Option Operand) : OpR :=
  match dr, mx, hi, optI (lo.map (ev C.G F)), C.P.underlying t, ev C.G F x with
  | false, none, none, some (g1, some l), some (.array n e), (g, .ptr b o) =>
    match h[b]? with
    | some (.mem _ cs) => some (g && g1 && decide (0 ≤ l) && decide (l < n) && (C.P.info? e).isSome && Nat.ble (o + n * C.P.cellsOf e) cs.length && Nat.ble n 1000000, (true, .osl b (o + l.toNat * C.P.cellsOf e) (n - l.toNat) (C.P.cellsOf e)), h)
    | _ => none
  | _, _, _, _, _, _ => none

def evFieldAddr (C : Cfg) (F : Fr) (h : Hp) (s : TypeId) (x : Operand) (f : Nat) : OpR :=
  match C.P.underlying s with
  | some (.struct fs) => match fs[f]? with
    | some fd =>
      bif Nat.beq (C.P.cellsOf fd.type) 0 then none else
      match ev C.G F x with
      | (g, .ptr b o) => some (g, (true, .ptr b (o + fd.offset)), h)
      | (g, .ro cs) => some (g, (true, .ro (cs.drop fd.offset)), h)
      | _ => none
    | none => none
  | _ => none

def evField (C : Cfg) (F : Fr) (h : Hp) (s : TypeId) (x : Operand) (f : Nat) : OpR :=
  match C.P.underlying s with
  | some (.struct fs) => match fs[f]?, ev C.G F x with
    | some fd, (g, .agg cs) => match rd C.P fd.type (cs.drop fd.offset) with
      | some v => some (g, (true, v), h)
      | none => none
    | _, _ => none
  | _ => none

def evIndexAddr (C : Cfg) (F : Fr) (h : Hp) (t : TypeId) (x i : Operand) : OpR :=
  match C.P.underlying t, ev C.G F x, ev C.G F i with
  | some (.slice e), (g, .sl sz es _), (g', .int _ n) =>
    some (g && g' && inR n es.length && Nat.beq sz (C.P.cellsOf e) && Nat.ble 1 sz, (true, .ro (getE es n)), h)
  | some (.slice e), (g, .osl b off len sz), (g', .int _ n) =>
    some (g && g' && inR n len && Nat.beq sz (C.P.cellsOf e) && Nat.ble 1 sz, (true, .ptr b (off + n.toNat * sz)), h)
  | some (.array m e), (g, .ro cs), (g', .int _ n) =>
    some (g && g' && inR n m && Nat.ble 1 (C.P.cellsOf e), (true, .ro (cs.drop (n.toNat * C.P.cellsOf e))), h)
  | some (.array m e), (g, .ptr b o), (g', .int _ n) =>
    some (g && g' && inR n m && Nat.ble 1 (C.P.cellsOf e), (true, .ptr b (o + n.toNat * C.P.cellsOf e)), h)
  | _, _, _ => none

def evIndex (C : Cfg) (F : Fr) (h : Hp) (t : TypeId) (x i : Operand) : OpR :=
  match C.P.underlying t, ev C.G F x, ev C.G F i with
  | some .string, (g, .str s), (g', .int _ n) => some (g && g' && inR n s.length, (true, .int .u8 ((s.getD n.toNat 0).toNat : Int)), h)
  | _, _, _ => none

def evExtract (C : Cfg) (F : Fr) (h : Hp) (t : Operand) (ix : Nat) : OpR :=
  match ev C.G F t with
  | (g, .tup vs) => match vs[ix]? with
    | some v => some (g, (true, v), h)
    | none => none
  | _ => none

def evLen (C : Cfg) (F : Fr) (h : Hp) (x : Operand) (t : TypeId) : OpR :=
  match C.P.underlying t, ev C.G F x with
  | some .string, (g, .str s) => some (g, (true, .int .i64 s.length), h)
  | some (.slice _), (g, .sl _ es _) => some (g, (true, .int .i64 es.length), h)
  | some (.slice _), (g, .osl _ _ len _) => some (g, (true, .int .i64 len), h)
  | _, _ => none

def evMax (C : Cfg) (F : Fr) (h : Hp) (x y : Operand) : OpR :=
  match ev C.G F x, ev C.G F y with
  | (g, .int k a), (g', .int k' b) => some (g && g' && decide (k = k'), (true, .int k (max a b)), h)
  | _, _ => none

def evMin (C : Cfg) (F : Fr) (h : Hp) (x y : Operand) : OpR :=
  match ev C.G F x, ev C.G F y with
  | (g, .int k a), (g', .int k' b) => some (g && g' && decide (k = k'), (true, .int k (min a b)), h)
  | _, _ => none

def evAppend (C : Cfg) (F : Fr) (h : Hp) (s x : Operand) (t t' : TypeId) : OpR :=
  match C.P.underlying t, ev C.G F s, ev C.G F x with
  | some (.slice e), (g, .sl sz es (some id)), (g', .sl sz' ns _) =>
    match C.P.info? e with
    | some i =>
      match i.zero with
      | some z =>
        some (g && g' && Nat.beq t t' && tagOk h es.length (C.P.cellsOf e) e (some id) && (Nat.beq sz (C.P.cellsOf e) || es.isEmpty) && (Nat.beq sz' (C.P.cellsOf e) || ns.isEmpty) && Nat.ble 1 (C.P.cellsOf e)
            && decide ((es.length + ns.length) * i.bytes ≤ 140737488355328) && Nat.ble 1 i.bytes && Nat.beq z.cells.size i.size,
          (true, .sl (C.P.cellsOf e) (es ++ ns) (some id)), h.set id (.grow (es.length + ns.length) (C.P.cellsOf e) e))
      | none => none
    | none => none
  | _, _, _ => none

def evAppendS (C : Cfg) (F : Fr) (h : Hp) (s x : Operand) (t t' : TypeId) : OpR :=
  match C.P.underlying t, C.P.underlying t', ev C.G F s, ev C.G F x with
  | some (.slice e), some .string, (g, .sl sz es (some id)), (g', .str l) =>
    match C.P.info? e with
    | some i =>
      match i.zero with
      | some z =>
        some (g && g' && tagOk h es.length (C.P.cellsOf e) e (some id) && (Nat.beq sz (C.P.cellsOf e) || es.isEmpty) && Nat.beq (C.P.cellsOf e) 1
            && decide ((es.length + l.length) * i.bytes ≤ 140737488355328) && Nat.ble 1 i.bytes && Nat.beq z.cells.size i.size,
          (true, .sl (C.P.cellsOf e) (es ++ l.map fun b => [.int .u8 (b.toNat : Int)]) (some id)), h.set id (.grow (es.length + l.length) (C.P.cellsOf e) e))
      | none => none
    | none => none
  | _, _, _, _ => none

def eqFs (P : Program) (eq : TypeId → AV → AV → Option Bool) : List Field → List AV → List AV → Option Bool
  | [], _, _ => some true
  | f :: fs, xs, ys =>
    match rd P f.type (xs.drop f.offset), rd P f.type (ys.drop f.offset) with
    | some a, some b =>
      match eq f.type a b, eqFs P eq fs xs ys with
      | some p, some q => some (p && q)
      | _, _ => none
    | _, _ => none

/-- Are two values the same, by their type? -/
def eqA (P : Program) : Nat → TypeId → AV → AV → Option Bool
  | 0, _, _, _ => none
  | n + 1, t, x, y =>
    match P.underlying t, x, y with
    | some (.int _), .int k a, .int k' b => bif decide (k = k') then some (a == b) else none
    | some .string, .str a, .str b => some (a == b)
    | some .bool, .bool a, .bool b => some (a == b)
    | some (.struct fs), .agg xs, .agg ys => eqFs P (eqA P n) fs.toList xs ys
    | _, _, _ => none

/-- May structs of a type be held against each other field by field? -/
def okEq (P : Program) : Nat → TypeId → Bool
  | 0, _ => true
  | n + 1, t => match P.underlying t with
    | some (.struct fs) => !P.stoodInHeld t && fs.toList.all fun f => !(f.name == "_") && okEq P n f.type
    | _ => true

def evEqS (C : Cfg) (F : Fr) (h : Hp) (op : BinOp) (t : TypeId) (x y : Operand) : OpR :=
  match op, ev C.G F x, ev C.G F y with
  | .eql, (g, .agg xs), (g', .agg ys) =>
    match eqA C.P 100 t (.agg xs) (.agg ys) with
    | some b => some (g && g' && !C.P.eqGuardType C.P.depth t && okEq C.P 100 t, (true, .bool b), h)
    | none => none
  | .neq, (g, .agg xs), (g', .agg ys) =>
    match eqA C.P 100 t (.agg xs) (.agg ys) with
    | some b => some (g && g' && !C.P.eqGuardType C.P.depth t && okEq C.P 100 t, (true, .bool !b), h)
    | none => none
  | _, _, _ => none

def evBin (C : Cfg) (F : Fr) (h : Hp) (op : BinOp) (t : TypeId) (x y : Operand) : OpR :=
  match binA C.P op t (ev C.G F x).2 (ev C.G F y).2 with
  | some r => some ((ev C.G F x).1 && (ev C.G F y).1 && r.1, (true, r.2), h)
  | none =>
    match op, cmpA (ev C.G F x).2 (ev C.G F y).2 with
    | .eql, some b => some ((ev C.G F x).1 && (ev C.G F y).1 && cmpOk C.P t (ev C.G F x).2 && cmpOk C.P t (ev C.G F y).2 && (isC x || isC y || !bothNil (ev C.G F x).2 (ev C.G F y).2), (true, .bool b), h)
    | .neq, some b => some ((ev C.G F x).1 && (ev C.G F y).1 && cmpOk C.P t (ev C.G F x).2 && cmpOk C.P t (ev C.G F y).2 && (isC x || isC y || !bothNil (ev C.G F x).2 (ev C.G F y).2), (true, .bool !b), h)
    | _, _ => evEqS C F h op t x y

def byteA : List AV → Option UInt8
  | [.int .u8 n] => bif decide (0 ≤ n) && decide (n < 256) then some (UInt8.ofNat n.toNat) else none
  | _ => none

def bytesA : List (List AV) → Option (List UInt8)
  | [] => some []
  | e :: es => match byteA e, bytesA es with
    | some b, some l => some (b :: l)
    | _, _ => none

/-- The same, with what it needs apart. -/
def byteG : List AV → Option (Bool × UInt8)
  | [.int .u8 n] => some (decide (0 ≤ n) && decide (n < 256), UInt8.ofNat n.toNat)
  | _ => none
def bytesG : List (List AV) → Option (Bool × List UInt8)
  | [] => some (true, [])
  | e :: es => match byteG e, bytesG es with
    | some (g, b), some (g', l) => some (g && g', b :: l)
    | _, _ => none

/-- Cells that are bytes. -/
def cellV : AV → UInt8
  | .int _ n => UInt8.ofNat n.toNat
  | _ => 0
def cellB : AV → Bool
  | .int .u8 n => decide (0 ≤ n) && decide (n < 256)
  | _ => false
def cellsB (cs : List AV) : Bool := cs.all cellB

def rowB : List AV → Bool
  | [c] => cellB c
  | _ => false
def rowV : List AV → UInt8
  | [c] => cellV c
  | _ => 0
def rowsB (es : List (List AV)) : Bool := es.all rowB

/-- Memory of so many zeros. -/
def evMake (C : Cfg) (F : Fr) (h : Hp) (t : TypeId) (l c : Operand) : OpR :=
  match C.P.underlying t with
  | some (.slice e) =>
    match C.P.info? e, ev C.G F l, ev C.G F c with
    | some i, (g, .int _ n), (g', .int _ m) =>
      match i.zero with
      | some z =>
        some (g && g' && decide (0 ≤ n) && decide (n = m) && decide ((i.bytes : Int) * m ≤ 281474976710656) && decide (m ≤ 9223372036854775807) && Nat.beq i.size 1 && Nat.beq z.cells.size 1 && z.cells.toList.all (·.oneCell'),
          (true, .osl h.length 0 n.toNat 1), h ++ [.mem e (List.replicate n.toNat (match z.cells.toList with | [v] => ofConst v | _ => .top))])
      | none => none
    | _, _, _ => none
  | _ => none

def evConvert (C : Cfg) (F : Fr) (h : Hp) (src dst : TypeId) (x : Operand) : OpR :=
  match C.P.underlying src, C.P.underlying dst, ev C.G F x with
  | some (.pointer t), some .unsafePointer, (g, .ptr b o) =>
    match h[b]?, C.P.info? t with
    | some (.mem _ cs), some i => some (g && !Nat.beq i.size 0 && Nat.blt o cs.length, (true, .ptr b o), h)
    | _, _ => none
  | some .unsafePointer, some (.pointer u), (g, .ptr b o) =>
    match h[b]?, C.P.info? u with
    | some (.mem t cs), some i => some (g && Nat.beq t u && Nat.beq o 0 && !Nat.beq i.size 0 && Nat.ble i.size cs.length, (true, .ptr b o), h)
    | _, _ => none
  | some (.int _), some .string, (g, .int _ n) => some (g, (true, .str (Utf8.encode n).data.toList), h)
  | some (.slice e), some .string, (g, .sl _ es _) =>
    match C.P.underlying e with
    | some (.int .u8) => some (g && rowsB es, (true, .str (es.map rowV)), h)
    | _ => none
  | some (.slice e), some .string, (g, .osl b off len sz) =>
    match C.P.underlying e, h[b]? with
    | some (.int .u8), some (.mem _ cs) =>
      some (g && Nat.beq sz 1 && cellsB ((cs.drop off).take len), (true, .str (((cs.drop off).take len).map cellV)), h)
    | _, _ => none
  | some .string, some (.slice e), (g, .str l) =>
    match C.P.underlying e with
    | some (.int .u8) => some (g && Nat.ble l.length 9223372036854775807, (true, .osl h.length 0 l.length 1), h ++ [.mem e (l.map fun b => .int .u8 (b.toNat : Int))])
    | _ => none
  | _, _, _ =>
    match convA C.P src dst (ev C.G F x).2 with
    | some r => some ((ev C.G F x).1 && r.1, (true, r.2), h)
    | none => none

def evBuiltin (C : Cfg) (F : Fr) (h : Hp) (b : Builtin) (args : List Operand) (ts : List TypeId) : OpR :=
  match b, args, ts with
  | .len, [x], [t] => evLen C F h x t
  | .max, [x, y], _ => evMax C F h x y
  | .min, [x, y], _ => evMin C F h x y
  | .append, [s, x], [t, t'] => match C.P.underlying t' with
    | some .string => evAppendS C F h s x t t'
    | _ => evAppend C F h s x t t'
  | _, _, _ => none

/-- A walk along a string's runes. -/
def evRange (C : Cfg) (F : Fr) (h : Hp) (t : TypeId) (x : Operand) : OpR :=
  match C.P.underlying t, ev C.G F x with
  | some .string, (g, .str s) => some (g, (true, .itr h.length), h ++ [.iter s 0])
  | _, _ => none

def evNext (C : Cfg) (F : Fr) (h : Hp) (it : Operand) (isString : Bool) : OpR :=
  match isString, ev C.G F it with
  | true, (g, .itr b) => match h[b]? with
    | some (.iter s p) =>
      match Nat.blt p s.length with
      | true => some (g, (true, .tup [.bool true, .int .i64 p, .int .i32 (Utf8.decode ⟨s.toArray⟩ p).1]), h.set b (.iter s (p + (Utf8.decode ⟨s.toArray⟩ p).2)))
      | false => some (g, (true, .tup [.bool false]), h)
    | _ => none
  | _, _ => none

/-- The operations that are no calls of Go functions. What it needs; what it gives; the heap behind it. -/
def evalOp (C : Cfg) (dr : Bool) (F : Fr) (h : Hp) (o : Oper) : OpR :=
  match o.op with
  | .move x => evMove C dr F h o.type x
  | .assign x => evMove C dr F h o.type x
  | .pick c a b => evPick C F h c a b
  | .alloc t => evAlloc C dr h t
  | .box t x => some ((ev C.G F x).1 && flatOk (ev C.G F x).2, (true, .ptr h.length 0), h ++ [.mem t (flat (ev C.G F x).2)])
  | .build t parts => evBuild C dr F h t parts
  | .buildSlice t len parts => evBuildSlice C dr F h t len parts
  | .load t a => evLoad C F h t a
  | .store t a x => evStore C F h t a x
  | .nilCheck x => evNilCheck C F h x
  | .binOp op t x y _ => evBin C F h op t x y
  | .unOp op _ x => match unA op (ev C.G F x).2 with
    | some r => some ((ev C.G F x).1 && r.1, (true, r.2), h)
    | none => none
  | .convert src dst x => evConvert C F h src dst x
  | .makeFunc f first cap => some ((evs C.G F first.toList).1 && (evs C.G F cap.toList).1, (true, .fn f (evs C.G F first.toList).2 (evs C.G F cap.toList).2), h)
  | .slice t x lo hi mx => match evSlice C F h t x lo hi mx with
    | some r => some r
    | none => evSliceP C dr F h t x lo hi mx
  | .fieldAddr s x f => evFieldAddr C F h s x f
  | .field s x f => evField C F h s x f
  | .indexAddr t x i => evIndexAddr C F h t x i
  | .index t x i => evIndex C F h t x i
  | .extract t ix => evExtract C F h t ix
  | .range t x => evRange C F h t x
  | .next it isString => evNext C F h it isString
  | .makeSlice t l c => evMake C F h t l c
  | .call c => match c.callee with
    | .builtin b => evBuiltin C F h b c.args.toList c.argTypes.toList
    | _ => none
  | _ => none

/-- Whether an operation's guard lets it be done. -/
def guardOf (ops : Array Oper) (F : Fr) (o : Oper) : Option Bool :=
  match o.guard with
  | none => some true
  | some (j, want) =>
    match (ops[j]?).bind (·.dst) with
    | some d => match lk F d with
      | (g, .bool b) => some (g && (b == want))
      | (false, _) => some false
      | _ => none
    | none => none

mutual
def strip (n : Nat) (h : Hp) : AV → AV
  | .ptr b o => bif Nat.blt b n then .ptr b o else .top
  | .ro cs => .ro (strips n h cs)
  | .sl sz es own => .sl sz (stripss n h es) (match own with | some id => bif Nat.blt id n then some id else none | none => none)
  | .osl b off len sz => bif Nat.blt b n then .osl b off len sz else .top
  | .itr b => bif Nat.blt b n then .itr b else .top
  | .fn f a c => .fn f (strips n h a) (strips n h c)
  | .iface t v => .iface t (strip n h v)
  | .agg cs => .agg (strips n h cs)
  | .tup cs => .tup (strips n h cs)
  | .dfr cs => .dfr (strips n h cs)
  | v => v
def strips (n : Nat) (h : Hp) : List AV → List AV
  | [] => []
  | v :: r => strip n h v :: strips n h r
def stripss (n : Nat) (h : Hp) : List (List AV) → List (List AV)
  | [] => []
  | v :: r => strips n h v :: stripss n h r
end

/-- Values that hold no place. -/
def atomV : AV → Bool
  | .bool _ | .int _ _ | .str _ => true
  | _ => false
/-- A slice of the callee's own memory, handed out: nobody writes it any more. -/
def outS (h : Hp) (b off len sz : Nat) : AV :=
  match h[b]? with
  | some (.mem _ cs) => bif Nat.beq sz 1 && ((cs.drop off).take len).all atomV then .sl 1 (((cs.drop off).take len).map fun c => [c]) none else .top
  | _ => .top
def stripR1 (n : Nat) (h : Hp) : AV → AV
  | .osl b off len sz => bif Nat.blt b n then .osl b off len sz else outS h b off len sz
  | v => strip n h v
/-- What a call hands out. -/
def stripR (n : Nat) (h : Hp) : AV → AV
  | .tup vs => .tup (vs.map (stripR1 n h))
  | v => stripR1 n h v

def stripB (n : Nat) (h : Hp) : Blk → Blk
  | .mem t cs => .mem t (strips n h cs)
  | b => b

def stripF (n : Nat) (h : Hp) (F : Fr) : Fr := F.map fun e => (e.1, e.2.1, strip n h e.2.2)

def argFr : Nat → List AV → Fr
  | _, [] => []
  | n, v :: r => bif Nat.beq n 1000000 then [] else (n, true, v) :: argFr (n + 1) r

/-- A function's results. -/
def resOne (P : Program) (F : Fr) (h : Hp) : ResultVar → Option (Bool × AV)
  | .tmp t => some (lk F t)
  | .cell a t => match lk F a with
    | (g, .ptr b o) => match h[b]? with
      | some (.mem _ cs) => (rd P t (cs.drop o)).map fun v => (g, v)
      | _ => none
    | _ => none

def resAll (P : Program) (F : Fr) (h : Hp) : List ResultVar → Option (Bool × List AV)
  | [] => some (true, [])
  | r :: rs => match resOne P F h r, resAll P F h rs with
    | some (g, v), some (g', vs) => some (g && g', v :: vs)
    | _, _ => none

def result (P : Program) (fn : Func) (F : Fr) (h : Hp) : Option AV :=
  match resAll P F h fn.results.toList with
  | some (true, [v]) => some v
  | some (true, vs) => some (.tup vs)
  | _ => none

/-- Drawn regions: the operations that touch memory that may be written are in a forced order, or apart. -/
def strBytes (P : Program) (src dst : TypeId) : Bool :=
  match P.underlying src, P.underlying dst with
  | some .string, some (.slice _) => true
  | _, _ => false
def effect (P : Program) : Op → Bool
  | .convert src dst _ => strBytes P src dst
  | .alloc _ | .box .. | .store .. | .range .. | .next .. | .makeSlice .. => true
  | .call { callee := .builtin .append, .. } => true
  | _ => false
def convTouch (P : Program) (src dst : TypeId) : Bool :=
  match P.underlying src, P.underlying dst with
  | some (.int _), _ => false
  | some .string, some .string => false
  | _, _ => true
def touches (P : Program) : Op → Bool
  | .load .. => true
  | .convert src dst _ => convTouch P src dst
  | o => effect P o

def calm (P : Program) (x y : Op) : Bool := !(effect P x && touches P y) && !(touches P x && effect P y)

/-- For each operation, those that are bound to stand before it, as bits. -/
def bitsOf (look : Nat → Nat) (o : Oper) : Nat :=
  o.after.toList.foldr (fun e s => bif Region.binds .any e then Nat.lor (Nat.lor (2 ^ e.on) (look e.on)) s else s) 0

def forceN {α : Type} (n : Nat) (k : Nat → α) : α :=
  match n with
  | 0 => k 0
  | m + 1 => k (m + 1)

def befs : List Oper → List Nat → List Nat
  | [], acc => acc
  | o :: os, acc => forceN (bitsOf (fun i => acc.getD i 0) o) fun v => befs os (acc ++ [v])

def noSel : Op → Bool
  | .select .. => false
  | _ => true

/-- Is a slot turned by none of these? -/
def stabT (ops : List Oper) (t : Nat) : Bool := ops.all fun o => match o.dst with
  | some d => !Nat.beq d t
  | none => true
/-- One reads, the other writes, by slots that stay. -/
def lsP (ops : List Oper) (x y : Oper) : Bool :=
  match x.op, y.op, x.guard, y.guard with
  | .load _ (.tmp p), .store _ (.tmp q) _, none, none => !Nat.beq p q && stabT ops p && stabT ops q
  | _, _, _, _ => false
/-- In unlike blocks. -/
def lsD (F : Fr) (x y : Oper) : Bool :=
  match x.op, y.op with
  | .load _ (.tmp p), .store _ (.tmp q) _ => match lk F p, lk F q with
    | (true, .ptr b _), (true, .ptr b' _) => !Nat.beq b b'
    | _, _ => false
  | _, _ => false
def lsOk (ops : List Oper) (F : Fr) : Bool := ops.all fun x => ops.all fun y => !lsP ops x y || lsD F x y

def drawOk (P : Program) (ops : Array Oper) : Bool :=
  let b := befs ops.toList []
  (ops.toList.zipIdx.all fun y => noSel y.1.op && y.1.after.toList.all fun e => !Region.binds .any e || Nat.blt e.on y.2) &&
  ops.toList.zipIdx.all fun y => ops.toList.zipIdx.all fun x =>
    !Nat.blt x.2 y.2 || (b.getD y.2 0).testBit x.2 || (x.1.apart ops y.1 && (calm P x.1.op y.1.op || lsP ops.toList x.1 y.1 || lsP ops.toList y.1 x.1))

/-- Where a frame keeps what its function has put off. -/
def dS : Nat := 1000000

def isDef (o : Oper) : Bool :=
  match o.op, o.guard with
  | .defer _, none => true
  | _, _ => false
def hasDef (ops : List Oper) : Bool := ops.any isDef
/-- Where an operation's value goes. -/
def dstW (draw : Bool) (o : Oper) : Option Nat :=
  match draw with
  | true => o.dst
  | false => match isDef o with
    | true => some dS
    | false => o.dst

def dstOk (n : Nat) : Option Nat → Bool
  | none => true
  | some d => Nat.blt d n && !Nat.beq d dS

/-- What is looked at in a body once and for all. -/
def okCode (P : Program) (n : Nat) : Code → Bool
  | .region _ ops draw => (ops.toList.all fun o => dstOk n o.dst) && (!draw || drawOk P ops)
  | .seq a b => okCode P n a && okCode P n b
  | .cond _ a b => okCode P n a && okCode P n b
  | .block _ a => okCode P n a
  | .loop a => okCode P n a
  | .scope a => okCode P n a
  | _ => true

/-- One operation that is done; 'cl': what calls of Go functions come to. -/
def stepGo (C : Cfg) (cl : FuncId → List AV → Hp → Except (List Nat) (AV × Hp)) (draw : Bool) (o : Oper) (F : Fr) (h : Hp) : Except (List Nat) ((Bool × AV) × Hp) :=
  match o.op with
  | .call { callee := .value x, args, argTypes := _ } =>
    match ev C.G F x, evs C.G F args.toList with
    | (true, .fn (.func k) first cap), (true, vs) =>
      match C.ident k, first ++ vs ++ cap with
      | true, [v] => .ok ((true, v), h)
      | true, _ => .error [1017]
      | false, l =>
        match cl k l h with
        | .ok (v, h') => .ok ((true, v), h')
        | .error e => .error (3000 :: e)
    | _, _ => .error [1005]
  | .defer { callee := .value x, args, argTypes := _ } =>
    match draw || !isDef o || o.dst.isSome || !args.toList.isEmpty, ev C.G F x, lk F dS with
    | false, (true, .fn f first cap), (_, .dfr l) => .ok ((true, .dfr (.fn f first cap :: l)), h)
    | _, _, _ => .error [1020]
  | _ =>
    match evalOp C (draw || o.guard.isSome) F h o with
    | some (true, e, h') => .ok (e, h')
    | some (false, _, _) => .error [1006]
    | none => .error [1007]

def stepOp (C : Cfg) (cl : FuncId → List AV → Hp → Except (List Nat) (AV × Hp)) (ops : Array Oper) (draw : Bool) (o : Oper) (F : Fr) (h : Hp) : Except (List Nat) ((Bool × AV) × Hp) :=
  match guardOf ops F o with
  | none => .error [1004]
  | some false => .ok ((false, .top), h)
  | some true => stepGo C cl draw o F h

def execOps (C : Cfg) (cl : FuncId → List AV → Hp → Except (List Nat) (AV × Hp)) (ops : Array Oper) (draw : Bool) : List Oper → Fr → Hp → Except (List Nat) (Fr × Hp)
  | [], F, h => .ok (F, h)
  | o :: os, F, h =>
    match stepOp C cl ops draw o F h with
    | .ok (e, h') => execOps C cl ops draw os (putF F (dstW draw o) e) h'
    | .error x => .error (os.length :: x)

/-- Are all other operations bound to stand before the last one? -/
def lastB (ops : Array Oper) : Bool := (List.range (ops.size - 1)).all fun i => ((befs ops.toList []).getD (ops.size - 1) 0).testBit i
/-- Is the last operation a call of a function that sees its caller's memory, and behind all others, whatever order is drawn? -/
def tailO (C : Cfg) (ops : Array Oper) : Bool :=
  match ops[ops.size - 1]? with
  | some o => match o.op, o.guard with
    | .call { callee := .value (.func k), args := _, argTypes := _ }, none => ((C.hprim k).isSome || C.heap k) && lastB ops
    | _, _ => false
  | none => false
def drawI (C : Cfg) (ops : Array Oper) (draw : Bool) (i : Nat) : Bool := draw && !(Nat.beq (i + 1) ops.size && tailO C ops)
/-- A region's operations, from one on. -/
def execReg (C : Cfg) (cl : Bool → FuncId → List AV → Hp → Except (List Nat) (AV × Hp)) (ops : Array Oper) (draw : Bool) : Nat → List Oper → Fr → Hp → Except (List Nat) (Fr × Hp)
  | _, [], F, h => .ok (F, h)
  | i, o :: os, F, h =>
    match stepOp C (cl (drawI C ops draw i)) ops (drawI C ops draw i) o F h with
    | .ok (e, h') => execReg C cl ops draw (i + 1) os (putF F (dstW (drawI C ops draw i) o) e) h'
    | .error x => .error (os.length :: x)

/-- What was put off, done; the last one first. -/
def runD (C : Cfg) (cl : FuncId → List AV → Hp → Except (List Nat) (AV × Hp)) : List AV → Hp → Option Hp
  | [], h => some h
  | .fn (.func k) first cap :: l, h =>
    match (C.hprim k).isSome || (C.prim k).isSome || C.dfr k, cl k (first ++ cap) h with
    | false, .ok (_, h') => runD C cl l h'
    | _, _ => none
  | _ :: _, _ => none

/-- A function's end: what it has put off; its results. -/
def finish (C : Cfg) (cl : FuncId → List AV → Hp → Except (List Nat) (AV × Hp)) (k : FuncId) (fn : Func) (F : Fr) (h : Hp) : Option (AV × Hp) :=
  match C.dfr k with
  | false => match result C.P fn F h with
    | some v => some (v, h)
    | none => none
  | true => match lk F dS with
    | (_, .dfr l) => match runD C cl l h with
      | some h' => match result C.P fn F h' with
        | some v => some (v, h')
        | none => none
      | none => none
    | _ => none

def frame0 (C : Cfg) (k : FuncId) (vs : List AV) : Fr :=
  match C.dfr k with
  | false => argFr 0 vs
  | true => argFr 0 vs ++ [(dS, true, .dfr [])]

mutual
def exec (C : Cfg) (f : FuncId) : Nat → Code → Fr → Hp → Except (List Nat) (XT × Fr × Hp)
  | 0, _, _, _ => .error []
  | n + 1, c, F, h =>
    match c with
    | .skip => .ok (.normal, F, h)
    | .ret => .ok (.ret, F, h)
    | .exit id => .ok (.exit id, F, h)
    | .label _ => .ok (.normal, F, h)
    | .goto l => .ok (.goto l, F, h)
    | .scope a => scopeGo C f n a a F h
    | .seq a b =>
      match exec C f n a F h with
      | .ok (.normal, F', h') => exec C f n b F' h'
      | r => r
    | .cond x a b =>
      match ev C.G F x with
      | (true, .bool true) => exec C f n a F h
      | (true, .bool false) => exec C f n b F h
      | _ => .error [f, 1001]
    | .block id a =>
      match exec C f n a F h with
      | .ok (.exit id', F', h') => bif Nat.beq id' id then .ok (.normal, F', h') else .ok (.exit id', F', h')
      | r => r
    | .loop a =>
      match exec C f n a F h with
      | .ok (.normal, F', h') => match C.trunc f with
        | true => exec C f n (.loop a) (stripF h.length h' F') ((h'.take h.length).map (stripB h.length h'))
        | false => exec C f n (.loop a) F' h'
      | r => r
    | .region id ops draw =>
      match (!C.dfr f && hasDef ops.toList) || (draw && !lsOk ops.toList ((C.live f id).map fun s => (s, lk F s))) with
      | true => .error [f, 1021]
      | false =>
      match execReg C (fun d => call C d n) ops draw 0 ops.toList ((C.live f id).map fun s => (s, lk F s)) h with
      | .ok (F', h') => .ok (.normal, F', h')
      | .error e => .error (f :: id :: e)
    | _ => .error [f, 1003]
def scopeGo (C : Cfg) (f : FuncId) : Nat → Code → Code → Fr → Hp → Except (List Nat) (XT × Fr × Hp)
  | 0, _, _, _, _ => .error []
  | n + 1, c, cur, F, h =>
    match exec C f n cur F h with
    | .ok (.goto l, F', h') =>
      match findLabel c l with
      | some rest => scopeGo C f n c rest F' h'
      | none => .ok (.goto l, F', h')
    | r => r
def call (C : Cfg) (draw : Bool) : Nat → FuncId → List AV → Hp → Except (List Nat) (AV × Hp)
  | 0, _, _, _ => .error []
  | n + 1, k, vs, h =>
    bif !C.ok k then .error [k, 1008] else
    match C.hprim k with
    | some g =>
      bif draw then .error [k, 1018] else
      match g vs h with
      | some r => .ok r
      | none => .error [k, 1019]
    | none =>
    match C.prim k with
    | some g => match g (strips 0 [] vs) with
      | some (true, v) => .ok (strip 0 [] v, h)
      | _ => .error [k, 1009]
    | none =>
      match C.P.funcs[k]? with
      | none => .error [k, 1010]
      | some fn => match fn.body with
        | none => .error [k, 1011]
        | some c =>
          match C.heap k with
          | true =>
            bif draw then .error [k, 1012] else
            match exec C k n c (frame0 C k vs) h with
            | .ok (.ret, F', h') | .ok (.normal, F', h') =>
              match finish C (call C false n) k fn F' h' with
              | some (v, h') => .ok (stripR h.length h' v, (h'.take h.length).map (stripB h.length h'))
              | none => .error [k, 1013]
            | .error e => .error e
            | _ => .error [k, 1014]
          | false =>
            match exec C k n c (frame0 C k (strips 0 [] vs)) [] with
            | .ok (.ret, F', h') | .ok (.normal, F', h') =>
              match finish C (call C false n) k fn F' h' with
              | some (v, h') => .ok (stripR 0 h' v, h)
              | none => .error [k, 1013]
            | .error e => .error e
            | _ => .error [k, 1014]
end
end Go.Ai
