/-
  Contracts of functions, for symbolic runs. No statement about the program is made here.
-/
import Derived.Test.YtopjpnhgnopbiaaGreatDoorAAiSym
import Derived.KernelRfl
set_option linter.unusedVariables false
set_option linter.unusedSimpArgs false
set_option linter.unnecessarySimpa false
namespace Go.Ai
open Go.RowKit
abbrev Ce :=List AV->Hp->(AV->Hp->Prop)->Prop
def Ac (l:List (Nat×Ce)):dt:=fun f=>HR f l
def CR (C:Bm)(k:Nat)(t:Ce):Prop:=∀l h K,t (B8 C k l) h K->∃v h',K4 C false k l h v h'/\K v h'
theorem AY {C:Bm}{l:List (Nat×Ce)}(h:∀p∈l,CR C p.1 p.2):AL C (Ac l):=fun k t ht=>h (k,t) (EP ht)
theorem AM {C:Bm}:∀p∈([]:List (Nat×Ce)),CR C p.1 p.2:=fun _ h=>by cases h
theorem AH {C:Bm}{k:Nat}{t:Ce}{l:List (Nat×Ce)}(h1:CR C k t)(h2:∀p∈l,CR C p.1 p.2):∀p∈(k,t)::l,CR C p.1 p.2:=fun p hp=>by
 rcases List.mem_cons.1 hp with rfl|hp
 ·exact h1
 ·exact h2 p hp
section
variable {C:Bm}{f:FuncId}{body:Code}{T:dt}{pl:Z6}{Q:Fr->Hp->Prop}
def gk :Code->Bool
 |.loop _=>true
 |_=>false
theorem Az (hT:AL C T)(n:Nat){p:List Nat}{st:List Fm}{F:Fr}{h:Hp}(hc:gk (Aa body p)=true)(hu:Hh C f body T pl Q n (.code (0::p):: .loop p h.length::st) .normal F h):AF C f body Q (.code p::st) .normal F h:=by
 cases hb:Aa body p with
 |loop a=>exact MU hb (DK hT n _ _ _ _ hu)
 |_=>rw[hb] at hc;cases hc
def BL (C:Bm)(k:Nat)(fn:Func):Prop:=(C.ok k&& !C.C9 k)=true/\C.Cr k=none/\C.FM k=none/\C.P.funcs[k]?=some fn/\fn.body.isSome=true/\C.heap k=false
def BV (C:Bm)(k:Nat)(fn:Func):Prop:=(C.ok k&& !C.C9 k&& !C.LW k&&(C.pre k).isNone)=true/\C.Cr k=none/\C.FM k=none/\C.P.funcs[k]?=some fn/\fn.body.isSome=true/\C.heap k=true
def lq (C:Bm)(k:Nat)(fn:Func)(m:Nat):Prop:=(C.ok k&& !C.C9 k)=true/\C.Cr k=none/\C.FM k=none/\C.P.funcs[k]?=some fn/\fn.body.isSome=true/\C.heap k=true/\C.pre k=some m
theorem GL {fn:Func}(h:fn.body.isSome=true):fn.body=some (AB fn):=by
 unfold AB
 cases hb:fn.body with
 |none=>rw[hb] at h;cases h
 |some c=>rfl
theorem Ax {k:Nat}{fn:Func}{t:Ce}(hp:BL C k fn)(H:∀vs h K,t vs h K->∃v,K v h/\AF C k (AB fn) (AK C.P fn v) [.code []] .normal (Dz 0 vs) []):CR C k t:=by
 intro l h K ht;obtain⟨v,hk,he⟩:=H _ _ _ ht;obtain⟨h1,h2,h3,h4,h5,h6⟩:=hp;simp only[Bool.and_eq_true,Bool.not_eq_true'] at h1;exact⟨v,h,jQ h1.1 h2 h3 h4 (GL h5) h6 h1.2 he false h,hk⟩
theorem BD {k:Nat}{fn:Func}{t:Ce}(hp:BV C k fn)(H:∀vs h K,t vs h K->AF C k (AB fn) (AX C.P fn h.length K) [.code []] .normal (Dz 0 vs) h):CR C k t:=by
 intro l h K ht;obtain⟨h1,h2,h3,h4,h5,h6⟩:=hp;simp only[Bool.and_eq_true,Bool.not_eq_true'] at h1
 have ha:B8 C k l=l:=by simp[B8,h6]
 rw[ha] at ht
 exact Kz h1.1.1.1 h2 h3 h4 (GL h5) h6 h1.1.1.2 h1.1.2 (Option.isNone_iff_eq_none.1 h1.2) (by rw[ha];exact H _ _ _ ht)
theorem lK {k m:Nat}{fn:Func}{t:Ce}(hp:lq C k fn m)(H:∀vs h K,t vs h K->MB m h=true/\AF C k (AB fn) (AX C.P fn m fun v h1=>K v (h1++h.drop m)) [.code []] .normal (Dz 0 (AQ m [] vs)) ((h.take m).map (AN m []))):CR C k t:=by
 intro l h K ht;obtain⟨h1,h2,h3,h4,h5,h6,h7⟩:=hp;simp only[Bool.and_eq_true,Bool.not_eq_true'] at h1
 have ha:B8 C k l=l:=by simp[B8,h6]
 rw[ha] at ht;obtain⟨k1,k2⟩:=H _ _ _ ht;refine VK h1.1 h2 h3 h4 (GL h5) h6 h1.2 h7 ?_ k1 k2;simp only[MB,Bool.and_eq_true] at k1;unfold O6;rw[k1.1.1.1.1.2];rfl
theorem Fj {k:Nat}{g:List AV->Option (Bool×AV)}{t:Ce}(h1:C.ok k=true)(h2:C.Cr k=none)(h3:C.FM k=some g)(h4:C.heap k=false)(H:∀vs h K,t vs h K->∃v,K (strip 0 [] v) h/\g vs=some (true,v)):CR C k t:=by
 intro l h K ht;obtain⟨v,hk,hg⟩:=H _ _ _ ht;exact⟨_,h,dZ h1 h2 h3 h4 hg false h,hk⟩
end
theorem BG {n:Int}(h1: -9223372036854775808<=n)(h2:n<=9223372036854775807):IntKind.wrap .i64 n=n:=by
 rw[IntKind.wrap_i64];omega
theorem Dt {i:Int}{n:Nat}(h1:0<=i)(h2:i<n):Dk i n=true:=by simp[Dk,h1,h2]
end Go.Ai
