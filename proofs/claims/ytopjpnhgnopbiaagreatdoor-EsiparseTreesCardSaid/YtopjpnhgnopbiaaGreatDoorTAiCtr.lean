/-
  Contracts of functions, for symbolic runs. No statement about the program is made here.
-/
import Derived.Test.YtopjpnhgnopbiaaGreatDoorTAiSym
import Derived.KernelRfl
set_option linter.unusedVariables false
set_option linter.unusedSimpArgs false
set_option linter.unnecessarySimpa false
namespace Go.Ai
open Go.RowKit
abbrev Ci :=List AV->Hp->(AV->Hp->Prop)->Prop
def Af (l:List (Nat×Ci)):Zv:=fun f=>GY f l
def CP (C:Bh)(k:Nat)(t:Ci):Prop:=∀l h K,t (B7 C k l) h K->∃v h',Jn C false k l h v h'/\K v h'
theorem AX {C:Bh}{l:List (Nat×Ci)}(h:∀p∈l,CP C p.1 p.2):AK C (Af l):=fun k t ht=>h (k,t) (FL ht)
theorem AN {C:Bh}:∀p∈([]:List (Nat×Ci)),CP C p.1 p.2:=fun _ h=>by cases h
theorem AG {C:Bh}{k:Nat}{t:Ci}{l:List (Nat×Ci)}(h1:CP C k t)(h2:∀p∈l,CP C p.1 p.2):∀p∈(k,t)::l,CP C p.1 p.2:=fun p hp=>by
 rcases List.mem_cons.1 hp with rfl|hp
 ·exact h1
 ·exact h2 p hp
section
variable {C:Bh}{f:FuncId}{body:Code}{T:Zv}{pl:XL}{Q:Fr->Hp->Prop}
def cp :Code->Bool
 |.loop _=>true
 |_=>false
theorem Ax (hT:AK C T)(n:Nat){p:List Nat}{st:List Fm}{F:Fr}{h:Hp}(hc:cp (Ab body p)=true)(hu:Gp C f body T pl Q n (.code (0::p):: .loop p h.length::st) .normal F h):AE C f body Q (.code p::st) .normal F h:=by
 cases hb:Ab body p with
 |loop a=>exact K4 hb (Ap hT n _ _ _ _ hu)
 |_=>rw[hb] at hc;cases hc
def BE (C:Bh)(k:Nat)(fn:Func):Prop:=(C.ok k&& !C.Cs k)=true/\C.Cy k=none/\C.E7 k=none/\C.P.funcs[k]?=some fn/\fn.body.isSome=true/\C.heap k=false
def Bl (C:Bh)(k:Nat)(fn:Func):Prop:=(C.ok k&& !C.Cs k&& !C.KI k&&(C.pre k).isNone)=true/\C.Cy k=none/\C.E7 k=none/\C.P.funcs[k]?=some fn/\fn.body.isSome=true/\C.heap k=true
def Qf (C:Bh)(k:Nat)(fn:Func)(m:Nat):Prop:=(C.ok k&& !C.Cs k)=true/\C.Cy k=none/\C.E7 k=none/\C.P.funcs[k]?=some fn/\fn.body.isSome=true/\C.heap k=true/\C.pre k=some m
theorem Ed {fn:Func}(h:fn.body.isSome=true):fn.body=some (AD fn):=by
 unfold AD
 cases hb:fn.body with
 |none=>rw[hb] at h;cases h
 |some c=>rfl
theorem Ar {k:Nat}{fn:Func}{t:Ci}(hp:BE C k fn)(H:∀vs h K,t vs h K->∃v,K v h/\AE C k (AD fn) (AR C.P fn v) [.code []] .normal (DY 0 vs) []):CP C k t:=by
 intro l h K ht;obtain⟨v,hk,he⟩:=H _ _ _ ht;obtain⟨h1,h2,h3,h4,h5,h6⟩:=hp;simp only[Bool.and_eq_true,Bool.not_eq_true'] at h1;exact⟨v,h,eY h1.1 h2 h3 h4 (Ed h5) h6 h1.2 he false h,hk⟩
theorem BF {k:Nat}{fn:Func}{t:Ci}(hp:Bl C k fn)(H:∀vs h K,t vs h K->AE C k (AD fn) (AQ C.P fn h.length K) [.code []] .normal (DY 0 vs) h):CP C k t:=by
 intro l h K ht;obtain⟨h1,h2,h3,h4,h5,h6⟩:=hp;simp only[Bool.and_eq_true,Bool.not_eq_true'] at h1
 have ha:B7 C k l=l:=by simp[B7,h6]
 rw[ha] at ht
 exact Jl h1.1.1.1 h2 h3 h4 (Ed h5) h6 h1.1.1.2 h1.1.2 (Option.isNone_iff_eq_none.1 h1.2) (by rw[ha];exact H _ _ _ ht)
theorem Nq {k m:Nat}{fn:Func}{t:Ci}(hp:Qf C k fn m)(H:∀vs h K,t vs h K->HN m h=true/\AE C k (AD fn) (AQ C.P fn m fun v h1=>K v (h1++h.drop m)) [.code []] .normal (DY 0 (AP m [] vs)) ((h.take m).map (AL m []))):CP C k t:=by
 intro l h K ht;obtain⟨h1,h2,h3,h4,h5,h6,h7⟩:=hp;simp only[Bool.and_eq_true,Bool.not_eq_true'] at h1
 have ha:B7 C k l=l:=by simp[B7,h6]
 rw[ha] at ht;obtain⟨k1,k2⟩:=H _ _ _ ht;refine LL h1.1 h2 h3 h4 (Ed h5) h6 h1.2 h7 ?_ k1 k2;simp only[HN,Bool.and_eq_true] at k1;unfold Hm;rw[k1.1.1.1.1.2];rfl
theorem eV {k m:Nat}{fn:Func}{t:Ci}(hp:Qf C k fn m)(H:∀vs h K,t vs h K->HN (Hm m h) h=true/\AE C k (AD fn) (AQ C.P fn (Hm m h) fun v h1=>K v (h1++h.drop (Hm m h))) [.code []] .normal (DY 0 (AP (Hm m h) [] vs)) ((h.take (Hm m h)).map (AL (Hm m h) []))):CP C k t:=by
 intro l h K ht;obtain⟨h1,h2,h3,h4,h5,h6,h7⟩:=hp;simp only[Bool.and_eq_true,Bool.not_eq_true'] at h1
 have ha:B7 C k l=l:=by simp[B7,h6]
 rw[ha] at ht;obtain⟨k1,k2⟩:=H _ _ _ ht;exact LL h1.1 h2 h3 h4 (Ed h5) h6 h1.2 h7 rfl k1 k2
theorem Gj {k:Nat}{g:List AV->Option (Bool×AV)}{t:Ci}(h1:C.ok k=true)(h2:C.Cy k=none)(h3:C.E7 k=some g)(h4:C.heap k=false)(H:∀vs h K,t vs h K->∃v,K (strip 0 [] v) h/\g vs=some (true,v)):CP C k t:=by
 intro l h K ht;obtain⟨v,hk,hg⟩:=H _ _ _ ht;exact⟨_,h,Zk h1 h2 h3 h4 hg false h,hk⟩
end
theorem Bx {n:Int}(h1: -9223372036854775808<=n)(h2:n<=9223372036854775807):IntKind.wrap .i64 n=n:=by
 rw[IntKind.wrap_i64];omega
end Go.Ai
