/-
  Contracts of functions, for symbolic runs. No statement about the program is made here.
-/
import Derived.Test.YtopjpnhgnopbiaaGreatDoorLAiSym
import Derived.KernelRfl
set_option linter.unusedVariables false
set_option linter.unusedSimpArgs false
set_option linter.unnecessarySimpa false
namespace Go.Ai
open Go.RowKit
abbrev Ci :=List AV->Hp->(AV->Hp->Prop)->Prop
def Ae (l:List (Nat×Ci)):Zy:=fun f=>Ga f l
def CO (C:Bh)(k:Nat)(t:Ci):Prop:=∀l h K,t (B7 C k l) h K->∃v h',Jp C false k l h v h'/\K v h'
theorem AX {C:Bh}{l:List (Nat×Ci)}(h:∀p∈l,CO C p.1 p.2):AJ C (Ae l):=fun k t ht=>h (k,t) (FN ht)
theorem AM {C:Bh}:∀p∈([]:List (Nat×Ci)),CO C p.1 p.2:=fun _ h=>by cases h
theorem AG {C:Bh}{k:Nat}{t:Ci}{l:List (Nat×Ci)}(h1:CO C k t)(h2:∀p∈l,CO C p.1 p.2):∀p∈(k,t)::l,CO C p.1 p.2:=fun p hp=>by
 rcases List.mem_cons.1 hp with rfl|hp
 ·exact h1
 ·exact h2 p hp
section
variable {C:Bh}{f:FuncId}{body:Code}{T:Zy}{pl:XP}{Q:Fr->Hp->Prop}
def cz :Code->Bool
 |.loop _=>true
 |_=>false
theorem Av (hT:AJ C T)(n:Nat){p:List Nat}{st:List Fm}{F:Fr}{h:Hp}(hc:cz (Ac body p)=true)(hu:Gs C f body T pl Q n (.code (0::p):: .loop p h.length::st) .normal F h):AE C f body Q (.code p::st) .normal F h:=by
 cases hb:Ac body p with
 |loop a=>exact K8 hb (Ap hT n _ _ _ _ hu)
 |_=>rw[hb] at hc;cases hc
def BD (C:Bh)(k:Nat)(fn:Func):Prop:=(C.ok k&& !C.Cs k)=true/\C.Cz k=none/\C.E9 k=none/\C.P.funcs[k]?=some fn/\fn.body.isSome=true/\C.heap k=false
def Bl (C:Bh)(k:Nat)(fn:Func):Prop:=(C.ok k&& !C.Cs k&& !C.KL k&&(C.pre k).isNone)=true/\C.Cz k=none/\C.E9 k=none/\C.P.funcs[k]?=some fn/\fn.body.isSome=true/\C.heap k=true
def Qk (C:Bh)(k:Nat)(fn:Func)(m:Nat):Prop:=(C.ok k&& !C.Cs k)=true/\C.Cz k=none/\C.E9 k=none/\C.P.funcs[k]?=some fn/\fn.body.isSome=true/\C.heap k=true/\C.pre k=some m
theorem Ed {fn:Func}(h:fn.body.isSome=true):fn.body=some (AD fn):=by
 unfold AD
 cases hb:fn.body with
 |none=>rw[hb] at h;cases h
 |some c=>rfl
theorem Ar {k:Nat}{fn:Func}{t:Ci}(hp:BD C k fn)(H:∀vs h K,t vs h K->∃v,K v h/\AE C k (AD fn) (AO C.P fn v) [.code []] .normal (DZ 0 vs) []):CO C k t:=by
 intro l h K ht;obtain⟨v,hk,he⟩:=H _ _ _ ht;obtain⟨h1,h2,h3,h4,h5,h6⟩:=hp;simp only[Bool.and_eq_true,Bool.not_eq_true'] at h1;exact⟨v,h,ef h1.1 h2 h3 h4 (Ed h5) h6 h1.2 he false h,hk⟩
theorem BG {k:Nat}{fn:Func}{t:Ci}(hp:Bl C k fn)(H:∀vs h K,t vs h K->AE C k (AD fn) (AR C.P fn h.length K) [.code []] .normal (DZ 0 vs) h):CO C k t:=by
 intro l h K ht;obtain⟨h1,h2,h3,h4,h5,h6⟩:=hp;simp only[Bool.and_eq_true,Bool.not_eq_true'] at h1
 have ha:B7 C k l=l:=by simp[B7,h6]
 rw[ha] at ht
 exact Jn h1.1.1.1 h2 h3 h4 (Ed h5) h6 h1.1.1.2 h1.1.2 (Option.isNone_iff_eq_none.1 h1.2) (by rw[ha];exact H _ _ _ ht)
theorem Nw {k m:Nat}{fn:Func}{t:Ci}(hp:Qk C k fn m)(H:∀vs h K,t vs h K->HO m h=true/\AE C k (AD fn) (AR C.P fn m fun v h1=>K v (h1++h.drop m)) [.code []] .normal (DZ 0 (AQ m [] vs)) ((h.take m).map (AN m []))):CO C k t:=by
 intro l h K ht;obtain⟨h1,h2,h3,h4,h5,h6,h7⟩:=hp;simp only[Bool.and_eq_true,Bool.not_eq_true'] at h1
 have ha:B7 C k l=l:=by simp[B7,h6]
 rw[ha] at ht;obtain⟨k1,k2⟩:=H _ _ _ ht;refine LP h1.1 h2 h3 h4 (Ed h5) h6 h1.2 h7 ?_ k1 k2;simp only[HO,Bool.and_eq_true] at k1;unfold Hn;rw[k1.1.1.1.1.2];rfl
theorem ec {k m:Nat}{fn:Func}{t:Ci}(hp:Qk C k fn m)(H:∀vs h K,t vs h K->HO (Hn m h) h=true/\AE C k (AD fn) (AR C.P fn (Hn m h) fun v h1=>K v (h1++h.drop (Hn m h))) [.code []] .normal (DZ 0 (AQ (Hn m h) [] vs)) ((h.take (Hn m h)).map (AN (Hn m h) []))):CO C k t:=by
 intro l h K ht;obtain⟨h1,h2,h3,h4,h5,h6,h7⟩:=hp;simp only[Bool.and_eq_true,Bool.not_eq_true'] at h1
 have ha:B7 C k l=l:=by simp[B7,h6]
 rw[ha] at ht;obtain⟨k1,k2⟩:=H _ _ _ ht;exact LP h1.1 h2 h3 h4 (Ed h5) h6 h1.2 h7 rfl k1 k2
theorem Gl {k:Nat}{g:List AV->Option (Bool×AV)}{t:Ci}(h1:C.ok k=true)(h2:C.Cz k=none)(h3:C.E9 k=some g)(h4:C.heap k=false)(H:∀vs h K,t vs h K->∃v,K (strip 0 [] v) h/\g vs=some (true,v)):CO C k t:=by
 intro l h K ht;obtain⟨v,hk,hg⟩:=H _ _ _ ht;exact⟨_,h,Zn h1 h2 h3 h4 hg false h,hk⟩
end
theorem Bs {n:Int}(h1: -9223372036854775808<=n)(h2:n<=9223372036854775807):IntKind.wrap .i64 n=n:=by
 rw[IntKind.wrap_i64];omega
end Go.Ai
