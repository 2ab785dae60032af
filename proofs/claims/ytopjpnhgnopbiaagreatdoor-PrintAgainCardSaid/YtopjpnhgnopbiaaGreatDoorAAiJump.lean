/-
  Scopes in which the run jumps.
-/
import Derived.Test.YtopjpnhgnopbiaaGreatDoorAAiStrip
import Derived.ScopeJumps
set_option linter.unusedVariables false
set_option linter.unusedSimpArgs false
set_option linter.unnecessarySimpa false
namespace Go.Ai
open Go.RowKit
def Exit.Pd (c:Code)(K:Code->Act->World->Prop)(Q:Exit->Act->World->Prop):Exit->Act->World->Prop
 |.goto l,a,w=>match findLabel c l with
  |some rest=>K rest a w
  |none=>Q (.goto l) a w
 |e,a,w=>Q e a w
def QW (P:Program)(c:Code)(Q:Exit->Act->World->Prop):Nat->Code->Act->World->Prop
 |0,_,_,_=>False
 |n+1,cur,a,w=>cur.wp P (Exit.Pd c (QW P c Q n) Q) a w
theorem Ot {P:Program}{c:Code}{Q:Exit->Act->World->Prop}{a:Act}{w:World}(n:Nat)(h:QW P c Q n c a w):(Code.scope c).wp P Q a w:=by
 intro b k cs
 have key:∀n cur a w,QW P c Q n cur a w->∃e a' w',Q e a' w'/\Arrives P (lone (b.at a (.code cur:: .inScope c::k)) cs w) b k cs e a' w':=by
  intro n
  induction n with
  |zero=>intro cur a w h;exact h.elim
  |succ n ih=>
   intro cur a w h;obtain⟨e,a₁,w₁,hq,Jy⟩:=h b (.inScope c::k) cs
   cases e with
   |normal=>exact⟨.normal,a₁,w₁,hq,Steps.trans Jy (.one step_inScope)⟩
   |exit id=>exact⟨.exit id,a₁,w₁,hq,fun k' hk=>Jy k' (by simp[exitTo,hk])⟩
   |goto l=>
    simp only[Exit.Pd] at hq
    cases hf:findLabel c l with
    |none=>
     rw[hf] at hq
     exact⟨.goto l,a₁,w₁,hq,fun k' hk=>Jy k' (by simp[gotoIn,hf,hk])⟩
    |some rest=>
     rw[hf] at hq;obtain⟨e₂,a₂,w₂,sN,lA⟩:=ih rest a₁ w₁ hq
     exact⟨e₂,a₂,w₂,sN,.of_steps (Jy _ (by simp[gotoIn,hf])) lA⟩
   |ret=>exact⟨_,a₁,w₁,hq,Jy⟩
   |panic ch=>exact⟨_,a₁,w₁,hq,Jy⟩
   |outgrown=>exact⟨_,a₁,w₁,hq,Jy⟩
 obtain⟨e,a',w',hq,Jy⟩:=key n c a w h;exact⟨e,a',w',hq,.of_steps (.one step_scope) Jy⟩
theorem GD {P:Program}{n:Nat}{D:Nat->Bool}:∀{c:Code} {l:Nat} {rest:Code},Bn P n D c=true->findLabel c l=some rest->Bn P n D rest=true
 |.seq a b,l,rest,h,hf=>by
  simp only[Bn,Bool.and_eq_true] at h;simp only[findLabel] at hf
  cases ha:findLabel a l with
  |some r=>
   rw[ha] at hf
   injection hf with hf
   subst hf;simp only[Bn,Bool.and_eq_true];exact⟨GD h.1 ha,h.2⟩
  |none=>
   rw[ha] at hf;exact GD h.2 hf
 |.label l',l,rest,h,hf=>by
  simp only[findLabel] at hf;split at hf
  ·injection hf with hf
   subst hf;rfl
  ·cases hf
 |.skip,_,_,_,hf=>by simp[findLabel] at hf
 |.ret,_,_,_,hf=>by simp[findLabel] at hf
 |.exit _,_,_,_,hf=>by simp[findLabel] at hf
 |.goto _,_,_,_,hf=>by simp[findLabel] at hf
 |.cond _ _ _,_,_,_,hf=>by simp[findLabel] at hf
 |.block _ _,_,_,_,hf=>by simp[findLabel] at hf
 |.loop _,_,_,_,hf=>by simp[findLabel] at hf
 |.scope _,_,_,_,hf=>by simp[findLabel] at hf
 |.region _ _ _,_,_,_,hf=>by simp[findLabel] at hf
 |.rangeFunc ..,_,_,_,hf=>by simp[findLabel] at hf
 |.refuse ..,_,_,_,hf=>by simp[findLabel] at hf
end Go.Ai
