/-
  The evaluator is sound: what it answers, the program answers.
-/
import Derived.Test.YtopjpnhgnopbiaaGreatDoorLAiJump
import Derived.Test.YtopjpnhgnopbiaaGreatDoorLAiPre
import Derived.Defers
set_option linter.unusedVariables false
set_option linter.unusedSimpArgs false
set_option linter.unnecessarySimpa false
namespace Go.Ai
open Go.RowKit
def Ju :XT->Exit
 |.normal=>.normal
 |.exit id=>.exit id
 |.goto l=>.goto l
 |.ret=>.ret
structure Sound (C:Bh) (I:World->Prop) (B0:Nat):Prop where
 hI:∀w w',I w->Below B0 w w'->I w'
 mixed:C.P.follows .mixedOrders=true
 IE:∀g cs,C.G g=some cs->Aa.Ax cs=true
 ident:N7 C
 fns:∀k,C.ok k=true->Callee C.P k
 Wa:∀k g vs h v h',C.ok k=true->C.Cz k=some g->g vs h=some (v,h')->∀(E:Env) (args:List Value),E.h=h->Good C.G I B0 E->BK E vs args->Calls C.P k args.toArray E.w (Ft C.G I B0 E v h')
 YT:∀k fn c,C.ok k=true->C.Cz k=none->C.E9 k=none->C.P.funcs[k]?=some fn->fn.body=some c->Bj C.P fn.ntmps (C.Gt k) c=true
 bp:∀k g vs v,C.ok k=true->C.E9 k=some g->g vs=some (true,v)->∀(E:Env) (args:List Value),E.h=[]->E.B=E.w.heap.size->Good C.G I B0 E->BK E vs args->
  Calls C.P k args.toArray E.w (fun e w'=>∃c,e=.returned c/\Below E.w.heap.size E.w w'/\Rel {E with w:=w'} v c)
section
variable {C:Bh}{I:World->Prop}{B0:Nat}
def JA (C:Bh)(I:World->Prop)(B0:Nat)(n:Nat):Prop:=
 ∀(f:FuncId) (c:Code) (F:Fr) (h:Hp) (x:XT) (F':Fr) (h':Hp) (m:Nat),exec C f n c F h=.ok (x,F',h')->Bj C.P m (C.Gt f) c=true->∀(E:Env) (a:Act),E.h=h->Good C.G I B0 E->AP E F a->m<=a.tmps.size->
  ∀Q:Exit->Act->World->Prop,(∀E' a',Step C.G I B0 E E'->E'.h=h'->AP E' F' a'->a'.tmps.size=a.tmps.size->(C.Cs f=true\/a'.defers=a.defers)->Q (Ju x) a' E'.w)->c.wp C.P Q a E.w
theorem ct (g:Bool)(n l:Nat)(v:AV):n<=Fx g n l v:=by
 unfold Fx;split
 ·exact Nat.le_refl _
 ·split
  ·cases Nat.blt _ l
   ·exact Nat.le_refl _
   ·exact Nat.le_max_left _ _
  ·exact Nat.le_refl _
theorem ZS {g:Bool}{n l:Nat}{v:AV}(h:n<=l):Fx g n l v<=l:=by
 unfold Fx;split
 ·exact h
 ·split
  ·rename_i id
   cases hb:Nat.blt id l with
   |false=>exact h
   |true=>
    have:=Nat.le_of_ble_eq_true hb;exact Nat.max_le.2 ⟨h,this⟩
  ·exact h
theorem DT.trans' {D:Prop}{x y z:List Deferred}(h:D\/x=y)(k:D\/y=z):D\/x=z:=by
 rcases h with h|h
 ·exact .inl h
 ·rcases k with k|k
  ·exact .inl k
  ·exact .inr (h.trans k)
theorem WQ {F:Fr}{a:Act}{E:Env}(hf:AP E F a)(ls:List Nat):AP E (ls.map fun s=>(s,lk F s)) a:=by
 refine⟨fun s=> ?_,?_⟩
 ·induction ls with
  |nil=>exact⟨fun _=>trivial,fun h=>by cases h⟩
  |cons l ls ih=>
   simp only[List.map_cons,lk]
   cases hb:Nat.beq l s with
   |true=>
    have:=Nat.eq_of_beq_eq_true hb;subst this;exact hf.1 l
   |false=>exact ih
 ·induction ls with
  |nil=>trivial
  |cons l ls ih=>
   simp only[List.map_cons,lk]
   cases hb:Nat.beq l dS with
   |true=>
    have:=Nat.eq_of_beq_eq_true hb;subst this;exact hf.2
   |false=>exact ih
theorem GI (n:Nat)(h:Hp):∀(F:Fr) (s:Nat),lk (Cv n h F) s=((lk F s).1,strip n h (lk F s).2)
 |[],s=>rfl
 |(t,e)::r,s=>by
  show lk ((t,e.1,strip n h e.2)::Cv n h r) s=_;simp only[lk]
  cases hb:Nat.beq t s with
  |true=>rfl
  |false=>exact GI n h r s
theorem E7.cut {n:Nat}{h:Hp}{E E':Env}(K:Cut n h E E'):∀{l:List AV} {ds:List Deferred},E7 E l ds->E7 E' (AQ n h l) ds
 |[],_,h=>h
 |.fn f first cap::l,_,h=>by
  obtain⟨d,r,h1,⟨b,q1,q2,q3⟩,h3⟩:=h;exact⟨d,r,h1,⟨b,q1,BK.cut K _ _ q2,BK.cut K _ _ q3⟩,E7.cut K h3⟩
theorem Q9 {n:Nat}{h:Hp}{E E':Env}(K:Cut n h E E'){F:Fr}{a:Act}(hf:AP E F a):AP E' (Cv n h F) a:=by
 refine⟨fun s=> ?_,?_⟩
 ·rw[GI]
  exact⟨fun hg=>Rel.cut K _ _ ((hf.1 s).1 hg),(hf.1 s).2⟩
 ·rw[GI];have h2:=hf.2;revert h2;generalize (lk F dS).2=v;intro h2
  cases v with
  |Cs l=>exact E7.cut K h2
  |ptr b o=>simp only[strip];cases Nat.blt b n<;>trivial
  |IP b o c d=>simp only[strip];cases Nat.blt b n<;>trivial
  |UT b=>simp only[strip];cases Nat.blt b n<;>trivial
  |CI b g d sz len=>simp only[strip];cases Nat.blt b n<;>trivial
  |BX b g d o=>simp only[strip];cases Nat.blt b n<;>trivial
  |F7 b g d sz es=>simp only[strip];cases Nat.blt b n<;>trivial
  |sl sz es own=>cases own<;>trivial
  |_=>trivial
theorem Ys (S0:Sound C I B0){n:Nat}(ih:∀m,m<n->JA C I B0 m):∀(f:FuncId) (c:Code) (F:Fr) (h:Hp) (x:XT) (F':Fr) (h':Hp) (m:Nat),exec C f n (.loop c) F h=.ok (x,F',h')->Bj C.P m (C.Gt f) c=true->
  ∀(E:Env) (a:Act),E.h=h->Good C.G I B0 E->AP E F a->m<=a.tmps.size->
  ∀Q:Exit->Act->World->Prop,(∀E' a',Step C.G I B0 E E'->E'.h=h'->AP E' F' a'->a'.tmps.size=a.tmps.size->(C.Cs f=true\/a'.defers=a.defers)->Q (Ju x) a' E'.w)->Code.rounds C.P c Q n a E.w:=by
 induction n with
 |zero=>intro f c F h x F' h' m hx;simp[exec] at hx
 |succ n Qt=>
  intro f c F h x F' h' m hx BF E a hE H hf hm Q hQ;rw[rounds_succ];simp only[exec] at hx
  cases hc:exec C f n c F h with
  |error e=>rw[hc] at hx;cases hx
  |ok r=>
   obtain⟨x1,F1,h1⟩:=r;rw[hc] at hx
   refine ih n (Nat.lt_succ_self n) f c F h x1 F1 h1 m hc BF E a hE H hf hm _ fun E1 a1 S1 KK LX GK Sa=> ?_
   cases x1 with
   |normal=>
    simp only at hx
    cases ht:C.FD f with
    |false=>
     rw[ht] at hx
     exact Qt (fun k hk=>ih k (Nat.lt_succ_of_lt hk)) f c F1 h1 x F' h' m hx BF E1 a1 KK S1.Cg LX (by rw[GK];exact hm) Q
      fun E2 a2 S2 Na TF JO Ui=>hQ E2 a2 (S1.trans S2) Na TF (JO.trans GK) (DT.trans' Ui Sa)
    |true=>
     rw[ht] at hx;subst hE;subst KK;obtain⟨K,S'⟩:=Lg H S1 S0.IE
     exact Qt (fun k hk=>ih k (Nat.lt_succ_of_lt hk)) f c _ _ x F' h' m hx BF {E1 with h:=(E1.h.take E.h.length).map (AN E.h.length E1.h)} a1 rfl S'.Cg (Q9 K LX) (by rw[GK];exact hm) Q
      fun E2 a2 S2 Na TF JO Ui=>hQ E2 a2 (S'.trans S2) Na TF (JO.trans GK) (DT.trans' Ui Sa)
   |_=>
    simp only[Except.ok.injEq,Prod.mk.injEq] at hx;obtain⟨rfl,rfl,rfl⟩:=hx;exact hQ E1 a1 S1 KK LX GK Sa
theorem Y5 {n:Nat}(ih:∀m,m<n->JA C I B0 m):∀(f:FuncId) (c cur:Code) (F:Fr) (h:Hp) (x:XT) (F':Fr) (h':Hp) (m:Nat),Dt C f n c cur F h=.ok (x,F',h')->Bj C.P m (C.Gt f) c=true->Bj C.P m (C.Gt f) cur=true->
  ∀(E:Env) (a:Act),E.h=h->Good C.G I B0 E->AP E F a->m<=a.tmps.size->
  ∀Q:Exit->Act->World->Prop,(∀E' a',Step C.G I B0 E E'->E'.h=h'->AP E' F' a'->a'.tmps.size=a.tmps.size->(C.Cs f=true\/a'.defers=a.defers)->Q (Ju x) a' E'.w)->OW C.P c Q n cur a E.w:=by
 induction n with
 |zero=>intro f c cur F h x F' h' m hx;simp[Dt] at hx
 |succ n Qt=>
  intro f c cur F h x F' h' m hx BF sx E a hE H hf hm Q hQ;simp only[Dt] at hx;show cur.wp C.P (Exit.Np c (OW C.P c Q n) Q) a E.w
  cases hc:exec C f n cur F h with
  |error e=>rw[hc] at hx;cases hx
  |ok r=>
   obtain⟨x1,F1,h1⟩:=r;rw[hc] at hx
   refine ih n (Nat.lt_succ_self n) f cur F h x1 F1 h1 m hc sx E a hE H hf hm _ fun E1 a1 S1 KK LX GK Sa=> ?_
   cases x1 with
   |goto l=>
    simp only at hx;simp only[Ju,Exit.Np]
    cases Ge:findLabel c l with
    |some rest=>
     rw[Ge] at hx
     exact Qt (fun k hk=>ih k (Nat.lt_succ_of_lt hk)) f c rest F1 h1 x F' h' m hx BF (FM BF Ge) E1 a1 KK S1.Cg LX (by rw[GK];exact hm) Q
      fun E2 a2 S2 Na TF JO Ui=>hQ E2 a2 (S1.trans S2) Na TF (JO.trans GK) (DT.trans' Ui Sa)
    |none=>
     rw[Ge] at hx;simp only[Except.ok.injEq,Prod.mk.injEq] at hx;obtain⟨rfl,rfl,rfl⟩:=hx;exact hQ E1 a1 S1 KK LX GK Sa
   |_=>
    simp only[Except.ok.injEq,Prod.mk.injEq] at hx;obtain⟨rfl,rfl,rfl⟩:=hx;exact hQ E1 a1 S1 KK LX GK Sa
theorem iE (S0:Sound C I B0){n:Nat}(ih:∀m,m<n->JA C I B0 m)(Da:∀m draw,m<n->Md C I B0 (call C draw m))(HE:∀m,m<n->Hf (call C true m)):JA C I B0 n:=by
 intro f c F h x F' h' m hx BF E a hE H hf hm Q hQ
 cases n with
 |zero=>simp[exec] at hx
 |succ n=>
  have Qt:=ih n (Nat.lt_succ_self n)
  cases c with
  |skip=>
   simp only[exec,Except.ok.injEq,Prod.mk.injEq] at hx;obtain⟨rfl,rfl,rfl⟩:=hx;exact wp_skip (hQ E a (Step.refl H) hE hf rfl (.inr rfl))
  |ret=>
   simp only[exec,Except.ok.injEq,Prod.mk.injEq] at hx;obtain⟨rfl,rfl,rfl⟩:=hx;exact wp_ret (hQ E a (Step.refl H) hE hf rfl (.inr rfl))
  |exit id=>
   simp only[exec,Except.ok.injEq,Prod.mk.injEq] at hx;obtain⟨rfl,rfl,rfl⟩:=hx;exact wp_exit (hQ E a (Step.refl H) hE hf rfl (.inr rfl))
  |seq p q=>
   simp only[Bj,Bool.and_eq_true] at BF;simp only[exec] at hx
   cases hc:exec C f n p F h with
   |error e=>rw[hc] at hx;cases hx
   |ok r=>
    obtain⟨x1,F1,h1⟩:=r;rw[hc] at hx
    refine wp_seq (Qt f p F h x1 F1 h1 m hc BF.1 E a hE H hf hm _ fun E1 a1 S1 KK LX GK Sa=> ?_)
    cases x1 with
    |normal=>
     simp only at hx
     exact Qt f q F1 h1 x F' h' m hx BF.2 E1 a1 KK S1.Cg LX (by rw[GK];exact hm) Q fun E2 a2 S2 Na TF JO Ui=>hQ E2 a2 (S1.trans S2) Na TF (JO.trans GK) (DT.trans' Ui Sa)
    |_=>
     simp only[Except.ok.injEq,Prod.mk.injEq] at hx;obtain⟨rfl,rfl,rfl⟩:=hx;exact hQ E1 a1 S1 KK LX GK Sa
  |cond y p q=>
   simp only[Bj,Bool.and_eq_true] at BF;simp only[exec] at hx;split at hx
   ·rename_i MM;have hv:a.eval y=.bool true:=Aj H hf MM rfl;exact wp_cond_true hv (Qt f p F h x F' h' m hx BF.1 E a hE H hf hm Q hQ)
   ·rename_i MM;have hv:a.eval y=.bool false:=Aj H hf MM rfl;exact wp_cond_false hv (Qt f q F h x F' h' m hx BF.2 E a hE H hf hm Q hQ)
   ·cases hx
  |block id p=>
   simp only[Bj] at BF;simp only[exec] at hx
   cases hc:exec C f n p F h with
   |error e=>rw[hc] at hx;cases hx
   |ok r=>
    obtain⟨x1,F1,h1⟩:=r;rw[hc] at hx
    refine wp_block (Qt f p F h x1 F1 h1 m hc BF E a hE H hf hm _ fun E1 a1 S1 KK LX GK Sa=> ?_)
    cases x1 with
    |exit ly=>
     simp only at hx
     show(if ly=id then Q .normal a1 E1.w else Q (.exit ly) a1 E1.w)
     cases hb:Nat.beq ly id with
     |true=>
      rw[hb] at hx;simp only[cond_true,Except.ok.injEq,Prod.mk.injEq] at hx;obtain⟨rfl,rfl,rfl⟩:=hx;rw[if_pos (Nat.eq_of_beq_eq_true hb)];exact hQ E1 a1 S1 KK LX GK Sa
     |false=>
      rw[hb] at hx;simp only[cond_false,Except.ok.injEq,Prod.mk.injEq] at hx;obtain⟨rfl,rfl,rfl⟩:=hx
      rw[if_neg fun e=>by subst e;simp[Nat.beq_refl] at hb]
      exact hQ E1 a1 S1 KK LX GK Sa
    |_=>
     simp only[Except.ok.injEq,Prod.mk.injEq] at hx;obtain⟨rfl,rfl,rfl⟩:=hx;exact hQ E1 a1 S1 KK LX GK Sa
  |label l=>
   simp only[exec,Except.ok.injEq,Prod.mk.injEq] at hx;obtain⟨rfl,rfl,rfl⟩:=hx;exact wp_label (hQ E a (Step.refl H) hE hf rfl (.inr rfl))
  |goto l=>
   simp only[exec,Except.ok.injEq,Prod.mk.injEq] at hx;obtain⟨rfl,rfl,rfl⟩:=hx;exact wp_goto (hQ E a (Step.refl H) hE hf rfl (.inr rfl))
  |scope p=>
   simp only[Bj] at BF;simp only[exec] at hx
   exact NI n (Y5 (fun k hk=>ih k (Nat.lt_succ_of_lt hk)) f p p F h x F' h' m hx BF BF E a hE H hf hm Q hQ)
  |loop p=>
   simp only[Bj] at BF;exact wp_loop_rounds (n+1) (Ys S0 ih f p F h x F' h' m hx BF E a hE H hf hm Q hQ)
  |region id ops draw=>
   simp only[Bj,Bool.and_eq_true] at BF;simp only[exec] at hx
   cases CE:draw&&C.Gt f id with
   |true=>
    rw[CE] at hx;simp only at hx;rw[Bool.and_eq_true] at CE;obtain⟨rfl,CE⟩:=CE
    have xo:LL ops=true:=by
     have:=BF.2;rw[CE] at this;simpa using this
    cases ho:Iv C (fun d=>call C d n) ops ((C.live f id).map fun s=>(s,lk F s)) h with
    |error e=>rw[ho] at hx;cases hx
    |ok r=>
     obtain⟨F1,h1⟩:=r;rw[ho] at hx;simp only[Except.ok.injEq,Prod.mk.injEq] at hx;obtain⟨rfl,rfl,rfl⟩:=hx;subst hE
     exact P9 S0.hI S0.mixed (fun d=>Da n d (Nat.lt_succ_self n)) xo BF.1 ho H (WQ hf (C.live f id)) hm fun E' a' S Gr F9 hs hd=>hQ E' a' S Gr F9 hs (.inr hd)
   |false=>
   rw[CE] at hx;simp only at hx
   cases Wj:(!C.Cs f&&Er ops.toList)||(draw&& !SQ ops.toList (IM (FJ ops draw) h.length ((C.live f id).map fun s=>(s,lk F s)))) with
   |true=>rw[Wj] at hx;cases hx
   |false=>
   rw[Wj] at hx;simp only at hx;rw[Bool.or_eq_false_iff] at Wj;obtain⟨gw,kq⟩:=Wj
   have tz:C.Cs f=true\/Er ops.toList=false:=by
    cases h1:C.Cs f<;>simp_all
   cases ho:C9 C (fun d=>call C d n) ops draw 0 ops.toList (IM (FJ ops draw) h.length ((C.live f id).map fun s=>(s,lk F s))) (P6 (FJ ops draw) h) with
   |error e=>rw[ho] at hx;cases hx
   |ok r=>
    obtain⟨F1,h1⟩:=r;rw[ho] at hx;simp only[Except.ok.injEq,Prod.mk.injEq] at hx;obtain⟨rfl,rfl,rfl⟩:=hx;subst hE
    have fin:∀E' a',Step C.G I B0 E E'->E'.h=h1->AP E' F1 a'->a'.tmps.size=a.tmps.size->(C.Cs f=true\/a'.defers=a.defers)->Q .normal a' E'.w:=fun E' a' S Gr F9 hs hd=>hQ E' a' S Gr F9 hs hd
    obtain⟨E0,T0,n2,tM,oX⟩:=Vv S0.hI (FJ ops draw) H (WQ hf (C.live f id)) (Td BF.1)
    have fin:∀E' a',Step C.G I B0 E0 E'->E'.h=h1->AP E' F1 a'->a'.tmps.size=a.tmps.size->(C.Cs f=true\/a'.defers=a.defers)->Q .normal a' E'.w:=fun E' a' S=>fin E' a' (T0.trans S)
    have H:=T0.Cg;rw[<-tM] at ho;rw[<-n2]
    cases draw with
    |true=>
     exact P8 S0.hI S0.mixed (fun d=>Da n d (Nat.lt_succ_self n)) (HE n (Nat.lt_succ_self n)) (by
      have h1:C.Gt f id=false:=by simpa using CE
      have h2:=BF.2;rw[h1] at h2
      simpa using h2) BF.1 (cP (by simpa using kq)) ho H oX hm fun E' a' S Gr F9 hs hd=>fin E' a' S Gr F9 hs (.inr hd)
    |false=>
     have ho:=Jl _ _ _ _ ho;have SW:=Lj ops ops.size (Nat.le_refl _)
     rw[List.take_of_length_le (by simp)] at SW
     exact wp_region (W5 S0.hI (Da n false (Nat.lt_succ_self n)) (List.range ops.size) _ E0.h F1 h1 (by rw[SW];exact BF.1) (by rw[SW];exact ho) E0 a rfl H oX hm fun E' a' S Gr F9 hs hd=>fin E' a' S Gr F9 hs (by
      rcases hd with ⟨_,h2⟩|hd
      ·rw[SW] at h2
       rcases tz with h|h
       ·exact .inl h
       ·rw[h] at h2;cases h2
      ·exact .inr hd))
  |_=>simp[exec] at hx
theorem Yu {E:Env}(H:Good C.G I B0 E){F:Fr}{a:Act}(hf:AP E F a){r:ResultVar}{g:Bool}{v:AV}(hr:OP C.P F E.h r=some (g,v))(hg:g=true):
  ∃c,((match r with|.tmp t=>pure (a.tmps.getD t undef)|.cell x t=>do loadVar t (<-asAddr (a.tmps.getD x undef))):Sem Value).run C.P E.w=.ok c E.w/\Rel E v c:=by
 subst hg
 cases r with
 |tmp t=>
  simp only[OP,Option.some.injEq] at hr
  have:=(hf.1 t).1 (by rw[hr])
  rw[hr] at this;exact⟨_,rfl,this⟩
 |cell x t=>
  simp only[OP] at hr;split at hr
  ·rename_i g b o hl;split at hr
   ·rename_i cs hb
    cases IG:rd C.P t (cs.drop o) with
    |none=>rw[IG] at hr;cases hr
    |some u=>
     rw[IG] at hr;simp only[Option.map_some,Option.some.injEq,Prod.mk.injEq] at hr;obtain⟨rfl,rfl⟩:=hr
     have:=(hf.1 x).1 (by rw[hl])
     rw[hl] at this;obtain⟨t2,pC,gg,h2,h3,h4⟩:=this;rw[h2] at hb
     injection hb with hb
     injection hb with iA hb
     subst hb;obtain⟨c,k1,k2⟩:=Te IG (SP H h2 h3);refine⟨c,?_,k2⟩;simp only[h4,asAddr];simpa using k1
   ·cases hr
  ·cases hr
theorem Qh {E:Env}(H:Good C.G I B0 E){F:Fr}{a:Act}(hf:AP E F a):∀(rs:List ResultVar) {vs:List AV},J8 C.P F E.h rs=some (true,vs)->
  ∃cs,(rs.mapM (fun r=>((match r with|.tmp t=>pure (a.tmps.getD t undef)|.cell x t=>do loadVar t (<-asAddr (a.tmps.getD x undef))):Sem Value))).run C.P E.w=.ok cs E.w/\BK E vs cs
 |[],vs,h=>by
  simp only[J8,Option.some.injEq,Prod.mk.injEq] at h;obtain⟨-,rfl⟩:=h
  exact⟨[],by simp,rfl⟩
 |r::rs,vs,h=>by
  simp only[J8] at h;split at h
  ·rename_i g v g' qP h1 h2;simp only[Option.some.injEq,Prod.mk.injEq,Bool.and_eq_true] at h;obtain⟨⟨rfl,rfl⟩,rfl⟩:=h;obtain⟨c,k1,k2⟩:=Yu H hf h1 rfl;obtain⟨cs,k3,k4⟩:=Qh H hf rs h2;refine⟨c::cs,?_,c,cs,rfl,k2,k4⟩;rw[List.mapM_cons,Sem.run_bind,k1,Result.andThen_ok,Sem.run_bind,k3,Result.andThen_ok];rfl
  ·cases h
theorem Lm {E:Env}(H:Good C.G I B0 E){F:Fr}{a:Act}(hf:AP E F a){fn:Func}{v:AV}(h:result C.P fn F E.h=some v):
  ∃c,(results fn a.tmps).run C.P E.w=.ok c E.w/\Rel E v c:=by
 unfold result at h
 have key:∀vs,J8 C.P F E.h fn.results.toList=some (true,vs)->∃cs:List Value,(results fn a.tmps).run C.P E.w=.ok (if h:cs.length=1 then cs[0] else .tuple cs.toArray) E.w/\BK E vs cs:=by
  intro vs hv;obtain⟨cs,k1,k2⟩:=Qh H hf _ hv;refine⟨cs,?_,k2⟩
  have e:results fn a.tmps=(fn.results.toList.mapM (fun r=>((match r with|.tmp t=>pure (a.tmps.getD t undef)|.cell x t=>do loadVar t (<-asAddr (a.tmps.getD x undef))):Sem Value))) >>= fun cs=>
    pure (if h:cs.toArray.size=1 then cs.toArray[0] else .tuple cs.toArray):=by
   unfold results;rw[Array.mapM_eq_mapM_toList,bind_map_left];rfl
  rw[e,Sem.run_bind,k1,Result.andThen_ok]
  by_cases h1:cs.length=1
  ·simp[h1]
  ·simp[h1]
 split at h
 ·rename_i u hu
  injection h with h
  subst h;obtain⟨cs,k1,k2⟩:=key _ hu;obtain⟨c,r,rfl,q1,q2⟩:=k2;simp only[BK] at q2;subst q2
  exact⟨c,by simpa using k1,q1⟩
 ·rename_i vs BU hu
  injection h with h
  subst h;obtain⟨cs,k1,k2⟩:=key _ hu;have hl:=k2.length
  have:¬cs.length=1:=fun h1=>by
   rw[hl] at h1;obtain⟨u,rfl⟩:=List.length_eq_one_iff.1 h1;exact BU u rfl
  rw[dif_neg this] at k1
  exact⟨_,k1,_,rfl,by simpa using k2⟩
 ·cases h
theorem Pu :∀(vs:List AV) (n s:Nat),n<=dS->lk (DZ n vs) s=(true,if s<n\/dS<=s then .top else(vs[s-n]?).getD .top)
 |[],n,s,_=>by simp[DZ,lk]
 |v::vs,n,s,hn=>by
  simp only[DZ]
  cases hd:Nat.beq n 1000000 with
  |true=>
   have:=Nat.eq_of_beq_eq_true hd
   rw[if_pos (by unfold dS;omega)]
   rfl
  |false=>
   have Au:n<dS:=Nat.lt_of_le_of_ne hn fun e=>by subst e;simp[dS] at hd
   simp only[cond_false,lk];rw[Pu vs (n+1) s Au]
   cases hb:Nat.beq n s with
   |true=>
    have:=Nat.eq_of_beq_eq_true hb;subst this
    rw[cond_true,if_neg (by omega)]
    simp
   |false=>
    have BU:n≠s:=fun e=>by subst e;simp[Nat.beq_refl] at hb
    simp only[cond_false]
    by_cases h1:s<n\/dS<=s
    ·rw[if_pos h1,if_pos (by omega)]
    ·rw[if_neg h1,if_neg (by omega)]
     rw[show s-n=(s-(n+1))+1 by omega,List.getElem?_cons_succ]
theorem BK.get {E:Env}:∀{xs:List AV} {vs:List Value},BK E xs vs->∀(i:Nat) x,xs[i]?=some x->∃v,vs[i]?=some v/\Rel E x v
 |[],vs,_,i,x,hx=>by simp at hx
 |c::cs,vs,h,i,x,hx=>by
  obtain⟨v,r,rfl,h1,h2⟩:=h
  cases i with
  |zero=>
   simp only[List.getElem?_cons_zero,Option.some.injEq] at hx;subst hx;exact⟨v,rfl,h1⟩
  |succ i=>exact BK.get h2 i x (by simpa using hx)
theorem LV {E:Env}{vs:List AV}{args:List Value}(h:BK E vs args)(n:Nat):AP E (DZ 0 vs) {tmps:=args.toArray++Array.replicate (n-args.toArray.size) undef,defers:=[]}:=by
 refine⟨fun s=> ?_,by rw[Pu vs 0 dS (by decide),if_pos (.inr (Nat.le_refl _))];trivial⟩
 rw[Pu vs 0 s (by decide)]
 refine⟨fun _=> ?_,fun h=>by cases h⟩
 by_cases h1:s<0\/dS<=s
 ·rw[if_pos h1];trivial
 rw[if_neg h1];simp only[Nat.sub_zero]
 cases hv:vs[s]? with
 |none=>trivial
 |some x=>
  obtain⟨v,h1,h2⟩:=h.get s x hv;have Au:s<args.length:=(List.getElem?_eq_some_iff.1 h1).1
  have Eh:(args.toArray++Array.replicate (n-args.toArray.size) undef).getD s undef=v:=by
   have h3:(args.toArray++Array.replicate (n-args.toArray.size) undef)[s]?=some v:=by
    rw[Array.getElem?_append_left (by simpa using Au)]
    simpa using h1
   rw[Array.getD_eq_getD_getElem?,h3];rfl
  rw[Option.getD_some];exact Eh▸h2
theorem Qo :∀(F G:Fr) (s:Nat),lk (F++G) s=lk F s\/lk (F++G) s=lk G s
 |[],G,s=>.inr rfl
 |(t,e)::F,G,s=>by
  simp only[List.cons_append,lk]
  cases Nat.beq t s with
  |true=>exact .inl rfl
  |false=>exact Qo F G s
theorem VJ :∀(vs:List AV) (n:Nat),n<=dS->∀G,lk (DZ n vs++G) dS=lk G dS
 |[],n,_,G=>rfl
 |v::vs,n,hn,G=>by
  simp only[DZ]
  cases hd:Nat.beq n 1000000 with
  |true=>rfl
  |false=>
   have Ui:Nat.beq n dS=false:=hd
   have Au:n<dS:=Nat.lt_of_le_of_ne hn fun e=>by subst e;simp[dS] at hd
   simp only[cond_false,List.cons_append,lk,Ui];exact VJ vs (n+1) Au G
theorem JQ {E:Env}{vs:List AV}{args:List Value}(h:BK E vs args)(k:FuncId)(n:Nat):AP E (DE C k vs) {tmps:=args.toArray++Array.replicate (n-args.toArray.size) undef,defers:=[]}:=by
 have ha:=LV h n;unfold DE
 cases C.Cs k with
 |false=>exact ha
 |true=>
  refine⟨fun s=> ?_,by simp only[VJ vs 0 (by decide),lk,Nat.beq_refl,cond_true];exact rfl⟩
  rcases Qo (DZ 0 vs) [(dS,true,.Cs [])] s with e|e
  ·rw[e];exact ha.1 s
  ·rw[e];simp only[lk]
   cases Nat.beq dS s with
   |true=>exact⟨fun _=>trivial,fun h=>by cases h⟩
   |false=>exact⟨fun _=>trivial,fun h=>by cases h⟩
def qK (C:Bh)(I:World->Prop)(B0:Nat)(cl:FuncId->List AV->Hp->Except (List Nat) (AV×Hp)):Prop:=
 ∀k vs h v h',C.Cz k=none->C.E9 k=none->C.Cs k=false->cl k vs h=.ok (v,h')->Callee C.P k/\∀(E:Env) (args:List Value),E.h=h->Good C.G I B0 E->BK E vs args->
  ∀u,CallsD C.P k args.toArray u E.w fun e u' w'=>u'=u/\Ft C.G I B0 E v h' e w'
theorem Xb {cl:FuncId->List AV->Hp->Except (List Nat) (AV×Hp)}(hD:qK C I B0 cl){fn:Func}{tmps:Array Value}{R:Ending->World->Prop}{h2:Hp}:
  ∀(l:List AV) (ds:List Deferred) (E:Env),Good C.G I B0 E->E7 E l ds->NL C cl l E.h=some h2->
   (∀E',Step C.G I B0 E E'->E'.h=h2->∃c,(results fn tmps).run C.P E'.w=.ok c E'.w/\R (.returned c) E'.w)->Leaves C.P fn tmps R ds .returning E.w
 |[],ds,E,H,Gv,hx,hR=>by
  simp only[E7] at Gv;subst Gv;simp only[NL,Option.some.injEq] at hx;exact hR E (Step.refl H) hx
 |v::l,ds,E,H,Gv,hx,hR=>by
  obtain⟨d,r,rfl,h1,h3⟩:=Gv
  cases v with
  |fn f first cap=>
   cases f with
   |func k=>
    simp only[NL] at hx;split at hx
    ·rename_i v1 LY hc Da;simp only[Bool.or_eq_false_iff,Option.isSome_eq_false_iff,Option.isNone_iff_eq_none] at hc;obtain⟨b,q1,q2,q3⟩:=h1;obtain⟨⟨yU,Mu,hb,K2⟩,PL⟩:=hD k _ _ _ _ hc.1.1 hc.1.2 hc.2 Da;have mI:=PL E _ rfl H (BK.append q2 q3) .returning
     have Iq:(d.args.toList++b.toList).toArray=d.args++b:=by apply Array.ext';simp
     rw[Iq] at mI
     refine⟨by simp,.func k,b,k,d.args++b,q1,?_,?_⟩
     ·rw[q1];simp only[invoke,callFunc,Sem.run_bind,run_program,Result.andThen_ok,Mu,K2,hb];rfl
     ·refine mI.mono fun e u' w' hp=> ?_
      obtain⟨rfl,c,E1,rfl,rfl,S,KK,_⟩:=hp;simp only[settle]
      exact Xb hD l r E1 S.Cg (h3.mono S.le) (by rw[KK];exact hx) fun E' S' Gr=>hR E' (S.trans S') Gr
    ·cases hx
   |_=>simp[NL] at hx
  |_=>exact h1.elim
theorem MQ {cl:FuncId->List AV->Hp->Except (List Nat) (AV×Hp)}(hD:qK C I B0 cl){k:FuncId}{fn:Func}{F:Fr}{u:AV}{h2:Hp}{E:Env}{a:Act}{R:Ending->World->Prop}
  (hx:finish C cl k fn F E.h=some (u,h2)) (H:Good C.G I B0 E) (hf:AP E F a) (hd:C.Cs k=true\/a.defers=[])
  (hR:∀E' c,Step C.G I B0 E E'->E'.h=h2->Rel E' u c->R (.returned c) E'.w):Leaves C.P fn a.tmps R a.defers .returning E.w:=by
 unfold finish at hx
 cases hk:C.Cs k with
 |false=>
  rw[hk] at hx;simp only at hx;split at hx
  ·rename_i v hv;simp only[Option.some.injEq,Prod.mk.injEq] at hx;obtain⟨rfl,rfl⟩:=hx
   rw[hd.resolve_left (by rw[hk];simp)]
   obtain⟨c,k1,k2⟩:=Lm H hf hv;exact⟨c,k1,hR E c (Step.refl H) rfl k2⟩
  ·cases hx
 |true=>
  rw[hk] at hx;simp only at hx;split at hx
  ·rename_i g l hl;split at hx
   ·rename_i h' CU;split at hx
    ·rename_i v hv;simp only[Option.some.injEq,Prod.mk.injEq] at hx;obtain⟨rfl,rfl⟩:=hx;have h2:=hf.2;rw[hl] at h2
     refine Xb hD l a.defers E H h2 CU fun E' S Gr=> ?_
     obtain⟨c,k1,k2⟩:=Lm S.Cg (AP.mono S.le hf) (by rw[Gr];exact hv)
     exact⟨c,k1,hR E' c S Gr k2⟩
    ·cases hx
   ·cases hx
  ·cases hx
theorem YV (S0:Sound C I B0){n:Nat}(Qt:JA C I B0 n)(hD:qK C I B0 (call C false n)){draw:Bool}{k:FuncId}{vs:List AV}{h:Hp}{v:AV}{h':Hp}(BF:C.ok k=true)(TE:C.Cz k=none)(hp:C.E9 k=none)
  (hx:call C draw (n+1) k vs h=.ok (v,h')):∃fn c,C.P.funcs[k]?=some fn/\fn.body=some c/\∀(E:Env) (args:List Value),E.h=h->Good C.G I B0 E->BK E vs args->∀Q:Exit->Act->World->Prop,
   (∀x a' w',(x=.normal\/x=.ret)->(C.Cs k=true\/a'.defers=[])->Leaves C.P fn a'.tmps (Ft C.G I B0 E v h') a'.defers .returning w'->Q x a' w')->
   c.wp C.P Q {tmps:=args.toArray++Array.replicate (fn.ntmps-args.toArray.size) undef,defers:=[]} E.w:=by
 simp only[call] at hx;rw[BF,TE,hp] at hx;simp only[Bool.not_true,cond_false] at hx
 cases Mu:C.P.funcs[k]? with
 |none=>rw[Mu] at hx;cases hx
 |some fn=>
  rw[Mu] at hx;simp only at hx
  cases hb:fn.body with
  |none=>rw[hb] at hx;cases hx
  |some c=>
   rw[hb] at hx;simp only at hx
   refine⟨fn,c,rfl,hb,fun E args hE H CV Q hQ=> ?_⟩
   have H1:=Hu H S0.IE;have Ir:=BK.cut (Ph (E:=E)) vs args CV;have Ip:=S0.YT k fn c BF TE hp Mu hb
   have CC:fn.ntmps<=(args.toArray++Array.replicate (fn.ntmps-args.toArray.size) undef).size:=by simp;omega
   cases hh:C.heap k with
   |true=>
    rw[hh] at hx;simp only at hx
    cases draw with
    |true=>cases hx
    |false=>
     simp only[cond_false] at hx
     cases oH:C.pre k with
     |some m0=>
      rw[oH] at hx;simp only at hx;generalize Hn m0 h=m at hx
      cases gl:HO m h with
      |false=>rw[gl] at hx;cases hx
      |true=>
       rw[gl] at hx;simp only at hx;have hP:=j7 gl hE;have H2:=cS H S0.IE hP;have lG:=BK.cut (Xs H hP) vs args CV
       cases he:exec C k n c (DE C k (AQ m [] vs)) ((h.take m).map (AN m [])) with
       |error e=>rw[he] at hx;cases hx
       |ok r=>
        obtain⟨x,F',h1⟩:=r;rw[he] at hx
        have fin:(x=.ret\/x=.normal)->(match finish C (call C false n) k fn F' h1 with|some (v,h1)=>Except.ok (stripR m h1 v,(h1.take m).map (AN m h1)++h.drop m)|none=>.error [k,1013])=(.ok (v,h'):Except (List Nat) (AV×Hp))->
          c.wp C.P Q {tmps:=args.toArray++Array.replicate (fn.ntmps-args.toArray.size) undef,defers:=[]} E.w:=by
         intro GJ HB
         cases Im:finish C (call C false n) k fn F' h1 with
         |none=>rw[Im] at HB;cases HB
         |some u2=>
          obtain⟨u,h2⟩:=u2;rw[Im] at HB;simp only[Except.ok.injEq,Prod.mk.injEq] at HB;obtain⟨rfl,rfl⟩:=HB
          refine Qt k c _ _ x F' h1 fn.ntmps he Ip (UK E m) _ (by rw[<-hE];rfl) H2 (JQ lG k fn.ntmps) CC _ fun E' a' S Gr F9 _ hd=> ?_
          refine hQ _ a' E'.w (by rcases GJ with rfl|rfl<;>simp[Ju]) hd (MQ hD (by rw[Gr];exact Im) S.Cg F9 hd fun E2 cv S2 Na hr=> ?_)
          obtain⟨K,S'⟩:=iR H S0.IE hP (S.trans S2);have hr:=Rel.XA K u cv hr;rw[Na] at hr
          exact⟨cv,F6 E E2 m,rfl,rfl,S',by show(E2.h.take m).map (AN m E2.h)++E.h.drop m=_;rw[Na,hE],hr⟩
        cases x with
        |ret=>exact fin (.inl rfl) hx
        |normal=>exact fin (.inr rfl) hx
        |exit _=>cases hx
        |goto _=>cases hx
     |none=>
     rw[oH] at hx;simp only at hx
     cases he:exec C k n c (DE C k vs) h with
     |error e=>rw[he] at hx;cases hx
     |ok r=>
      obtain⟨x,F',h1⟩:=r;rw[he] at hx
      have fin:(x=.ret\/x=.normal)->(match finish C (call C false n) k fn F' h1 with|some (v,h1)=>Except.ok (stripR (Fx (C.KL k) h.length h1.length v) h1 v,(h1.take (Fx (C.KL k) h.length h1.length v)).map (AN (Fx (C.KL k) h.length h1.length v) h1))|none=>.error [k,1013])=(.ok (v,h'):Except (List Nat) (AV×Hp))->
        c.wp C.P Q {tmps:=args.toArray++Array.replicate (fn.ntmps-args.toArray.size) undef,defers:=[]} E.w:=by
       intro GJ HB
       cases Im:finish C (call C false n) k fn F' h1 with
       |none=>rw[Im] at HB;cases HB
       |some u2=>
        obtain⟨u,h2⟩:=u2;rw[Im] at HB;simp only[Except.ok.injEq,Prod.mk.injEq] at HB;obtain⟨rfl,rfl⟩:=HB
        refine Qt k c _ _ x F' h1 fn.ntmps he Ip E _ hE H (JQ CV k fn.ntmps) CC _ fun E' a' S Gr F9 _ hd=> ?_
        refine hQ _ a' E'.w (by rcases GJ with rfl|rfl<;>simp[Ju]) hd (MQ hD (by rw[Gr];exact Im) S.Cg F9 hd fun E2 cv S2 Na hr=> ?_)
        have S3:=S.trans S2
        have jP:E.h.length<=Fx (C.KL k) h.length h2.length u:=by rw[hE];exact ct _ _ _ _
        have PC:Fx (C.KL k) h.length h2.length u<=E2.h.length:=by
         have:=S3.le.len;rw[Na,hE] at this;rw[Na];exact ZS this
        obtain⟨K,S'⟩:=OF H S3 S0.IE jP PC;have hr:=Rel.XA K u cv hr;rw[Na] at hr;rw[Na] at S'
        exact⟨cv,{E2 with h:=(h2.take (Fx (C.KL k) h.length h2.length u)).map (AN (Fx (C.KL k) h.length h2.length u) h2)},rfl,rfl,S',rfl,hr⟩
      cases x with
      |ret=>exact fin (.inl rfl) hx
      |normal=>exact fin (.inr rfl) hx
      |exit _=>cases hx
      |goto _=>cases hx
   |false=>
    rw[hh] at hx;simp only at hx
    cases he:exec C k n c (DE C k (AQ 0 [] vs)) [] with
    |error e=>rw[he] at hx;cases hx
    |ok r=>
     obtain⟨x,F',h1⟩:=r;rw[he] at hx
     have fin:(x=.ret\/x=.normal)->(match finish C (call C false n) k fn F' h1 with|some (v,h1)=>Except.ok (stripR 0 h1 v,h)|none=>.error [k,1013])=(.ok (v,h'):Except (List Nat) (AV×Hp))->
       c.wp C.P Q {tmps:=args.toArray++Array.replicate (fn.ntmps-args.toArray.size) undef,defers:=[]} E.w:=by
      intro GJ HB
      cases Im:finish C (call C false n) k fn F' h1 with
      |none=>rw[Im] at HB;cases HB
      |some u2=>
       obtain⟨u,h2⟩:=u2;rw[Im] at HB;simp only[Except.ok.injEq,Prod.mk.injEq] at HB;obtain⟨rfl,rfl⟩:=HB
       refine Qt k c _ _ x F' h1 fn.ntmps he Ip (fresh E) _ rfl H1 (JQ Ir k fn.ntmps) CC _ fun E' a' S Gr F9 _ hd=> ?_
       refine hQ _ a' E'.w (by rcases GJ with rfl|rfl<;>simp[Ju]) hd (MQ hD (by rw[Gr];exact Im) S.Cg F9 hd fun E2 cv S2 Na hr=> ?_)
       have S3:=S.trans S2;have S':=Jz S0.hI H S3.below
       exact⟨cv,{E with w:=E2.w},rfl,rfl,S',hE,Rel.XA (Sr H h2 S3.U (.inr ⟨Na.symm,S3.Cg,S3.le.B⟩)) u cv hr⟩
     cases x with
     |ret=>exact fin (.inl rfl) hx
     |normal=>exact fin (.inr rfl) hx
     |exit _=>cases hx
     |goto _=>cases hx
theorem VA (S0:Sound C I B0):∀{n:Nat},(∀m,m<n->JA C I B0 m)->qK C I B0 (call C false n)
 |0,_=>fun k vs h v h' _ _ _ hx=>by simp[call] at hx
 |n+1,ih=>fun k vs h v h' TE hp FF hx=>by
  have BF:C.ok k=true:=by
   cases BF:C.ok k with
   |true=>rfl
   |false=>simp[call,BF] at hx
  obtain⟨fn,c,Mu,hb,hw⟩:=YV S0 (ih n (Nat.lt_succ_self n)) (VA S0 fun m hm=>ih m (Nat.lt_succ_of_lt hm)) BF TE hp hx
  refine⟨S0.fns k BF,fun E args hE H CV u=>callsD_of_wp Mu hb (hw E args hE H CV _ fun x a' w' GJ hd hl=> ?_)⟩
  have aG:=hd.resolve_left (by rw[FF];simp)
  rw[aG] at hl;obtain⟨cv,k1,k2⟩:=hl
  rcases GJ with rfl|rfl<;>exact⟨aG,cv,k1,k2⟩
theorem YU (S0:Sound C I B0){n:Nat}(ih:∀m,m<n->JA C I B0 m)(draw:Bool):Md C I B0 (call C draw n):=by
 refine⟨S0.ident,?_⟩;intro k vs h v h' hx
 cases n with
 |zero=>simp[call] at hx
 |succ n=>
  have BF:C.ok k=true:=by
   cases BF:C.ok k with
   |true=>rfl
   |false=>simp[call,BF] at hx
  refine⟨S0.fns k BF,fun E args hE H CV=> ?_⟩
  cases TE:C.Cz k with
  |some g=>
   simp only[call] at hx;rw[BF,TE] at hx;simp only[Bool.not_true,cond_false] at hx
   cases draw with
   |true=>cases hx
   |false=>
    simp only[cond_false] at hx
    cases hg:g vs h with
    |none=>rw[hg] at hx;cases hx
    |some r=>
     obtain⟨v1,h1⟩:=r;rw[hg] at hx;simp only[Except.ok.injEq,Prod.mk.injEq] at hx;obtain⟨rfl,rfl⟩:=hx;exact S0.Wa k g vs h v1 h1 BF TE hg E args hE H CV
  |none=>
   have H1:=Hu H S0.IE;have Ir:=BK.cut (Ph (E:=E)) vs args CV
   cases hp:C.E9 k with
   |some g=>
    simp only[call] at hx;rw[BF,TE,hp] at hx;simp only[Bool.not_true,cond_false] at hx;split at hx
    ·rename_i u hg;simp only[Except.ok.injEq,Prod.mk.injEq] at hx;obtain⟨rfl,rfl⟩:=hx
     refine(S0.bp k g _ _ BF hp hg (fresh E) args rfl rfl H1 Ir).mono fun e w' UZ=> ?_
     obtain⟨c,rfl,hb,hr⟩:=UZ;have S:=Jz S0.hI H hb
     refine⟨c,{E with w:=w'},rfl,rfl,S,hE,?_⟩
     exact Rel.cut (Sr H [] (E':={fresh E with w:=w'}) rfl (.inl rfl)) u c hr
    ·cases hx
   |none=>
    obtain⟨fn,c,Mu,hb,hw⟩:=YV S0 (ih n (Nat.lt_succ_self n)) (VA S0 fun m hm=>ih m (Nat.lt_succ_of_lt hm)) BF TE hp hx
    refine calls_of_wp_defers Mu hb (hw E args hE H CV _ fun x a' w' GJ _ hl=> ?_)
    rcases GJ with rfl|rfl<;>exact hl
theorem Pm (n:Nat):Hf (call C true n):=by
  intro k vs h v h' hx
  cases n with
  | zero=>simp[call] at hx
  | succ n=>
    simp only[call] at hx⊢
    cases BF:C.ok k with
    | false=>rw[BF] at hx;cases hx
    | true=>
      rw[BF] at hx;simp only[Bool.not_true,cond_false] at hx⊢
      cases TE:C.Cz k with
      | some g=>rw[TE] at hx;cases hx
      | none=>
      rw[TE] at hx;simp only at hx⊢
      cases hp:C.E9 k with
      | some g=>
        rw[hp] at hx;simp only at hx⊢;split at hx
        · simp_all
        · cases hx
      | none=>
        rw[hp] at hx;simp only at hx⊢
        cases Mu:C.P.funcs[k]? with
        | none=>rw[Mu] at hx;cases hx
        | some fn=>
          rw[Mu] at hx;simp only at hx⊢
          cases hb:fn.body with
          | none=>rw[hb] at hx;cases hx
          | some c=>
            rw[hb] at hx;simp only at hx⊢
            cases hh:C.heap k with
            | true=>rw[hh] at hx;cases hx
            | false=>
              rw[hh] at hx;simp only at hx⊢
              cases he:exec C k n c (DE C k (AQ 0 [] vs)) [] with
              | error e=>rw[he] at hx;cases hx
              | ok r=>
                obtain⟨x,F',h1⟩:=r;rw[he] at hx
                cases x<;>simp only at hx⊢
                all_goals first
                  | (cases Im:finish C (call C false n) k fn F' h1 with
                     | none=>rw[Im] at hx;cases hx
                     | some u=>
                       rw[Im] at hx;simp only[Except.ok.injEq,Prod.mk.injEq] at hx⊢
                       exact⟨hx.2.symm,fun _=>⟨hx.1,trivial⟩⟩)
                  | cases hx
theorem Pv (S0:Sound C I B0):∀n,JA C I B0 n:=by
 intro n
 induction n using Nat.strongRecOn with
 |_ n ih=>exact iE S0 ih (fun m draw hm=>YU S0 (fun k hk=>ih k (Nat.lt_trans hk hm)) draw) fun m _=>Pm m
theorem LO (S0:Sound C I B0)(draw:Bool)(n:Nat):Md C I B0 (call C draw n):=YU S0 (fun m _=>Pv S0 m) draw
end
end Go.Ai
