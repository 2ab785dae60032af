/-
  The evaluator is sound: what it answers, the program answers.
-/
import Derived.Test.YtopjpnhgnopbiaaGreatDoorAAiJump
import Derived.Test.YtopjpnhgnopbiaaGreatDoorAAiPre
import Derived.Defers
set_option linter.unusedVariables false
set_option linter.unusedSimpArgs false
set_option linter.unnecessarySimpa false
namespace Go.Ai
open Go.RowKit
def LA :XT->Exit
 |.normal=>.normal
 |.exit id=>.exit id
 |.goto l=>.goto l
 |.ret=>.ret
structure Sound (C:Bm) (I:World->Prop) (B0:Nat):Prop where
 hI:∀w w',I w->Below B0 w w'->I w'
 mixed:C.P.follows .mixedOrders=true
 JL:∀g cs,C.G g=some cs->AO.Ad cs=true
 ident:Pp C
 fns:∀k,C.ok k=true->Callee C.P k
 Y7:∀k g vs h v h',C.ok k=true->C.Cr k=some g->g vs h=some (v,h')->∀(E:Env) (args:List Value),E.h=h->Good C.G I B0 E->BT E vs args->Calls C.P k args.toArray E.w (Gj C.G I B0 E v h')
 bX:∀k fn c,C.ok k=true->C.Cr k=none->C.FM k=none->C.P.funcs[k]?=some fn->fn.body=some c->Bn C.P fn.ntmps (C.Hk k) c=true
 ff:∀k g vs v,C.ok k=true->C.FM k=some g->g vs=some (true,v)->∀(E:Env) (args:List Value),E.h=[]->E.B=E.w.heap.size->Good C.G I B0 E->BT E vs args->
  Calls C.P k args.toArray E.w (fun e w'=>∃c,e=.returned c/\Below E.w.heap.size E.w w'/\Rel {E with w:=w'} v c)
section
variable {C:Bm}{I:World->Prop}{B0:Nat}
def KI (C:Bm)(I:World->Prop)(B0:Nat)(n:Nat):Prop:=
 ∀(f:FuncId) (c:Code) (F:Fr) (h:Hp) (x:XT) (F':Fr) (h':Hp) (m:Nat),exec C f n c F h=.ok (x,F',h')->Bn C.P m (C.Hk f) c=true->∀(E:Env) (a:Act),E.h=h->Good C.G I B0 E->AR E F a->m<=a.tmps.size->
  ∀Q:Exit->Act->World->Prop,(∀E' a',Step C.G I B0 E E'->E'.h=h'->AR E' F' a'->a'.tmps.size=a.tmps.size->(C.C9 f=true\/a'.defers=a.defers)->Q (LA x) a' E'.w)->c.wp C.P Q a E.w
theorem gi (g:Bool)(n l:Nat)(v:AV):n<=Gq g n l v:=by
 unfold Gq;split
 ·exact Nat.le_refl _
 ·split
  ·cases Nat.blt _ l
   ·exact Nat.le_refl _
   ·exact Nat.le_max_left _ _
  ·exact Nat.le_refl _
theorem dA {g:Bool}{n l:Nat}{v:AV}(h:n<=l):Gq g n l v<=l:=by
 unfold Gq;split
 ·exact h
 ·split
  ·rename_i id
   cases hb:Nat.blt id l with
   |false=>exact h
   |true=>
    have:=Nat.le_of_ble_eq_true hb;exact Nat.max_le.2 ⟨h,this⟩
  ·exact h
theorem DT.trans' {D:Prop}{x y z:List Deferred}(h:D\/x=y)(k:D\/y=z):D\/x=z:=by
 rcases h with h|h
 ·exact .inl h
 ·rcases k with k|k
  ·exact .inl k
  ·exact .inr (h.trans k)
theorem Yr {F:Fr}{a:Act}{E:Env}(hf:AR E F a)(ls:List Nat):AR E (ls.map fun s=>(s,lk F s)) a:=by
 refine⟨fun s=> ?_,?_⟩
 ·induction ls with
  |nil=>exact⟨fun _=>trivial,fun h=>by cases h⟩
  |cons l ls ih=>
   simp only[List.map_cons,lk]
   cases hb:Nat.beq l s with
   |true=>
    have:=Nat.eq_of_beq_eq_true hb;subst this;exact hf.1 l
   |false=>exact ih
 ·induction ls with
  |nil=>trivial
  |cons l ls ih=>
   simp only[List.map_cons,lk]
   cases hb:Nat.beq l dS with
   |true=>
    have:=Nat.eq_of_beq_eq_true hb;subst this;exact hf.2
   |false=>exact ih
theorem HC (n:Nat)(h:Hp):∀(F:Fr) (s:Nat),lk (DC n h F) s=((lk F s).1,strip n h (lk F s).2)
 |[],s=>rfl
 |(t,e)::r,s=>by
  show lk ((t,e.1,strip n h e.2)::DC n h r) s=_;simp only[lk]
  cases hb:Nat.beq t s with
  |true=>rfl
  |false=>exact HC n h r s
theorem Fl.cut {n:Nat}{h:Hp}{E E':Env}(K:Cut n h E E'):∀{l:List AV} {ds:List Deferred},Fl E l ds->Fl E' (AQ n h l) ds
 |[],_,h=>h
 |.fn f first cap::l,_,h=>by
  obtain⟨d,r,h1,⟨b,q1,q2,q3⟩,h3⟩:=h;exact⟨d,r,h1,⟨b,q1,BT.cut K _ _ q2,BT.cut K _ _ q3⟩,Fl.cut K h3⟩
theorem TP {n:Nat}{h:Hp}{E E':Env}(K:Cut n h E E'){F:Fr}{a:Act}(hf:AR E F a):AR E' (DC n h F) a:=by
 refine⟨fun s=> ?_,?_⟩
 ·rw[HC]
  exact⟨fun hg=>Rel.cut K _ _ ((hf.1 s).1 hg),(hf.1 s).2⟩
 ·rw[HC];have h2:=hf.2;revert h2;generalize (lk F dS).2=v;intro h2
  cases v with
  |C9 l=>exact Fl.cut K h2
  |ptr b o=>simp only[strip];cases Nat.blt b n<;>trivial
  |KR b o c d=>simp only[strip];cases Nat.blt b n<;>trivial
  |Wr b=>simp only[strip];cases Nat.blt b n<;>trivial
  |CM b g d sz len=>simp only[strip];cases Nat.blt b n<;>trivial
  |Bf b g d o=>simp only[strip];cases Nat.blt b n<;>trivial
  |Gw b g d sz es=>simp only[strip];cases Nat.blt b n<;>trivial
  |sl sz es own=>cases own<;>trivial
  |_=>trivial
theorem cK (S0:Sound C I B0){n:Nat}(ih:∀m,m<n->KI C I B0 m):∀(f:FuncId) (c:Code) (F:Fr) (h:Hp) (x:XT) (F':Fr) (h':Hp) (m:Nat),exec C f n (.loop c) F h=.ok (x,F',h')->Bn C.P m (C.Hk f) c=true->
  ∀(E:Env) (a:Act),E.h=h->Good C.G I B0 E->AR E F a->m<=a.tmps.size->
  ∀Q:Exit->Act->World->Prop,(∀E' a',Step C.G I B0 E E'->E'.h=h'->AR E' F' a'->a'.tmps.size=a.tmps.size->(C.C9 f=true\/a'.defers=a.defers)->Q (LA x) a' E'.w)->Code.rounds C.P c Q n a E.w:=by
 induction n with
 |zero=>intro f c F h x F' h' m hx;simp[exec] at hx
 |succ n TB=>
  intro f c F h x F' h' m hx Bk E a hE H hf hm Q hQ;rw[rounds_succ];simp only[exec] at hx
  cases hc:exec C f n c F h with
  |error e=>rw[hc] at hx;cases hx
  |ok r=>
   obtain⟨x1,F1,h1⟩:=r;rw[hc] at hx
   refine ih n (Nat.lt_succ_self n) f c F h x1 F1 h1 m hc Bk E a hE H hf hm _ fun E1 a1 S1 LV Jb Hf OZ=> ?_
   cases x1 with
   |normal=>
    simp only at hx
    cases ht:C.Fv f with
    |false=>
     rw[ht] at hx
     exact TB (fun k hk=>ih k (Nat.lt_succ_of_lt hk)) f c F1 h1 x F' h' m hx Bk E1 a1 LV S1.Co Jb (by rw[Hf];exact hm) Q
      fun E2 a2 S2 PN Uu Ku Jc=>hQ E2 a2 (S1.trans S2) PN Uu (Ku.trans Hf) (DT.trans' Jc OZ)
    |true=>
     rw[ht] at hx;subst hE;subst LV;obtain⟨K,S'⟩:=NB H S1 S0.JL
     exact TB (fun k hk=>ih k (Nat.lt_succ_of_lt hk)) f c _ _ x F' h' m hx Bk {E1 with h:=(E1.h.take E.h.length).map (AN E.h.length E1.h)} a1 rfl S'.Co (TP K Jb) (by rw[Hf];exact hm) Q
      fun E2 a2 S2 PN Uu Ku Jc=>hQ E2 a2 (S'.trans S2) PN Uu (Ku.trans Hf) (DT.trans' Jc OZ)
   |_=>
    simp only[Except.ok.injEq,Prod.mk.injEq] at hx;obtain⟨rfl,rfl,rfl⟩:=hx;exact hQ E1 a1 S1 LV Jb Hf OZ
theorem cS {n:Nat}(ih:∀m,m<n->KI C I B0 m):∀(f:FuncId) (c cur:Code) (F:Fr) (h:Hp) (x:XT) (F':Fr) (h':Hp) (m:Nat),EM C f n c cur F h=.ok (x,F',h')->Bn C.P m (C.Hk f) c=true->Bn C.P m (C.Hk f) cur=true->
  ∀(E:Env) (a:Act),E.h=h->Good C.G I B0 E->AR E F a->m<=a.tmps.size->
  ∀Q:Exit->Act->World->Prop,(∀E' a',Step C.G I B0 E E'->E'.h=h'->AR E' F' a'->a'.tmps.size=a.tmps.size->(C.C9 f=true\/a'.defers=a.defers)->Q (LA x) a' E'.w)->QW C.P c Q n cur a E.w:=by
 induction n with
 |zero=>intro f c cur F h x F' h' m hx;simp[EM] at hx
 |succ n TB=>
  intro f c cur F h x F' h' m hx Bk wa E a hE H hf hm Q hQ;simp only[EM] at hx;show cur.wp C.P (Exit.Pd c (QW C.P c Q n) Q) a E.w
  cases hc:exec C f n cur F h with
  |error e=>rw[hc] at hx;cases hx
  |ok r=>
   obtain⟨x1,F1,h1⟩:=r;rw[hc] at hx
   refine ih n (Nat.lt_succ_self n) f cur F h x1 F1 h1 m hc wa E a hE H hf hm _ fun E1 a1 S1 LV Jb Hf OZ=> ?_
   cases x1 with
   |goto l=>
    simp only at hx;simp only[LA,Exit.Pd]
    cases HU:findLabel c l with
    |some rest=>
     rw[HU] at hx
     exact TB (fun k hk=>ih k (Nat.lt_succ_of_lt hk)) f c rest F1 h1 x F' h' m hx Bk (GD Bk HU) E1 a1 LV S1.Co Jb (by rw[Hf];exact hm) Q
      fun E2 a2 S2 PN Uu Ku Jc=>hQ E2 a2 (S1.trans S2) PN Uu (Ku.trans Hf) (DT.trans' Jc OZ)
    |none=>
     rw[HU] at hx;simp only[Except.ok.injEq,Prod.mk.injEq] at hx;obtain⟨rfl,rfl,rfl⟩:=hx;exact hQ E1 a1 S1 LV Jb Hf OZ
   |_=>
    simp only[Except.ok.injEq,Prod.mk.injEq] at hx;obtain⟨rfl,rfl,rfl⟩:=hx;exact hQ E1 a1 S1 LV Jb Hf OZ
theorem lF (S0:Sound C I B0){n:Nat}(ih:∀m,m<n->KI C I B0 m)(DS:∀m draw,m<n->OD C I B0 (call C draw m))(HD:∀m,m<n->Io (call C true m)):KI C I B0 n:=by
 intro f c F h x F' h' m hx Bk E a hE H hf hm Q hQ
 cases n with
 |zero=>simp[exec] at hx
 |succ n=>
  have TB:=ih n (Nat.lt_succ_self n)
  cases c with
  |skip=>
   simp only[exec,Except.ok.injEq,Prod.mk.injEq] at hx;obtain⟨rfl,rfl,rfl⟩:=hx;exact wp_skip (hQ E a (Step.refl H) hE hf rfl (.inr rfl))
  |ret=>
   simp only[exec,Except.ok.injEq,Prod.mk.injEq] at hx;obtain⟨rfl,rfl,rfl⟩:=hx;exact wp_ret (hQ E a (Step.refl H) hE hf rfl (.inr rfl))
  |exit id=>
   simp only[exec,Except.ok.injEq,Prod.mk.injEq] at hx;obtain⟨rfl,rfl,rfl⟩:=hx;exact wp_exit (hQ E a (Step.refl H) hE hf rfl (.inr rfl))
  |seq p q=>
   simp only[Bn,Bool.and_eq_true] at Bk;simp only[exec] at hx
   cases hc:exec C f n p F h with
   |error e=>rw[hc] at hx;cases hx
   |ok r=>
    obtain⟨x1,F1,h1⟩:=r;rw[hc] at hx
    refine wp_seq (TB f p F h x1 F1 h1 m hc Bk.1 E a hE H hf hm _ fun E1 a1 S1 LV Jb Hf OZ=> ?_)
    cases x1 with
    |normal=>
     simp only at hx
     exact TB f q F1 h1 x F' h' m hx Bk.2 E1 a1 LV S1.Co Jb (by rw[Hf];exact hm) Q fun E2 a2 S2 PN Uu Ku Jc=>hQ E2 a2 (S1.trans S2) PN Uu (Ku.trans Hf) (DT.trans' Jc OZ)
    |_=>
     simp only[Except.ok.injEq,Prod.mk.injEq] at hx;obtain⟨rfl,rfl,rfl⟩:=hx;exact hQ E1 a1 S1 LV Jb Hf OZ
  |cond y p q=>
   simp only[Bn,Bool.and_eq_true] at Bk;simp only[exec] at hx;split at hx
   ·rename_i Nl;have hv:a.eval y=.bool true:=Ah H hf Nl rfl;exact wp_cond_true hv (TB f p F h x F' h' m hx Bk.1 E a hE H hf hm Q hQ)
   ·rename_i Nl;have hv:a.eval y=.bool false:=Ah H hf Nl rfl;exact wp_cond_false hv (TB f q F h x F' h' m hx Bk.2 E a hE H hf hm Q hQ)
   ·cases hx
  |block id p=>
   simp only[Bn] at Bk;simp only[exec] at hx
   cases hc:exec C f n p F h with
   |error e=>rw[hc] at hx;cases hx
   |ok r=>
    obtain⟨x1,F1,h1⟩:=r;rw[hc] at hx
    refine wp_block (TB f p F h x1 F1 h1 m hc Bk E a hE H hf hm _ fun E1 a1 S1 LV Jb Hf OZ=> ?_)
    cases x1 with
    |exit pr=>
     simp only at hx
     show(if pr=id then Q .normal a1 E1.w else Q (.exit pr) a1 E1.w)
     cases hb:Nat.beq pr id with
     |true=>
      rw[hb] at hx;simp only[cond_true,Except.ok.injEq,Prod.mk.injEq] at hx;obtain⟨rfl,rfl,rfl⟩:=hx;rw[if_pos (Nat.eq_of_beq_eq_true hb)];exact hQ E1 a1 S1 LV Jb Hf OZ
     |false=>
      rw[hb] at hx;simp only[cond_false,Except.ok.injEq,Prod.mk.injEq] at hx;obtain⟨rfl,rfl,rfl⟩:=hx
      rw[if_neg fun e=>by subst e;simp[Nat.beq_refl] at hb]
      exact hQ E1 a1 S1 LV Jb Hf OZ
    |_=>
     simp only[Except.ok.injEq,Prod.mk.injEq] at hx;obtain⟨rfl,rfl,rfl⟩:=hx;exact hQ E1 a1 S1 LV Jb Hf OZ
  |label l=>
   simp only[exec,Except.ok.injEq,Prod.mk.injEq] at hx;obtain⟨rfl,rfl,rfl⟩:=hx;exact wp_label (hQ E a (Step.refl H) hE hf rfl (.inr rfl))
  |goto l=>
   simp only[exec,Except.ok.injEq,Prod.mk.injEq] at hx;obtain⟨rfl,rfl,rfl⟩:=hx;exact wp_goto (hQ E a (Step.refl H) hE hf rfl (.inr rfl))
  |scope p=>
   simp only[Bn] at Bk;simp only[exec] at hx
   exact Ot n (cS (fun k hk=>ih k (Nat.lt_succ_of_lt hk)) f p p F h x F' h' m hx Bk Bk E a hE H hf hm Q hQ)
  |loop p=>
   simp only[Bn] at Bk;exact wp_loop_rounds (n+1) (cK S0 ih f p F h x F' h' m hx Bk E a hE H hf hm Q hQ)
  |region id ops draw=>
   simp only[Bn,Bool.and_eq_true] at Bk;simp only[exec] at hx
   cases CG:draw&&C.Hk f id with
   |true=>
    rw[CG] at hx;simp only at hx;rw[Bool.and_eq_true] at CG;obtain⟨rfl,CG⟩:=CG
    have hda:Mf ops=true:=by
     have:=Bk.2;rw[CG] at this;simpa using this
    cases ho:J9 C (fun d=>call C d n) ops ((C.live f id).map fun s=>(s,lk F s)) h with
    |error e=>rw[ho] at hx;cases hx
    |ok r=>
     obtain⟨F1,h1⟩:=r;rw[ho] at hx;simp only[Except.ok.injEq,Prod.mk.injEq] at hx;obtain⟨rfl,rfl,rfl⟩:=hx;subst hE
     exact R8 S0.hI S0.mixed (fun d=>DS n d (Nat.lt_succ_self n)) hda Bk.1 ho H (Yr hf (C.live f id)) hm fun E' a' S Hg FO hs hd=>hQ E' a' S Hg FO hs (.inr hd)
   |false=>
   rw[CG] at hx;simp only at hx
   cases ZH:(!C.C9 f&&Fb ops.toList)||(draw&& !Ui ops.toList (JW (GA ops draw) h.length ((C.live f id).map fun s=>(s,lk F s)))) with
   |true=>rw[ZH] at hx;cases hx
   |false=>
   rw[ZH] at hx;simp only at hx;rw[Bool.or_eq_false_iff] at ZH;obtain⟨bK,oX⟩:=ZH
   have xe:C.C9 f=true\/Fb ops.toList=false:=by
    cases h1:C.C9 f<;>simp_all
   cases ho:DI C (fun d=>call C d n) ops draw 0 ops.toList (JW (GA ops draw) h.length ((C.live f id).map fun s=>(s,lk F s))) (Rz (GA ops draw) h) with
   |error e=>rw[ho] at hx;cases hx
   |ok r=>
    obtain⟨F1,h1⟩:=r;rw[ho] at hx;simp only[Except.ok.injEq,Prod.mk.injEq] at hx;obtain⟨rfl,rfl,rfl⟩:=hx;subst hE
    have fin:∀E' a',Step C.G I B0 E E'->E'.h=h1->AR E' F1 a'->a'.tmps.size=a.tmps.size->(C.C9 f=true\/a'.defers=a.defers)->Q .normal a' E'.w:=fun E' a' S Hg FO hs hd=>hQ E' a' S Hg FO hs hd
    obtain⟨E0,T0,sA,wv,eE⟩:=YR S0.hI (GA ops draw) H (Yr hf (C.live f id)) (Vv Bk.1)
    have fin:∀E' a',Step C.G I B0 E0 E'->E'.h=h1->AR E' F1 a'->a'.tmps.size=a.tmps.size->(C.C9 f=true\/a'.defers=a.defers)->Q .normal a' E'.w:=fun E' a' S=>fin E' a' (T0.trans S)
    have H:=T0.Co;rw[<-wv] at ho;rw[<-sA]
    cases draw with
    |true=>
     exact R7 S0.hI S0.mixed (fun d=>DS n d (Nat.lt_succ_self n)) (HD n (Nat.lt_succ_self n)) (by
      have h1:C.Hk f id=false:=by simpa using CG
      have h2:=Bk.2;rw[h1] at h2
      simpa using h2) Bk.1 (gJ (by simpa using oX)) ho H eE hm fun E' a' S Hg FO hs hd=>fin E' a' S Hg FO hs (.inr hd)
    |false=>
     have ho:=Kx _ _ _ _ ho;have Uq:=NF ops ops.size (Nat.le_refl _)
     rw[List.take_of_length_le (by simp)] at Uq
     exact wp_region (ZY S0.hI (DS n false (Nat.lt_succ_self n)) (List.range ops.size) _ E0.h F1 h1 (by rw[Uq];exact Bk.1) (by rw[Uq];exact ho) E0 a rfl H eE hm fun E' a' S Hg FO hs hd=>fin E' a' S Hg FO hs (by
      rcases hd with ⟨_,h2⟩|hd
      ·rw[Uq] at h2
       rcases xe with h|h
       ·exact .inl h
       ·rw[h] at h2;cases h2
      ·exact .inr hd))
  |_=>simp[exec] at hx
theorem cL {E:Env}(H:Good C.G I B0 E){F:Fr}{a:Act}(hf:AR E F a){r:ResultVar}{g:Bool}{v:AV}(hr:QO C.P F E.h r=some (g,v))(hg:g=true):
  ∃c,((match r with|.tmp t=>pure (a.tmps.getD t undef)|.cell x t=>do loadVar t (<-asAddr (a.tmps.getD x undef))):Sem Value).run C.P E.w=.ok c E.w/\Rel E v c:=by
 subst hg
 cases r with
 |tmp t=>
  simp only[QO,Option.some.injEq] at hr
  have:=(hf.1 t).1 (by rw[hr])
  rw[hr] at this;exact⟨_,rfl,this⟩
 |cell x t=>
  simp only[QO] at hr;split at hr
  ·rename_i g b o hl;split at hr
   ·rename_i cs hb
    cases JN:rd C.P t (cs.drop o) with
    |none=>rw[JN] at hr;cases hr
    |some u=>
     rw[JN] at hr;simp only[Option.map_some,Option.some.injEq,Prod.mk.injEq] at hr;obtain⟨rfl,rfl⟩:=hr
     have:=(hf.1 x).1 (by rw[hl])
     rw[hl] at this;obtain⟨t2,tE,gg,h2,h3,h4⟩:=this;rw[h2] at hb
     injection hb with hb
     injection hb with k9 hb
     subst hb;obtain⟨c,k1,k2⟩:=Vw JN (Ug H h2 h3);refine⟨c,?_,k2⟩;simp only[h4,asAddr];simpa using k1
   ·cases hr
  ·cases hr
theorem Sl {E:Env}(H:Good C.G I B0 E){F:Fr}{a:Act}(hf:AR E F a):∀(rs:List ResultVar) {vs:List AV},LI C.P F E.h rs=some (true,vs)->
  ∃cs,(rs.mapM (fun r=>((match r with|.tmp t=>pure (a.tmps.getD t undef)|.cell x t=>do loadVar t (<-asAddr (a.tmps.getD x undef))):Sem Value))).run C.P E.w=.ok cs E.w/\BT E vs cs
 |[],vs,h=>by
  simp only[LI,Option.some.injEq,Prod.mk.injEq] at h;obtain⟨-,rfl⟩:=h
  exact⟨[],by simp,rfl⟩
 |r::rs,vs,h=>by
  simp only[LI] at h;split at h
  ·rename_i g v g' uL h1 h2;simp only[Option.some.injEq,Prod.mk.injEq,Bool.and_eq_true] at h;obtain⟨⟨rfl,rfl⟩,rfl⟩:=h;obtain⟨c,k1,k2⟩:=cL H hf h1 rfl;obtain⟨cs,k3,k4⟩:=Sl H hf rs h2;refine⟨c::cs,?_,c,cs,rfl,k2,k4⟩;rw[List.mapM_cons,Sem.run_bind,k1,Result.andThen_ok,Sem.run_bind,k3,Result.andThen_ok];rfl
  ·cases h
theorem NH {E:Env}(H:Good C.G I B0 E){F:Fr}{a:Act}(hf:AR E F a){fn:Func}{v:AV}(h:result C.P fn F E.h=some v):
  ∃c,(results fn a.tmps).run C.P E.w=.ok c E.w/\Rel E v c:=by
 unfold result at h
 have key:∀vs,LI C.P F E.h fn.results.toList=some (true,vs)->∃cs:List Value,(results fn a.tmps).run C.P E.w=.ok (if h:cs.length=1 then cs[0] else .tuple cs.toArray) E.w/\BT E vs cs:=by
  intro vs hv;obtain⟨cs,k1,k2⟩:=Sl H hf _ hv;refine⟨cs,?_,k2⟩
  have e:results fn a.tmps=(fn.results.toList.mapM (fun r=>((match r with|.tmp t=>pure (a.tmps.getD t undef)|.cell x t=>do loadVar t (<-asAddr (a.tmps.getD x undef))):Sem Value))) >>= fun cs=>
    pure (if h:cs.toArray.size=1 then cs.toArray[0] else .tuple cs.toArray):=by
   unfold results;rw[Array.mapM_eq_mapM_toList,bind_map_left];rfl
  rw[e,Sem.run_bind,k1,Result.andThen_ok]
  by_cases h1:cs.length=1
  ·simp[h1]
  ·simp[h1]
 split at h
 ·rename_i u hu
  injection h with h
  subst h;obtain⟨cs,k1,k2⟩:=key _ hu;obtain⟨c,r,rfl,q1,q2⟩:=k2;simp only[BT] at q2;subst q2
  exact⟨c,by simpa using k1,q1⟩
 ·rename_i vs BM hu
  injection h with h
  subst h;obtain⟨cs,k1,k2⟩:=key _ hu;have hl:=k2.length
  have:¬cs.length=1:=fun h1=>by
   rw[hl] at h1;obtain⟨u,rfl⟩:=List.length_eq_one_iff.1 h1;exact BM u rfl
  rw[dif_neg this] at k1
  exact⟨_,k1,_,rfl,by simpa using k2⟩
 ·cases h
theorem Rs :∀(vs:List AV) (n s:Nat),n<=dS->lk (Dz n vs) s=(true,if s<n\/dS<=s then .top else(vs[s-n]?).getD .top)
 |[],n,s,_=>by simp[Dz,lk]
 |v::vs,n,s,hn=>by
  simp only[Dz]
  cases hd:Nat.beq n 1000000 with
  |true=>
   have:=Nat.eq_of_beq_eq_true hd
   rw[if_pos (by unfold dS;omega)]
   rfl
  |false=>
   have BC:n<dS:=Nat.lt_of_le_of_ne hn fun e=>by subst e;simp[dS] at hd
   simp only[cond_false,lk];rw[Rs vs (n+1) s BC]
   cases hb:Nat.beq n s with
   |true=>
    have:=Nat.eq_of_beq_eq_true hb;subst this
    rw[cond_true,if_neg (by omega)]
    simp
   |false=>
    have BM:n≠s:=fun e=>by subst e;simp[Nat.beq_refl] at hb
    simp only[cond_false]
    by_cases h1:s<n\/dS<=s
    ·rw[if_pos h1,if_pos (by omega)]
    ·rw[if_neg h1,if_neg (by omega)]
     rw[show s-n=(s-(n+1))+1 by omega,List.getElem?_cons_succ]
theorem BT.get {E:Env}:∀{xs:List AV} {vs:List Value},BT E xs vs->∀(i:Nat) x,xs[i]?=some x->∃v,vs[i]?=some v/\Rel E x v
 |[],vs,_,i,x,hx=>by simp at hx
 |c::cs,vs,h,i,x,hx=>by
  obtain⟨v,r,rfl,h1,h2⟩:=h
  cases i with
  |zero=>
   simp only[List.getElem?_cons_zero,Option.some.injEq] at hx;subst hx;exact⟨v,rfl,h1⟩
  |succ i=>exact BT.get h2 i x (by simpa using hx)
theorem Mq {E:Env}{vs:List AV}{args:List Value}(h:BT E vs args)(n:Nat):AR E (Dz 0 vs) {tmps:=args.toArray++Array.replicate (n-args.toArray.size) undef,defers:=[]}:=by
 refine⟨fun s=> ?_,by rw[Rs vs 0 dS (by decide),if_pos (.inr (Nat.le_refl _))];trivial⟩
 rw[Rs vs 0 s (by decide)]
 refine⟨fun _=> ?_,fun h=>by cases h⟩
 by_cases h1:s<0\/dS<=s
 ·rw[if_pos h1];trivial
 rw[if_neg h1];simp only[Nat.sub_zero]
 cases hv:vs[s]? with
 |none=>trivial
 |some x=>
  obtain⟨v,h1,h2⟩:=h.get s x hv;have BC:s<args.length:=(List.getElem?_eq_some_iff.1 h1).1
  have FN:(args.toArray++Array.replicate (n-args.toArray.size) undef).getD s undef=v:=by
   have h3:(args.toArray++Array.replicate (n-args.toArray.size) undef)[s]?=some v:=by
    rw[Array.getElem?_append_left (by simpa using BC)]
    simpa using h1
   rw[Array.getD_eq_getD_getElem?,h3];rfl
  rw[Option.getD_some];exact FN▸h2
theorem Sx :∀(F G:Fr) (s:Nat),lk (F++G) s=lk F s\/lk (F++G) s=lk G s
 |[],G,s=>.inr rfl
 |(t,e)::F,G,s=>by
  simp only[List.cons_append,lk]
  cases Nat.beq t s with
  |true=>exact .inl rfl
  |false=>exact Sx F G s
theorem Xh :∀(vs:List AV) (n:Nat),n<=dS->∀G,lk (Dz n vs++G) dS=lk G dS
 |[],n,_,G=>rfl
 |v::vs,n,hn,G=>by
  simp only[Dz]
  cases hd:Nat.beq n 1000000 with
  |true=>rfl
  |false=>
   have Jc:Nat.beq n dS=false:=hd
   have BC:n<dS:=Nat.lt_of_le_of_ne hn fun e=>by subst e;simp[dS] at hd
   simp only[cond_false,List.cons_append,lk,Jc];exact Xh vs (n+1) BC G
theorem KY {E:Env}{vs:List AV}{args:List Value}(h:BT E vs args)(k:FuncId)(n:Nat):AR E (DL C k vs) {tmps:=args.toArray++Array.replicate (n-args.toArray.size) undef,defers:=[]}:=by
 have ha:=Mq h n;unfold DL
 cases C.C9 k with
 |false=>exact ha
 |true=>
  refine⟨fun s=> ?_,by simp only[Xh vs 0 (by decide),lk,Nat.beq_refl,cond_true];exact rfl⟩
  rcases Sx (Dz 0 vs) [(dS,true,.C9 [])] s with e|e
  ·rw[e];exact ha.1 s
  ·rw[e];simp only[lk]
   cases Nat.beq dS s with
   |true=>exact⟨fun _=>trivial,fun h=>by cases h⟩
   |false=>exact⟨fun _=>trivial,fun h=>by cases h⟩
def uG (C:Bm)(I:World->Prop)(B0:Nat)(cl:FuncId->List AV->Hp->Except (List Nat) (AV×Hp)):Prop:=
 ∀k vs h v h',C.Cr k=none->C.FM k=none->C.C9 k=false->cl k vs h=.ok (v,h')->Callee C.P k/\∀(E:Env) (args:List Value),E.h=h->Good C.G I B0 E->BT E vs args->
  ∀u,CallsD C.P k args.toArray u E.w fun e u' w'=>u'=u/\Gj C.G I B0 E v h' e w'
theorem aM {cl:FuncId->List AV->Hp->Except (List Nat) (AV×Hp)}(hD:uG C I B0 cl){fn:Func}{tmps:Array Value}{R:Ending->World->Prop}{h2:Hp}:
  ∀(l:List AV) (ds:List Deferred) (E:Env),Good C.G I B0 E->Fl E l ds->Ox C cl l E.h=some h2->
   (∀E',Step C.G I B0 E E'->E'.h=h2->∃c,(results fn tmps).run C.P E'.w=.ok c E'.w/\R (.returned c) E'.w)->Leaves C.P fn tmps R ds .returning E.w
 |[],ds,E,H,Hw,hx,hR=>by
  simp only[Fl] at Hw;subst Hw;simp only[Ox,Option.some.injEq] at hx;exact hR E (Step.refl H) hx
 |v::l,ds,E,H,Hw,hx,hR=>by
  obtain⟨d,r,rfl,h1,h3⟩:=Hw
  cases v with
  |fn f first cap=>
   cases f with
   |func k=>
    simp only[Ox] at hx;split at hx
    ·rename_i v1 Ll hc DS;simp only[Bool.or_eq_false_iff,Option.isSome_eq_false_iff,Option.isNone_iff_eq_none] at hc;obtain⟨b,q1,q2,q3⟩:=h1;obtain⟨⟨fn',OX,hb,MN⟩,RH⟩:=hD k _ _ _ _ hc.1.1 hc.1.2 hc.2 DS;have qL:=RH E _ rfl H (BT.append q2 q3) .returning
     have Jy:(d.args.toList++b.toList).toArray=d.args++b:=by apply Array.ext';simp
     rw[Jy] at qL
     refine⟨by simp,.func k,b,k,d.args++b,q1,?_,?_⟩
     ·rw[q1];simp only[invoke,callFunc,Sem.run_bind,run_program,Result.andThen_ok,OX,MN,hb];rfl
     ·refine qL.mono fun e u' w' hp=> ?_
      obtain⟨rfl,c,E1,rfl,rfl,S,LV,_⟩:=hp;simp only[settle]
      exact aM hD l r E1 S.Co (h3.mono S.le) (by rw[LV];exact hx) fun E' S' Hg=>hR E' (S.trans S') Hg
    ·cases hx
   |_=>simp[Ox] at hx
  |_=>exact h1.elim
theorem Nr {cl:FuncId->List AV->Hp->Except (List Nat) (AV×Hp)}(hD:uG C I B0 cl){k:FuncId}{fn:Func}{F:Fr}{u:AV}{h2:Hp}{E:Env}{a:Act}{R:Ending->World->Prop}
  (hx:finish C cl k fn F E.h=some (u,h2)) (H:Good C.G I B0 E) (hf:AR E F a) (hd:C.C9 k=true\/a.defers=[])
  (hR:∀E' c,Step C.G I B0 E E'->E'.h=h2->Rel E' u c->R (.returned c) E'.w):Leaves C.P fn a.tmps R a.defers .returning E.w:=by
 unfold finish at hx
 cases hk:C.C9 k with
 |false=>
  rw[hk] at hx;simp only at hx;split at hx
  ·rename_i v hv;simp only[Option.some.injEq,Prod.mk.injEq] at hx;obtain⟨rfl,rfl⟩:=hx
   rw[hd.resolve_left (by rw[hk];simp)]
   obtain⟨c,k1,k2⟩:=NH H hf hv;exact⟨c,k1,hR E c (Step.refl H) rfl k2⟩
  ·cases hx
 |true=>
  rw[hk] at hx;simp only at hx;split at hx
  ·rename_i g l hl;split at hx
   ·rename_i h' Cb;split at hx
    ·rename_i v hv;simp only[Option.some.injEq,Prod.mk.injEq] at hx;obtain⟨rfl,rfl⟩:=hx;have h2:=hf.2;rw[hl] at h2
     refine aM hD l a.defers E H h2 Cb fun E' S Hg=> ?_
     obtain⟨c,k1,k2⟩:=NH S.Co (AR.mono S.le hf) (by rw[Hg];exact hv)
     exact⟨c,k1,hR E' c S Hg k2⟩
    ·cases hx
   ·cases hx
  ·cases hx
theorem bd (S0:Sound C I B0){n:Nat}(TB:KI C I B0 n)(hD:uG C I B0 (call C false n)){draw:Bool}{k:FuncId}{vs:List AV}{h:Hp}{v:AV}{h':Hp}(Bk:C.ok k=true)(VX:C.Cr k=none)(hp:C.FM k=none)
  (hx:call C draw (n+1) k vs h=.ok (v,h')):∃fn c,C.P.funcs[k]?=some fn/\fn.body=some c/\∀(E:Env) (args:List Value),E.h=h->Good C.G I B0 E->BT E vs args->∀Q:Exit->Act->World->Prop,
   (∀x a' w',(x=.normal\/x=.ret)->(C.C9 k=true\/a'.defers=[])->Leaves C.P fn a'.tmps (Gj C.G I B0 E v h') a'.defers .returning w'->Q x a' w')->
   c.wp C.P Q {tmps:=args.toArray++Array.replicate (fn.ntmps-args.toArray.size) undef,defers:=[]} E.w:=by
 simp only[call] at hx;rw[Bk,VX,hp] at hx;simp only[Bool.not_true,cond_false] at hx
 cases OX:C.P.funcs[k]? with
 |none=>rw[OX] at hx;cases hx
 |some fn=>
  rw[OX] at hx;simp only at hx
  cases hb:fn.body with
  |none=>rw[hb] at hx;cases hx
  |some c=>
   rw[hb] at hx;simp only at hx
   refine⟨fn,c,rfl,hb,fun E args hE H Cd Q hQ=> ?_⟩
   have H1:=I8 H S0.JL;have Jz:=BT.cut (Re (E:=E)) vs args Cd;have Jx:=S0.bX k fn c Bk VX hp OX hb
   have CD:fn.ntmps<=(args.toArray++Array.replicate (fn.ntmps-args.toArray.size) undef).size:=by simp;omega
   cases hh:C.heap k with
   |true=>
    rw[hh] at hx;simp only at hx
    cases draw with
    |true=>cases hx
    |false=>
     simp only[cond_false] at hx
     cases km:C.pre k with
     |some m0=>
      rw[km] at hx;simp only at hx;generalize O6 m0 h=m at hx
      cases kn:MB m h with
      |false=>rw[kn] at hx;cases hx
      |true=>
       rw[kn] at hx;simp only at hx;have hP:=nS kn hE;have H2:=gM H S0.JL hP;have o8:=BT.cut (af H hP) vs args Cd
       cases he:exec C k n c (DL C k (AQ m [] vs)) ((h.take m).map (AN m [])) with
       |error e=>rw[he] at hx;cases hx
       |ok r=>
        obtain⟨x,F',h1⟩:=r;rw[he] at hx
        have fin:(x=.ret\/x=.normal)->(match finish C (call C false n) k fn F' h1 with|some (v,h1)=>Except.ok (stripR m h1 v,(h1.take m).map (AN m h1)++h.drop m)|none=>.error [k,1013])=(.ok (v,h'):Except (List Nat) (AV×Hp))->
          c.wp C.P Q {tmps:=args.toArray++Array.replicate (fn.ntmps-args.toArray.size) undef,defers:=[]} E.w:=by
         intro JM IC
         cases Jt:finish C (call C false n) k fn F' h1 with
         |none=>rw[Jt] at IC;cases IC
         |some u2=>
          obtain⟨u,h2⟩:=u2;rw[Jt] at IC;simp only[Except.ok.injEq,Prod.mk.injEq] at IC;obtain⟨rfl,rfl⟩:=IC
          refine TB k c _ _ x F' h1 fn.ntmps he Jx (We E m) _ (by rw[<-hE];rfl) H2 (KY o8 k fn.ntmps) CD _ fun E' a' S Hg FO _ hd=> ?_
          refine hQ _ a' E'.w (by rcases JM with rfl|rfl<;>simp[LA]) hd (Nr hD (by rw[Hg];exact Jt) S.Co FO hd fun E2 cv S2 PN hr=> ?_)
          obtain⟨K,S'⟩:=lQ H S0.JL hP (S.trans S2);have hr:=Rel.Zg K u cv hr;rw[PN] at hr
          exact⟨cv,Gu E E2 m,rfl,rfl,S',by show(E2.h.take m).map (AN m E2.h)++E.h.drop m=_;rw[PN,hE],hr⟩
        cases x with
        |ret=>exact fin (.inl rfl) hx
        |normal=>exact fin (.inr rfl) hx
        |exit _=>cases hx
        |goto _=>cases hx
     |none=>
     rw[km] at hx;simp only at hx
     cases he:exec C k n c (DL C k vs) h with
     |error e=>rw[he] at hx;cases hx
     |ok r=>
      obtain⟨x,F',h1⟩:=r;rw[he] at hx
      have fin:(x=.ret\/x=.normal)->(match finish C (call C false n) k fn F' h1 with|some (v,h1)=>Except.ok (stripR (Gq (C.LW k) h.length h1.length v) h1 v,(h1.take (Gq (C.LW k) h.length h1.length v)).map (AN (Gq (C.LW k) h.length h1.length v) h1))|none=>.error [k,1013])=(.ok (v,h'):Except (List Nat) (AV×Hp))->
        c.wp C.P Q {tmps:=args.toArray++Array.replicate (fn.ntmps-args.toArray.size) undef,defers:=[]} E.w:=by
       intro JM IC
       cases Jt:finish C (call C false n) k fn F' h1 with
       |none=>rw[Jt] at IC;cases IC
       |some u2=>
        obtain⟨u,h2⟩:=u2;rw[Jt] at IC;simp only[Except.ok.injEq,Prod.mk.injEq] at IC;obtain⟨rfl,rfl⟩:=IC
        refine TB k c _ _ x F' h1 fn.ntmps he Jx E _ hE H (KY Cd k fn.ntmps) CD _ fun E' a' S Hg FO _ hd=> ?_
        refine hQ _ a' E'.w (by rcases JM with rfl|rfl<;>simp[LA]) hd (Nr hD (by rw[Hg];exact Jt) S.Co FO hd fun E2 cv S2 PN hr=> ?_)
        have S3:=S.trans S2
        have mH:E.h.length<=Gq (C.LW k) h.length h2.length u:=by rw[hE];exact gi _ _ _ _
        have SH:Gq (C.LW k) h.length h2.length u<=E2.h.length:=by
         have:=S3.le.len;rw[PN,hE] at this;rw[PN];exact dA this
        obtain⟨K,S'⟩:=QA H S3 S0.JL mH SH;have hr:=Rel.Zg K u cv hr;rw[PN] at hr;rw[PN] at S'
        exact⟨cv,{E2 with h:=(h2.take (Gq (C.LW k) h.length h2.length u)).map (AN (Gq (C.LW k) h.length h2.length u) h2)},rfl,rfl,S',rfl,hr⟩
      cases x with
      |ret=>exact fin (.inl rfl) hx
      |normal=>exact fin (.inr rfl) hx
      |exit _=>cases hx
      |goto _=>cases hx
   |false=>
    rw[hh] at hx;simp only at hx
    cases he:exec C k n c (DL C k (AQ 0 [] vs)) [] with
    |error e=>rw[he] at hx;cases hx
    |ok r=>
     obtain⟨x,F',h1⟩:=r;rw[he] at hx
     have fin:(x=.ret\/x=.normal)->(match finish C (call C false n) k fn F' h1 with|some (v,h1)=>Except.ok (stripR 0 h1 v,h)|none=>.error [k,1013])=(.ok (v,h'):Except (List Nat) (AV×Hp))->
       c.wp C.P Q {tmps:=args.toArray++Array.replicate (fn.ntmps-args.toArray.size) undef,defers:=[]} E.w:=by
      intro JM IC
      cases Jt:finish C (call C false n) k fn F' h1 with
      |none=>rw[Jt] at IC;cases IC
      |some u2=>
       obtain⟨u,h2⟩:=u2;rw[Jt] at IC;simp only[Except.ok.injEq,Prod.mk.injEq] at IC;obtain⟨rfl,rfl⟩:=IC
       refine TB k c _ _ x F' h1 fn.ntmps he Jx (fresh E) _ rfl H1 (KY Jz k fn.ntmps) CD _ fun E' a' S Hg FO _ hd=> ?_
       refine hQ _ a' E'.w (by rcases JM with rfl|rfl<;>simp[LA]) hd (Nr hD (by rw[Hg];exact Jt) S.Co FO hd fun E2 cv S2 PN hr=> ?_)
       have S3:=S.trans S2;have S':=LF S0.hI H S3.below
       exact⟨cv,{E with w:=E2.w},rfl,rfl,S',hE,Rel.Zg (VH H h2 S3.U (.inr ⟨PN.symm,S3.Co,S3.le.B⟩)) u cv hr⟩
     cases x with
     |ret=>exact fin (.inl rfl) hx
     |normal=>exact fin (.inr rfl) hx
     |exit _=>cases hx
     |goto _=>cases hx
theorem XW (S0:Sound C I B0):∀{n:Nat},(∀m,m<n->KI C I B0 m)->uG C I B0 (call C false n)
 |0,_=>fun k vs h v h' _ _ _ hx=>by simp[call] at hx
 |n+1,ih=>fun k vs h v h' VX hp Fy hx=>by
  have Bk:C.ok k=true:=by
   cases Bk:C.ok k with
   |true=>rfl
   |false=>simp[call,Bk] at hx
  obtain⟨fn,c,OX,hb,hw⟩:=bd S0 (ih n (Nat.lt_succ_self n)) (XW S0 fun m hm=>ih m (Nat.lt_succ_of_lt hm)) Bk VX hp hx
  refine⟨S0.fns k Bk,fun E args hE H Cd u=>callsD_of_wp OX hb (hw E args hE H Cd _ fun x a' w' JM hd hl=> ?_)⟩
  have ZI:=hd.resolve_left (by rw[Fy];simp)
  rw[ZI] at hl;obtain⟨cv,k1,k2⟩:=hl
  rcases JM with rfl|rfl<;>exact⟨ZI,cv,k1,k2⟩
theorem bc (S0:Sound C I B0){n:Nat}(ih:∀m,m<n->KI C I B0 m)(draw:Bool):OD C I B0 (call C draw n):=by
 refine⟨S0.ident,?_⟩;intro k vs h v h' hx
 cases n with
 |zero=>simp[call] at hx
 |succ n=>
  have Bk:C.ok k=true:=by
   cases Bk:C.ok k with
   |true=>rfl
   |false=>simp[call,Bk] at hx
  refine⟨S0.fns k Bk,fun E args hE H Cd=> ?_⟩
  cases VX:C.Cr k with
  |some g=>
   simp only[call] at hx;rw[Bk,VX] at hx;simp only[Bool.not_true,cond_false] at hx
   cases draw with
   |true=>cases hx
   |false=>
    simp only[cond_false] at hx
    cases hg:g vs h with
    |none=>rw[hg] at hx;cases hx
    |some r=>
     obtain⟨v1,h1⟩:=r;rw[hg] at hx;simp only[Except.ok.injEq,Prod.mk.injEq] at hx;obtain⟨rfl,rfl⟩:=hx;exact S0.Y7 k g vs h v1 h1 Bk VX hg E args hE H Cd
  |none=>
   have H1:=I8 H S0.JL;have Jz:=BT.cut (Re (E:=E)) vs args Cd
   cases hp:C.FM k with
   |some g=>
    simp only[call] at hx;rw[Bk,VX,hp] at hx;simp only[Bool.not_true,cond_false] at hx;split at hx
    ·rename_i u hg;simp only[Except.ok.injEq,Prod.mk.injEq] at hx;obtain⟨rfl,rfl⟩:=hx
     refine(S0.ff k g _ _ Bk hp hg (fresh E) args rfl rfl H1 Jz).mono fun e w' Ww=> ?_
     obtain⟨c,rfl,hb,hr⟩:=Ww;have S:=LF S0.hI H hb
     refine⟨c,{E with w:=w'},rfl,rfl,S,hE,?_⟩
     exact Rel.cut (VH H [] (E':={fresh E with w:=w'}) rfl (.inl rfl)) u c hr
    ·cases hx
   |none=>
    obtain⟨fn,c,OX,hb,hw⟩:=bd S0 (ih n (Nat.lt_succ_self n)) (XW S0 fun m hm=>ih m (Nat.lt_succ_of_lt hm)) Bk VX hp hx
    refine calls_of_wp_defers OX hb (hw E args hE H Cd _ fun x a' w' JM _ hl=> ?_)
    rcases JM with rfl|rfl<;>exact hl
theorem Rl (n:Nat):Io (call C true n):=by
  intro k vs h v h' hx
  cases n with
  | zero=>simp[call] at hx
  | succ n=>
    simp only[call] at hx⊢
    cases Bk:C.ok k with
    | false=>rw[Bk] at hx;cases hx
    | true=>
      rw[Bk] at hx;simp only[Bool.not_true,cond_false] at hx⊢
      cases VX:C.Cr k with
      | some g=>rw[VX] at hx;cases hx
      | none=>
      rw[VX] at hx;simp only at hx⊢
      cases hp:C.FM k with
      | some g=>
        rw[hp] at hx;simp only at hx⊢;split at hx
        · simp_all
        · cases hx
      | none=>
        rw[hp] at hx;simp only at hx⊢
        cases OX:C.P.funcs[k]? with
        | none=>rw[OX] at hx;cases hx
        | some fn=>
          rw[OX] at hx;simp only at hx⊢
          cases hb:fn.body with
          | none=>rw[hb] at hx;cases hx
          | some c=>
            rw[hb] at hx;simp only at hx⊢
            cases hh:C.heap k with
            | true=>rw[hh] at hx;cases hx
            | false=>
              rw[hh] at hx;simp only at hx⊢
              cases he:exec C k n c (DL C k (AQ 0 [] vs)) [] with
              | error e=>rw[he] at hx;cases hx
              | ok r=>
                obtain⟨x,F',h1⟩:=r;rw[he] at hx
                cases x<;>simp only at hx⊢
                all_goals first
                  | (cases Jt:finish C (call C false n) k fn F' h1 with
                     | none=>rw[Jt] at hx;cases hx
                     | some u=>
                       rw[Jt] at hx;simp only[Except.ok.injEq,Prod.mk.injEq] at hx⊢
                       exact⟨hx.2.symm,fun _=>⟨hx.1,trivial⟩⟩)
                  | cases hx
theorem Rt (S0:Sound C I B0):∀n,KI C I B0 n:=by
 intro n
 induction n using Nat.strongRecOn with
 |_ n ih=>exact lF S0 ih (fun m draw hm=>bc S0 (fun k hk=>ih k (Nat.lt_trans hk hm)) draw) fun m _=>Rl m
theorem Mk (S0:Sound C I B0)(draw:Bool)(n:Nat):OD C I B0 (call C draw n):=bc S0 (fun m _=>Rt S0 m) draw
end
end Go.Ai
