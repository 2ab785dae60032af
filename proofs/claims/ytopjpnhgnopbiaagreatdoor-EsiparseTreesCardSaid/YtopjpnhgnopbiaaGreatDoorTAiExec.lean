/-
  The evaluator is sound: what it answers, the program answers.
-/
import Derived.Test.YtopjpnhgnopbiaaGreatDoorTAiJump
import Derived.Test.YtopjpnhgnopbiaaGreatDoorTAiPre
import Derived.Defers
set_option linter.unusedVariables false
set_option linter.unusedSimpArgs false
set_option linter.unnecessarySimpa false
namespace Go.Ai
open Go.RowKit
def Js :XT->Exit
 |.normal=>.normal
 |.exit id=>.exit id
 |.goto l=>.goto l
 |.ret=>.ret
structure Sound (C:Bh) (I:World->Prop) (B0:Nat):Prop where
 hI:∀w w',I w->Below B0 w w'->I w'
 mixed:C.P.follows .mixedOrders=true
 IC:∀g cs,C.G g=some cs->AZ.Aw cs=true
 ident:Nv C
 fns:∀k,C.ok k=true->Callee C.P k
 WU:∀k g vs h v h',C.ok k=true->C.Cy k=some g->g vs h=some (v,h')->∀(E:Env) (args:List Value),E.h=h->Good C.G I B0 E->BJ E vs args->Calls C.P k args.toArray E.w (Fq C.G I B0 E v h')
 YP:∀k fn c,C.ok k=true->C.Cy k=none->C.E7 k=none->C.P.funcs[k]?=some fn->fn.body=some c->Bj C.P fn.ntmps (C.Gq k) c=true
 bf:∀k g vs v,C.ok k=true->C.E7 k=some g->g vs=some (true,v)->∀(E:Env) (args:List Value),E.h=[]->E.B=E.w.heap.size->Good C.G I B0 E->BJ E vs args->
  Calls C.P k args.toArray E.w (fun e w'=>∃c,e=.returned c/\Below E.w.heap.size E.w w'/\Rel {E with w:=w'} v c)
section
variable {C:Bh}{I:World->Prop}{B0:Nat}
def I7 (C:Bh)(I:World->Prop)(B0:Nat)(n:Nat):Prop:=
 ∀(f:FuncId) (c:Code) (F:Fr) (h:Hp) (x:XT) (F':Fr) (h':Hp) (m:Nat),exec C f n c F h=.ok (x,F',h')->Bj C.P m (C.Gq f) c=true->∀(E:Env) (a:Act),E.h=h->Good C.G I B0 E->AO E F a->m<=a.tmps.size->
  ∀Q:Exit->Act->World->Prop,(∀E' a',Step C.G I B0 E E'->E'.h=h'->AO E' F' a'->a'.tmps.size=a.tmps.size->(C.Cs f=true\/a'.defers=a.defers)->Q (Js x) a' E'.w)->c.wp C.P Q a E.w
theorem cj (g:Bool)(n l:Nat)(v:AV):n<=Fv g n l v:=by
 unfold Fv;split
 ·exact Nat.le_refl _
 ·split
  ·cases Nat.blt _ l
   ·exact Nat.le_refl _
   ·exact Nat.le_max_left _ _
  ·exact Nat.le_refl _
theorem ZP {g:Bool}{n l:Nat}{v:AV}(h:n<=l):Fv g n l v<=l:=by
 unfold Fv;split
 ·exact h
 ·split
  ·rename_i id
   cases hb:Nat.blt id l with
   |false=>exact h
   |true=>
    have:=Nat.le_of_ble_eq_true hb;exact Nat.max_le.2 ⟨h,this⟩
  ·exact h
theorem DT.trans' {D:Prop}{x y z:List Deferred}(h:D\/x=y)(k:D\/y=z):D\/x=z:=by
 rcases h with h|h
 ·exact .inl h
 ·rcases k with k|k
  ·exact .inl k
  ·exact .inr (h.trans k)
theorem WJ {F:Fr}{a:Act}{E:Env}(hf:AO E F a)(ls:List Nat):AO E (ls.map fun s=>(s,lk F s)) a:=by
 refine⟨fun s=> ?_,?_⟩
 ·induction ls with
  |nil=>exact⟨fun _=>trivial,fun h=>by cases h⟩
  |cons l ls ih=>
   simp only[List.map_cons,lk]
   cases hb:Nat.beq l s with
   |true=>
    have:=Nat.eq_of_beq_eq_true hb;subst this;exact hf.1 l
   |false=>exact ih
 ·induction ls with
  |nil=>trivial
  |cons l ls ih=>
   simp only[List.map_cons,lk]
   cases hb:Nat.beq l dS with
   |true=>
    have:=Nat.eq_of_beq_eq_true hb;subst this;exact hf.2
   |false=>exact ih
theorem GG (n:Nat)(h:Hp):∀(F:Fr) (s:Nat),lk (Cv n h F) s=((lk F s).1,strip n h (lk F s).2)
 |[],s=>rfl
 |(t,e)::r,s=>by
  show lk ((t,e.1,strip n h e.2)::Cv n h r) s=_;simp only[lk]
  cases hb:Nat.beq t s with
  |true=>rfl
  |false=>exact GG n h r s
theorem Ez.cut {n:Nat}{h:Hp}{E E':Env}(K:Cut n h E E'):∀{l:List AV} {ds:List Deferred},Ez E l ds->Ez E' (AP n h l) ds
 |[],_,h=>h
 |.fn f first cap::l,_,h=>by
  obtain⟨d,r,h1,⟨b,q1,q2,q3⟩,h3⟩:=h;exact⟨d,r,h1,⟨b,q1,BJ.cut K _ _ q2,BJ.cut K _ _ q3⟩,Ez.cut K h3⟩
theorem Qy {n:Nat}{h:Hp}{E E':Env}(K:Cut n h E E'){F:Fr}{a:Act}(hf:AO E F a):AO E' (Cv n h F) a:=by
 refine⟨fun s=> ?_,?_⟩
 ·rw[GG]
  exact⟨fun hg=>Rel.cut K _ _ ((hf.1 s).1 hg),(hf.1 s).2⟩
 ·rw[GG];have h2:=hf.2;revert h2;generalize (lk F dS).2=v;intro h2
  cases v with
  |Cs l=>exact Ez.cut K h2
  |ptr b o=>simp only[strip];cases Nat.blt b n<;>trivial
  |JW b o c d=>simp only[strip];cases Nat.blt b n<;>trivial
  |UO b=>simp only[strip];cases Nat.blt b n<;>trivial
  |CI b g d sz len=>simp only[strip];cases Nat.blt b n<;>trivial
  |BW b g d o=>simp only[strip];cases Nat.blt b n<;>trivial
  |Fz b g d sz es=>simp only[strip];cases Nat.blt b n<;>trivial
  |sl sz es own=>cases own<;>trivial
  |_=>trivial
theorem Yp (S0:Sound C I B0){n:Nat}(ih:∀m,m<n->I7 C I B0 m):∀(f:FuncId) (c:Code) (F:Fr) (h:Hp) (x:XT) (F':Fr) (h':Hp) (m:Nat),exec C f n (.loop c) F h=.ok (x,F',h')->Bj C.P m (C.Gq f) c=true->
  ∀(E:Env) (a:Act),E.h=h->Good C.G I B0 E->AO E F a->m<=a.tmps.size->
  ∀Q:Exit->Act->World->Prop,(∀E' a',Step C.G I B0 E E'->E'.h=h'->AO E' F' a'->a'.tmps.size=a.tmps.size->(C.Cs f=true\/a'.defers=a.defers)->Q (Js x) a' E'.w)->Code.rounds C.P c Q n a E.w:=by
 induction n with
 |zero=>intro f c F h x F' h' m hx;simp[exec] at hx
 |succ n Qo=>
  intro f c F h x F' h' m hx BD E a hE H hf hm Q hQ;rw[rounds_succ];simp only[exec] at hx
  cases hc:exec C f n c F h with
  |error e=>rw[hc] at hx;cases hx
  |ok r=>
   obtain⟨x1,F1,h1⟩:=r;rw[hc] at hx
   refine ih n (Nat.lt_succ_self n) f c F h x1 F1 h1 m hc BD E a hE H hf hm _ fun E1 a1 S1 KH LS GI SV=> ?_
   cases x1 with
   |normal=>
    simp only at hx
    cases ht:C.FB f with
    |false=>
     rw[ht] at hx
     exact Qo (fun k hk=>ih k (Nat.lt_succ_of_lt hk)) f c F1 h1 x F' h' m hx BD E1 a1 KH S1.Cg LS (by rw[GI];exact hm) Q
      fun E2 a2 S2 NU S7 JL Ud=>hQ E2 a2 (S1.trans S2) NU S7 (JL.trans GI) (DT.trans' Ud SV)
    |true=>
     rw[ht] at hx;subst hE;subst KH;obtain⟨K,S'⟩:=Lb H S1 S0.IC
     exact Qo (fun k hk=>ih k (Nat.lt_succ_of_lt hk)) f c _ _ x F' h' m hx BD {E1 with h:=(E1.h.take E.h.length).map (AL E.h.length E1.h)} a1 rfl S'.Cg (Qy K LS) (by rw[GI];exact hm) Q
      fun E2 a2 S2 NU S7 JL Ud=>hQ E2 a2 (S'.trans S2) NU S7 (JL.trans GI) (DT.trans' Ud SV)
   |_=>
    simp only[Except.ok.injEq,Prod.mk.injEq] at hx;obtain⟨rfl,rfl,rfl⟩:=hx;exact hQ E1 a1 S1 KH LS GI SV
theorem Yx {n:Nat}(ih:∀m,m<n->I7 C I B0 m):∀(f:FuncId) (c cur:Code) (F:Fr) (h:Hp) (x:XT) (F':Fr) (h':Hp) (m:Nat),Ds C f n c cur F h=.ok (x,F',h')->Bj C.P m (C.Gq f) c=true->Bj C.P m (C.Gq f) cur=true->
  ∀(E:Env) (a:Act),E.h=h->Good C.G I B0 E->AO E F a->m<=a.tmps.size->
  ∀Q:Exit->Act->World->Prop,(∀E' a',Step C.G I B0 E E'->E'.h=h'->AO E' F' a'->a'.tmps.size=a.tmps.size->(C.Cs f=true\/a'.defers=a.defers)->Q (Js x) a' E'.w)->OQ C.P c Q n cur a E.w:=by
 induction n with
 |zero=>intro f c cur F h x F' h' m hx;simp[Ds] at hx
 |succ n Qo=>
  intro f c cur F h x F' h' m hx BD sg E a hE H hf hm Q hQ;simp only[Ds] at hx;show cur.wp C.P (Exit.Nh c (OQ C.P c Q n) Q) a E.w
  cases hc:exec C f n cur F h with
  |error e=>rw[hc] at hx;cases hx
  |ok r=>
   obtain⟨x1,F1,h1⟩:=r;rw[hc] at hx
   refine ih n (Nat.lt_succ_self n) f cur F h x1 F1 h1 m hc sg E a hE H hf hm _ fun E1 a1 S1 KH LS GI SV=> ?_
   cases x1 with
   |goto l=>
    simp only at hx;simp only[Js,Exit.Nh]
    cases Gc:findLabel c l with
    |some rest=>
     rw[Gc] at hx
     exact Qo (fun k hk=>ih k (Nat.lt_succ_of_lt hk)) f c rest F1 h1 x F' h' m hx BD (FK BD Gc) E1 a1 KH S1.Cg LS (by rw[GI];exact hm) Q
      fun E2 a2 S2 NU S7 JL Ud=>hQ E2 a2 (S1.trans S2) NU S7 (JL.trans GI) (DT.trans' Ud SV)
    |none=>
     rw[Gc] at hx;simp only[Except.ok.injEq,Prod.mk.injEq] at hx;obtain⟨rfl,rfl,rfl⟩:=hx;exact hQ E1 a1 S1 KH LS GI SV
   |_=>
    simp only[Except.ok.injEq,Prod.mk.injEq] at hx;obtain⟨rfl,rfl,rfl⟩:=hx;exact hQ E1 a1 S1 KH LS GI SV
theorem gv (S0:Sound C I B0){n:Nat}(ih:∀m,m<n->I7 C I B0 m)(DZ:∀m draw,m<n->MY C I B0 (call C draw m))(HD:∀m,m<n->He (call C true m)):I7 C I B0 n:=by
 intro f c F h x F' h' m hx BD E a hE H hf hm Q hQ
 cases n with
 |zero=>simp[exec] at hx
 |succ n=>
  have Qo:=ih n (Nat.lt_succ_self n)
  cases c with
  |skip=>
   simp only[exec,Except.ok.injEq,Prod.mk.injEq] at hx;obtain⟨rfl,rfl,rfl⟩:=hx;exact wp_skip (hQ E a (Step.refl H) hE hf rfl (.inr rfl))
  |ret=>
   simp only[exec,Except.ok.injEq,Prod.mk.injEq] at hx;obtain⟨rfl,rfl,rfl⟩:=hx;exact wp_ret (hQ E a (Step.refl H) hE hf rfl (.inr rfl))
  |exit id=>
   simp only[exec,Except.ok.injEq,Prod.mk.injEq] at hx;obtain⟨rfl,rfl,rfl⟩:=hx;exact wp_exit (hQ E a (Step.refl H) hE hf rfl (.inr rfl))
  |seq p q=>
   simp only[Bj,Bool.and_eq_true] at BD;simp only[exec] at hx
   cases hc:exec C f n p F h with
   |error e=>rw[hc] at hx;cases hx
   |ok r=>
    obtain⟨x1,F1,h1⟩:=r;rw[hc] at hx
    refine wp_seq (Qo f p F h x1 F1 h1 m hc BD.1 E a hE H hf hm _ fun E1 a1 S1 KH LS GI SV=> ?_)
    cases x1 with
    |normal=>
     simp only at hx
     exact Qo f q F1 h1 x F' h' m hx BD.2 E1 a1 KH S1.Cg LS (by rw[GI];exact hm) Q fun E2 a2 S2 NU S7 JL Ud=>hQ E2 a2 (S1.trans S2) NU S7 (JL.trans GI) (DT.trans' Ud SV)
    |_=>
     simp only[Except.ok.injEq,Prod.mk.injEq] at hx;obtain⟨rfl,rfl,rfl⟩:=hx;exact hQ E1 a1 S1 KH LS GI SV
  |cond y p q=>
   simp only[Bj,Bool.and_eq_true] at BD;simp only[exec] at hx;split at hx
   ·rename_i MH;have hv:a.eval y=.bool true:=Aj H hf MH rfl;exact wp_cond_true hv (Qo f p F h x F' h' m hx BD.1 E a hE H hf hm Q hQ)
   ·rename_i MH;have hv:a.eval y=.bool false:=Aj H hf MH rfl;exact wp_cond_false hv (Qo f q F h x F' h' m hx BD.2 E a hE H hf hm Q hQ)
   ·cases hx
  |block id p=>
   simp only[Bj] at BD;simp only[exec] at hx
   cases hc:exec C f n p F h with
   |error e=>rw[hc] at hx;cases hx
   |ok r=>
    obtain⟨x1,F1,h1⟩:=r;rw[hc] at hx
    refine wp_block (Qo f p F h x1 F1 h1 m hc BD E a hE H hf hm _ fun E1 a1 S1 KH LS GI SV=> ?_)
    cases x1 with
    |exit lg=>
     simp only at hx
     show(if lg=id then Q .normal a1 E1.w else Q (.exit lg) a1 E1.w)
     cases hb:Nat.beq lg id with
     |true=>
      rw[hb] at hx;simp only[cond_true,Except.ok.injEq,Prod.mk.injEq] at hx;obtain⟨rfl,rfl,rfl⟩:=hx;rw[if_pos (Nat.eq_of_beq_eq_true hb)];exact hQ E1 a1 S1 KH LS GI SV
     |false=>
      rw[hb] at hx;simp only[cond_false,Except.ok.injEq,Prod.mk.injEq] at hx;obtain⟨rfl,rfl,rfl⟩:=hx
      rw[if_neg fun e=>by subst e;simp[Nat.beq_refl] at hb]
      exact hQ E1 a1 S1 KH LS GI SV
    |_=>
     simp only[Except.ok.injEq,Prod.mk.injEq] at hx;obtain⟨rfl,rfl,rfl⟩:=hx;exact hQ E1 a1 S1 KH LS GI SV
  |label l=>
   simp only[exec,Except.ok.injEq,Prod.mk.injEq] at hx;obtain⟨rfl,rfl,rfl⟩:=hx;exact wp_label (hQ E a (Step.refl H) hE hf rfl (.inr rfl))
  |goto l=>
   simp only[exec,Except.ok.injEq,Prod.mk.injEq] at hx;obtain⟨rfl,rfl,rfl⟩:=hx;exact wp_goto (hQ E a (Step.refl H) hE hf rfl (.inr rfl))
  |scope p=>
   simp only[Bj] at BD;simp only[exec] at hx
   exact NB n (Yx (fun k hk=>ih k (Nat.lt_succ_of_lt hk)) f p p F h x F' h' m hx BD BD E a hE H hf hm Q hQ)
  |loop p=>
   simp only[Bj] at BD;exact wp_loop_rounds (n+1) (Yp S0 ih f p F h x F' h' m hx BD E a hE H hf hm Q hQ)
  |region id ops draw=>
   simp only[Bj,Bool.and_eq_true] at BD;simp only[exec] at hx
   cases CE:draw&&C.Gq f id with
   |true=>
    rw[CE] at hx;simp only at hx;rw[Bool.and_eq_true] at CE;obtain⟨rfl,CE⟩:=CE
    have xW:LH ops=true:=by
     have:=BD.2;rw[CE] at this;simpa using this
    cases ho:Is C (fun d=>call C d n) ops ((C.live f id).map fun s=>(s,lk F s)) h with
    |error e=>rw[ho] at hx;cases hx
    |ok r=>
     obtain⟨F1,h1⟩:=r;rw[ho] at hx;simp only[Except.ok.injEq,Prod.mk.injEq] at hx;obtain⟨rfl,rfl,rfl⟩:=hx;subst hE
     exact Py S0.hI S0.mixed (fun d=>DZ n d (Nat.lt_succ_self n)) xW BD.1 ho H (WJ hf (C.live f id)) hm fun E' a' S Gn F7 hs hd=>hQ E' a' S Gn F7 hs (.inr hd)
   |false=>
   rw[CE] at hx;simp only at hx
   cases Wd:(!C.Cs f&&Eo ops.toList)||(draw&& !SL ops.toList (IK (FH ops draw) h.length ((C.live f id).map fun s=>(s,lk F s)))) with
   |true=>rw[Wd] at hx;cases hx
   |false=>
   rw[Wd] at hx;simp only at hx;rw[Bool.or_eq_false_iff] at Wd;obtain⟨gi,kb⟩:=Wd
   have tf:C.Cs f=true\/Eo ops.toList=false:=by
    cases h1:C.Cs f<;>simp_all
   cases ho:C9 C (fun d=>call C d n) ops draw 0 ops.toList (IK (FH ops draw) h.length ((C.live f id).map fun s=>(s,lk F s))) (Pv (FH ops draw) h) with
   |error e=>rw[ho] at hx;cases hx
   |ok r=>
    obtain⟨F1,h1⟩:=r;rw[ho] at hx;simp only[Except.ok.injEq,Prod.mk.injEq] at hx;obtain⟨rfl,rfl,rfl⟩:=hx;subst hE
    have fin:∀E' a',Step C.G I B0 E E'->E'.h=h1->AO E' F1 a'->a'.tmps.size=a.tmps.size->(C.Cs f=true\/a'.defers=a.defers)->Q .normal a' E'.w:=fun E' a' S Gn F7 hs hd=>hQ E' a' S Gn F7 hs hd
    obtain⟨E0,T0,nd,s6,oJ⟩:=Vp S0.hI (FH ops draw) H (WJ hf (C.live f id)) (TX BD.1)
    have fin:∀E' a',Step C.G I B0 E0 E'->E'.h=h1->AO E' F1 a'->a'.tmps.size=a.tmps.size->(C.Cs f=true\/a'.defers=a.defers)->Q .normal a' E'.w:=fun E' a' S=>fin E' a' (T0.trans S)
    have H:=T0.Cg;rw[<-s6] at ho;rw[<-nd]
    cases draw with
    |true=>
     exact Px S0.hI S0.mixed (fun d=>DZ n d (Nat.lt_succ_self n)) (HD n (Nat.lt_succ_self n)) (by
      have h1:C.Gq f id=false:=by simpa using CE
      have h2:=BD.2;rw[h1] at h2
      simpa using h2) BD.1 (cJ (by simpa using kb)) ho H oJ hm fun E' a' S Gn F7 hs hd=>fin E' a' S Gn F7 hs (.inr hd)
    |false=>
     have ho:=Jj _ _ _ _ ho;have SQ:=Lf ops ops.size (Nat.le_refl _)
     rw[List.take_of_length_le (by simp)] at SQ
     exact wp_region (Wu S0.hI (DZ n false (Nat.lt_succ_self n)) (List.range ops.size) _ E0.h F1 h1 (by rw[SQ];exact BD.1) (by rw[SQ];exact ho) E0 a rfl H oJ hm fun E' a' S Gn F7 hs hd=>fin E' a' S Gn F7 hs (by
      rcases hd with ⟨_,h2⟩|hd
      ·rw[SQ] at h2
       rcases tf with h|h
       ·exact .inl h
       ·rw[h] at h2;cases h2
      ·exact .inr hd))
  |_=>simp[exec] at hx
theorem Yr {E:Env}(H:Good C.G I B0 E){F:Fr}{a:Act}(hf:AO E F a){r:ResultVar}{g:Bool}{v:AV}(hr:OJ C.P F E.h r=some (g,v))(hg:g=true):
  ∃c,((match r with|.tmp t=>pure (a.tmps.getD t undef)|.cell x t=>do loadVar t (<-asAddr (a.tmps.getD x undef))):Sem Value).run C.P E.w=.ok c E.w/\Rel E v c:=by
 subst hg
 cases r with
 |tmp t=>
  simp only[OJ,Option.some.injEq] at hr
  have:=(hf.1 t).1 (by rw[hr])
  rw[hr] at this;exact⟨_,rfl,this⟩
 |cell x t=>
  simp only[OJ] at hr;split at hr
  ·rename_i g b o hl;split at hr
   ·rename_i cs hb
    cases ID:rd C.P t (cs.drop o) with
    |none=>rw[ID] at hr;cases hr
    |some u=>
     rw[ID] at hr;simp only[Option.map_some,Option.some.injEq,Prod.mk.injEq] at hr;obtain⟨rfl,rfl⟩:=hr
     have:=(hf.1 x).1 (by rw[hl])
     rw[hl] at this;obtain⟨t2,oo,gg,h2,h3,h4⟩:=this;rw[h2] at hb
     injection hb with hb
     injection hb with gn hb
     subst hb;obtain⟨c,k1,k2⟩:=TY ID (SK H h2 h3);refine⟨c,?_,k2⟩;simp only[h4,asAddr];simpa using k1
   ·cases hr
  ·cases hr
theorem Qc {E:Env}(H:Good C.G I B0 E){F:Fr}{a:Act}(hf:AO E F a):∀(rs:List ResultVar) {vs:List AV},Jz C.P F E.h rs=some (true,vs)->
  ∃cs,(rs.mapM (fun r=>((match r with|.tmp t=>pure (a.tmps.getD t undef)|.cell x t=>do loadVar t (<-asAddr (a.tmps.getD x undef))):Sem Value))).run C.P E.w=.ok cs E.w/\BJ E vs cs
 |[],vs,h=>by
  simp only[Jz,Option.some.injEq,Prod.mk.injEq] at h;obtain⟨-,rfl⟩:=h
  exact⟨[],by simp,rfl⟩
 |r::rs,vs,h=>by
  simp only[Jz] at h;split at h
  ·rename_i g v g' qC h1 h2;simp only[Option.some.injEq,Prod.mk.injEq,Bool.and_eq_true] at h;obtain⟨⟨rfl,rfl⟩,rfl⟩:=h;obtain⟨c,k1,k2⟩:=Yr H hf h1 rfl;obtain⟨cs,k3,k4⟩:=Qc H hf rs h2;refine⟨c::cs,?_,c,cs,rfl,k2,k4⟩;rw[List.mapM_cons,Sem.run_bind,k1,Result.andThen_ok,Sem.run_bind,k3,Result.andThen_ok];rfl
  ·cases h
theorem Lh {E:Env}(H:Good C.G I B0 E){F:Fr}{a:Act}(hf:AO E F a){fn:Func}{v:AV}(h:result C.P fn F E.h=some v):
  ∃c,(results fn a.tmps).run C.P E.w=.ok c E.w/\Rel E v c:=by
 unfold result at h
 have key:∀vs,Jz C.P F E.h fn.results.toList=some (true,vs)->∃cs:List Value,(results fn a.tmps).run C.P E.w=.ok (if h:cs.length=1 then cs[0] else .tuple cs.toArray) E.w/\BJ E vs cs:=by
  intro vs hv;obtain⟨cs,k1,k2⟩:=Qc H hf _ hv;refine⟨cs,?_,k2⟩
  have e:results fn a.tmps=(fn.results.toList.mapM (fun r=>((match r with|.tmp t=>pure (a.tmps.getD t undef)|.cell x t=>do loadVar t (<-asAddr (a.tmps.getD x undef))):Sem Value))) >>= fun cs=>
    pure (if h:cs.toArray.size=1 then cs.toArray[0] else .tuple cs.toArray):=by
   unfold results;rw[Array.mapM_eq_mapM_toList,bind_map_left];rfl
  rw[e,Sem.run_bind,k1,Result.andThen_ok]
  by_cases h1:cs.length=1
  ·simp[h1]
  ·simp[h1]
 split at h
 ·rename_i u hu
  injection h with h
  subst h;obtain⟨cs,k1,k2⟩:=key _ hu;obtain⟨c,r,rfl,q1,q2⟩:=k2;simp only[BJ] at q2;subst q2
  exact⟨c,by simpa using k1,q1⟩
 ·rename_i vs BT hu
  injection h with h
  subst h;obtain⟨cs,k1,k2⟩:=key _ hu;have hl:=k2.length
  have:¬cs.length=1:=fun h1=>by
   rw[hl] at h1;obtain⟨u,rfl⟩:=List.length_eq_one_iff.1 h1;exact BT u rfl
  rw[dif_neg this] at k1
  exact⟨_,k1,_,rfl,by simpa using k2⟩
 ·cases h
theorem Po :∀(vs:List AV) (n s:Nat),n<=dS->lk (DY n vs) s=(true,if s<n\/dS<=s then .top else(vs[s-n]?).getD .top)
 |[],n,s,_=>by simp[DY,lk]
 |v::vs,n,s,hn=>by
  simp only[DY]
  cases hd:Nat.beq n 1000000 with
  |true=>
   have:=Nat.eq_of_beq_eq_true hd
   rw[if_pos (by unfold dS;omega)]
   rfl
  |false=>
   have As:n<dS:=Nat.lt_of_le_of_ne hn fun e=>by subst e;simp[dS] at hd
   simp only[cond_false,lk];rw[Po vs (n+1) s As]
   cases hb:Nat.beq n s with
   |true=>
    have:=Nat.eq_of_beq_eq_true hb;subst this
    rw[cond_true,if_neg (by omega)]
    simp
   |false=>
    have BT:n≠s:=fun e=>by subst e;simp[Nat.beq_refl] at hb
    simp only[cond_false]
    by_cases h1:s<n\/dS<=s
    ·rw[if_pos h1,if_pos (by omega)]
    ·rw[if_neg h1,if_neg (by omega)]
     rw[show s-n=(s-(n+1))+1 by omega,List.getElem?_cons_succ]
theorem BJ.get {E:Env}:∀{xs:List AV} {vs:List Value},BJ E xs vs->∀(i:Nat) x,xs[i]?=some x->∃v,vs[i]?=some v/\Rel E x v
 |[],vs,_,i,x,hx=>by simp at hx
 |c::cs,vs,h,i,x,hx=>by
  obtain⟨v,r,rfl,h1,h2⟩:=h
  cases i with
  |zero=>
   simp only[List.getElem?_cons_zero,Option.some.injEq] at hx;subst hx;exact⟨v,rfl,h1⟩
  |succ i=>exact BJ.get h2 i x (by simpa using hx)
theorem LQ {E:Env}{vs:List AV}{args:List Value}(h:BJ E vs args)(n:Nat):AO E (DY 0 vs) {tmps:=args.toArray++Array.replicate (n-args.toArray.size) undef,defers:=[]}:=by
 refine⟨fun s=> ?_,by rw[Po vs 0 dS (by decide),if_pos (.inr (Nat.le_refl _))];trivial⟩
 rw[Po vs 0 s (by decide)]
 refine⟨fun _=> ?_,fun h=>by cases h⟩
 by_cases h1:s<0\/dS<=s
 ·rw[if_pos h1];trivial
 rw[if_neg h1];simp only[Nat.sub_zero]
 cases hv:vs[s]? with
 |none=>trivial
 |some x=>
  obtain⟨v,h1,h2⟩:=h.get s x hv;have As:s<args.length:=(List.getElem?_eq_some_iff.1 h1).1
  have Eh:(args.toArray++Array.replicate (n-args.toArray.size) undef).getD s undef=v:=by
   have h3:(args.toArray++Array.replicate (n-args.toArray.size) undef)[s]?=some v:=by
    rw[Array.getElem?_append_left (by simpa using As)]
    simpa using h1
   rw[Array.getD_eq_getD_getElem?,h3];rfl
  rw[Option.getD_some];exact Eh▸h2
theorem Qj :∀(F G:Fr) (s:Nat),lk (F++G) s=lk F s\/lk (F++G) s=lk G s
 |[],G,s=>.inr rfl
 |(t,e)::F,G,s=>by
  simp only[List.cons_append,lk]
  cases Nat.beq t s with
  |true=>exact .inl rfl
  |false=>exact Qj F G s
theorem VC :∀(vs:List AV) (n:Nat),n<=dS->∀G,lk (DY n vs++G) dS=lk G dS
 |[],n,_,G=>rfl
 |v::vs,n,hn,G=>by
  simp only[DY]
  cases hd:Nat.beq n 1000000 with
  |true=>rfl
  |false=>
   have Ud:Nat.beq n dS=false:=hd
   have As:n<dS:=Nat.lt_of_le_of_ne hn fun e=>by subst e;simp[dS] at hd
   simp only[cond_false,List.cons_append,lk,Ud];exact VC vs (n+1) As G
theorem JN {E:Env}{vs:List AV}{args:List Value}(h:BJ E vs args)(k:FuncId)(n:Nat):AO E (DD C k vs) {tmps:=args.toArray++Array.replicate (n-args.toArray.size) undef,defers:=[]}:=by
 have ha:=LQ h n;unfold DD
 cases C.Cs k with
 |false=>exact ha
 |true=>
  refine⟨fun s=> ?_,by simp only[VC vs 0 (by decide),lk,Nat.beq_refl,cond_true];exact rfl⟩
  rcases Qj (DY 0 vs) [(dS,true,.Cs [])] s with e|e
  ·rw[e];exact ha.1 s
  ·rw[e];simp only[lk]
   cases Nat.beq dS s with
   |true=>exact⟨fun _=>trivial,fun h=>by cases h⟩
   |false=>exact⟨fun _=>trivial,fun h=>by cases h⟩
def pt (C:Bh)(I:World->Prop)(B0:Nat)(cl:FuncId->List AV->Hp->Except (List Nat) (AV×Hp)):Prop:=
 ∀k vs h v h',C.Cy k=none->C.E7 k=none->C.Cs k=false->cl k vs h=.ok (v,h')->Callee C.P k/\∀(E:Env) (args:List Value),E.h=h->Good C.G I B0 E->BJ E vs args->
  ∀u,CallsD C.P k args.toArray u E.w fun e u' w'=>u'=u/\Fq C.G I B0 E v h' e w'
theorem XX {cl:FuncId->List AV->Hp->Except (List Nat) (AV×Hp)}(hD:pt C I B0 cl){fn:Func}{tmps:Array Value}{R:Ending->World->Prop}{h2:Hp}:
  ∀(l:List AV) (ds:List Deferred) (E:Env),Good C.G I B0 E->Ez E l ds->NF C cl l E.h=some h2->
   (∀E',Step C.G I B0 E E'->E'.h=h2->∃c,(results fn tmps).run C.P E'.w=.ok c E'.w/\R (.returned c) E'.w)->Leaves C.P fn tmps R ds .returning E.w
 |[],ds,E,H,Gs,hx,hR=>by
  simp only[Ez] at Gs;subst Gs;simp only[NF,Option.some.injEq] at hx;exact hR E (Step.refl H) hx
 |v::l,ds,E,H,Gs,hx,hR=>by
  obtain⟨d,r,rfl,h1,h3⟩:=Gs
  cases v with
  |fn f first cap=>
   cases f with
   |func k=>
    simp only[NF] at hx;split at hx
    ·rename_i v1 LU hc DZ;simp only[Bool.or_eq_false_iff,Option.isSome_eq_false_iff,Option.isNone_iff_eq_none] at hc;obtain⟨b,q1,q2,q3⟩:=h1;obtain⟨⟨yD,Mp,hb,Ky⟩,PE⟩:=hD k _ _ _ _ hc.1.1 hc.1.2 hc.2 DZ;have ly:=PE E _ rfl H (BJ.append q2 q3) .returning
     have Im:(d.args.toList++b.toList).toArray=d.args++b:=by apply Array.ext';simp
     rw[Im] at ly
     refine⟨by simp,.func k,b,k,d.args++b,q1,?_,?_⟩
     ·rw[q1];simp only[invoke,callFunc,Sem.run_bind,run_program,Result.andThen_ok,Mp,Ky,hb];rfl
     ·refine ly.mono fun e u' w' hp=> ?_
      obtain⟨rfl,c,E1,rfl,rfl,S,KH,_⟩:=hp;simp only[settle]
      exact XX hD l r E1 S.Cg (h3.mono S.le) (by rw[KH];exact hx) fun E' S' Gn=>hR E' (S.trans S') Gn
    ·cases hx
   |_=>simp[NF] at hx
  |_=>exact h1.elim
theorem ML {cl:FuncId->List AV->Hp->Except (List Nat) (AV×Hp)}(hD:pt C I B0 cl){k:FuncId}{fn:Func}{F:Fr}{u:AV}{h2:Hp}{E:Env}{a:Act}{R:Ending->World->Prop}
  (hx:finish C cl k fn F E.h=some (u,h2)) (H:Good C.G I B0 E) (hf:AO E F a) (hd:C.Cs k=true\/a.defers=[])
  (hR:∀E' c,Step C.G I B0 E E'->E'.h=h2->Rel E' u c->R (.returned c) E'.w):Leaves C.P fn a.tmps R a.defers .returning E.w:=by
 unfold finish at hx
 cases hk:C.Cs k with
 |false=>
  rw[hk] at hx;simp only at hx;split at hx
  ·rename_i v hv;simp only[Option.some.injEq,Prod.mk.injEq] at hx;obtain⟨rfl,rfl⟩:=hx
   rw[hd.resolve_left (by rw[hk];simp)]
   obtain⟨c,k1,k2⟩:=Lh H hf hv;exact⟨c,k1,hR E c (Step.refl H) rfl k2⟩
  ·cases hx
 |true=>
  rw[hk] at hx;simp only at hx;split at hx
  ·rename_i g l hl;split at hx
   ·rename_i h' CU;split at hx
    ·rename_i v hv;simp only[Option.some.injEq,Prod.mk.injEq] at hx;obtain⟨rfl,rfl⟩:=hx;have h2:=hf.2;rw[hl] at h2
     refine XX hD l a.defers E H h2 CU fun E' S Gn=> ?_
     obtain⟨c,k1,k2⟩:=Lh S.Cg (AO.mono S.le hf) (by rw[Gn];exact hv)
     exact⟨c,k1,hR E' c S Gn k2⟩
    ·cases hx
   ·cases hx
  ·cases hx
theorem YS (S0:Sound C I B0){n:Nat}(Qo:I7 C I B0 n)(hD:pt C I B0 (call C false n)){draw:Bool}{k:FuncId}{vs:List AV}{h:Hp}{v:AV}{h':Hp}(BD:C.ok k=true)(S6:C.Cy k=none)(hp:C.E7 k=none)
  (hx:call C draw (n+1) k vs h=.ok (v,h')):∃fn c,C.P.funcs[k]?=some fn/\fn.body=some c/\∀(E:Env) (args:List Value),E.h=h->Good C.G I B0 E->BJ E vs args->∀Q:Exit->Act->World->Prop,
   (∀x a' w',(x=.normal\/x=.ret)->(C.Cs k=true\/a'.defers=[])->Leaves C.P fn a'.tmps (Fq C.G I B0 E v h') a'.defers .returning w'->Q x a' w')->
   c.wp C.P Q {tmps:=args.toArray++Array.replicate (fn.ntmps-args.toArray.size) undef,defers:=[]} E.w:=by
 simp only[call] at hx;rw[BD,S6,hp] at hx;simp only[Bool.not_true,cond_false] at hx
 cases Mp:C.P.funcs[k]? with
 |none=>rw[Mp] at hx;cases hx
 |some fn=>
  rw[Mp] at hx;simp only at hx
  cases hb:fn.body with
  |none=>rw[hb] at hx;cases hx
  |some c=>
   rw[hb] at hx;simp only at hx
   refine⟨fn,c,rfl,hb,fun E args hE H CV Q hQ=> ?_⟩
   have H1:=Hs H S0.IC;have Io:=BJ.cut (Pc (E:=E)) vs args CV;have Il:=S0.YP k fn c BD S6 hp Mp hb
   have CC:fn.ntmps<=(args.toArray++Array.replicate (fn.ntmps-args.toArray.size) undef).size:=by simp;omega
   cases hh:C.heap k with
   |true=>
    rw[hh] at hx;simp only at hx
    cases draw with
    |true=>cases hx
    |false=>
     simp only[cond_false] at hx
     cases ny:C.pre k with
     |some m0=>
      rw[ny] at hx;simp only at hx;generalize Hm m0 h=m at hx
      cases gX:HN m h with
      |false=>rw[gX] at hx;cases hx
      |true=>
       rw[gX] at hx;simp only at hx;have hP:=ju gX hE;have H2:=cM H S0.IC hP;have ku:=BJ.cut (Xo H hP) vs args CV
       cases he:exec C k n c (DD C k (AP m [] vs)) ((h.take m).map (AL m [])) with
       |error e=>rw[he] at hx;cases hx
       |ok r=>
        obtain⟨x,F',h1⟩:=r;rw[he] at hx
        have fin:(x=.ret\/x=.normal)->(match finish C (call C false n) k fn F' h1 with|some (v,h1)=>Except.ok (stripR m h1 v,(h1.take m).map (AL m h1)++h.drop m)|none=>.error [k,1013])=(.ok (v,h'):Except (List Nat) (AV×Hp))->
          c.wp C.P Q {tmps:=args.toArray++Array.replicate (fn.ntmps-args.toArray.size) undef,defers:=[]} E.w:=by
         intro GH HA
         cases Ij:finish C (call C false n) k fn F' h1 with
         |none=>rw[Ij] at HA;cases HA
         |some u2=>
          obtain⟨u,h2⟩:=u2;rw[Ij] at HA;simp only[Except.ok.injEq,Prod.mk.injEq] at HA;obtain⟨rfl,rfl⟩:=HA
          refine Qo k c _ _ x F' h1 fn.ntmps he Il (UF E m) _ (by rw[<-hE];rfl) H2 (JN ku k fn.ntmps) CC _ fun E' a' S Gn F7 _ hd=> ?_
          refine hQ _ a' E'.w (by rcases GH with rfl|rfl<;>simp[Js]) hd (ML hD (by rw[Gn];exact Ij) S.Cg F7 hd fun E2 cv S2 NU hr=> ?_)
          obtain⟨K,S'⟩:=iG H S0.IC hP (S.trans S2);have hr:=Rel.Wz K u cv hr;rw[NU] at hr
          exact⟨cv,Fy E E2 m,rfl,rfl,S',by show(E2.h.take m).map (AL m E2.h)++E.h.drop m=_;rw[NU,hE],hr⟩
        cases x with
        |ret=>exact fin (.inl rfl) hx
        |normal=>exact fin (.inr rfl) hx
        |exit _=>cases hx
        |goto _=>cases hx
     |none=>
     rw[ny] at hx;simp only at hx
     cases he:exec C k n c (DD C k vs) h with
     |error e=>rw[he] at hx;cases hx
     |ok r=>
      obtain⟨x,F',h1⟩:=r;rw[he] at hx
      have fin:(x=.ret\/x=.normal)->(match finish C (call C false n) k fn F' h1 with|some (v,h1)=>Except.ok (stripR (Fv (C.KI k) h.length h1.length v) h1 v,(h1.take (Fv (C.KI k) h.length h1.length v)).map (AL (Fv (C.KI k) h.length h1.length v) h1))|none=>.error [k,1013])=(.ok (v,h'):Except (List Nat) (AV×Hp))->
        c.wp C.P Q {tmps:=args.toArray++Array.replicate (fn.ntmps-args.toArray.size) undef,defers:=[]} E.w:=by
       intro GH HA
       cases Ij:finish C (call C false n) k fn F' h1 with
       |none=>rw[Ij] at HA;cases HA
       |some u2=>
        obtain⟨u,h2⟩:=u2;rw[Ij] at HA;simp only[Except.ok.injEq,Prod.mk.injEq] at HA;obtain⟨rfl,rfl⟩:=HA
        refine Qo k c _ _ x F' h1 fn.ntmps he Il E _ hE H (JN CV k fn.ntmps) CC _ fun E' a' S Gn F7 _ hd=> ?_
        refine hQ _ a' E'.w (by rcases GH with rfl|rfl<;>simp[Js]) hd (ML hD (by rw[Gn];exact Ij) S.Cg F7 hd fun E2 cv S2 NU hr=> ?_)
        have S3:=S.trans S2
        have jF:E.h.length<=Fv (C.KI k) h.length h2.length u:=by rw[hE];exact cj _ _ _ _
        have O7:Fv (C.KI k) h.length h2.length u<=E2.h.length:=by
         have:=S3.le.len;rw[NU,hE] at this;rw[NU];exact ZP this
        obtain⟨K,S'⟩:=N9 H S3 S0.IC jF O7;have hr:=Rel.Wz K u cv hr;rw[NU] at hr;rw[NU] at S'
        exact⟨cv,{E2 with h:=(h2.take (Fv (C.KI k) h.length h2.length u)).map (AL (Fv (C.KI k) h.length h2.length u) h2)},rfl,rfl,S',rfl,hr⟩
      cases x with
      |ret=>exact fin (.inl rfl) hx
      |normal=>exact fin (.inr rfl) hx
      |exit _=>cases hx
      |goto _=>cases hx
   |false=>
    rw[hh] at hx;simp only at hx
    cases he:exec C k n c (DD C k (AP 0 [] vs)) [] with
    |error e=>rw[he] at hx;cases hx
    |ok r=>
     obtain⟨x,F',h1⟩:=r;rw[he] at hx
     have fin:(x=.ret\/x=.normal)->(match finish C (call C false n) k fn F' h1 with|some (v,h1)=>Except.ok (stripR 0 h1 v,h)|none=>.error [k,1013])=(.ok (v,h'):Except (List Nat) (AV×Hp))->
       c.wp C.P Q {tmps:=args.toArray++Array.replicate (fn.ntmps-args.toArray.size) undef,defers:=[]} E.w:=by
      intro GH HA
      cases Ij:finish C (call C false n) k fn F' h1 with
      |none=>rw[Ij] at HA;cases HA
      |some u2=>
       obtain⟨u,h2⟩:=u2;rw[Ij] at HA;simp only[Except.ok.injEq,Prod.mk.injEq] at HA;obtain⟨rfl,rfl⟩:=HA
       refine Qo k c _ _ x F' h1 fn.ntmps he Il (fresh E) _ rfl H1 (JN Io k fn.ntmps) CC _ fun E' a' S Gn F7 _ hd=> ?_
       refine hQ _ a' E'.w (by rcases GH with rfl|rfl<;>simp[Js]) hd (ML hD (by rw[Gn];exact Ij) S.Cg F7 hd fun E2 cv S2 NU hr=> ?_)
       have S3:=S.trans S2;have S':=Jx S0.hI H S3.below
       exact⟨cv,{E with w:=E2.w},rfl,rfl,S',hE,Rel.Wz (Sl H h2 S3.U (.inr ⟨NU.symm,S3.Cg,S3.le.B⟩)) u cv hr⟩
     cases x with
     |ret=>exact fin (.inl rfl) hx
     |normal=>exact fin (.inr rfl) hx
     |exit _=>cases hx
     |goto _=>cases hx
theorem Uz (S0:Sound C I B0):∀{n:Nat},(∀m,m<n->I7 C I B0 m)->pt C I B0 (call C false n)
 |0,_=>fun k vs h v h' _ _ _ hx=>by simp[call] at hx
 |n+1,ih=>fun k vs h v h' S6 hp FD hx=>by
  have BD:C.ok k=true:=by
   cases BD:C.ok k with
   |true=>rfl
   |false=>simp[call,BD] at hx
  obtain⟨fn,c,Mp,hb,hw⟩:=YS S0 (ih n (Nat.lt_succ_self n)) (Uz S0 fun m hm=>ih m (Nat.lt_succ_of_lt hm)) BD S6 hp hx
  refine⟨S0.fns k BD,fun E args hE H CV u=>callsD_of_wp Mp hb (hw E args hE H CV _ fun x a' w' GH hd hl=> ?_)⟩
  have Z9:=hd.resolve_left (by rw[FD];simp)
  rw[Z9] at hl;obtain⟨cv,k1,k2⟩:=hl
  rcases GH with rfl|rfl<;>exact⟨Z9,cv,k1,k2⟩
theorem YR (S0:Sound C I B0){n:Nat}(ih:∀m,m<n->I7 C I B0 m)(draw:Bool):MY C I B0 (call C draw n):=by
 refine⟨S0.ident,?_⟩;intro k vs h v h' hx
 cases n with
 |zero=>simp[call] at hx
 |succ n=>
  have BD:C.ok k=true:=by
   cases BD:C.ok k with
   |true=>rfl
   |false=>simp[call,BD] at hx
  refine⟨S0.fns k BD,fun E args hE H CV=> ?_⟩
  cases S6:C.Cy k with
  |some g=>
   simp only[call] at hx;rw[BD,S6] at hx;simp only[Bool.not_true,cond_false] at hx
   cases draw with
   |true=>cases hx
   |false=>
    simp only[cond_false] at hx
    cases hg:g vs h with
    |none=>rw[hg] at hx;cases hx
    |some r=>
     obtain⟨v1,h1⟩:=r;rw[hg] at hx;simp only[Except.ok.injEq,Prod.mk.injEq] at hx;obtain⟨rfl,rfl⟩:=hx;exact S0.WU k g vs h v1 h1 BD S6 hg E args hE H CV
  |none=>
   have H1:=Hs H S0.IC;have Io:=BJ.cut (Pc (E:=E)) vs args CV
   cases hp:C.E7 k with
   |some g=>
    simp only[call] at hx;rw[BD,S6,hp] at hx;simp only[Bool.not_true,cond_false] at hx;split at hx
    ·rename_i u hg;simp only[Except.ok.injEq,Prod.mk.injEq] at hx;obtain⟨rfl,rfl⟩:=hx
     refine(S0.bf k g _ _ BD hp hg (fresh E) args rfl rfl H1 Io).mono fun e w' UT=> ?_
     obtain⟨c,rfl,hb,hr⟩:=UT;have S:=Jx S0.hI H hb
     refine⟨c,{E with w:=w'},rfl,rfl,S,hE,?_⟩
     exact Rel.cut (Sl H [] (E':={fresh E with w:=w'}) rfl (.inl rfl)) u c hr
    ·cases hx
   |none=>
    obtain⟨fn,c,Mp,hb,hw⟩:=YS S0 (ih n (Nat.lt_succ_self n)) (Uz S0 fun m hm=>ih m (Nat.lt_succ_of_lt hm)) BD S6 hp hx
    refine calls_of_wp_defers Mp hb (hw E args hE H CV _ fun x a' w' GH _ hl=> ?_)
    rcases GH with rfl|rfl<;>exact hl
theorem Pg (n:Nat):He (call C true n):=by
  intro k vs h v h' hx
  cases n with
  | zero=>simp[call] at hx
  | succ n=>
    simp only[call] at hx⊢
    cases BD:C.ok k with
    | false=>rw[BD] at hx;cases hx
    | true=>
      rw[BD] at hx;simp only[Bool.not_true,cond_false] at hx⊢
      cases S6:C.Cy k with
      | some g=>rw[S6] at hx;cases hx
      | none=>
      rw[S6] at hx;simp only at hx⊢
      cases hp:C.E7 k with
      | some g=>
        rw[hp] at hx;simp only at hx⊢;split at hx
        · simp_all
        · cases hx
      | none=>
        rw[hp] at hx;simp only at hx⊢
        cases Mp:C.P.funcs[k]? with
        | none=>rw[Mp] at hx;cases hx
        | some fn=>
          rw[Mp] at hx;simp only at hx⊢
          cases hb:fn.body with
          | none=>rw[hb] at hx;cases hx
          | some c=>
            rw[hb] at hx;simp only at hx⊢
            cases hh:C.heap k with
            | true=>rw[hh] at hx;cases hx
            | false=>
              rw[hh] at hx;simp only at hx⊢
              cases he:exec C k n c (DD C k (AP 0 [] vs)) [] with
              | error e=>rw[he] at hx;cases hx
              | ok r=>
                obtain⟨x,F',h1⟩:=r;rw[he] at hx
                cases x<;>simp only at hx⊢
                all_goals first
                  | (cases Ij:finish C (call C false n) k fn F' h1 with
                     | none=>rw[Ij] at hx;cases hx
                     | some u=>
                       rw[Ij] at hx;simp only[Except.ok.injEq,Prod.mk.injEq] at hx⊢
                       exact⟨hx.2.symm,fun _=>⟨hx.1,trivial⟩⟩)
                  | cases hx
theorem Pp (S0:Sound C I B0):∀n,I7 C I B0 n:=by
 intro n
 induction n using Nat.strongRecOn with
 |_ n ih=>exact gv S0 ih (fun m draw hm=>YR S0 (fun k hk=>ih k (Nat.lt_trans hk hm)) draw) fun m _=>Pg m
theorem LK (S0:Sound C I B0)(draw:Bool)(n:Nat):MY C I B0 (call C draw n):=YR S0 (fun m _=>Pp S0 m) draw
end
end Go.Ai
