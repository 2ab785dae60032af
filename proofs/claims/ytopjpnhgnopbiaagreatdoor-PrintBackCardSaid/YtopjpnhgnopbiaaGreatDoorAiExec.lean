/-
  The evaluator is sound: what it answers, the program answers.
-/
import Derived.Test.YtopjpnhgnopbiaaGreatDoorAiJump
import Derived.Test.YtopjpnhgnopbiaaGreatDoorAiPre
import Derived.Defers
set_option linter.unusedVariables false
set_option linter.unusedSimpArgs false
set_option linter.unnecessarySimpa false
namespace Go.Ai
open Go.RowKit
def LF :XT->Exit
 |.normal=>.normal
 |.exit id=>.exit id
 |.goto l=>.goto l
 |.ret=>.ret
structure Sound (C:Bm) (I:World->Prop) (B0:Nat):Prop where
 hI:∀w w',I w->Below B0 w w'->I w'
 mixed:C.P.follows .mixedOrders=true
 JO:∀g cs,C.G g=some cs->AP.Ad cs=true
 ident:Pv C
 fns:∀k,C.ok k=true->Callee C.P k
 ZD:∀k g vs h v h',C.ok k=true->C.Cq k=some g->g vs h=some (v,h')->∀(E:Env) (args:List Value),E.h=h->Good C.G I B0 E->BU E vs args->Calls C.P k args.toArray E.w (Gm C.G I B0 E v h')
 bh:∀k fn c,C.ok k=true->C.Cq k=none->C.FP k=none->C.P.funcs[k]?=some fn->fn.body=some c->Bn C.P fn.ntmps (C.Ho k) c=true
 fq:∀k g vs v,C.ok k=true->C.FP k=some g->g vs=some (true,v)->∀(E:Env) (args:List Value),E.h=[]->E.B=E.w.heap.size->Good C.G I B0 E->BU E vs args->
  Calls C.P k args.toArray E.w (fun e w'=>∃c,e=.returned c/\Below E.w.heap.size E.w w'/\Rel {E with w:=w'} v c)
section
variable {C:Bm}{I:World->Prop}{B0:Nat}
def KM (C:Bm)(I:World->Prop)(B0:Nat)(n:Nat):Prop:=
 ∀(f:FuncId) (c:Code) (F:Fr) (h:Hp) (x:XT) (F':Fr) (h':Hp) (m:Nat),exec C f n c F h=.ok (x,F',h')->Bn C.P m (C.Ho f) c=true->∀(E:Env) (a:Act),E.h=h->Good C.G I B0 E->AR E F a->m<=a.tmps.size->
  ∀Q:Exit->Act->World->Prop,(∀E' a',Step C.G I B0 E E'->E'.h=h'->AR E' F' a'->a'.tmps.size=a.tmps.size->(C.DA f=true\/a'.defers=a.defers)->Q (LF x) a' E'.w)->c.wp C.P Q a E.w
theorem hC (g:Bool)(n l:Nat)(v:AV):n<=Gt g n l v:=by
 unfold Gt;split
 ·exact Nat.le_refl _
 ·split
  ·cases Nat.blt _ l
   ·exact Nat.le_refl _
   ·exact Nat.le_max_left _ _
  ·exact Nat.le_refl _
theorem dG {g:Bool}{n l:Nat}{v:AV}(h:n<=l):Gt g n l v<=l:=by
 unfold Gt;split
 ·exact h
 ·split
  ·rename_i id
   cases hb:Nat.blt id l with
   |false=>exact h
   |true=>
    have:=Nat.le_of_ble_eq_true hb;exact Nat.max_le.2 ⟨h,this⟩
  ·exact h
theorem DT.trans' {D:Prop}{x y z:List Deferred}(h:D\/x=y)(k:D\/y=z):D\/x=z:=by
 rcases h with h|h
 ·exact .inl h
 ·rcases k with k|k
  ·exact .inl k
  ·exact .inr (h.trans k)
theorem Yx {F:Fr}{a:Act}{E:Env}(hf:AR E F a)(ls:List Nat):AR E (ls.map fun s=>(s,lk F s)) a:=by
 refine⟨fun s=> ?_,?_⟩
 ·induction ls with
  |nil=>exact⟨fun _=>trivial,fun h=>by cases h⟩
  |cons l ls ih=>
   simp only[List.map_cons,lk]
   cases hb:Nat.beq l s with
   |true=>
    have:=Nat.eq_of_beq_eq_true hb;subst this;exact hf.1 l
   |false=>exact ih
 ·induction ls with
  |nil=>trivial
  |cons l ls ih=>
   simp only[List.map_cons,lk]
   cases hb:Nat.beq l dS with
   |true=>
    have:=Nat.eq_of_beq_eq_true hb;subst this;exact hf.2
   |false=>exact ih
theorem HH (n:Nat)(h:Hp):∀(F:Fr) (s:Nat),lk (DD n h F) s=((lk F s).1,strip n h (lk F s).2)
 |[],s=>rfl
 |(t,e)::r,s=>by
  show lk ((t,e.1,strip n h e.2)::DD n h r) s=_;simp only[lk]
  cases hb:Nat.beq t s with
  |true=>rfl
  |false=>exact HH n h r s
theorem Fs.cut {n:Nat}{h:Hp}{E E':Env}(K:Cut n h E E'):∀{l:List AV} {ds:List Deferred},Fs E l ds->Fs E' (AQ n h l) ds
 |[],_,h=>h
 |.fn f first cap::l,_,h=>by
  obtain⟨d,r,h1,⟨b,q1,q2,q3⟩,h3⟩:=h;exact⟨d,r,h1,⟨b,q1,BU.cut K _ _ q2,BU.cut K _ _ q3⟩,Fs.cut K h3⟩
theorem TQ {n:Nat}{h:Hp}{E E':Env}(K:Cut n h E E'){F:Fr}{a:Act}(hf:AR E F a):AR E' (DD n h F) a:=by
 refine⟨fun s=> ?_,?_⟩
 ·rw[HH]
  exact⟨fun hg=>Rel.cut K _ _ ((hf.1 s).1 hg),(hf.1 s).2⟩
 ·rw[HH];have h2:=hf.2;revert h2;generalize (lk F dS).2=v;intro h2
  cases v with
  |DA l=>exact Fs.cut K h2
  |ptr b o=>simp only[strip];cases Nat.blt b n<;>trivial
  |KV b o c d=>simp only[strip];cases Nat.blt b n<;>trivial
  |Wt b=>simp only[strip];cases Nat.blt b n<;>trivial
  |CL b g d sz len=>simp only[strip];cases Nat.blt b n<;>trivial
  |Bf b g d o=>simp only[strip];cases Nat.blt b n<;>trivial
  |G6 b g d sz es=>simp only[strip];cases Nat.blt b n<;>trivial
  |sl sz es own=>cases own<;>trivial
  |_=>trivial
theorem cQ (S0:Sound C I B0){n:Nat}(ih:∀m,m<n->KM C I B0 m):∀(f:FuncId) (c:Code) (F:Fr) (h:Hp) (x:XT) (F':Fr) (h':Hp) (m:Nat),exec C f n (.loop c) F h=.ok (x,F',h')->Bn C.P m (C.Ho f) c=true->
  ∀(E:Env) (a:Act),E.h=h->Good C.G I B0 E->AR E F a->m<=a.tmps.size->
  ∀Q:Exit->Act->World->Prop,(∀E' a',Step C.G I B0 E E'->E'.h=h'->AR E' F' a'->a'.tmps.size=a.tmps.size->(C.DA f=true\/a'.defers=a.defers)->Q (LF x) a' E'.w)->Code.rounds C.P c Q n a E.w:=by
 induction n with
 |zero=>intro f c F h x F' h' m hx;simp[exec] at hx
 |succ n TC=>
  intro f c F h x F' h' m hx Bk E a hE H hf hm Q hQ;rw[rounds_succ];simp only[exec] at hx
  cases hc:exec C f n c F h with
  |error e=>rw[hc] at hx;cases hx
  |ok r=>
   obtain⟨x1,F1,h1⟩:=r;rw[hc] at hx
   refine ih n (Nat.lt_succ_self n) f c F h x1 F1 h1 m hc Bk E a hE H hf hm _ fun E1 a1 S1 LZ Je Hk Od=> ?_
   cases x1 with
   |normal=>
    simp only at hx
    cases ht:C.Fy f with
    |false=>
     rw[ht] at hx
     exact TC (fun k hk=>ih k (Nat.lt_succ_of_lt hk)) f c F1 h1 x F' h' m hx Bk E1 a1 LZ S1.Cn Je (by rw[Hk];exact hm) Q
      fun E2 a2 S2 PS Uv Ky Jf=>hQ E2 a2 (S1.trans S2) PS Uv (Ky.trans Hk) (DT.trans' Jf Od)
    |true=>
     rw[ht] at hx;subst hE;subst LZ;obtain⟨K,S'⟩:=NH H S1 S0.JO
     exact TC (fun k hk=>ih k (Nat.lt_succ_of_lt hk)) f c _ _ x F' h' m hx Bk {E1 with h:=(E1.h.take E.h.length).map (AO E.h.length E1.h)} a1 rfl S'.Cn (TQ K Je) (by rw[Hk];exact hm) Q
      fun E2 a2 S2 PS Uv Ky Jf=>hQ E2 a2 (S'.trans S2) PS Uv (Ky.trans Hk) (DT.trans' Jf Od)
   |_=>
    simp only[Except.ok.injEq,Prod.mk.injEq] at hx;obtain⟨rfl,rfl,rfl⟩:=hx;exact hQ E1 a1 S1 LZ Je Hk Od
theorem cY {n:Nat}(ih:∀m,m<n->KM C I B0 m):∀(f:FuncId) (c cur:Code) (F:Fr) (h:Hp) (x:XT) (F':Fr) (h':Hp) (m:Nat),ER C f n c cur F h=.ok (x,F',h')->Bn C.P m (C.Ho f) c=true->Bn C.P m (C.Ho f) cur=true->
  ∀(E:Env) (a:Act),E.h=h->Good C.G I B0 E->AR E F a->m<=a.tmps.size->
  ∀Q:Exit->Act->World->Prop,(∀E' a',Step C.G I B0 E E'->E'.h=h'->AR E' F' a'->a'.tmps.size=a.tmps.size->(C.DA f=true\/a'.defers=a.defers)->Q (LF x) a' E'.w)->QZ C.P c Q n cur a E.w:=by
 induction n with
 |zero=>intro f c cur F h x F' h' m hx;simp[ER] at hx
 |succ n TC=>
  intro f c cur F h x F' h' m hx Bk wz E a hE H hf hm Q hQ;simp only[ER] at hx;show cur.wp C.P (Exit.Ph c (QZ C.P c Q n) Q) a E.w
  cases hc:exec C f n cur F h with
  |error e=>rw[hc] at hx;cases hx
  |ok r=>
   obtain⟨x1,F1,h1⟩:=r;rw[hc] at hx
   refine ih n (Nat.lt_succ_self n) f cur F h x1 F1 h1 m hc wz E a hE H hf hm _ fun E1 a1 S1 LZ Je Hk Od=> ?_
   cases x1 with
   |goto l=>
    simp only at hx;simp only[LF,Exit.Ph]
    cases HZ:findLabel c l with
    |some rest=>
     rw[HZ] at hx
     exact TC (fun k hk=>ih k (Nat.lt_succ_of_lt hk)) f c rest F1 h1 x F' h' m hx Bk (GH Bk HZ) E1 a1 LZ S1.Cn Je (by rw[Hk];exact hm) Q
      fun E2 a2 S2 PS Uv Ky Jf=>hQ E2 a2 (S1.trans S2) PS Uv (Ky.trans Hk) (DT.trans' Jf Od)
    |none=>
     rw[HZ] at hx;simp only[Except.ok.injEq,Prod.mk.injEq] at hx;obtain⟨rfl,rfl,rfl⟩:=hx;exact hQ E1 a1 S1 LZ Je Hk Od
   |_=>
    simp only[Except.ok.injEq,Prod.mk.injEq] at hx;obtain⟨rfl,rfl,rfl⟩:=hx;exact hQ E1 a1 S1 LZ Je Hk Od
theorem lW (S0:Sound C I B0){n:Nat}(ih:∀m,m<n->KM C I B0 m)(DU:∀m draw,m<n->OH C I B0 (call C draw m))(HI:∀m,m<n->Ir (call C true m)):KM C I B0 n:=by
 intro f c F h x F' h' m hx Bk E a hE H hf hm Q hQ
 cases n with
 |zero=>simp[exec] at hx
 |succ n=>
  have TC:=ih n (Nat.lt_succ_self n)
  cases c with
  |skip=>
   simp only[exec,Except.ok.injEq,Prod.mk.injEq] at hx;obtain⟨rfl,rfl,rfl⟩:=hx;exact wp_skip (hQ E a (Step.refl H) hE hf rfl (.inr rfl))
  |ret=>
   simp only[exec,Except.ok.injEq,Prod.mk.injEq] at hx;obtain⟨rfl,rfl,rfl⟩:=hx;exact wp_ret (hQ E a (Step.refl H) hE hf rfl (.inr rfl))
  |exit id=>
   simp only[exec,Except.ok.injEq,Prod.mk.injEq] at hx;obtain⟨rfl,rfl,rfl⟩:=hx;exact wp_exit (hQ E a (Step.refl H) hE hf rfl (.inr rfl))
  |seq p q=>
   simp only[Bn,Bool.and_eq_true] at Bk;simp only[exec] at hx
   cases hc:exec C f n p F h with
   |error e=>rw[hc] at hx;cases hx
   |ok r=>
    obtain⟨x1,F1,h1⟩:=r;rw[hc] at hx
    refine wp_seq (TC f p F h x1 F1 h1 m hc Bk.1 E a hE H hf hm _ fun E1 a1 S1 LZ Je Hk Od=> ?_)
    cases x1 with
    |normal=>
     simp only at hx
     exact TC f q F1 h1 x F' h' m hx Bk.2 E1 a1 LZ S1.Cn Je (by rw[Hk];exact hm) Q fun E2 a2 S2 PS Uv Ky Jf=>hQ E2 a2 (S1.trans S2) PS Uv (Ky.trans Hk) (DT.trans' Jf Od)
    |_=>
     simp only[Except.ok.injEq,Prod.mk.injEq] at hx;obtain⟨rfl,rfl,rfl⟩:=hx;exact hQ E1 a1 S1 LZ Je Hk Od
  |cond y p q=>
   simp only[Bn,Bool.and_eq_true] at Bk;simp only[exec] at hx;split at hx
   ·rename_i Nr;have hv:a.eval y=.bool true:=Ah H hf Nr rfl;exact wp_cond_true hv (TC f p F h x F' h' m hx Bk.1 E a hE H hf hm Q hQ)
   ·rename_i Nr;have hv:a.eval y=.bool false:=Ah H hf Nr rfl;exact wp_cond_false hv (TC f q F h x F' h' m hx Bk.2 E a hE H hf hm Q hQ)
   ·cases hx
  |block id p=>
   simp only[Bn] at Bk;simp only[exec] at hx
   cases hc:exec C f n p F h with
   |error e=>rw[hc] at hx;cases hx
   |ok r=>
    obtain⟨x1,F1,h1⟩:=r;rw[hc] at hx
    refine wp_block (TC f p F h x1 F1 h1 m hc Bk E a hE H hf hm _ fun E1 a1 S1 LZ Je Hk Od=> ?_)
    cases x1 with
    |exit qK=>
     simp only at hx
     show(if qK=id then Q .normal a1 E1.w else Q (.exit qK) a1 E1.w)
     cases hb:Nat.beq qK id with
     |true=>
      rw[hb] at hx;simp only[cond_true,Except.ok.injEq,Prod.mk.injEq] at hx;obtain⟨rfl,rfl,rfl⟩:=hx;rw[if_pos (Nat.eq_of_beq_eq_true hb)];exact hQ E1 a1 S1 LZ Je Hk Od
     |false=>
      rw[hb] at hx;simp only[cond_false,Except.ok.injEq,Prod.mk.injEq] at hx;obtain⟨rfl,rfl,rfl⟩:=hx
      rw[if_neg fun e=>by subst e;simp[Nat.beq_refl] at hb]
      exact hQ E1 a1 S1 LZ Je Hk Od
    |_=>
     simp only[Except.ok.injEq,Prod.mk.injEq] at hx;obtain⟨rfl,rfl,rfl⟩:=hx;exact hQ E1 a1 S1 LZ Je Hk Od
  |label l=>
   simp only[exec,Except.ok.injEq,Prod.mk.injEq] at hx;obtain⟨rfl,rfl,rfl⟩:=hx;exact wp_label (hQ E a (Step.refl H) hE hf rfl (.inr rfl))
  |goto l=>
   simp only[exec,Except.ok.injEq,Prod.mk.injEq] at hx;obtain⟨rfl,rfl,rfl⟩:=hx;exact wp_goto (hQ E a (Step.refl H) hE hf rfl (.inr rfl))
  |scope p=>
   simp only[Bn] at Bk;simp only[exec] at hx
   exact Ox n (cY (fun k hk=>ih k (Nat.lt_succ_of_lt hk)) f p p F h x F' h' m hx Bk Bk E a hE H hf hm Q hQ)
  |loop p=>
   simp only[Bn] at Bk;exact wp_loop_rounds (n+1) (cQ S0 ih f p F h x F' h' m hx Bk E a hE H hf hm Q hQ)
  |region id ops draw=>
   simp only[Bn,Bool.and_eq_true] at Bk;simp only[exec] at hx
   cases CG:draw&&C.Ho f id with
   |true=>
    rw[CG] at hx;simp only at hx;rw[Bool.and_eq_true] at CG;obtain⟨rfl,CG⟩:=CG
    have hda:Mk ops=true:=by
     have:=Bk.2;rw[CG] at this;simpa using this
    cases ho:KC C (fun d=>call C d n) ops ((C.live f id).map fun s=>(s,lk F s)) h with
    |error e=>rw[ho] at hx;cases hx
    |ok r=>
     obtain⟨F1,h1⟩:=r;rw[ho] at hx;simp only[Except.ok.injEq,Prod.mk.injEq] at hx;obtain⟨rfl,rfl,rfl⟩:=hx;subst hE
     exact SA S0.hI S0.mixed (fun d=>DU n d (Nat.lt_succ_self n)) hda Bk.1 ho H (Yx hf (C.live f id)) hm fun E' a' S Hl FT hs hd=>hQ E' a' S Hl FT hs (.inr hd)
   |false=>
   rw[CG] at hx;simp only at hx
   cases ZN:(!C.DA f&&Fg ops.toList)||(draw&& !Uj ops.toList (JZ (GD ops draw) h.length ((C.live f id).map fun s=>(s,lk F s)))) with
   |true=>rw[ZN] at hx;cases hx
   |false=>
   rw[ZN] at hx;simp only at hx;rw[Bool.or_eq_false_iff] at ZN;obtain⟨bQ,o6⟩:=ZN
   have xx:C.DA f=true\/Fg ops.toList=false:=by
    cases h1:C.DA f<;>simp_all
   cases ho:DJ C (fun d=>call C d n) ops draw 0 ops.toList (JZ (GD ops draw) h.length ((C.live f id).map fun s=>(s,lk F s))) (R7 (GD ops draw) h) with
   |error e=>rw[ho] at hx;cases hx
   |ok r=>
    obtain⟨F1,h1⟩:=r;rw[ho] at hx;simp only[Except.ok.injEq,Prod.mk.injEq] at hx;obtain⟨rfl,rfl,rfl⟩:=hx;subst hE
    have fin:∀E' a',Step C.G I B0 E E'->E'.h=h1->AR E' F1 a'->a'.tmps.size=a.tmps.size->(C.DA f=true\/a'.defers=a.defers)->Q .normal a' E'.w:=fun E' a' S Hl FT hs hd=>hQ E' a' S Hl FT hs hd
    obtain⟨E0,T0,sN,xJ,eL⟩:=YX S0.hI (GD ops draw) H (Yx hf (C.live f id)) (Vx Bk.1)
    have fin:∀E' a',Step C.G I B0 E0 E'->E'.h=h1->AR E' F1 a'->a'.tmps.size=a.tmps.size->(C.DA f=true\/a'.defers=a.defers)->Q .normal a' E'.w:=fun E' a' S=>fin E' a' (T0.trans S)
    have H:=T0.Cn;rw[<-xJ] at ho;rw[<-sN]
    cases draw with
    |true=>
     exact R9 S0.hI S0.mixed (fun d=>DU n d (Nat.lt_succ_self n)) (HI n (Nat.lt_succ_self n)) (by
      have h1:C.Ho f id=false:=by simpa using CG
      have h2:=Bk.2;rw[h1] at h2
      simpa using h2) Bk.1 (gV (by simpa using o6)) ho H eL hm fun E' a' S Hl FT hs hd=>fin E' a' S Hl FT hs (.inr hd)
    |false=>
     have ho:=K2 _ _ _ _ ho;have Ur:=NK ops ops.size (Nat.le_refl _)
     rw[List.take_of_length_le (by simp)] at Ur
     exact wp_region (Ze S0.hI (DU n false (Nat.lt_succ_self n)) (List.range ops.size) _ E0.h F1 h1 (by rw[Ur];exact Bk.1) (by rw[Ur];exact ho) E0 a rfl H eL hm fun E' a' S Hl FT hs hd=>fin E' a' S Hl FT hs (by
      rcases hd with ⟨_,h2⟩|hd
      ·rw[Ur] at h2
       rcases xx with h|h
       ·exact .inl h
       ·rw[h] at h2;cases h2
      ·exact .inr hd))
  |_=>simp[exec] at hx
theorem cR {E:Env}(H:Good C.G I B0 E){F:Fr}{a:Act}(hf:AR E F a){r:ResultVar}{g:Bool}{v:AV}(hr:QS C.P F E.h r=some (g,v))(hg:g=true):
  ∃c,((match r with|.tmp t=>pure (a.tmps.getD t undef)|.cell x t=>do loadVar t (<-asAddr (a.tmps.getD x undef))):Sem Value).run C.P E.w=.ok c E.w/\Rel E v c:=by
 subst hg
 cases r with
 |tmp t=>
  simp only[QS,Option.some.injEq] at hr
  have:=(hf.1 t).1 (by rw[hr])
  rw[hr] at this;exact⟨_,rfl,this⟩
 |cell x t=>
  simp only[QS] at hr;split at hr
  ·rename_i g b o hl;split at hr
   ·rename_i cs hb
    cases JQ:rd C.P t (cs.drop o) with
    |none=>rw[JQ] at hr;cases hr
    |some u=>
     rw[JQ] at hr;simp only[Option.map_some,Option.some.injEq,Prod.mk.injEq] at hr;obtain⟨rfl,rfl⟩:=hr
     have:=(hf.1 x).1 (by rw[hl])
     rw[hl] at this;obtain⟨t2,tR,gg,h2,h3,h4⟩:=this;rw[h2] at hb
     injection hb with hb
     injection hb with lQ hb
     subst hb;obtain⟨c,k1,k2⟩:=Vy JQ (Uh H h2 h3);refine⟨c,?_,k2⟩;simp only[h4,asAddr];simpa using k1
   ·cases hr
  ·cases hr
theorem Sn {E:Env}(H:Good C.G I B0 E){F:Fr}{a:Act}(hf:AR E F a):∀(rs:List ResultVar) {vs:List AV},LM C.P F E.h rs=some (true,vs)->
  ∃cs,(rs.mapM (fun r=>((match r with|.tmp t=>pure (a.tmps.getD t undef)|.cell x t=>do loadVar t (<-asAddr (a.tmps.getD x undef))):Sem Value))).run C.P E.w=.ok cs E.w/\BU E vs cs
 |[],vs,h=>by
  simp only[LM,Option.some.injEq,Prod.mk.injEq] at h;obtain⟨-,rfl⟩:=h
  exact⟨[],by simp,rfl⟩
 |r::rs,vs,h=>by
  simp only[LM] at h;split at h
  ·rename_i g v g' ua h1 h2;simp only[Option.some.injEq,Prod.mk.injEq,Bool.and_eq_true] at h;obtain⟨⟨rfl,rfl⟩,rfl⟩:=h;obtain⟨c,k1,k2⟩:=cR H hf h1 rfl;obtain⟨cs,k3,k4⟩:=Sn H hf rs h2;refine⟨c::cs,?_,c,cs,rfl,k2,k4⟩;rw[List.mapM_cons,Sem.run_bind,k1,Result.andThen_ok,Sem.run_bind,k3,Result.andThen_ok];rfl
  ·cases h
theorem NM {E:Env}(H:Good C.G I B0 E){F:Fr}{a:Act}(hf:AR E F a){fn:Func}{v:AV}(h:result C.P fn F E.h=some v):
  ∃c,(results fn a.tmps).run C.P E.w=.ok c E.w/\Rel E v c:=by
 unfold result at h
 have key:∀vs,LM C.P F E.h fn.results.toList=some (true,vs)->∃cs:List Value,(results fn a.tmps).run C.P E.w=.ok (if h:cs.length=1 then cs[0] else .tuple cs.toArray) E.w/\BU E vs cs:=by
  intro vs hv;obtain⟨cs,k1,k2⟩:=Sn H hf _ hv;refine⟨cs,?_,k2⟩
  have e:results fn a.tmps=(fn.results.toList.mapM (fun r=>((match r with|.tmp t=>pure (a.tmps.getD t undef)|.cell x t=>do loadVar t (<-asAddr (a.tmps.getD x undef))):Sem Value))) >>= fun cs=>
    pure (if h:cs.toArray.size=1 then cs.toArray[0] else .tuple cs.toArray):=by
   unfold results;rw[Array.mapM_eq_mapM_toList,bind_map_left];rfl
  rw[e,Sem.run_bind,k1,Result.andThen_ok]
  by_cases h1:cs.length=1
  ·simp[h1]
  ·simp[h1]
 split at h
 ·rename_i u hu
  injection h with h
  subst h;obtain⟨cs,k1,k2⟩:=key _ hu;obtain⟨c,r,rfl,q1,q2⟩:=k2;simp only[BU] at q2;subst q2
  exact⟨c,by simpa using k1,q1⟩
 ·rename_i vs BO hu
  injection h with h
  subst h;obtain⟨cs,k1,k2⟩:=key _ hu;have hl:=k2.length
  have:¬cs.length=1:=fun h1=>by
   rw[hl] at h1;obtain⟨u,rfl⟩:=List.length_eq_one_iff.1 h1;exact BO u rfl
  rw[dif_neg this] at k1
  exact⟨_,k1,_,rfl,by simpa using k2⟩
 ·cases h
theorem Ru :∀(vs:List AV) (n s:Nat),n<=dS->lk (D8 n vs) s=(true,if s<n\/dS<=s then .top else(vs[s-n]?).getD .top)
 |[],n,s,_=>by simp[D8,lk]
 |v::vs,n,s,hn=>by
  simp only[D8]
  cases hd:Nat.beq n 1000000 with
  |true=>
   have:=Nat.eq_of_beq_eq_true hd
   rw[if_pos (by unfold dS;omega)]
   rfl
  |false=>
   have BC:n<dS:=Nat.lt_of_le_of_ne hn fun e=>by subst e;simp[dS] at hd
   simp only[cond_false,lk];rw[Ru vs (n+1) s BC]
   cases hb:Nat.beq n s with
   |true=>
    have:=Nat.eq_of_beq_eq_true hb;subst this
    rw[cond_true,if_neg (by omega)]
    simp
   |false=>
    have BO:n≠s:=fun e=>by subst e;simp[Nat.beq_refl] at hb
    simp only[cond_false]
    by_cases h1:s<n\/dS<=s
    ·rw[if_pos h1,if_pos (by omega)]
    ·rw[if_neg h1,if_neg (by omega)]
     rw[show s-n=(s-(n+1))+1 by omega,List.getElem?_cons_succ]
theorem BU.get {E:Env}:∀{xs:List AV} {vs:List Value},BU E xs vs->∀(i:Nat) x,xs[i]?=some x->∃v,vs[i]?=some v/\Rel E x v
 |[],vs,_,i,x,hx=>by simp at hx
 |c::cs,vs,h,i,x,hx=>by
  obtain⟨v,r,rfl,h1,h2⟩:=h
  cases i with
  |zero=>
   simp only[List.getElem?_cons_zero,Option.some.injEq] at hx;subst hx;exact⟨v,rfl,h1⟩
  |succ i=>exact BU.get h2 i x (by simpa using hx)
theorem Mv {E:Env}{vs:List AV}{args:List Value}(h:BU E vs args)(n:Nat):AR E (D8 0 vs) {tmps:=args.toArray++Array.replicate (n-args.toArray.size) undef,defers:=[]}:=by
 refine⟨fun s=> ?_,by rw[Ru vs 0 dS (by decide),if_pos (.inr (Nat.le_refl _))];trivial⟩
 rw[Ru vs 0 s (by decide)]
 refine⟨fun _=> ?_,fun h=>by cases h⟩
 by_cases h1:s<0\/dS<=s
 ·rw[if_pos h1];trivial
 rw[if_neg h1];simp only[Nat.sub_zero]
 cases hv:vs[s]? with
 |none=>trivial
 |some x=>
  obtain⟨v,h1,h2⟩:=h.get s x hv;have BC:s<args.length:=(List.getElem?_eq_some_iff.1 h1).1
  have FQ:(args.toArray++Array.replicate (n-args.toArray.size) undef).getD s undef=v:=by
   have h3:(args.toArray++Array.replicate (n-args.toArray.size) undef)[s]?=some v:=by
    rw[Array.getElem?_append_left (by simpa using BC)]
    simpa using h1
   rw[Array.getD_eq_getD_getElem?,h3];rfl
  rw[Option.getD_some];exact FQ▸h2
theorem S6 :∀(F G:Fr) (s:Nat),lk (F++G) s=lk F s\/lk (F++G) s=lk G s
 |[],G,s=>.inr rfl
 |(t,e)::F,G,s=>by
  simp only[List.cons_append,lk]
  cases Nat.beq t s with
  |true=>exact .inl rfl
  |false=>exact S6 F G s
theorem Xj :∀(vs:List AV) (n:Nat),n<=dS->∀G,lk (D8 n vs++G) dS=lk G dS
 |[],n,_,G=>rfl
 |v::vs,n,hn,G=>by
  simp only[D8]
  cases hd:Nat.beq n 1000000 with
  |true=>rfl
  |false=>
   have Jf:Nat.beq n dS=false:=hd
   have BC:n<dS:=Nat.lt_of_le_of_ne hn fun e=>by subst e;simp[dS] at hd
   simp only[cond_false,List.cons_append,lk,Jf];exact Xj vs (n+1) BC G
theorem Kd {E:Env}{vs:List AV}{args:List Value}(h:BU E vs args)(k:FuncId)(n:Nat):AR E (DM C k vs) {tmps:=args.toArray++Array.replicate (n-args.toArray.size) undef,defers:=[]}:=by
 have ha:=Mv h n;unfold DM
 cases C.DA k with
 |false=>exact ha
 |true=>
  refine⟨fun s=> ?_,by simp only[Xj vs 0 (by decide),lk,Nat.beq_refl,cond_true];exact rfl⟩
  rcases S6 (D8 0 vs) [(dS,true,.DA [])] s with e|e
  ·rw[e];exact ha.1 s
  ·rw[e];simp only[lk]
   cases Nat.beq dS s with
   |true=>exact⟨fun _=>trivial,fun h=>by cases h⟩
   |false=>exact⟨fun _=>trivial,fun h=>by cases h⟩
def uV (C:Bm)(I:World->Prop)(B0:Nat)(cl:FuncId->List AV->Hp->Except (List Nat) (AV×Hp)):Prop:=
 ∀k vs h v h',C.Cq k=none->C.FP k=none->C.DA k=false->cl k vs h=.ok (v,h')->Callee C.P k/\∀(E:Env) (args:List Value),E.h=h->Good C.G I B0 E->BU E vs args->
  ∀u,CallsD C.P k args.toArray u E.w fun e u' w'=>u'=u/\Gm C.G I B0 E v h' e w'
theorem aS {cl:FuncId->List AV->Hp->Except (List Nat) (AV×Hp)}(hD:uV C I B0 cl){fn:Func}{tmps:Array Value}{R:Ending->World->Prop}{h2:Hp}:
  ∀(l:List AV) (ds:List Deferred) (E:Env),Good C.G I B0 E->Fs E l ds->O7 C cl l E.h=some h2->
   (∀E',Step C.G I B0 E E'->E'.h=h2->∃c,(results fn tmps).run C.P E'.w=.ok c E'.w/\R (.returned c) E'.w)->Leaves C.P fn tmps R ds .returning E.w
 |[],ds,E,H,Hy,hx,hR=>by
  simp only[Fs] at Hy;subst Hy;simp only[O7,Option.some.injEq] at hx;exact hR E (Step.refl H) hx
 |v::l,ds,E,H,Hy,hx,hR=>by
  obtain⟨d,r,rfl,h1,h3⟩:=Hy
  cases v with
  |fn f first cap=>
   cases f with
   |func k=>
    simp only[O7] at hx;split at hx
    ·rename_i v1 Lp hc DU;simp only[Bool.or_eq_false_iff,Option.isSome_eq_false_iff,Option.isNone_iff_eq_none] at hc;obtain⟨b,q1,q2,q3⟩:=h1;obtain⟨⟨fn',Ob,hb,MS⟩,RL⟩:=hD k _ _ _ _ hc.1.1 hc.1.2 hc.2 DU;have qY:=RL E _ rfl H (BU.append q2 q3) .returning
     have J7:(d.args.toList++b.toList).toArray=d.args++b:=by apply Array.ext';simp
     rw[J7] at qY
     refine⟨by simp,.func k,b,k,d.args++b,q1,?_,?_⟩
     ·rw[q1];simp only[invoke,callFunc,Sem.run_bind,run_program,Result.andThen_ok,Ob,MS,hb];rfl
     ·refine qY.mono fun e u' w' hp=> ?_
      obtain⟨rfl,c,E1,rfl,rfl,S,LZ,_⟩:=hp;simp only[settle]
      exact aS hD l r E1 S.Cn (h3.mono S.le) (by rw[LZ];exact hx) fun E' S' Hl=>hR E' (S.trans S') Hl
    ·cases hx
   |_=>simp[O7] at hx
  |_=>exact h1.elim
theorem Nv {cl:FuncId->List AV->Hp->Except (List Nat) (AV×Hp)}(hD:uV C I B0 cl){k:FuncId}{fn:Func}{F:Fr}{u:AV}{h2:Hp}{E:Env}{a:Act}{R:Ending->World->Prop}
  (hx:finish C cl k fn F E.h=some (u,h2)) (H:Good C.G I B0 E) (hf:AR E F a) (hd:C.DA k=true\/a.defers=[])
  (hR:∀E' c,Step C.G I B0 E E'->E'.h=h2->Rel E' u c->R (.returned c) E'.w):Leaves C.P fn a.tmps R a.defers .returning E.w:=by
 unfold finish at hx
 cases hk:C.DA k with
 |false=>
  rw[hk] at hx;simp only at hx;split at hx
  ·rename_i v hv;simp only[Option.some.injEq,Prod.mk.injEq] at hx;obtain⟨rfl,rfl⟩:=hx
   rw[hd.resolve_left (by rw[hk];simp)]
   obtain⟨c,k1,k2⟩:=NM H hf hv;exact⟨c,k1,hR E c (Step.refl H) rfl k2⟩
  ·cases hx
 |true=>
  rw[hk] at hx;simp only at hx;split at hx
  ·rename_i g l hl;split at hx
   ·rename_i h' Cb;split at hx
    ·rename_i v hv;simp only[Option.some.injEq,Prod.mk.injEq] at hx;obtain⟨rfl,rfl⟩:=hx;have h2:=hf.2;rw[hl] at h2
     refine aS hD l a.defers E H h2 Cb fun E' S Hl=> ?_
     obtain⟨c,k1,k2⟩:=NM S.Cn (AR.mono S.le hf) (by rw[Hl];exact hv)
     exact⟨c,k1,hR E' c S Hl k2⟩
    ·cases hx
   ·cases hx
  ·cases hx
theorem bm (S0:Sound C I B0){n:Nat}(TC:KM C I B0 n)(hD:uV C I B0 (call C false n)){draw:Bool}{k:FuncId}{vs:List AV}{h:Hp}{v:AV}{h':Hp}(Bk:C.ok k=true)(VY:C.Cq k=none)(hp:C.FP k=none)
  (hx:call C draw (n+1) k vs h=.ok (v,h')):∃fn c,C.P.funcs[k]?=some fn/\fn.body=some c/\∀(E:Env) (args:List Value),E.h=h->Good C.G I B0 E->BU E vs args->∀Q:Exit->Act->World->Prop,
   (∀x a' w',(x=.normal\/x=.ret)->(C.DA k=true\/a'.defers=[])->Leaves C.P fn a'.tmps (Gm C.G I B0 E v h') a'.defers .returning w'->Q x a' w')->
   c.wp C.P Q {tmps:=args.toArray++Array.replicate (fn.ntmps-args.toArray.size) undef,defers:=[]} E.w:=by
 simp only[call] at hx;rw[Bk,VY,hp] at hx;simp only[Bool.not_true,cond_false] at hx
 cases Ob:C.P.funcs[k]? with
 |none=>rw[Ob] at hx;cases hx
 |some fn=>
  rw[Ob] at hx;simp only at hx
  cases hb:fn.body with
  |none=>rw[hb] at hx;cases hx
  |some c=>
   rw[hb] at hx;simp only at hx
   refine⟨fn,c,rfl,hb,fun E args hE H Cd Q hQ=> ?_⟩
   have H1:=JB H S0.JO;have J8:=BU.cut (Rh (E:=E)) vs args Cd;have J6:=S0.bh k fn c Bk VY hp Ob hb
   have CD:fn.ntmps<=(args.toArray++Array.replicate (fn.ntmps-args.toArray.size) undef).size:=by simp;omega
   cases hh:C.heap k with
   |true=>
    rw[hh] at hx;simp only at hx
    cases draw with
    |true=>cases hx
    |false=>
     simp only[cond_false] at hx
     cases lE:C.pre k with
     |some m0=>
      rw[lE] at hx;simp only at hx;generalize PA m0 h=m at hx
      cases lF:MG m h with
      |false=>rw[lF] at hx;cases hx
      |true=>
       rw[lF] at hx;simp only at hx;have hP:=nq lF hE;have H2:=gY H S0.JO hP;have pO:=BU.cut (au H hP) vs args Cd
       cases he:exec C k n c (DM C k (AQ m [] vs)) ((h.take m).map (AO m [])) with
       |error e=>rw[he] at hx;cases hx
       |ok r=>
        obtain⟨x,F',h1⟩:=r;rw[he] at hx
        have fin:(x=.ret\/x=.normal)->(match finish C (call C false n) k fn F' h1 with|some (v,h1)=>Except.ok (stripR m h1 v,(h1.take m).map (AO m h1)++h.drop m)|none=>.error [k,1013])=(.ok (v,h'):Except (List Nat) (AV×Hp))->
          c.wp C.P Q {tmps:=args.toArray++Array.replicate (fn.ntmps-args.toArray.size) undef,defers:=[]} E.w:=by
         intro JP IE
         cases Jw:finish C (call C false n) k fn F' h1 with
         |none=>rw[Jw] at IE;cases IE
         |some u2=>
          obtain⟨u,h2⟩:=u2;rw[Jw] at IE;simp only[Except.ok.injEq,Prod.mk.injEq] at IE;obtain⟨rfl,rfl⟩:=IE
          refine TC k c _ _ x F' h1 fn.ntmps he J6 (Wg E m) _ (by rw[<-hE];rfl) H2 (Kd pO k fn.ntmps) CD _ fun E' a' S Hl FT _ hd=> ?_
          refine hQ _ a' E'.w (by rcases JP with rfl|rfl<;>simp[LF]) hd (Nv hD (by rw[Hl];exact Jw) S.Cn FT hd fun E2 cv S2 PS hr=> ?_)
          obtain⟨K,S'⟩:=lj H S0.JO hP (S.trans S2);have hr:=Rel.Zm K u cv hr;rw[PS] at hr
          exact⟨cv,Gx E E2 m,rfl,rfl,S',by show(E2.h.take m).map (AO m E2.h)++E.h.drop m=_;rw[PS,hE],hr⟩
        cases x with
        |ret=>exact fin (.inl rfl) hx
        |normal=>exact fin (.inr rfl) hx
        |exit _=>cases hx
        |goto _=>cases hx
     |none=>
     rw[lE] at hx;simp only at hx
     cases he:exec C k n c (DM C k vs) h with
     |error e=>rw[he] at hx;cases hx
     |ok r=>
      obtain⟨x,F',h1⟩:=r;rw[he] at hx
      have fin:(x=.ret\/x=.normal)->(match finish C (call C false n) k fn F' h1 with|some (v,h1)=>Except.ok (stripR (Gt (C.La k) h.length h1.length v) h1 v,(h1.take (Gt (C.La k) h.length h1.length v)).map (AO (Gt (C.La k) h.length h1.length v) h1))|none=>.error [k,1013])=(.ok (v,h'):Except (List Nat) (AV×Hp))->
        c.wp C.P Q {tmps:=args.toArray++Array.replicate (fn.ntmps-args.toArray.size) undef,defers:=[]} E.w:=by
       intro JP IE
       cases Jw:finish C (call C false n) k fn F' h1 with
       |none=>rw[Jw] at IE;cases IE
       |some u2=>
        obtain⟨u,h2⟩:=u2;rw[Jw] at IE;simp only[Except.ok.injEq,Prod.mk.injEq] at IE;obtain⟨rfl,rfl⟩:=IE
        refine TC k c _ _ x F' h1 fn.ntmps he J6 E _ hE H (Kd Cd k fn.ntmps) CD _ fun E' a' S Hl FT _ hd=> ?_
        refine hQ _ a' E'.w (by rcases JP with rfl|rfl<;>simp[LF]) hd (Nv hD (by rw[Hl];exact Jw) S.Cn FT hd fun E2 cv S2 PS hr=> ?_)
        have S3:=S.trans S2
        have mX:E.h.length<=Gt (C.La k) h.length h2.length u:=by rw[hE];exact hC _ _ _ _
        have SJ:Gt (C.La k) h.length h2.length u<=E2.h.length:=by
         have:=S3.le.len;rw[PS,hE] at this;rw[PS];exact dG this
        obtain⟨K,S'⟩:=QD H S3 S0.JO mX SJ;have hr:=Rel.Zm K u cv hr;rw[PS] at hr;rw[PS] at S'
        exact⟨cv,{E2 with h:=(h2.take (Gt (C.La k) h.length h2.length u)).map (AO (Gt (C.La k) h.length h2.length u) h2)},rfl,rfl,S',rfl,hr⟩
      cases x with
      |ret=>exact fin (.inl rfl) hx
      |normal=>exact fin (.inr rfl) hx
      |exit _=>cases hx
      |goto _=>cases hx
   |false=>
    rw[hh] at hx;simp only at hx
    cases he:exec C k n c (DM C k (AQ 0 [] vs)) [] with
    |error e=>rw[he] at hx;cases hx
    |ok r=>
     obtain⟨x,F',h1⟩:=r;rw[he] at hx
     have fin:(x=.ret\/x=.normal)->(match finish C (call C false n) k fn F' h1 with|some (v,h1)=>Except.ok (stripR 0 h1 v,h)|none=>.error [k,1013])=(.ok (v,h'):Except (List Nat) (AV×Hp))->
       c.wp C.P Q {tmps:=args.toArray++Array.replicate (fn.ntmps-args.toArray.size) undef,defers:=[]} E.w:=by
      intro JP IE
      cases Jw:finish C (call C false n) k fn F' h1 with
      |none=>rw[Jw] at IE;cases IE
      |some u2=>
       obtain⟨u,h2⟩:=u2;rw[Jw] at IE;simp only[Except.ok.injEq,Prod.mk.injEq] at IE;obtain⟨rfl,rfl⟩:=IE
       refine TC k c _ _ x F' h1 fn.ntmps he J6 (fresh E) _ rfl H1 (Kd J8 k fn.ntmps) CD _ fun E' a' S Hl FT _ hd=> ?_
       refine hQ _ a' E'.w (by rcases JP with rfl|rfl<;>simp[LF]) hd (Nv hD (by rw[Hl];exact Jw) S.Cn FT hd fun E2 cv S2 PS hr=> ?_)
       have S3:=S.trans S2;have S':=LJ S0.hI H S3.below
       exact⟨cv,{E with w:=E2.w},rfl,rfl,S',hE,Rel.Zm (VI H h2 S3.U (.inr ⟨PS.symm,S3.Cn,S3.le.B⟩)) u cv hr⟩
     cases x with
     |ret=>exact fin (.inl rfl) hx
     |normal=>exact fin (.inr rfl) hx
     |exit _=>cases hx
     |goto _=>cases hx
theorem XY (S0:Sound C I B0):∀{n:Nat},(∀m,m<n->KM C I B0 m)->uV C I B0 (call C false n)
 |0,_=>fun k vs h v h' _ _ _ hx=>by simp[call] at hx
 |n+1,ih=>fun k vs h v h' VY hp F7 hx=>by
  have Bk:C.ok k=true:=by
   cases Bk:C.ok k with
   |true=>rfl
   |false=>simp[call,Bk] at hx
  obtain⟨fn,c,Ob,hb,hw⟩:=bm S0 (ih n (Nat.lt_succ_self n)) (XY S0 fun m hm=>ih m (Nat.lt_succ_of_lt hm)) Bk VY hp hx
  refine⟨S0.fns k Bk,fun E args hE H Cd u=>callsD_of_wp Ob hb (hw E args hE H Cd _ fun x a' w' JP hd hl=> ?_)⟩
  have ZO:=hd.resolve_left (by rw[F7];simp)
  rw[ZO] at hl;obtain⟨cv,k1,k2⟩:=hl
  rcases JP with rfl|rfl<;>exact⟨ZO,cv,k1,k2⟩
theorem bk (S0:Sound C I B0){n:Nat}(ih:∀m,m<n->KM C I B0 m)(draw:Bool):OH C I B0 (call C draw n):=by
 refine⟨S0.ident,?_⟩;intro k vs h v h' hx
 cases n with
 |zero=>simp[call] at hx
 |succ n=>
  have Bk:C.ok k=true:=by
   cases Bk:C.ok k with
   |true=>rfl
   |false=>simp[call,Bk] at hx
  refine⟨S0.fns k Bk,fun E args hE H Cd=> ?_⟩
  cases VY:C.Cq k with
  |some g=>
   simp only[call] at hx;rw[Bk,VY] at hx;simp only[Bool.not_true,cond_false] at hx
   cases draw with
   |true=>cases hx
   |false=>
    simp only[cond_false] at hx
    cases hg:g vs h with
    |none=>rw[hg] at hx;cases hx
    |some r=>
     obtain⟨v1,h1⟩:=r;rw[hg] at hx;simp only[Except.ok.injEq,Prod.mk.injEq] at hx;obtain⟨rfl,rfl⟩:=hx;exact S0.ZD k g vs h v1 h1 Bk VY hg E args hE H Cd
  |none=>
   have H1:=JB H S0.JO;have J8:=BU.cut (Rh (E:=E)) vs args Cd
   cases hp:C.FP k with
   |some g=>
    simp only[call] at hx;rw[Bk,VY,hp] at hx;simp only[Bool.not_true,cond_false] at hx;split at hx
    ·rename_i u hg;simp only[Except.ok.injEq,Prod.mk.injEq] at hx;obtain⟨rfl,rfl⟩:=hx
     refine(S0.fq k g _ _ Bk hp hg (fresh E) args rfl rfl H1 J8).mono fun e w' Wy=> ?_
     obtain⟨c,rfl,hb,hr⟩:=Wy;have S:=LJ S0.hI H hb
     refine⟨c,{E with w:=w'},rfl,rfl,S,hE,?_⟩
     exact Rel.cut (VI H [] (E':={fresh E with w:=w'}) rfl (.inl rfl)) u c hr
    ·cases hx
   |none=>
    obtain⟨fn,c,Ob,hb,hw⟩:=bm S0 (ih n (Nat.lt_succ_self n)) (XY S0 fun m hm=>ih m (Nat.lt_succ_of_lt hm)) Bk VY hp hx
    refine calls_of_wp_defers Ob hb (hw E args hE H Cd _ fun x a' w' JP _ hl=> ?_)
    rcases JP with rfl|rfl<;>exact hl
theorem Rn (n:Nat):Ir (call C true n):=by
  intro k vs h v h' hx
  cases n with
  | zero=>simp[call] at hx
  | succ n=>
    simp only[call] at hx⊢
    cases Bk:C.ok k with
    | false=>rw[Bk] at hx;cases hx
    | true=>
      rw[Bk] at hx;simp only[Bool.not_true,cond_false] at hx⊢
      cases VY:C.Cq k with
      | some g=>rw[VY] at hx;cases hx
      | none=>
      rw[VY] at hx;simp only at hx⊢
      cases hp:C.FP k with
      | some g=>
        rw[hp] at hx;simp only at hx⊢;split at hx
        · simp_all
        · cases hx
      | none=>
        rw[hp] at hx;simp only at hx⊢
        cases Ob:C.P.funcs[k]? with
        | none=>rw[Ob] at hx;cases hx
        | some fn=>
          rw[Ob] at hx;simp only at hx⊢
          cases hb:fn.body with
          | none=>rw[hb] at hx;cases hx
          | some c=>
            rw[hb] at hx;simp only at hx⊢
            cases hh:C.heap k with
            | true=>rw[hh] at hx;cases hx
            | false=>
              rw[hh] at hx;simp only at hx⊢
              cases he:exec C k n c (DM C k (AQ 0 [] vs)) [] with
              | error e=>rw[he] at hx;cases hx
              | ok r=>
                obtain⟨x,F',h1⟩:=r;rw[he] at hx
                cases x<;>simp only at hx⊢
                all_goals first
                  | (cases Jw:finish C (call C false n) k fn F' h1 with
                     | none=>rw[Jw] at hx;cases hx
                     | some u=>
                       rw[Jw] at hx;simp only[Except.ok.injEq,Prod.mk.injEq] at hx⊢
                       exact⟨hx.2.symm,fun _=>⟨hx.1,trivial⟩⟩)
                  | cases hx
theorem Rv (S0:Sound C I B0):∀n,KM C I B0 n:=by
 intro n
 induction n using Nat.strongRecOn with
 |_ n ih=>exact lW S0 ih (fun m draw hm=>bk S0 (fun k hk=>ih k (Nat.lt_trans hk hm)) draw) fun m _=>Rn m
theorem Mp (S0:Sound C I B0)(draw:Bool)(n:Nat):OH C I B0 (call C draw n):=bk S0 (fun m _=>Rv S0 m) draw
end
end Go.Ai
