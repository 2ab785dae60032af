/-
  A function that puts off one closure, which takes back what the function gave up with. No statement about the program is made here.
-/
import Derived.Test.YtopjpnhgnopbiaaGreatDoorLAiSymP
import Derived.Recover
set_option linter.unusedVariables false
set_option linter.unusedSimpArgs false
set_option linter.unnecessarySimpa false
namespace Go.Ai
open Go.RowKit
section
variable {C:Bh}{I:World->Prop}{B0:Nat}
def XO (C:Bh)(I:World->Prop)(B0:Nat)(ch:PX->List PanicEntry)(d:Nat)(cap:List AV)(x:PX)(h h2:Hp):Prop:=
 ∀(E:Env) (vals:List Value),Good C.G I B0 E->E.h=h->BK E cap vals->CallsD C.P d vals.toArray (.panicking (ch x)) E.w fun en u w'=>(∃r,en=.returned r)/\settle u=.returning/\∃E',E'.w=w'/\Step C.G I B0 E E'/\E'.h=h2
def nL (C:Bh)(I:World->Prop)(B0:Nat)(ch:PX->List PanicEntry)(PF:GD)(fn:Func)(d:Nat)(cap:List AV)(v:AV):QP where
 pf:=PF
 q:=fun F h=>(lk F dS).2=.Cs [.fn (.func d) [] cap]/\∃u,result C.P fn F h=some u/\stripR 0 h u=v
 p:=fun F x h=>(lk F dS).2=.Cs [.fn (.func d) [] cap]/\∃h2 u,XO C I B0 ch d cap x h h2/\result C.P fn F h2=some u/\stripR 0 h2 u=v
theorem Yw (S0:Sound C I B0){ch:PX->List PanicEntry}{PF:GD}(oq:iV C I B0 ch PF){k:Nat}{fn:Func}{d:Nat}{cap:List AV}(BF:C.ok k=true)(TE:C.Cz k=none)(hp:C.E9 k=none)(Mu:C.P.funcs[k]?=some fn)(hb:fn.body.isSome=true)(FF:C.Cs k=true)
  (uA:Callee C.P d) (sn:∀(vals:List Value) (w:World),vals.length=cap.length->CallsD C.P d vals.toArray .returning w fun en u w'=>(∃v,en=.returned v)/\u=.returning/\w'=w)
  {vs:List AV} {v:AV} (dK:AQ 0 [] vs=vs) (CU:FW C k (AD fn) (nL C I B0 ch PF fn d cap v) [.code []] .normal (DZ 0 vs++[(dS,true,.Cs [])]) [])
  {E:Env} {args:List Value} (H:Good C.G I B0 E) (CV:BK E vs args):
  Calls C.P k args.toArray E.w fun e w'=>∃c,e=.returned c/\Below E.w.heap.size E.w w'/\Rel {E with w:=w'} v c:=by
 have jT:=Ed hb;have H1:=Hu H S0.IE;have Ir:=BK.cut (Ph (E:=E)) vs args CV;rw[dK] at Ir;have Ip:=S0.YT k fn _ BF TE hp Mu jT
 have CC:fn.ntmps<=(args.toArray++Array.replicate (fn.ntmps-args.toArray.size) undef).size:=by simp;omega
 have KX:AP (fresh E) (DZ 0 vs++[(dS,true,.Cs [])]) {tmps:=args.toArray++Array.replicate (fn.ntmps-args.toArray.size) undef,defers:=[]}:=by
  have:=JQ (C:=C) Ir k fn.ntmps;unfold DE at this;rw[FF] at this;exact this
 have one:∀(E':Env) (F:Fr) (a':Act),AP E' F a'->(lk F dS).2=.Cs [.fn (.func d) [] cap]->∃(dd:Deferred) (b:Array Value),a'.defers=[dd]/\dd.target=.fn (.func d) b/\dd.args= #[]/\BK E' cap b.toList:=by
  intro E' F a' F9 hd;have h2:=F9.2;rw[hd] at h2;obtain⟨dd,r,e1,h1,h3⟩:=h2;obtain⟨b,q1,q2,q3⟩:=h1;simp only[E7] at h3;subst h3;simp only[BK] at q2
  exact⟨dd,b,e1,q1,by apply Array.ext';simpa using q2,q3⟩
 have leave:∀(dd:Deferred) (b:Array Value) (w:World),dd.target=.fn (.func d) b->dd.args= #[]->(invoke dd.target dd.args).run C.P w=.ok (.enter d b) w:=by
  intro dd b w q1 q2;obtain⟨yU,tN,Gf,K2⟩:=uA;rw[q1,q2];simp only[invoke,callFunc,Sem.run_bind,run_program,Result.andThen_ok,tN,K2,Gf];simp
 have fin:∀(E':Env) (F:Fr) (a':Act) (h2:Hp) (u:AV),Step C.G I B0 (fresh E) E'->E'.h=h2->AP E' F a'->result C.P fn F h2=some u->stripR 0 h2 u=v->
   ∃c,(results fn a'.tmps).run C.P E'.w=.ok c E'.w/\Below E.w.heap.size E.w E'.w/\Rel {E with w:=E'.w} v c:=by
  intro E' F a' h2 u S Gr F9 hu hv;subst Gr;obtain⟨c,k1,k2⟩:=Lm S.Cg F9 hu;refine⟨c,k1,S.below,?_⟩;rw[<-hv];exact Rel.XA (Sr H E'.h S.U (.inr ⟨rfl,S.Cg,S.le.B⟩)) u c k2
 refine calls_of_wp_defers Mu jT ?_
 rcases CU with hr|hr
 ·obtain⟨x,F',h',⟨n0,hx⟩,he,hq⟩:=hr;simp only[Ac] at hx
  refine Pv S0 n0 k _ _ _ x F' h' fn.ntmps (hx n0 (Nat.le_refl _)) Ip (fresh E) _ rfl H1 KX CC _ fun E' a' S Gr F9 _ _=> ?_
  obtain⟨hd,u,hu,hv⟩:=hq;obtain⟨dd,b,e1,e2,e3,e4⟩:=one E' F' a' F9 hd
  have hl:Leaves C.P fn a'.tmps (fun e w'=>∃c,e=.returned c/\Below E.w.heap.size E.w w'/\Rel {E with w:=w'} v c) a'.defers .returning E'.w:=by
   rw[e1]
   refine⟨by simp,.func d,b,d,b,e2,leave dd b E'.w e2 e3,?_⟩
   have hc:=sn b.toList E'.w e4.length;rw[Array.toArray_toList] at hc
   refine hc.mono fun en u' w' hp=> ?_
   obtain⟨⟨r,rfl⟩,rfl,rfl⟩:=hp;obtain⟨c,k1,k2⟩:=fin E' F' a' h' u S Gr F9 hu hv;exact⟨c,k1,c,rfl,k2⟩
  cases x with
  |normal=>exact hl
  |ret=>exact hl
  |_=>cases he
 ·simp only[BS,Ac] at hr
  rcases hr with ⟨n,x,F',h',hx,hq⟩|⟨_,_,_,_,hf⟩
  ·refine gI S0 oq n k _ _ _ x F' h' fn.ntmps hx Ip (fresh E) _ rfl H1 KX CC _ fun E' a' S Gr F9 _ _=> ?_
   obtain⟨hd,h2,u,ht,hu,hv⟩:=hq;obtain⟨dd,b,e1,e2,e3,e4⟩:=one E' F' a' F9 hd;show Leaves C.P fn a'.tmps _ a'.defers (.panicking (ch x)) E'.w;rw[e1]
   refine⟨by simp,.func d,b,d,b,e2,leave dd b E'.w e2 e3,?_⟩
   have hc:=ht E' b.toList S.Cg Gr e4;rw[Array.toArray_toList] at hc
   refine hc.mono fun en u' w' hp=> ?_
   obtain⟨⟨r,rfl⟩,hs,E2,rfl,S2,Na⟩:=hp;simp only[hs];obtain⟨c,k1,k2⟩:=fin E2 F' a' h2 u (S.trans S2) Na (AP.mono S2.le F9) hu hv;exact⟨c,k1,c,rfl,k2⟩
  ·exact hf.elim
end
end Go.Ai
