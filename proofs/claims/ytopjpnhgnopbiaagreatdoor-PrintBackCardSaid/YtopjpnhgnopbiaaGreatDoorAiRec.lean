/-
  A function that puts off one closure, which takes back what the function gave up with. No statement about the program is made here.
-/
import Derived.Test.YtopjpnhgnopbiaaGreatDoorAiSymP
import Derived.Recover
set_option linter.unusedVariables false
set_option linter.unusedSimpArgs false
set_option linter.unnecessarySimpa false
namespace Go.Ai
open Go.RowKit
section
variable {C:Bm}{I:World->Prop}{B0:Nat}
def Z9 (C:Bm)(I:World->Prop)(B0:Nat)(ch:PX->List PanicEntry)(d:Nat)(cap:List AV)(x:PX)(h h2:Hp):Prop:=
 ∀(E:Env) (vals:List Value),Good C.G I B0 E->E.h=h->BU E cap vals->CallsD C.P d vals.toArray (.panicking (ch x)) E.w fun en u w'=>(∃r,en=.returned r)/\settle u=.returning/\∃E',E'.w=w'/\Step C.G I B0 E E'/\E'.h=h2
def rj (C:Bm)(I:World->Prop)(B0:Nat)(ch:PX->List PanicEntry)(PF:HC)(fn:Func)(d:Nat)(cap:List AV)(v:AV):QP where
 pf:=PF
 q:=fun F h=>(lk F dS).2=.DA [.fn (.func d) [] cap]/\∃u,result C.P fn F h=some u/\stripR 0 h u=v
 p:=fun F x h=>(lk F dS).2=.DA [.fn (.func d) [] cap]/\∃h2 u,Z9 C I B0 ch d cap x h h2/\result C.P fn F h2=some u/\stripR 0 h2 u=v
theorem cU (S0:Sound C I B0){ch:PX->List PanicEntry}{PF:HC}(tH:lu C I B0 ch PF){k:Nat}{fn:Func}{d:Nat}{cap:List AV}(Bk:C.ok k=true)(VY:C.Cq k=none)(hp:C.FP k=none)(Ob:C.P.funcs[k]?=some fn)(hb:fn.body.isSome=true)(F7:C.DA k=true)
  (xy:Callee C.P d) (wq:∀(vals:List Value) (w:World),vals.length=cap.length->CallsD C.P d vals.toArray .returning w fun en u w'=>(∃v,en=.returned v)/\u=.returning/\w'=w)
  {vs:List AV} {v:AV} (iK:AQ 0 [] vs=vs) (Cb:GR C k (AB fn) (rj C I B0 ch PF fn d cap v) [.code []] .normal (D8 0 vs++[(dS,true,.DA [])]) [])
  {E:Env} {args:List Value} (H:Good C.G I B0 E) (Cd:BU E vs args):
  Calls C.P k args.toArray E.w fun e w'=>∃c,e=.returned c/\Below E.w.heap.size E.w w'/\Rel {E with w:=w'} v c:=by
 have me:=GP hb;have H1:=JB H S0.JO;have J8:=BU.cut (Rh (E:=E)) vs args Cd;rw[iK] at J8;have J6:=S0.bh k fn _ Bk VY hp Ob me
 have CD:fn.ntmps<=(args.toArray++Array.replicate (fn.ntmps-args.toArray.size) undef).size:=by simp;omega
 have Mz:AR (fresh E) (D8 0 vs++[(dS,true,.DA [])]) {tmps:=args.toArray++Array.replicate (fn.ntmps-args.toArray.size) undef,defers:=[]}:=by
  have:=Kd (C:=C) J8 k fn.ntmps;unfold DM at this;rw[F7] at this;exact this
 have one:∀(E':Env) (F:Fr) (a':Act),AR E' F a'->(lk F dS).2=.DA [.fn (.func d) [] cap]->∃(dd:Deferred) (b:Array Value),a'.defers=[dd]/\dd.target=.fn (.func d) b/\dd.args= #[]/\BU E' cap b.toList:=by
  intro E' F a' FT hd;have h2:=FT.2;rw[hd] at h2;obtain⟨dd,r,e1,h1,h3⟩:=h2;obtain⟨b,q1,q2,q3⟩:=h1;simp only[Fs] at h3;subst h3;simp only[BU] at q2
  exact⟨dd,b,e1,q1,by apply Array.ext';simpa using q2,q3⟩
 have leave:∀(dd:Deferred) (b:Array Value) (w:World),dd.target=.fn (.func d) b->dd.args= #[]->(invoke dd.target dd.args).run C.P w=.ok (.enter d b) w:=by
  intro dd b w q1 q2;obtain⟨fn',xK,Ha,MS⟩:=xy;rw[q1,q2];simp only[invoke,callFunc,Sem.run_bind,run_program,Result.andThen_ok,xK,MS,Ha];simp
 have fin:∀(E':Env) (F:Fr) (a':Act) (h2:Hp) (u:AV),Step C.G I B0 (fresh E) E'->E'.h=h2->AR E' F a'->result C.P fn F h2=some u->stripR 0 h2 u=v->
   ∃c,(results fn a'.tmps).run C.P E'.w=.ok c E'.w/\Below E.w.heap.size E.w E'.w/\Rel {E with w:=E'.w} v c:=by
  intro E' F a' h2 u S Hl FT hu hv;subst Hl;obtain⟨c,k1,k2⟩:=NM S.Cn FT hu;refine⟨c,k1,S.below,?_⟩;rw[<-hv];exact Rel.Zm (VI H E'.h S.U (.inr ⟨rfl,S.Cn,S.le.B⟩)) u c k2
 refine calls_of_wp_defers Ob me ?_
 rcases Cb with hr|hr
 ·obtain⟨x,F',h',⟨n0,hx⟩,he,hq⟩:=hr;simp only[Ab] at hx
  refine Rv S0 n0 k _ _ _ x F' h' fn.ntmps (hx n0 (Nat.le_refl _)) J6 (fresh E) _ rfl H1 Mz CD _ fun E' a' S Hl FT _ _=> ?_
  obtain⟨hd,u,hu,hv⟩:=hq;obtain⟨dd,b,e1,e2,e3,e4⟩:=one E' F' a' FT hd
  have hl:Leaves C.P fn a'.tmps (fun e w'=>∃c,e=.returned c/\Below E.w.heap.size E.w w'/\Rel {E with w:=w'} v c) a'.defers .returning E'.w:=by
   rw[e1]
   refine⟨by simp,.func d,b,d,b,e2,leave dd b E'.w e2 e3,?_⟩
   have hc:=wq b.toList E'.w e4.length;rw[Array.toArray_toList] at hc
   refine hc.mono fun en u' w' hp=> ?_
   obtain⟨⟨r,rfl⟩,rfl,rfl⟩:=hp;obtain⟨c,k1,k2⟩:=fin E' F' a' h' u S Hl FT hu hv;exact⟨c,k1,c,rfl,k2⟩
  cases x with
  |normal=>exact hl
  |ret=>exact hl
  |_=>cases he
 ·simp only[Bc,Ab] at hr
  rcases hr with ⟨n,x,F',h',hx,hq⟩|⟨_,_,_,_,hf⟩
  ·refine kZ S0 tH n k _ _ _ x F' h' fn.ntmps hx J6 (fresh E) _ rfl H1 Mz CD _ fun E' a' S Hl FT _ _=> ?_
   obtain⟨hd,h2,u,ht,hu,hv⟩:=hq;obtain⟨dd,b,e1,e2,e3,e4⟩:=one E' F' a' FT hd;show Leaves C.P fn a'.tmps _ a'.defers (.panicking (ch x)) E'.w;rw[e1]
   refine⟨by simp,.func d,b,d,b,e2,leave dd b E'.w e2 e3,?_⟩
   have hc:=ht E' b.toList S.Cn Hl e4;rw[Array.toArray_toList] at hc
   refine hc.mono fun en u' w' hp=> ?_
   obtain⟨⟨r,rfl⟩,hs,E2,rfl,S2,PS⟩:=hp;simp only[hs];obtain⟨c,k1,k2⟩:=fin E2 F' a' h2 u (S.trans S2) PS (AR.mono S2.le FT) hu hv;exact⟨c,k1,c,rfl,k2⟩
  ·exact hf.elim
end
end Go.Ai
