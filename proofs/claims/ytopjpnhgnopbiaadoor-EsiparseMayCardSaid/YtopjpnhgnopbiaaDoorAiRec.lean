/-
  A function that puts off one closure, which takes back what the function gave up with. No statement about the program is made here.
-/
import Derived.Test.YtopjpnhgnopbiaaDoorAiSymP
import Derived.Recover
set_option linter.unusedVariables false
set_option linter.unusedSimpArgs false
set_option linter.unnecessarySimpa false
namespace Go.Ai
open Go.RowKit
section
variable {C:Cfg}{I:World→Prop}{B0:Nat}
def TakesD (C:Cfg)(I:World→Prop)(B0:Nat)(ch:PX→List PanicEntry)(d:Nat)(cap:List AV)(x:PX)(h h2:Hp):Prop:=
 ∀(E:Env) (vals:List Value),Good C.G I B0 E→E.h=h→Rels E cap vals→CallsD C.P d vals.toArray (.panicking (ch x)) E.w fun en u w'=>(∃r,en=.returned r)∧settle u=.returning∧∃E',E'.w=w'∧Step C.G I B0 E E'∧E'.h=h2
def recQ (C:Cfg)(I:World→Prop)(B0:Nat)(ch:PX→List PanicEntry)(PF:PFun)(fn:Func)(d:Nat)(cap:List AV)(v:AV):QP where
 pf:=PF
 q:=fun F h=>(lk F dS).2=.dfr [.fn (.func d) [] cap]∧∃u,result C.P fn F h=some u∧stripR 0 h u=v
 p:=fun F x h=>(lk F dS).2=.dfr [.fn (.func d) [] cap]∧∃h2 u,TakesD C I B0 ch d cap x h h2∧result C.P fn F h2=some u∧stripR 0 h2 u=v
theorem rec_calls (S0:Sound C I B0){ch:PX→List PanicEntry}{PF:PFun}(hPF:PFOk C I B0 ch PF){k:Nat}{fn:Func}{d:Nat}{cap:List AV}(hok:C.ok k=true)(hhp:C.hprim k=none)(hp:C.prim k=none)(hfn:C.P.funcs[k]?=some fn)(hb:fn.body.isSome=true)(hdf:C.dfr k=true)
  (hcal:Callee C.P d) (hret:∀(vals:List Value) (w:World),vals.length=cap.length→CallsD C.P d vals.toArray .returning w fun en u w'=>(∃v,en=.returned v)∧u=.returning∧w'=w)
  {vs:List AV} {v:AV} (hvs:strips 0 [] vs=vs) (hrun:ToE C k (bodyOf fn) (recQ C I B0 ch PF fn d cap v) [.code []] .normal (argFr 0 vs++[(dS,true,.dfr [])]) [])
  {E:Env} {args:List Value} (H:Good C.G I B0 E) (hargs:Rels E vs args):
  Calls C.P k args.toArray E.w fun e w'=>∃c,e=.returned c∧Below E.w.heap.size E.w w'∧Rel {E with w:=w'} v c:=by
 have hbody:=body_some hb;have H1:=fresh_good H S0.pureG;have hargs1:=Rels.cut (cut_in (E:=E)) vs args hargs;rw[hvs] at hargs1;have hcode:=S0.codes k fn _ hok hhp hp hfn hbody
 have hsz:fn.ntmps≤(args.toArray++Array.replicate (fn.ntmps-args.toArray.size) undef).size:=by simp;omega
 have hfr:FrsOk (fresh E) (argFr 0 vs++[(dS,true,.dfr [])]) {tmps:=args.toArray++Array.replicate (fn.ntmps-args.toArray.size) undef,defers:=[]}:=by
  have:=frame0_ok (C:=C) hargs1 k fn.ntmps;unfold frame0 at this;rw[hdf] at this;exact this
 have one:∀(E':Env) (F:Fr) (a':Act),FrsOk E' F a'→(lk F dS).2=.dfr [.fn (.func d) [] cap]→∃(dd:Deferred) (b:Array Value),a'.defers=[dd]∧dd.target=.fn (.func d) b∧dd.args= #[]∧Rels E' cap b.toList:=by
  intro E' F a' hf' hd;have h2:=hf'.2;rw[hd] at h2;obtain⟨dd,r,e1,h1,h3⟩:=h2;obtain⟨b,q1,q2,q3⟩:=h1;simp only[DefsOf] at h3;subst h3;simp only[Rels] at q2
  exact⟨dd,b,e1,q1,by apply Array.ext';simpa using q2,q3⟩
 have leave:∀(dd:Deferred) (b:Array Value) (w:World),dd.target=.fn (.func d) b→dd.args= #[]→(invoke dd.target dd.args).run C.P w=.ok (.enter d b) w:=by
  intro dd b w q1 q2;obtain⟨fn',hfn',hb',hname⟩:=hcal;rw[q1,q2];simp only[invoke,callFunc,Sem.run_bind,run_program,Result.andThen_ok,hfn',hname,hb'];simp
 have fin:∀(E':Env) (F:Fr) (a':Act) (h2:Hp) (u:AV),Step C.G I B0 (fresh E) E'→E'.h=h2→FrsOk E' F a'→result C.P fn F h2=some u→stripR 0 h2 u=v→
   ∃c,(results fn a'.tmps).run C.P E'.w=.ok c E'.w∧Below E.w.heap.size E.w E'.w∧Rel {E with w:=E'.w} v c:=by
  intro E' F a' h2 u S hE' hf' hu hv;subst hE';obtain⟨c,k1,k2⟩:=result_ok S.good hf' hu;refine⟨c,k1,S.below,?_⟩;rw[←hv];exact Rel.cutR (cut_out H E'.h S.U (.inr ⟨rfl,S.good,S.le.B⟩)) u c k2
 refine calls_of_wp_defers hfn hbody ?_
 rcases hrun with hr|hr
 ·obtain⟨x,F',h',⟨n0,hx⟩,he,hq⟩:=hr;simp only[codeAt] at hx
  refine all_ok S0 n0 k _ _ _ x F' h' fn.ntmps (hx n0 (Nat.le_refl _)) hcode (fresh E) _ rfl H1 hfr hsz _ fun E' a' S hE' hf' _ _=> ?_
  obtain⟨hd,u,hu,hv⟩:=hq;obtain⟨dd,b,e1,e2,e3,e4⟩:=one E' F' a' hf' hd
  have hl:Leaves C.P fn a'.tmps (fun e w'=>∃c,e=.returned c∧Below E.w.heap.size E.w w'∧Rel {E with w:=w'} v c) a'.defers .returning E'.w:=by
   rw[e1]
   refine⟨by simp,.func d,b,d,b,e2,leave dd b E'.w e2 e3,?_⟩
   have hc:=hret b.toList E'.w e4.length;rw[Array.toArray_toList] at hc
   refine hc.mono fun en u' w' hp=> ?_
   obtain⟨⟨r,rfl⟩,rfl,rfl⟩:=hp;obtain⟨c,k1,k2⟩:=fin E' F' a' h' u S hE' hf' hu hv;exact⟨c,k1,c,rfl,k2⟩
  cases x with
  |normal=>exact hl
  |ret=>exact hl
  |_=>cases he
 ·simp only[ToPan,codeAt] at hr
  rcases hr with ⟨n,x,F',h',hx,hq⟩|⟨_,_,_,_,hf⟩
  ·refine pan_all S0 hPF n k _ _ _ x F' h' fn.ntmps hx hcode (fresh E) _ rfl H1 hfr hsz _ fun E' a' S hE' hf' _ _=> ?_
   obtain⟨hd,h2,u,ht,hu,hv⟩:=hq;obtain⟨dd,b,e1,e2,e3,e4⟩:=one E' F' a' hf' hd;show Leaves C.P fn a'.tmps _ a'.defers (.panicking (ch x)) E'.w;rw[e1]
   refine⟨by simp,.func d,b,d,b,e2,leave dd b E'.w e2 e3,?_⟩
   have hc:=ht E' b.toList S.good hE' e4;rw[Array.toArray_toList] at hc
   refine hc.mono fun en u' w' hp=> ?_
   obtain⟨⟨r,rfl⟩,hs,E2,rfl,S2,hE2⟩:=hp;simp only[hs];obtain⟨c,k1,k2⟩:=fin E2 F' a' h2 u (S.trans S2) hE2 (FrsOk.mono S2.le hf') hu hv;exact⟨c,k1,c,rfl,k2⟩
  ·exact hf.elim
end
end Go.Ai
