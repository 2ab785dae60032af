/-
  Regions: the operations one behind the other, in whatever order they are listed.
-/
import Derived.Test.YtopjpnhgnopbiaaGreatDoorLAiStk
import Derived.Test.YtopjpnhgnopbiaaGreatDoorLAiTwo
set_option linter.unusedVariables false
set_option linter.unusedSimpArgs false
set_option linter.unnecessarySimpa false
namespace Go.Ai
open Go.RowKit
def Callee (P:Program)(k:FuncId):Prop:=∃fn,P.funcs[k]?=some fn/\fn.body.isNone=false/\(fn.name== "runtime.NumGoroutine")=false
def Ft (G:Nat->Option (List AV))(I:World->Prop)(B0:Nat)(E:Env)(v:AV)(h':Hp)(e:Ending)(w':World):Prop:=
 ∃c E',e=.returned c/\E'.w=w'/\Step G I B0 E E'/\E'.h=h'/\Rel E' v c
def N7 (C:Bh):Prop:=∀k,C.ident k=true->∀x w,(callFunc k #[x]).run C.P w=.ok (.value x) w
def Md (C:Bh)(I:World->Prop)(B0:Nat)(cl:FuncId->List AV->Hp->Except (List Nat) (AV×Hp)):Prop:=
 N7 C/\∀k vs h v h',cl k vs h=.ok (v,h')->Callee C.P k/\∀(E:Env) (args:List Value),E.h=h->Good C.G I B0 E->BK E vs args->Calls C.P k args.toArray E.w (Ft C.G I B0 E v h')
section
variable {C:Bh}{I:World->Prop}{B0:Nat}
def Sx :Option Value->Option Bool
 |some (.bool b)=>some b
 |_=>none
theorem VZ {ops:Array Oper}{tmps:Array Value}{j:Nat}{d:Tmp}(hd:(ops[j]?).bind (·.dst)=some d):yielded ops tmps j=Sx tmps[d]? :=by
 unfold yielded Sx;rw[hd];simp only[Option.bind_some]
 cases tmps[d]? with
 |none=>rfl
 |some v=>cases v<;>rfl
theorem I6 {tmps:Array Value}{d:Nat}{v:Value}(h:tmps.getD d undef=v):Sx tmps[d]?=Sx (some v):=by
 by_cases Au:d<tmps.size
 ·simp[Array.getD,Au] at h;rw[Array.getElem?_eq_getElem Au,h]
 ·simp[Array.getD,Au] at h;rw[Array.getElem?_eq_none (Nat.le_of_not_lt Au),<-h];rfl
theorem IA {E:Env}{F:Fr}{a:Act}(hf:AP E F a){ops:Array Oper}{o:Oper}{γ:Bool}(h:guardOf ops F o=some γ):Region.wanted o (yielded ops a.tmps)=γ:=by
 unfold guardOf at h;unfold Region.wanted
 cases hg:o.guard with
 |none=>rw[hg] at h;simpa using h
 |some jw=>
  obtain⟨j,want⟩:=jw;rw[hg] at h;simp only at h⊢
  cases hd:(ops[j]?).bind (·.dst) with
  |none=>rw[hd] at h;cases h
  |some d=>
   rw[hd] at h;simp only at h;rw[VZ hd];have k:=hf.1 d;split at h
   ·rename_i g b hl;simp only[Option.some.injEq] at h;rw[hl] at k
    cases g with
    |true=>
     rw[I6 (k.1 rfl),<-h]
     cases b<;>cases want<;>rfl
    |false=>
     rw[I6 (k.2 rfl),<-h];rfl
   ·rename_i hl;simp only[Option.some.injEq] at h;rw[hl] at k;rw[I6 (k.2 rfl),<-h];rfl
   ·cases h
def G8 (ops:Array Oper)(l:List Nat):List Oper:=l.filterMap (ops[·]?)
theorem JF (hI:∀w w',I w->Below B0 w w'->I w'){cl:FuncId->List AV->Hp->Except (List Nat) (AV×Hp)}(Da:Md C I B0 cl){ops:Array Oper}{draw:Bool}{Q:Exit->Act->World->Prop}
  {K:Act->World->Prop} {i:Nat} {o:Oper} (ho:ops[i]?=some o) {n:Nat} (hd:FG n o.dst=true) {F:Fr} {e:Bool×AV} {h1:Hp} {E:Env} {a:Act}
  (hx:AW C cl ops draw o F E.h=.ok (e,h1)) (H:Good C.G I B0 E) (hf:AP E F a) (hn:n<=a.tmps.size)
  (hK:∀E' a',Step C.G I B0 E E'->E'.h=h1->AP E' (Aq F (Cx draw o) e) a'->a'.tmps.size=a.tmps.size->(draw=false/\Dk o=true\/a'.defers=a.defers)->K a' E'.w):wpOp C.P ops Q i K a E.w:=by
 simp only[wpOp,ho];simp only[AW] at hx
 have CC:∀c,(a.put o.dst c).tmps.size=a.tmps.size:=fun c=>by cases gw:o.dst<;>simp[Act.put]
 have FF:∀c,(a.put o.dst c).defers=a.defers:=fun c=>by cases gw:o.dst<;>rfl
 cases hg:guardOf ops F o with
 |none=>rw[hg] at hx;cases hx
 |some γ=>
  rw[hg] at hx;rw[IA hf hg]
  have plain:Dk o=false->∀{g:Bool} {v:AV},An C.P C.G I B0 E a o g v h1->e=(g,v)->o.wp C.P a E.w K Q:=by
   intro YE g v Bc he
   have PJ:Cx draw o=o.dst:=by cases draw<;>simp[Cx,YE]
   rw[PJ] at hK;subst he;obtain⟨c,E1,CU,S,KK,dL,fZ⟩:=Bc;have WZ:AP E1 (Aq F o.dst (g,v)) (a.put o.dst c):=AP.put (AP.mono S.le hf) hd hn dL fZ;have jO:=hK E1 (a.put o.dst c) S KK WZ (CC c) (.inr (FF c));unfold Oper.wp
   rcases CU with CU|⟨CU,hc⟩
   ·rw[CU];exact jO
   ·rw[CU];subst hc;exact jO
  cases γ with
  |false=>
   simp only[Except.ok.injEq,Prod.mk.injEq] at hx;obtain⟨rfl,rfl⟩:=hx
   rw[if_neg (by simp)]
   have YE:Dk o=false:=by
    cases Qy:o.guard with
    |none=>simp[guardOf,Qy] at hg
    |some _=>simp only[Dk,Qy];split<;>simp_all
   have PJ:Cx draw o=o.dst:=by cases draw<;>simp[Cx,YE]
   rw[PJ] at hK
   have WZ:AP E (Aq F o.dst (false,.top)) (a.put o.dst undef):=AP.put hf hd hn (fun h=>by cases h) (fun _=>rfl)
   exact hK E (a.put o.dst undef) (Step.refl H) rfl WZ (CC _) (.inr (FF _))
  |true=>
   rw[if_pos rfl];refine .inl ?_;simp only at hx
   cases F8:Ef C.P draw ops o F E.h with
   |some r=>
    rw[F8] at hx;simp only at hx;subst hx;unfold Ef at F8;split at F8
    ·cases F8
    ·split at F8
     ·rename_i t d Bc QJ
      have YE:Dk o=false:=by simp only[Dk,Bc]
      simp only[Option.some.injEq] at F8;unfold RE at F8;split at F8
      ·rename_i b hv;split at F8
       ·rename_i cs more hb hz;simp only[Except.ok.injEq,Prod.mk.injEq] at F8;obtain⟨rfl,rfl⟩:=F8;refine plain YE (g:=true) (v:=.ptr b 0) ?_ rfl;obtain⟨d,op,ty,pos,after,gd⟩:=o;simp only at Bc;subst Bc;exact gP hI H t hb hz
       ·cases F8
      ·cases F8
     ·split at F8<;>cases F8
     ·cases F8
   |none=>
   rw[F8] at hx;simp only at hx;unfold BB at hx;split at hx
   ·
    rename_i x args _ Bc
    have YE:Dk o=false:=by simp only[Dk,Bc]
    have PJ:Cx draw o=o.dst:=by cases draw<;>simp[Cx,YE]
    split at hx
    ·rename_i k first cap vs MM dp
     obtain⟨fa,ca,mG,Qv,Ms⟩:=Aj H hf MM rfl
     have CV:=Si H hf args.toList (by rw[dp])
     rw[dp] at CV;have CE:=BK.append (BK.append Qv CV) Ms
     have Iq:fa++args.map a.eval++ca=(fa.toList++args.toList.map a.eval++ca.toList).toArray:=by
      apply Array.ext';simp
     split at hx
     ·
      rename_i v hid hl;simp only[Except.ok.injEq,Prod.mk.injEq] at hx;obtain⟨rfl,rfl⟩:=hx;rw[hl] at CE;obtain⟨c,r,xq,HC,hr⟩:=CE;simp only[BK] at hr;subst hr;have CU:=Da.1 k hid c E.w
      refine plain YE (g:=true) (v:=v) ⟨c,E,.inl ?_,Step.refl H,rfl,fun _=>HC,fun h=>by cases h⟩ rfl
      obtain⟨d,op,ty,pos,after,gd⟩:=o;simp only at Bc;subst Bc;rw[xq] at Iq;simp only[execOp,resolve,mG,Deferred.ofValue,Sem.run_bind,Sem.run_pure,Result.andThen_ok,invoke,Iq,CU]
     ·cases hx
     split at hx
     case h_2=>cases hx
     case h_1 v2 h2 PL=>
      simp only[Except.ok.injEq,Prod.mk.injEq] at hx;obtain⟨rfl,rfl⟩:=hx;obtain⟨⟨fn,Mu,hb,K2⟩,Wk⟩:=Da.2 k _ _ _ _ PL;have hc:=Wk E _ rfl H CE
      have Ug:(execOp a.eval o).run C.P E.w=.ok (.enter k (fa.toList++args.toList.map a.eval++ca.toList).toArray) E.w:=by
       obtain⟨d,op,ty,pos,after,gd⟩:=o;simp only at Bc;subst Bc;simp only[execOp,resolve,mG,Deferred.ofValue,Sem.run_bind,Sem.run_pure,Result.andThen_ok,invoke,callFunc,run_program,Mu,K2,hb,Iq];rfl
      unfold Oper.wp;rw[Ug,Oper.upon_enter]
      refine hc.mono fun e w' UZ=> ?_
      obtain⟨c,E1,rfl,rfl,S,KK,HC⟩:=UZ;rw[PJ] at hK
      have WZ:AP E1 (Aq F o.dst (true,v2)) (a.put o.dst c):=AP.put (AP.mono S.le hf) hd hn (fun _=>HC) (fun h=>by cases h)
      exact hK E1 (a.put o.dst c) S KK WZ (CC c) (.inr (FF c))
    ·cases hx
   ·
    rename_i x args _ Bc;split at hx
    ·rename_i f first cap b l hc MM VR
     simp only[Except.ok.injEq,Prod.mk.injEq] at hx;obtain⟨rfl,rfl⟩:=hx;simp only[Bool.or_eq_false_iff,Bool.not_eq_false'] at hc;obtain⟨⟨⟨Wi,dq⟩,QJ⟩,CV⟩:=hc;obtain⟨fa,ca,mG,Qv,Ms⟩:=Aj H hf MM rfl
     have ha:args= #[]:=by
      rw[<-Array.toArray_toList (xs:=args),List.isEmpty_iff.1 CV]
     have tu:o.dst=none:=by simpa using QJ
     have Ug:(execOp a.eval o).run C.P E.w=.ok (.defer {target:=.fn f ca,args:=fa}) E.w:=by
      obtain⟨d,op,ty,pos,after,gd⟩:=o;simp only at Bc;subst Bc;subst ha;simp[execOp,resolve,mG,Deferred.ofValue]
     unfold Oper.wp;rw[Ug];simp only[Oper.upon,tu,Act.put]
     have PJ:Cx draw o=some dS:=by rw[Wi];simp[Cx,dq]
     rw[PJ] at hK
     refine hK E _ (Step.refl H) rfl ⟨fun s=> ?_,?_⟩ rfl (.inl ⟨Wi,dq⟩)
     ·simp only[Aq,lk]
      cases hb:Nat.beq dS s with
      |true=>exact⟨fun _=>trivial,fun h=>by cases h⟩
      |false=>exact hf.1 s
     ·simp only[Aq,lk,Nat.beq_refl,cond_true];have h2:=hf.2;rw[VR] at h2;exact⟨_,_,rfl,⟨ca,rfl,Qv,Ms⟩,h2⟩
    ·cases hx
   ·
    rename_i gn YE
    have tu:Dk o=false:=by
     cases Bc:o.op with
     |defer c=>
      obtain⟨callee,args,CG⟩:=c
      cases callee with
      |value x=>exact absurd Bc (YE x args CG)
      |invoke r m=>exact absurd hx (by cases draw||o.guard.isSome<;>simp[Bg,Bx,evalOp,Bc])
      |builtin b=>exact absurd hx (by cases draw||o.guard.isSome<;>simp[Bg,Bx,evalOp,Bc])
     |_=>simp[Dk,Bc]
    split at hx
    ·rename_i e h2 MM;simp only[Except.ok.injEq,Prod.mk.injEq] at hx;obtain⟨rfl,rfl⟩:=hx;exact plain tu (eI C hI H hf MM rfl) rfl
    ·cases hx
    ·cases hx
theorem W5 (hI:∀w w',I w->Below B0 w w'->I w'){cl:FuncId->List AV->Hp->Except (List Nat) (AV×Hp)}(Da:Md C I B0 cl){ops:Array Oper}{draw:Bool}{n:Nat}{Q:Exit->Act->World->Prop}:
  ∀(l:List Nat) (F:Fr) (h:Hp) (F':Fr) (h':Hp),((G8 ops l).all fun o=>FG n o.dst)=true->BJ C cl ops draw (G8 ops l) F h=.ok (F',h')->∀(E:Env) (a:Act),E.h=h->Good C.G I B0 E->AP E F a->n<=a.tmps.size->
   (∀E' a',Step C.G I B0 E E'->E'.h=h'->AP E' F' a'->a'.tmps.size=a.tmps.size->(draw=false/\Er (G8 ops l)=true\/a'.defers=a.defers)->Q .normal a' E'.w)->wpOps C.P ops Q l a E.w:=by
 intro l
 induction l with
 |nil=>
  intro F h F' h' _ hx E a hE H hf hn hQ;simp only[G8,List.filterMap_nil,BJ,Except.ok.injEq,Prod.mk.injEq] at hx;obtain⟨rfl,rfl⟩:=hx;exact hQ E a (Step.refl H) hE hf rfl (.inr rfl)
 |cons i l ih=>
  intro F h F' h' Gv hx E a hE H hf hn hQ;subst hE;rw[wpOps_cons]
  cases ho:ops[i]? with
  |none=>
   have:G8 ops (i::l)=G8 ops l:=by simp[G8,ho]
   rw[this] at hx Gv;simp only[wpOp,ho];rw[this] at hQ;exact ih F E.h F' h' Gv hx E a rfl H hf hn hQ
  |some o=>
   have:G8 ops (i::l)=o::G8 ops l:=by simp[G8,ho]
   rw[this] at hx Gv hQ;rw[List.all_cons,Bool.and_eq_true] at Gv;simp only[BJ] at hx
   cases hs:AW C cl ops draw o F E.h with
   |error e=>rw[hs] at hx;cases hx
   |ok r=>
    obtain⟨e,h1⟩:=r;rw[hs] at hx
    exact JF hI Da ho Gv.1 hs H hf hn fun E' a' S Gr F9 CC FF=>
     ih _ _ F' h' Gv.2 hx E' a' Gr S.Cg F9 (by rw[CC];exact hn) fun aJ iT S' Wn SZ FB MN=>hQ aJ iT (S.trans S') Wn SZ (FB.trans CC) (by
      rcases FF with ⟨h1,h2⟩|FF
      ·exact .inl ⟨h1,by simp[Er,h2]⟩
      ·rcases MN with ⟨h1,h2⟩|MN
       ·exact .inl ⟨h1,by simp only[Er] at h2⊢;simp[h2]⟩
       ·exact .inr (MN.trans FF))
end
end Go.Ai
