/-
  Regions: the operations one behind the other, in whatever order they are listed.
-/
import Derived.Test.YtopjpnhgnopbiaaGreatDoorAiStk
import Derived.Test.YtopjpnhgnopbiaaGreatDoorAiTwo
set_option linter.unusedVariables false
set_option linter.unusedSimpArgs false
set_option linter.unnecessarySimpa false
namespace Go.Ai
open Go.RowKit
def Callee (P:Program)(k:FuncId):Prop:=∃fn,P.funcs[k]?=some fn/\fn.body.isNone=false/\(fn.name== "runtime.NumGoroutine")=false
def Gm (G:Nat->Option (List AV))(I:World->Prop)(B0:Nat)(E:Env)(v:AV)(h':Hp)(e:Ending)(w':World):Prop:=
 ∃c E',e=.returned c/\E'.w=w'/\Step G I B0 E E'/\E'.h=h'/\Rel E' v c
def Pv (C:Bm):Prop:=∀k,C.ident k=true->∀x w,(callFunc k #[x]).run C.P w=.ok (.value x) w
def OH (C:Bm)(I:World->Prop)(B0:Nat)(cl:FuncId->List AV->Hp->Except (List Nat) (AV×Hp)):Prop:=
 Pv C/\∀k vs h v h',cl k vs h=.ok (v,h')->Callee C.P k/\∀(E:Env) (args:List Value),E.h=h->Good C.G I B0 E->BU E vs args->Calls C.P k args.toArray E.w (Gm C.G I B0 E v h')
section
variable {C:Bm}{I:World->Prop}{B0:Nat}
def VN :Option Value->Option Bool
 |some (.bool b)=>some b
 |_=>none
theorem Xy {ops:Array Oper}{tmps:Array Value}{j:Nat}{d:Tmp}(hd:(ops[j]?).bind (·.dst)=some d):yielded ops tmps j=VN tmps[d]? :=by
 unfold yielded VN;rw[hd];simp only[Option.bind_some]
 cases tmps[d]? with
 |none=>rfl
 |some v=>cases v<;>rfl
theorem KI {tmps:Array Value}{d:Nat}{v:Value}(h:tmps.getD d undef=v):VN tmps[d]?=VN (some v):=by
 by_cases BC:d<tmps.size
 ·simp[Array.getD,BC] at h;rw[Array.getElem?_eq_getElem BC,h]
 ·simp[Array.getD,BC] at h;rw[Array.getElem?_eq_none (Nat.le_of_not_lt BC),<-h];rfl
theorem JJ {E:Env}{F:Fr}{a:Act}(hf:AR E F a){ops:Array Oper}{o:Oper}{γ:Bool}(h:guardOf ops F o=some γ):Region.wanted o (yielded ops a.tmps)=γ:=by
 unfold guardOf at h;unfold Region.wanted
 cases hg:o.guard with
 |none=>rw[hg] at h;simpa using h
 |some jw=>
  obtain⟨j,want⟩:=jw;rw[hg] at h;simp only at h⊢
  cases hd:(ops[j]?).bind (·.dst) with
  |none=>rw[hd] at h;cases h
  |some d=>
   rw[hd] at h;simp only at h;rw[Xy hd];have k:=hf.1 d;split at h
   ·rename_i g b hl;simp only[Option.some.injEq] at h;rw[hl] at k
    cases g with
    |true=>
     rw[KI (k.1 rfl),<-h]
     cases b<;>cases want<;>rfl
    |false=>
     rw[KI (k.2 rfl),<-h];rfl
   ·rename_i hl;simp only[Option.some.injEq] at h;rw[hl] at k;rw[KI (k.2 rfl),<-h];rfl
   ·cases h
def IB (ops:Array Oper)(l:List Nat):List Oper:=l.filterMap (ops[·]?)
theorem KS (hI:∀w w',I w->Below B0 w w'->I w'){cl:FuncId->List AV->Hp->Except (List Nat) (AV×Hp)}(DU:OH C I B0 cl){ops:Array Oper}{draw:Bool}{Q:Exit->Act->World->Prop}
  {K:Act->World->Prop} {i:Nat} {o:Oper} (ho:ops[i]?=some o) {n:Nat} (hd:F9 n o.dst=true) {F:Fr} {e:Bool×AV} {h1:Hp} {E:Env} {a:Act}
  (hx:AW C cl ops draw o F E.h=.ok (e,h1)) (H:Good C.G I B0 E) (hf:AR E F a) (hn:n<=a.tmps.size)
  (hK:∀E' a',Step C.G I B0 E E'->E'.h=h1->AR E' (Av F (DG draw o) e) a'->a'.tmps.size=a.tmps.size->(draw=false/\EI o=true\/a'.defers=a.defers)->K a' E'.w):wpOp C.P ops Q i K a E.w:=by
 simp only[wpOp,ho];simp only[AW] at hx
 have CD:∀c,(a.put o.dst c).tmps.size=a.tmps.size:=fun c=>by cases bQ:o.dst<;>simp[Act.put]
 have F7:∀c,(a.put o.dst c).defers=a.defers:=fun c=>by cases bQ:o.dst<;>rfl
 cases hg:guardOf ops F o with
 |none=>rw[hg] at hx;cases hx
 |some γ=>
  rw[hg] at hx;rw[JJ hf hg]
  have plain:EI o=false->∀{g:Bool} {v:AV},Au C.P C.G I B0 E a o g v h1->e=(g,v)->o.wp C.P a E.w K Q:=by
   intro bO g v Bo he
   have RJ:DG draw o=o.dst:=by cases draw<;>simp[DG,bO]
   rw[RJ] at hK;subst he;obtain⟨c,E1,Cb,S,LZ,wa,sP⟩:=Bo;have ZC:AR E1 (Av F o.dst (g,v)) (a.put o.dst c):=AR.put (AR.mono S.le hf) hd hn wa sP;have mW:=hK E1 (a.put o.dst c) S LZ ZC (CD c) (.inr (F7 c));unfold Oper.wp
   rcases Cb with Cb|⟨Cb,hc⟩
   ·rw[Cb];exact mW
   ·rw[Cb];subst hc;exact mW
  cases γ with
  |false=>
   simp only[Except.ok.injEq,Prod.mk.injEq] at hx;obtain⟨rfl,rfl⟩:=hx
   rw[if_neg (by simp)]
   have bO:EI o=false:=by
    cases TL:o.guard with
    |none=>simp[guardOf,TL] at hg
    |some _=>simp only[EI,TL];split<;>simp_all
   have RJ:DG draw o=o.dst:=by cases draw<;>simp[DG,bO]
   rw[RJ] at hK
   have ZC:AR E (Av F o.dst (false,.top)) (a.put o.dst undef):=AR.put hf hd hn (fun h=>by cases h) (fun _=>rfl)
   exact hK E (a.put o.dst undef) (Step.refl H) rfl ZC (CD _) (.inr (F7 _))
  |true=>
   rw[if_pos rfl];refine .inl ?_;simp only at hx
   cases G8:FO C.P draw ops o F E.h with
   |some r=>
    rw[G8] at hx;simp only at hx;subst hx;unfold FO at G8;split at G8
    ·cases G8
    ·split at G8
     ·rename_i t d Bo SL
      have bO:EI o=false:=by simp only[EI,Bo]
      simp only[Option.some.injEq] at G8;unfold TU at G8;split at G8
      ·rename_i b hv;split at G8
       ·rename_i cs more hb hz;simp only[Except.ok.injEq,Prod.mk.injEq] at G8;obtain⟨rfl,rfl⟩:=G8;refine plain bO (g:=true) (v:=.ptr b 0) ?_ rfl;obtain⟨d,op,ty,pos,after,gd⟩:=o;simp only at Bo;subst Bo;exact kj hI H t hb hz
       ·cases G8
      ·cases G8
     ·split at G8<;>cases G8
     ·cases G8
   |none=>
   rw[G8] at hx;simp only at hx;unfold BF at hx;split at hx
   ·
    rename_i x args _ Bo
    have bO:EI o=false:=by simp only[EI,Bo]
    have RJ:DG draw o=o.dst:=by cases draw<;>simp[DG,bO]
    split at hx
    ·rename_i k first cap vs Nr iq
     obtain⟨fa,ca,qU,TF,OZ⟩:=Ah H hf Nr rfl
     have Cd:=U8 H hf args.toList (by rw[iq])
     rw[iq] at Cd;have CG:=BU.append (BU.append TF Cd) OZ
     have J7:fa++args.map a.eval++ca=(fa.toList++args.toList.map a.eval++ca.toList).toArray:=by
      apply Array.ext';simp
     split at hx
     ·
      rename_i v hid hl;simp only[Except.ok.injEq,Prod.mk.injEq] at hx;obtain⟨rfl,rfl⟩:=hx;rw[hl] at CG;obtain⟨c,r,hcr,IG,hr⟩:=CG;simp only[BU] at hr;subst hr;have Cb:=DU.1 k hid c E.w
      refine plain bO (g:=true) (v:=v) ⟨c,E,.inl ?_,Step.refl H,rfl,fun _=>IG,fun h=>by cases h⟩ rfl
      obtain⟨d,op,ty,pos,after,gd⟩:=o;simp only at Bo;subst Bo;rw[hcr] at J7;simp only[execOp,resolve,qU,Deferred.ofValue,Sem.run_bind,Sem.run_pure,Result.andThen_ok,invoke,J7,Cb]
     ·cases hx
     split at hx
     case h_2=>cases hx
     case h_1 v2 h2 RL=>
      simp only[Except.ok.injEq,Prod.mk.injEq] at hx;obtain⟨rfl,rfl⟩:=hx;obtain⟨⟨fn,Ob,hb,MS⟩,ZQ⟩:=DU.2 k _ _ _ _ RL;have hc:=ZQ E _ rfl H CG
      have W9:(execOp a.eval o).run C.P E.w=.ok (.enter k (fa.toList++args.toList.map a.eval++ca.toList).toArray) E.w:=by
       obtain⟨d,op,ty,pos,after,gd⟩:=o;simp only at Bo;subst Bo;simp only[execOp,resolve,qU,Deferred.ofValue,Sem.run_bind,Sem.run_pure,Result.andThen_ok,invoke,callFunc,run_program,Ob,MS,hb,J7];rfl
      unfold Oper.wp;rw[W9,Oper.upon_enter]
      refine hc.mono fun e w' Wy=> ?_
      obtain⟨c,E1,rfl,rfl,S,LZ,IG⟩:=Wy;rw[RJ] at hK
      have ZC:AR E1 (Av F o.dst (true,v2)) (a.put o.dst c):=AR.put (AR.mono S.le hf) hd hn (fun _=>IG) (fun h=>by cases h)
      exact hK E1 (a.put o.dst c) S LZ ZC (CD c) (.inr (F7 c))
    ·cases hx
   ·
    rename_i x args _ Bo;split at hx
    ·rename_i f first cap b l hc Nr Xp
     simp only[Except.ok.injEq,Prod.mk.injEq] at hx;obtain⟨rfl,rfl⟩:=hx;simp only[Bool.or_eq_false_iff,Bool.not_eq_false'] at hc;obtain⟨⟨⟨ZM,ir⟩,SL⟩,Cd⟩:=hc;obtain⟨fa,ca,qU,TF,OZ⟩:=Ah H hf Nr rfl
     have ha:args= #[]:=by
      rw[<-Array.toArray_toList (xs:=args),List.isEmpty_iff.1 Cd]
     have xu:o.dst=none:=by simpa using SL
     have W9:(execOp a.eval o).run C.P E.w=.ok (.defer {target:=.fn f ca,args:=fa}) E.w:=by
      obtain⟨d,op,ty,pos,after,gd⟩:=o;simp only at Bo;subst Bo;subst ha;simp[execOp,resolve,qU,Deferred.ofValue]
     unfold Oper.wp;rw[W9];simp only[Oper.upon,xu,Act.put]
     have RJ:DG draw o=some dS:=by rw[ZM];simp[DG,ir]
     rw[RJ] at hK
     refine hK E _ (Step.refl H) rfl ⟨fun s=> ?_,?_⟩ rfl (.inl ⟨ZM,ir⟩)
     ·simp only[Av,lk]
      cases hb:Nat.beq dS s with
      |true=>exact⟨fun _=>trivial,fun h=>by cases h⟩
      |false=>exact hf.1 s
     ·simp only[Av,lk,Nat.beq_refl,cond_true];have h2:=hf.2;rw[Xp] at h2;exact⟨_,_,rfl,⟨ca,rfl,TF,OZ⟩,h2⟩
    ·cases hx
   ·
    rename_i lH bO
    have xu:EI o=false:=by
     cases Bo:o.op with
     |defer c=>
      obtain⟨callee,args,Xg⟩:=c
      cases callee with
      |value x=>exact absurd Bo (bO x args Xg)
      |invoke r m=>exact absurd hx (by cases draw||o.guard.isSome<;>simp[Bl,B7,evalOp,Bo])
      |builtin b=>exact absurd hx (by cases draw||o.guard.isSome<;>simp[Bl,B7,evalOp,Bo])
     |_=>simp[EI,Bo]
    split at hx
    ·rename_i e h2 Nr;simp only[Except.ok.injEq,Prod.mk.injEq] at hx;obtain⟨rfl,rfl⟩:=hx;exact plain xu (jK C hI H hf Nr rfl) rfl
    ·cases hx
    ·cases hx
theorem Ze (hI:∀w w',I w->Below B0 w w'->I w'){cl:FuncId->List AV->Hp->Except (List Nat) (AV×Hp)}(DU:OH C I B0 cl){ops:Array Oper}{draw:Bool}{n:Nat}{Q:Exit->Act->World->Prop}:
  ∀(l:List Nat) (F:Fr) (h:Hp) (F':Fr) (h':Hp),((IB ops l).all fun o=>F9 n o.dst)=true->BS C cl ops draw (IB ops l) F h=.ok (F',h')->∀(E:Env) (a:Act),E.h=h->Good C.G I B0 E->AR E F a->n<=a.tmps.size->
   (∀E' a',Step C.G I B0 E E'->E'.h=h'->AR E' F' a'->a'.tmps.size=a.tmps.size->(draw=false/\Fg (IB ops l)=true\/a'.defers=a.defers)->Q .normal a' E'.w)->wpOps C.P ops Q l a E.w:=by
 intro l
 induction l with
 |nil=>
  intro F h F' h' _ hx E a hE H hf hn hQ;simp only[IB,List.filterMap_nil,BS,Except.ok.injEq,Prod.mk.injEq] at hx;obtain⟨rfl,rfl⟩:=hx;exact hQ E a (Step.refl H) hE hf rfl (.inr rfl)
 |cons i l ih=>
  intro F h F' h' Hy hx E a hE H hf hn hQ;subst hE;rw[wpOps_cons]
  cases ho:ops[i]? with
  |none=>
   have:IB ops (i::l)=IB ops l:=by simp[IB,ho]
   rw[this] at hx Hy;simp only[wpOp,ho];rw[this] at hQ;exact ih F E.h F' h' Hy hx E a rfl H hf hn hQ
  |some o=>
   have:IB ops (i::l)=o::IB ops l:=by simp[IB,ho]
   rw[this] at hx Hy hQ;rw[List.all_cons,Bool.and_eq_true] at Hy;simp only[BS] at hx
   cases hs:AW C cl ops draw o F E.h with
   |error e=>rw[hs] at hx;cases hx
   |ok r=>
    obtain⟨e,h1⟩:=r;rw[hs] at hx
    exact KS hI DU ho Hy.1 hs H hf hn fun E' a' S Hl FT CD F7=>
     ih _ _ F' h' Hy.2 hx E' a' Hl S.Cn FT (by rw[CD];exact hn) fun eM lq S' ZT Uw Fv Ns=>hQ eM lq (S.trans S') ZT Uw (Fv.trans CD) (by
      rcases F7 with ⟨h1,h2⟩|F7
      ·exact .inl ⟨h1,by simp[Fg,h2]⟩
      ·rcases Ns with ⟨h1,h2⟩|Ns
       ·exact .inl ⟨h1,by simp only[Fg] at h2⊢;simp[h2]⟩
       ·exact .inr (Ns.trans F7))
end
end Go.Ai
