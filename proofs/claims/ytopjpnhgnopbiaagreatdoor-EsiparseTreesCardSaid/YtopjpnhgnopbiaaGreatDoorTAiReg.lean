/-
  Regions: the operations one behind the other, in whatever order they are listed.
-/
import Derived.Test.YtopjpnhgnopbiaaGreatDoorTAiStk
import Derived.Test.YtopjpnhgnopbiaaGreatDoorTAiTwo
set_option linter.unusedVariables false
set_option linter.unusedSimpArgs false
set_option linter.unnecessarySimpa false
namespace Go.Ai
open Go.RowKit
def Callee (P:Program)(k:FuncId):Prop:=∃fn,P.funcs[k]?=some fn/\fn.body.isNone=false/\(fn.name== "runtime.NumGoroutine")=false
def Fq (G:Nat->Option (List AV))(I:World->Prop)(B0:Nat)(E:Env)(v:AV)(h':Hp)(e:Ending)(w':World):Prop:=
 ∃c E',e=.returned c/\E'.w=w'/\Step G I B0 E E'/\E'.h=h'/\Rel E' v c
def Nv (C:Bh):Prop:=∀k,C.ident k=true->∀x w,(callFunc k #[x]).run C.P w=.ok (.value x) w
def MY (C:Bh)(I:World->Prop)(B0:Nat)(cl:FuncId->List AV->Hp->Except (List Nat) (AV×Hp)):Prop:=
 Nv C/\∀k vs h v h',cl k vs h=.ok (v,h')->Callee C.P k/\∀(E:Env) (args:List Value),E.h=h->Good C.G I B0 E->BJ E vs args->Calls C.P k args.toArray E.w (Fq C.G I B0 E v h')
section
variable {C:Bh}{I:World->Prop}{B0:Nat}
def Sq :Option Value->Option Bool
 |some (.bool b)=>some b
 |_=>none
theorem VT {ops:Array Oper}{tmps:Array Value}{j:Nat}{d:Tmp}(hd:(ops[j]?).bind (·.dst)=some d):yielded ops tmps j=Sq tmps[d]? :=by
 unfold yielded Sq;rw[hd];simp only[Option.bind_some]
 cases tmps[d]? with
 |none=>rfl
 |some v=>cases v<;>rfl
theorem Ix {tmps:Array Value}{d:Nat}{v:Value}(h:tmps.getD d undef=v):Sq tmps[d]?=Sq (some v):=by
 by_cases As:d<tmps.size
 ·simp[Array.getD,As] at h;rw[Array.getElem?_eq_getElem As,h]
 ·simp[Array.getD,As] at h;rw[Array.getElem?_eq_none (Nat.le_of_not_lt As),<-h];rfl
theorem H8 {E:Env}{F:Fr}{a:Act}(hf:AO E F a){ops:Array Oper}{o:Oper}{γ:Bool}(h:guardOf ops F o=some γ):Region.wanted o (yielded ops a.tmps)=γ:=by
 unfold guardOf at h;unfold Region.wanted
 cases hg:o.guard with
 |none=>rw[hg] at h;simpa using h
 |some jw=>
  obtain⟨j,want⟩:=jw;rw[hg] at h;simp only at h⊢
  cases hd:(ops[j]?).bind (·.dst) with
  |none=>rw[hd] at h;cases h
  |some d=>
   rw[hd] at h;simp only at h;rw[VT hd];have k:=hf.1 d;split at h
   ·rename_i g b hl;simp only[Option.some.injEq] at h;rw[hl] at k
    cases g with
    |true=>
     rw[Ix (k.1 rfl),<-h]
     cases b<;>cases want<;>rfl
    |false=>
     rw[Ix (k.2 rfl),<-h];rfl
   ·rename_i hl;simp only[Option.some.injEq] at h;rw[hl] at k;rw[Ix (k.2 rfl),<-h];rfl
   ·cases h
def Gz (ops:Array Oper)(l:List Nat):List Oper:=l.filterMap (ops[·]?)
theorem JC (hI:∀w w',I w->Below B0 w w'->I w'){cl:FuncId->List AV->Hp->Except (List Nat) (AV×Hp)}(DZ:MY C I B0 cl){ops:Array Oper}{draw:Bool}{Q:Exit->Act->World->Prop}
  {K:Act->World->Prop} {i:Nat} {o:Oper} (ho:ops[i]?=some o) {n:Nat} (hd:FE n o.dst=true) {F:Fr} {e:Bool×AV} {h1:Hp} {E:Env} {a:Act}
  (hx:AW C cl ops draw o F E.h=.ok (e,h1)) (H:Good C.G I B0 E) (hf:AO E F a) (hn:n<=a.tmps.size)
  (hK:∀E' a',Step C.G I B0 E E'->E'.h=h1->AO E' (Aq F (Cx draw o) e) a'->a'.tmps.size=a.tmps.size->(draw=false/\Dj o=true\/a'.defers=a.defers)->K a' E'.w):wpOp C.P ops Q i K a E.w:=by
 simp only[wpOp,ho];simp only[AW] at hx
 have CC:∀c,(a.put o.dst c).tmps.size=a.tmps.size:=fun c=>by cases gi:o.dst<;>simp[Act.put]
 have FD:∀c,(a.put o.dst c).defers=a.defers:=fun c=>by cases gi:o.dst<;>rfl
 cases hg:guardOf ops F o with
 |none=>rw[hg] at hx;cases hx
 |some γ=>
  rw[hg] at hx;rw[H8 hf hg]
  have plain:Dj o=false->∀{g:Bool} {v:AV},An C.P C.G I B0 E a o g v h1->e=(g,v)->o.wp C.P a E.w K Q:=by
   intro YA g v Bc he
   have PD:Cx draw o=o.dst:=by cases draw<;>simp[Cx,YA]
   rw[PD] at hK;subst he;obtain⟨c,E1,CU,S,KH,dF,fQ⟩:=Bc;have WT:AO E1 (Aq F o.dst (g,v)) (a.put o.dst c):=AO.put (AO.mono S.le hf) hd hn dF fQ;have jE:=hK E1 (a.put o.dst c) S KH WT (CC c) (.inr (FD c));unfold Oper.wp
   rcases CU with CU|⟨CU,hc⟩
   ·rw[CU];exact jE
   ·rw[CU];subst hc;exact jE
  cases γ with
  |false=>
   simp only[Except.ok.injEq,Prod.mk.injEq] at hx;obtain⟨rfl,rfl⟩:=hx
   rw[if_neg (by simp)]
   have YA:Dj o=false:=by
    cases Qt:o.guard with
    |none=>simp[guardOf,Qt] at hg
    |some _=>simp only[Dj,Qt];split<;>simp_all
   have PD:Cx draw o=o.dst:=by cases draw<;>simp[Cx,YA]
   rw[PD] at hK
   have WT:AO E (Aq F o.dst (false,.top)) (a.put o.dst undef):=AO.put hf hd hn (fun h=>by cases h) (fun _=>rfl)
   exact hK E (a.put o.dst undef) (Step.refl H) rfl WT (CC _) (.inr (FD _))
  |true=>
   rw[if_pos rfl];refine .inl ?_;simp only at hx
   cases F6:Ef C.P draw ops o F E.h with
   |some r=>
    rw[F6] at hx;simp only at hx;subst hx;unfold Ef at F6;split at F6
    ·cases F6
    ·split at F6
     ·rename_i t d Bc QE
      have YA:Dj o=false:=by simp only[Dj,Bc]
      simp only[Option.some.injEq] at F6;unfold Q9 at F6;split at F6
      ·rename_i b hv;split at F6
       ·rename_i cs more hb hz;simp only[Except.ok.injEq,Prod.mk.injEq] at F6;obtain⟨rfl,rfl⟩:=F6;refine plain YA (g:=true) (v:=.ptr b 0) ?_ rfl;obtain⟨d,op,ty,pos,after,gd⟩:=o;simp only at Bc;subst Bc;exact gF hI H t hb hz
       ·cases F6
      ·cases F6
     ·split at F6<;>cases F6
     ·cases F6
   |none=>
   rw[F6] at hx;simp only at hx;unfold BA at hx;split at hx
   ·
    rename_i x args _ Bc
    have YA:Dj o=false:=by simp only[Dj,Bc]
    have PD:Cx draw o=o.dst:=by cases draw<;>simp[Cx,YA]
    split at hx
    ·rename_i k first cap vs MH dh
     obtain⟨fa,ca,lv,Qq,Mn⟩:=Aj H hf MH rfl
     have CV:=Sc H hf args.toList (by rw[dh])
     rw[dh] at CV;have CE:=BJ.append (BJ.append Qq CV) Mn
     have Im:fa++args.map a.eval++ca=(fa.toList++args.toList.map a.eval++ca.toList).toArray:=by
      apply Array.ext';simp
     split at hx
     ·
      rename_i v hid hl;simp only[Except.ok.injEq,Prod.mk.injEq] at hx;obtain⟨rfl,rfl⟩:=hx;rw[hl] at CE;obtain⟨c,r,xX,HB,hr⟩:=CE;simp only[BJ] at hr;subst hr;have CU:=DZ.1 k hid c E.w
      refine plain YA (g:=true) (v:=v) ⟨c,E,.inl ?_,Step.refl H,rfl,fun _=>HB,fun h=>by cases h⟩ rfl
      obtain⟨d,op,ty,pos,after,gd⟩:=o;simp only at Bc;subst Bc;rw[xX] at Im;simp only[execOp,resolve,lv,Deferred.ofValue,Sem.run_bind,Sem.run_pure,Result.andThen_ok,invoke,Im,CU]
     ·cases hx
     split at hx
     case h_2=>cases hx
     case h_1 v2 h2 PE=>
      simp only[Except.ok.injEq,Prod.mk.injEq] at hx;obtain⟨rfl,rfl⟩:=hx;obtain⟨⟨fn,Mp,hb,Ky⟩,We⟩:=DZ.2 k _ _ _ _ PE;have hc:=We E _ rfl H CE
      have Ub:(execOp a.eval o).run C.P E.w=.ok (.enter k (fa.toList++args.toList.map a.eval++ca.toList).toArray) E.w:=by
       obtain⟨d,op,ty,pos,after,gd⟩:=o;simp only at Bc;subst Bc;simp only[execOp,resolve,lv,Deferred.ofValue,Sem.run_bind,Sem.run_pure,Result.andThen_ok,invoke,callFunc,run_program,Mp,Ky,hb,Im];rfl
      unfold Oper.wp;rw[Ub,Oper.upon_enter]
      refine hc.mono fun e w' UT=> ?_
      obtain⟨c,E1,rfl,rfl,S,KH,HB⟩:=UT;rw[PD] at hK
      have WT:AO E1 (Aq F o.dst (true,v2)) (a.put o.dst c):=AO.put (AO.mono S.le hf) hd hn (fun _=>HB) (fun h=>by cases h)
      exact hK E1 (a.put o.dst c) S KH WT (CC c) (.inr (FD c))
    ·cases hx
   ·
    rename_i x args _ Bc;split at hx
    ·rename_i f first cap b l hc MH VL
     simp only[Except.ok.injEq,Prod.mk.injEq] at hx;obtain⟨rfl,rfl⟩:=hx;simp only[Bool.or_eq_false_iff,Bool.not_eq_false'] at hc;obtain⟨⟨⟨Wc,di⟩,QE⟩,CV⟩:=hc;obtain⟨fa,ca,lv,Qq,Mn⟩:=Aj H hf MH rfl
     have ha:args= #[]:=by
      rw[<-Array.toArray_toList (xs:=args),List.isEmpty_iff.1 CV]
     have tc:o.dst=none:=by simpa using QE
     have Ub:(execOp a.eval o).run C.P E.w=.ok (.defer {target:=.fn f ca,args:=fa}) E.w:=by
      obtain⟨d,op,ty,pos,after,gd⟩:=o;simp only at Bc;subst Bc;subst ha;simp[execOp,resolve,lv,Deferred.ofValue]
     unfold Oper.wp;rw[Ub];simp only[Oper.upon,tc,Act.put]
     have PD:Cx draw o=some dS:=by rw[Wc];simp[Cx,di]
     rw[PD] at hK
     refine hK E _ (Step.refl H) rfl ⟨fun s=> ?_,?_⟩ rfl (.inl ⟨Wc,di⟩)
     ·simp only[Aq,lk]
      cases hb:Nat.beq dS s with
      |true=>exact⟨fun _=>trivial,fun h=>by cases h⟩
      |false=>exact hf.1 s
     ·simp only[Aq,lk,Nat.beq_refl,cond_true];have h2:=hf.2;rw[VL] at h2;exact⟨_,_,rfl,⟨ca,rfl,Qq,Mn⟩,h2⟩
    ·cases hx
   ·
    rename_i gZ YA
    have tc:Dj o=false:=by
     cases Bc:o.op with
     |defer c=>
      obtain⟨callee,args,CG⟩:=c
      cases callee with
      |value x=>exact absurd Bc (YA x args CG)
      |invoke r m=>exact absurd hx (by cases draw||o.guard.isSome<;>simp[Bg,Bw,evalOp,Bc])
      |builtin b=>exact absurd hx (by cases draw||o.guard.isSome<;>simp[Bg,Bw,evalOp,Bc])
     |_=>simp[Dj,Bc]
    split at hx
    ·rename_i e h2 MH;simp only[Except.ok.injEq,Prod.mk.injEq] at hx;obtain⟨rfl,rfl⟩:=hx;exact plain tc (eC C hI H hf MH rfl) rfl
    ·cases hx
    ·cases hx
theorem Wu (hI:∀w w',I w->Below B0 w w'->I w'){cl:FuncId->List AV->Hp->Except (List Nat) (AV×Hp)}(DZ:MY C I B0 cl){ops:Array Oper}{draw:Bool}{n:Nat}{Q:Exit->Act->World->Prop}:
  ∀(l:List Nat) (F:Fr) (h:Hp) (F':Fr) (h':Hp),((Gz ops l).all fun o=>FE n o.dst)=true->BI C cl ops draw (Gz ops l) F h=.ok (F',h')->∀(E:Env) (a:Act),E.h=h->Good C.G I B0 E->AO E F a->n<=a.tmps.size->
   (∀E' a',Step C.G I B0 E E'->E'.h=h'->AO E' F' a'->a'.tmps.size=a.tmps.size->(draw=false/\Eo (Gz ops l)=true\/a'.defers=a.defers)->Q .normal a' E'.w)->wpOps C.P ops Q l a E.w:=by
 intro l
 induction l with
 |nil=>
  intro F h F' h' _ hx E a hE H hf hn hQ;simp only[Gz,List.filterMap_nil,BI,Except.ok.injEq,Prod.mk.injEq] at hx;obtain⟨rfl,rfl⟩:=hx;exact hQ E a (Step.refl H) hE hf rfl (.inr rfl)
 |cons i l ih=>
  intro F h F' h' Gs hx E a hE H hf hn hQ;subst hE;rw[wpOps_cons]
  cases ho:ops[i]? with
  |none=>
   have:Gz ops (i::l)=Gz ops l:=by simp[Gz,ho]
   rw[this] at hx Gs;simp only[wpOp,ho];rw[this] at hQ;exact ih F E.h F' h' Gs hx E a rfl H hf hn hQ
  |some o=>
   have:Gz ops (i::l)=o::Gz ops l:=by simp[Gz,ho]
   rw[this] at hx Gs hQ;rw[List.all_cons,Bool.and_eq_true] at Gs;simp only[BI] at hx
   cases hs:AW C cl ops draw o F E.h with
   |error e=>rw[hs] at hx;cases hx
   |ok r=>
    obtain⟨e,h1⟩:=r;rw[hs] at hx
    exact JC hI DZ ho Gs.1 hs H hf hn fun E' a' S Gn F7 CC FD=>
     ih _ _ F' h' Gs.2 hx E' a' Gn S.Cg F7 (by rw[CC];exact hn) fun aC iI S' Wh SU E9 MI=>hQ aC iI (S.trans S') Wh SU (E9.trans CC) (by
      rcases FD with ⟨h1,h2⟩|FD
      ·exact .inl ⟨h1,by simp[Eo,h2]⟩
      ·rcases MI with ⟨h1,h2⟩|MI
       ·exact .inl ⟨h1,by simp only[Eo] at h2⊢;simp[h2]⟩
       ·exact .inr (MI.trans FD))
end
end Go.Ai
