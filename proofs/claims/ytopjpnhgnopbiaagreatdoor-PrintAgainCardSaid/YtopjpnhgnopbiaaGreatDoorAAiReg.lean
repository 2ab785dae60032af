/-
  Regions: the operations one behind the other, in whatever order they are listed.
-/
import Derived.Test.YtopjpnhgnopbiaaGreatDoorAAiStk
import Derived.Test.YtopjpnhgnopbiaaGreatDoorAAiTwo
set_option linter.unusedVariables false
set_option linter.unusedSimpArgs false
set_option linter.unnecessarySimpa false
namespace Go.Ai
open Go.RowKit
def Callee (P:Program)(k:FuncId):Prop:=∃fn,P.funcs[k]?=some fn/\fn.body.isNone=false/\(fn.name== "runtime.NumGoroutine")=false
def Gj (G:Nat->Option (List AV))(I:World->Prop)(B0:Nat)(E:Env)(v:AV)(h':Hp)(e:Ending)(w':World):Prop:=
 ∃c E',e=.returned c/\E'.w=w'/\Step G I B0 E E'/\E'.h=h'/\Rel E' v c
def Pp (C:Bm):Prop:=∀k,C.ident k=true->∀x w,(callFunc k #[x]).run C.P w=.ok (.value x) w
def OD (C:Bm)(I:World->Prop)(B0:Nat)(cl:FuncId->List AV->Hp->Except (List Nat) (AV×Hp)):Prop:=
 Pp C/\∀k vs h v h',cl k vs h=.ok (v,h')->Callee C.P k/\∀(E:Env) (args:List Value),E.h=h->Good C.G I B0 E->BT E vs args->Calls C.P k args.toArray E.w (Gj C.G I B0 E v h')
section
variable {C:Bm}{I:World->Prop}{B0:Nat}
def VM :Option Value->Option Bool
 |some (.bool b)=>some b
 |_=>none
theorem Xv {ops:Array Oper}{tmps:Array Value}{j:Nat}{d:Tmp}(hd:(ops[j]?).bind (·.dst)=some d):yielded ops tmps j=VM tmps[d]? :=by
 unfold yielded VM;rw[hd];simp only[Option.bind_some]
 cases tmps[d]? with
 |none=>rfl
 |some v=>cases v<;>rfl
theorem KF {tmps:Array Value}{d:Nat}{v:Value}(h:tmps.getD d undef=v):VM tmps[d]?=VM (some v):=by
 by_cases BC:d<tmps.size
 ·simp[Array.getD,BC] at h;rw[Array.getElem?_eq_getElem BC,h]
 ·simp[Array.getD,BC] at h;rw[Array.getElem?_eq_none (Nat.le_of_not_lt BC),<-h];rfl
theorem JG {E:Env}{F:Fr}{a:Act}(hf:AR E F a){ops:Array Oper}{o:Oper}{γ:Bool}(h:guardOf ops F o=some γ):Region.wanted o (yielded ops a.tmps)=γ:=by
 unfold guardOf at h;unfold Region.wanted
 cases hg:o.guard with
 |none=>rw[hg] at h;simpa using h
 |some jw=>
  obtain⟨j,want⟩:=jw;rw[hg] at h;simp only at h⊢
  cases hd:(ops[j]?).bind (·.dst) with
  |none=>rw[hd] at h;cases h
  |some d=>
   rw[hd] at h;simp only at h;rw[Xv hd];have k:=hf.1 d;split at h
   ·rename_i g b hl;simp only[Option.some.injEq] at h;rw[hl] at k
    cases g with
    |true=>
     rw[KF (k.1 rfl),<-h]
     cases b<;>cases want<;>rfl
    |false=>
     rw[KF (k.2 rfl),<-h];rfl
   ·rename_i hl;simp only[Option.some.injEq] at h;rw[hl] at k;rw[KF (k.2 rfl),<-h];rfl
   ·cases h
def H9 (ops:Array Oper)(l:List Nat):List Oper:=l.filterMap (ops[·]?)
theorem KN (hI:∀w w',I w->Below B0 w w'->I w'){cl:FuncId->List AV->Hp->Except (List Nat) (AV×Hp)}(DS:OD C I B0 cl){ops:Array Oper}{draw:Bool}{Q:Exit->Act->World->Prop}
  {K:Act->World->Prop} {i:Nat} {o:Oper} (ho:ops[i]?=some o) {n:Nat} (hd:F6 n o.dst=true) {F:Fr} {e:Bool×AV} {h1:Hp} {E:Env} {a:Act}
  (hx:AW C cl ops draw o F E.h=.ok (e,h1)) (H:Good C.G I B0 E) (hf:AR E F a) (hn:n<=a.tmps.size)
  (hK:∀E' a',Step C.G I B0 E E'->E'.h=h1->AR E' (Av F (DF draw o) e) a'->a'.tmps.size=a.tmps.size->(draw=false/\EE o=true\/a'.defers=a.defers)->K a' E'.w):wpOp C.P ops Q i K a E.w:=by
 simp only[wpOp,ho];simp only[AW] at hx
 have CD:∀c,(a.put o.dst c).tmps.size=a.tmps.size:=fun c=>by cases bK:o.dst<;>simp[Act.put]
 have Fy:∀c,(a.put o.dst c).defers=a.defers:=fun c=>by cases bK:o.dst<;>rfl
 cases hg:guardOf ops F o with
 |none=>rw[hg] at hx;cases hx
 |some γ=>
  rw[hg] at hx;rw[JG hf hg]
  have plain:EE o=false->∀{g:Bool} {v:AV},Au C.P C.G I B0 E a o g v h1->e=(g,v)->o.wp C.P a E.w K Q:=by
   intro bI g v Bo he
   have RG:DF draw o=o.dst:=by cases draw<;>simp[DF,bI]
   rw[RG] at hK;subst he;obtain⟨c,E1,Cb,S,LV,wJ,sC⟩:=Bo;have Y6:AR E1 (Av F o.dst (g,v)) (a.put o.dst c):=AR.put (AR.mono S.le hf) hd hn wJ sC;have mG:=hK E1 (a.put o.dst c) S LV Y6 (CD c) (.inr (Fy c));unfold Oper.wp
   rcases Cb with Cb|⟨Cb,hc⟩
   ·rw[Cb];exact mG
   ·rw[Cb];subst hc;exact mG
  cases γ with
  |false=>
   simp only[Except.ok.injEq,Prod.mk.injEq] at hx;obtain⟨rfl,rfl⟩:=hx
   rw[if_neg (by simp)]
   have bI:EE o=false:=by
    cases TK:o.guard with
    |none=>simp[guardOf,TK] at hg
    |some _=>simp only[EE,TK];split<;>simp_all
   have RG:DF draw o=o.dst:=by cases draw<;>simp[DF,bI]
   rw[RG] at hK
   have Y6:AR E (Av F o.dst (false,.top)) (a.put o.dst undef):=AR.put hf hd hn (fun h=>by cases h) (fun _=>rfl)
   exact hK E (a.put o.dst undef) (Step.refl H) rfl Y6 (CD _) (.inr (Fy _))
  |true=>
   rw[if_pos rfl];refine .inl ?_;simp only at hx
   cases Gx:FL C.P draw ops o F E.h with
   |some r=>
    rw[Gx] at hx;simp only at hx;subst hx;unfold FL at Gx;split at Gx
    ·cases Gx
    ·split at Gx
     ·rename_i t d Bo SJ
      have bI:EE o=false:=by simp only[EE,Bo]
      simp only[Option.some.injEq] at Gx;unfold TT at Gx;split at Gx
      ·rename_i b hv;split at Gx
       ·rename_i cs more hb hz;simp only[Except.ok.injEq,Prod.mk.injEq] at Gx;obtain⟨rfl,rfl⟩:=Gx;refine plain bI (g:=true) (v:=.ptr b 0) ?_ rfl;obtain⟨d,op,ty,pos,after,gd⟩:=o;simp only at Bo;subst Bo;exact kP hI H t hb hz
       ·cases Gx
      ·cases Gx
     ·split at Gx<;>cases Gx
     ·cases Gx
   |none=>
   rw[Gx] at hx;simp only at hx;unfold BF at hx;split at hx
   ·
    rename_i x args _ Bo
    have bI:EE o=false:=by simp only[EE,Bo]
    have RG:DF draw o=o.dst:=by cases draw<;>simp[DF,bI]
    split at hx
    ·rename_i k first cap vs Nl iU
     obtain⟨fa,ca,qH,TE,OV⟩:=Ah H hf Nl rfl
     have Cd:=U7 H hf args.toList (by rw[iU])
     rw[iU] at Cd;have CG:=BT.append (BT.append TE Cd) OV
     have Jy:fa++args.map a.eval++ca=(fa.toList++args.toList.map a.eval++ca.toList).toArray:=by
      apply Array.ext';simp
     split at hx
     ·
      rename_i v hid hl;simp only[Except.ok.injEq,Prod.mk.injEq] at hx;obtain⟨rfl,rfl⟩:=hx;rw[hl] at CG;obtain⟨c,r,hcr,ID,hr⟩:=CG;simp only[BT] at hr;subst hr;have Cb:=DS.1 k hid c E.w
      refine plain bI (g:=true) (v:=v) ⟨c,E,.inl ?_,Step.refl H,rfl,fun _=>ID,fun h=>by cases h⟩ rfl
      obtain⟨d,op,ty,pos,after,gd⟩:=o;simp only at Bo;subst Bo;rw[hcr] at Jy;simp only[execOp,resolve,qH,Deferred.ofValue,Sem.run_bind,Sem.run_pure,Result.andThen_ok,invoke,Jy,Cb]
     ·cases hx
     split at hx
     case h_2=>cases hx
     case h_1 v2 h2 RH=>
      simp only[Except.ok.injEq,Prod.mk.injEq] at hx;obtain⟨rfl,rfl⟩:=hx;obtain⟨⟨fn,OX,hb,MN⟩,ZK⟩:=DS.2 k _ _ _ _ RH;have hc:=ZK E _ rfl H CG
      have W7:(execOp a.eval o).run C.P E.w=.ok (.enter k (fa.toList++args.toList.map a.eval++ca.toList).toArray) E.w:=by
       obtain⟨d,op,ty,pos,after,gd⟩:=o;simp only at Bo;subst Bo;simp only[execOp,resolve,qH,Deferred.ofValue,Sem.run_bind,Sem.run_pure,Result.andThen_ok,invoke,callFunc,run_program,OX,MN,hb,Jy];rfl
      unfold Oper.wp;rw[W7,Oper.upon_enter]
      refine hc.mono fun e w' Ww=> ?_
      obtain⟨c,E1,rfl,rfl,S,LV,ID⟩:=Ww;rw[RG] at hK
      have Y6:AR E1 (Av F o.dst (true,v2)) (a.put o.dst c):=AR.put (AR.mono S.le hf) hd hn (fun _=>ID) (fun h=>by cases h)
      exact hK E1 (a.put o.dst c) S LV Y6 (CD c) (.inr (Fy c))
    ·cases hx
   ·
    rename_i x args _ Bo;split at hx
    ·rename_i f first cap b l hc Nl Xn
     simp only[Except.ok.injEq,Prod.mk.injEq] at hx;obtain⟨rfl,rfl⟩:=hx;simp only[Bool.or_eq_false_iff,Bool.not_eq_false'] at hc;obtain⟨⟨⟨ZG,iV⟩,SJ⟩,Cd⟩:=hc;obtain⟨fa,ca,qH,TE,OV⟩:=Ah H hf Nl rfl
     have ha:args= #[]:=by
      rw[<-Array.toArray_toList (xs:=args),List.isEmpty_iff.1 Cd]
     have xb:o.dst=none:=by simpa using SJ
     have W7:(execOp a.eval o).run C.P E.w=.ok (.defer {target:=.fn f ca,args:=fa}) E.w:=by
      obtain⟨d,op,ty,pos,after,gd⟩:=o;simp only at Bo;subst Bo;subst ha;simp[execOp,resolve,qH,Deferred.ofValue]
     unfold Oper.wp;rw[W7];simp only[Oper.upon,xb,Act.put]
     have RG:DF draw o=some dS:=by rw[ZG];simp[DF,iV]
     rw[RG] at hK
     refine hK E _ (Step.refl H) rfl ⟨fun s=> ?_,?_⟩ rfl (.inl ⟨ZG,iV⟩)
     ·simp only[Av,lk]
      cases hb:Nat.beq dS s with
      |true=>exact⟨fun _=>trivial,fun h=>by cases h⟩
      |false=>exact hf.1 s
     ·simp only[Av,lk,Nat.beq_refl,cond_true];have h2:=hf.2;rw[Xn] at h2;exact⟨_,_,rfl,⟨ca,rfl,TE,OV⟩,h2⟩
    ·cases hx
   ·
    rename_i kp bI
    have xb:EE o=false:=by
     cases Bo:o.op with
     |defer c=>
      obtain⟨callee,args,Xe⟩:=c
      cases callee with
      |value x=>exact absurd Bo (bI x args Xe)
      |invoke r m=>exact absurd hx (by cases draw||o.guard.isSome<;>simp[Bl,B6,evalOp,Bo])
      |builtin b=>exact absurd hx (by cases draw||o.guard.isSome<;>simp[Bl,B6,evalOp,Bo])
     |_=>simp[EE,Bo]
    split at hx
    ·rename_i e h2 Nl;simp only[Except.ok.injEq,Prod.mk.injEq] at hx;obtain⟨rfl,rfl⟩:=hx;exact plain xb (iv C hI H hf Nl rfl) rfl
    ·cases hx
    ·cases hx
theorem ZY (hI:∀w w',I w->Below B0 w w'->I w'){cl:FuncId->List AV->Hp->Except (List Nat) (AV×Hp)}(DS:OD C I B0 cl){ops:Array Oper}{draw:Bool}{n:Nat}{Q:Exit->Act->World->Prop}:
  ∀(l:List Nat) (F:Fr) (h:Hp) (F':Fr) (h':Hp),((H9 ops l).all fun o=>F6 n o.dst)=true->BQ C cl ops draw (H9 ops l) F h=.ok (F',h')->∀(E:Env) (a:Act),E.h=h->Good C.G I B0 E->AR E F a->n<=a.tmps.size->
   (∀E' a',Step C.G I B0 E E'->E'.h=h'->AR E' F' a'->a'.tmps.size=a.tmps.size->(draw=false/\Fb (H9 ops l)=true\/a'.defers=a.defers)->Q .normal a' E'.w)->wpOps C.P ops Q l a E.w:=by
 intro l
 induction l with
 |nil=>
  intro F h F' h' _ hx E a hE H hf hn hQ;simp only[H9,List.filterMap_nil,BQ,Except.ok.injEq,Prod.mk.injEq] at hx;obtain⟨rfl,rfl⟩:=hx;exact hQ E a (Step.refl H) hE hf rfl (.inr rfl)
 |cons i l ih=>
  intro F h F' h' Hw hx E a hE H hf hn hQ;subst hE;rw[wpOps_cons]
  cases ho:ops[i]? with
  |none=>
   have:H9 ops (i::l)=H9 ops l:=by simp[H9,ho]
   rw[this] at hx Hw;simp only[wpOp,ho];rw[this] at hQ;exact ih F E.h F' h' Hw hx E a rfl H hf hn hQ
  |some o=>
   have:H9 ops (i::l)=o::H9 ops l:=by simp[H9,ho]
   rw[this] at hx Hw hQ;rw[List.all_cons,Bool.and_eq_true] at Hw;simp only[BQ] at hx
   cases hs:AW C cl ops draw o F E.h with
   |error e=>rw[hs] at hx;cases hx
   |ok r=>
    obtain⟨e,h1⟩:=r;rw[hs] at hx
    exact KN hI DS ho Hw.1 hs H hf hn fun E' a' S Hg FO CD Fy=>
     ih _ _ F' h' Hw.2 hx E' a' Hg S.Co FO (by rw[CD];exact hn) fun eF lU S' ZN Uv Fs Nn=>hQ eF lU (S.trans S') ZN Uv (Fs.trans CD) (by
      rcases Fy with ⟨h1,h2⟩|Fy
      ·exact .inl ⟨h1,by simp[Fb,h2]⟩
      ·rcases Nn with ⟨h1,h2⟩|Nn
       ·exact .inl ⟨h1,by simp only[Fb] at h2⊢;simp[h2]⟩
       ·exact .inr (Nn.trans Fy))
end
end Go.Ai
