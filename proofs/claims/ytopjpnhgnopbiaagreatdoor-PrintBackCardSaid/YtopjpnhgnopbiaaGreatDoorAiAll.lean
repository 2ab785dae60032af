/-
  Drawn regions all of whose orders are gone through.
-/
import Derived.Test.YtopjpnhgnopbiaaGreatDoorAiAny
set_option linter.unusedVariables false
set_option linter.unusedSimpArgs false
set_option linter.unnecessarySimpa false
namespace Go.Ai
open Go.RowKit
section
variable {C:Bm}{cl:Bool->FuncId->List AV->Hp->Except (List Nat) (AV×Hp)}{ops:Array Oper}{I:World->Prop}{B0:Nat}
theorem Om (h:Mk ops=true){j:Nat}{o:Oper}(ho:ops[j]?=some o):gN o.op=true/\EI o=false/\∀e∈o.after,Region.binds .any e=true->e.on<j:=by
 unfold Mk at h;rw[Bool.and_eq_true] at h
 have hz:(o,j)∈ops.toList.zipIdx:=List.mem_of_getElem? (by rw[List.getElem?_zipIdx];simp[ho]:ops.toList.zipIdx[j]?=some (o,j))
 have h1:=List.all_eq_true.1 h.1 _ hz;simp only[Bool.and_eq_true,Bool.not_eq_true'] at h1
 refine⟨h1.1,h1.2.1,fun e he hb=> ?_⟩
 have:=List.all_eq_true.1 h1.2.2 e (by simpa using he)
 rw[hb] at this;simp only[Bool.not_true,Bool.false_or] at this;exact Nat.le_of_ble_eq_true this
theorem Rb (h:Mk ops=true){i j:Nat}{x y:Oper}(hx:ops[i]?=some x)(hy:ops[j]?=some y)(xG:i<j):Dl ops i j=true\/x.apart ops y=true:=by
 unfold Mk at h;rw[Bool.and_eq_true] at h
 have hzy:(y,j)∈ops.toList.zipIdx:=List.mem_of_getElem? (by rw[List.getElem?_zipIdx];simp[hy]:ops.toList.zipIdx[j]?=some (y,j))
 have hzx:(x,i)∈ops.toList.zipIdx:=List.mem_of_getElem? (by rw[List.getElem?_zipIdx];simp[hx]:ops.toList.zipIdx[i]?=some (x,i))
 have:=List.all_eq_true.1 (List.all_eq_true.1 h.2 _ hzy) _ hzx;simp only[Bool.or_eq_true,Bool.not_eq_true'] at this
 rcases this with (h1|h1)|h1
 ·have:Nat.blt i j=true:=Nat.ble_eq_true_of_le xG;rw[this] at h1;cases h1
 ·exact .inl h1
 ·exact .inr h1
theorem Iu {l:List Nat}{i:Nat}(h:FV ops l i=true):∀j∈l,Dl ops j i=false:=fun j hj=>by
 have:=List.all_eq_true.1 h j hj;simpa using this
theorem OI {l l':List Nat}{i:Nat}(hs:∀j∈l',j∈l)(h:FV ops l i=true):FV ops l' i=true:=
 List.all_eq_true.2 fun j hj=>List.all_eq_true.1 h j (hs j hj)
theorem RN {l:List Nat}{i:Nat}(h:Oe C ops l i=true):FV ops l i=true/\(∃o,ops[i]?=some o/\Ef C o=true)/\((∀o,ops[i]?=some o->MF o=true)\/∀j∈l,j=i\/(∀y,ops[j]?=some y->Ef C y=true)\/Dl ops i j=true):=by
 unfold Oe at h;simp only[Bool.and_eq_true] at h;obtain⟨⟨h1,h2⟩,h3⟩:=h;refine⟨h1,?_,?_⟩
 ·split at h2
  ·exact⟨_,by assumption,h2⟩
  ·cases h2
 ·rw[Bool.or_eq_true] at h3
  rcases h3 with h3|h3
  ·refine .inl fun o ho=> ?_
   rw[ho] at h3;exact h3
  refine .inr fun j hj=> ?_
  have:=List.all_eq_true.1 h3 j hj;simp only[Bool.or_eq_true] at this
  rcases this with (h4|h4)|h4
  ·exact .inl (Nat.eq_of_beq_eq_true h4)
  ·refine .inr (.inl fun y hy=> ?_)
   rw[hy] at h4;exact h4
  ·exact .inr (.inr h4)
theorem dW {l l':List Nat}{i:Nat}(hs:∀j∈l',j∈l)(h:Oe C ops l i=true):Oe C ops l' i=true:=by
 unfold Oe at h⊢;simp only[Bool.and_eq_true] at h⊢;refine⟨⟨OI hs h.1.1,h.1.2⟩,?_⟩;rw[Bool.or_eq_true] at *
 exact h.2.imp id fun h=>List.all_eq_true.2 fun j hj=>List.all_eq_true.1 h j (hs j hj)
theorem OL {o:Oper}{F F':Fr}{h:Hp}(he:Dz F F'):EZ C cl ops o F h=EZ C cl ops o F' h:=
 Bw o (fun t _=>he t) (.inr (he dS)) (.inr fun d _=>he d)
theorem Lm {Post:Fr->Hp->Prop}(hP:∀F F' h,Dz F F'->Post F h->Post F' h):∀(n:Nat) (l:List Nat) {F F':Fr} {h:Hp},Dz F F'->PV C cl ops Post n l F h->PV C cl ops Post n l F' h
 |0,_,_,_,_,_,hx=>hx
 |n+1,[],F,F',h,he,hx=>hP F F' h he hx
 |n+1,k::l,F,F',h,he,hx=>by
  rcases hx with ⟨i,o,e,h1,h2,h3,h4,h5⟩|hx
  ·exact .inl ⟨i,o,e,h1,h2,h3,by rw[<-OL he];exact h4,Lm hP n _ (he.put _ _) h5⟩
  ·refine .inr fun i hi hu=> ?_
   obtain⟨o,e,h1,k1,k2,k3,k4⟩:=hx i hi hu
   exact⟨o,e,h1,k1,by rw[<-OL he];exact k2,k3,Lm hP n _ (he.put _ _) k4⟩
theorem Dz.kV {F:Fr}{d1 d2:Option Nat}{e1 e2:Bool×AV}(h:∀x,d1=some x->d2≠some x):Dz (Av (Av F d1 e1) d2 e2) (Av (Av F d2 e2) d1 e1):=by
 intro n
 cases d1 with
 |none=>rfl
 |some a=>
  cases d2 with
  |none=>rfl
  |some b=>
   have Xt:a≠b:=fun e=>h a rfl (by rw[e])
   simp only[Av,lk]
   cases h1:Nat.beq b n with
   |true=>
    have:b=n:=Nat.eq_of_beq_eq_true h1
    have h2:Nat.beq a n=false:=by
     cases h2:Nat.beq a n with
     |false=>rfl
     |true=>exact absurd ((Nat.eq_of_beq_eq_true h2).trans this.symm) Xt
    simp[h2]
   |false=>cases h2:Nat.beq a n<;>simp
theorem XH {F:Fr}(h h1:Hp){o:Oper}(hp:MF o=true):Bl C (Jh o) F h1 o=(Bl C (Jh o) F h o).map fun r=>(r.1,r.2.1,h1):=by
 obtain⟨dst,op,ty,pos,after,gd⟩:=o;unfold MF at hp;rw[Bool.and_eq_true] at hp
 replace hp:=hp.2
 cases op<;>simp only[Bool.false_eq_true] at hp
 case nilCheck x=>
  simp only[Jh,Bl,B7,evalOp,E9];generalize ev C.G F x=y;obtain⟨y1,y2⟩:=y
  cases y2<;>rfl
 case fieldAddr s x f=>
  simp only[Jh,Bl,B7,evalOp,EL];generalize ev C.G F x=y;obtain⟨y1,y2⟩:=y;generalize C.P.underlying s=u
  cases u with
  |none=>rfl
  |some d=>
   cases d<;>try rfl
   rename_i fs
   cases hq:fs[f]? with
   |none=>cases y2<;>simp[hq]
   |some fd=>cases hb:Nat.beq (C.P.cellsOf fd.type) 0<;>cases y2<;>simp[hq,hb]
 case indexAddr t x i=>
  simp only[Jh,Bl,B7,evalOp,EK];generalize ev C.G F x=y;generalize ev C.G F i=z;obtain⟨y1,y2⟩:=y;obtain⟨z1,z2⟩:=z;generalize C.P.underlying t=u
  cases u with
  |none=>rfl
  |some d=>
   cases d<;>try rfl
   all_goals (cases y2<;>try rfl)
   all_goals (cases z2<;>rfl)
 case buildSlice t len parts=>
  simp only[Jh,Bl,evalOp,C8];generalize C.P.underlying t=u
  cases u with
  |none=>rfl
  |some d=>
   cases d<;>try rfl
   simp only
   generalize ((parts.size.beq len&&parts.toList.zipIdx.all fun p=>p.fst.fst.beq p.snd)&&_&&_&&_&&_)=b
   cases b<;>rfl
 case call c=>
  obtain⟨callee,args,Xg⟩:=c
  cases callee with
  |builtin b=>
   cases b<;>simp only[Bool.false_eq_true] at hp
   simp only[Jh,Bl,B7,evalOp,HJ];generalize args.toList=l;generalize Xg.toList=m
   match l,m with
   |[],_=>cases m<;>rfl
   |_::_::_,_=>cases m<;>rfl
   |[_],[]=>rfl
   |[_],_::_::_=>rfl
   |[x],[t]=>
    simp only[TX];generalize ev C.G F x=y;obtain⟨y1,y2⟩:=y;generalize C.P.underlying t=u
    cases u with
    |none=>rfl
    |some d=>
     cases d<;>try rfl
     all_goals (cases y2<;>rfl)
  |_=>simp at hp
theorem Zg {F:Fr}{h h':Hp}{o:Oper}{g:Bool}{e:Bool×AV}(hp:MF o=true)(hx:Bl C (Jh o) F h o=some (g,e,h'))(h1:Hp):Bl C (Jh o) F h1 o=some (g,e,h1):=by
 rw[XH h h1 hp,hx];rfl
theorem YN {o:Oper}{F:Fr}{h:Hp}{e:Bool×AV}(hp:MF o=true)(hx:EZ C cl ops o F h=.ok (e,h))(h1:Hp):EZ C cl ops o F h1=.ok (e,h1):=by
 have hg:o.guard=none:=by
  unfold MF at hp;rw[Bool.and_eq_true] at hp;simpa using hp.1
 have key:∀h,EZ C cl ops o F h=BF C (cl (Jh o)) (Jh o) o F h:=by
  intro h;unfold EZ AW guardOf;simp only[hg]
  have:FO C.P (Jh o) ops o F h=none:=by
   obtain⟨dst,op,ty,pos,after,gd⟩:=o;unfold MF at hp;rw[Bool.and_eq_true] at hp
   replace hp:=hp.2
   unfold FO
   cases op<;>simp only[Bool.false_eq_true] at hp
   all_goals (simp only[Jh];split<;>first|rfl|simp_all)
  rw[this]
 have gen:∀h,BF C (cl (Jh o)) (Jh o) o F h=(match Bl C (Jh o) F h o with
   |some (true,e,h')=>.ok (e,h')
   |some (false,_,_)=>.error [1006]
   |none=>.error [1007]):=by
  intro h;obtain⟨dst,op,ty,pos,after,gd⟩:=o;simp only at hg;subst hg;unfold MF at hp;simp only[Option.isNone_none,Bool.true_and] at hp
  cases op<;>try simp only[Bool.false_eq_true] at hp
  case call c=>
   obtain⟨callee,args,Xg⟩:=c
   cases callee with
   |builtin b=>rfl
   |_=>simp at hp
  all_goals rfl
 rw[key,gen] at hx⊢;split at hx
 ·rename_i e1 h2 he;rw[Zg hp he h1];simp at hx;rw[hx.1]
 ·cases hx
 ·cases hx
theorem So (hd:Mk ops=true)(uO:∀o∈ops.toList,o.dst≠some dS){Post:Fr->Hp->Prop}(hP:∀F F' h,Dz F F'->Post F h->Post F' h):∀(n:Nat) (l:List Nat) {F:Fr} {h:Hp},l.Nodup->PV C cl ops Post (n+1) l F h->∀i∈l,FV ops l i=true->
  ∃o e h1,ops[i]?=some o/\EZ C cl ops o F h=.ok (e,h1)/\(Ef C o=true->h1=h)/\PV C cl ops Post n (l.erase i) (Av F o.dst e) h1
 |n,[],F,h,_,_,i,hi,_=>by cases hi
 |0,k::l,F,h,_,hx,i,hi,hu=>by
  rcases hx with ⟨_,_,_,_,_,_,_,h5⟩|hx
  ·exact h5.elim
  ·exact hx i hi hu
 |n+1,k::l,F,h,hn,hx,i,hi,hu=>by
  rcases hx with ⟨b,ob,eb,hb,Mz,Ar,wo,lD⟩|hx
  ·obtain⟨f1,⟨wF,f2,f3⟩,f4⟩:=RN Mz;rw[Ar] at f2
   injection f2 with f2
   subst f2
   by_cases sv:i=b
   ·subst sv
    exact⟨ob,eb,h,Ar,wo,fun _=>rfl,lD⟩
   ·have Jd:i∈(k::l).erase b:=(List.mem_erase_of_ne sv).2 hi
    have wi:∀j∈(k::l).erase b,j∈k::l:=fun j hj=>List.mem_of_mem_erase hj
    obtain⟨o,e,h1,k1,k2,k3,k4⟩:=So hd uO hP n _ (hn.erase b) lD i Jd (OI wi hu)
    have wm:EZ C cl ops ob F h1=.ok (eb,h1):=by
     rcases f4 with h4|f4
     ·exact YN (h4 ob Ar) wo h1
     have hqi:Ef C o=true:=by
      rcases f4 i hi with h4|h4|h4
      ·exact absurd h4 sv
      ·exact h4 o k1
      ·rw[Iu hu b hb] at h4;cases h4
     rw[k3 hqi];exact wo
    have Ux:(∀t∈o.looksAt ops,ob.dst≠some t)/\(∀t∈ob.looksAt ops,o.dst≠some t)/\∀x,ob.dst=some x->o.dst≠some x:=by
     rcases Nat.lt_or_gt_of_ne sv with BC|BC
     ·rcases Rb hd k1 Ar BC with h5|h5
      ·rw[Iu f1 i hi] at h5;cases h5
      ·obtain⟨a1,a2,a3⟩:=Oper.apart_spec h5
       exact⟨fun t ht e=>a3 t e ht,fun t ht e=>a1 t e ht,fun x hx Kb=>a2 x Kb hx⟩
     ·rcases Rb hd Ar k1 BC with h5|h5
      ·rw[Iu hu b hb] at h5;cases h5
      ·obtain⟨a1,a2,a3⟩:=Oper.apart_spec h5
       exact⟨fun t ht e=>a1 t e ht,fun t ht e=>a3 t e ht,fun x hx Kb=>a2 x hx Kb⟩
    obtain⟨p1,p2,p3⟩:=Ux
    have w8:ob∈ops.toList:=by simpa using Array.mem_of_getElem? Ar
    have bN:o∈ops.toList:=by simpa using Array.mem_of_getElem? k1
    have tS:∀{x y:Oper} {ey:Bool×AV} {g:Hp},(∀t∈x.looksAt ops,y.dst≠some t)->(∀z,y.dst=some z->x.dst≠some z)->y∈ops.toList->EZ C cl ops x (Av F y.dst ey) g=EZ C cl ops x F g:=by
     intro x y ey g hl bQ hy
     refine Bw x (fun t ht=>A9 (hl t ht)) (.inr (A9 (uO y hy))) (.inr fun z hz=>A9 fun e=> ?_)
     have:x.dst=some z:=by
      unfold JV at hz;split at hz
      ·exact hz
      ·cases hz
     exact bQ z e this
    have Hk:EZ C cl ops o F h=.ok (e,h1):=by rw[<-tS p1 p3 w8 (ey:=eb)];exact k2
    have Ky:EZ C cl ops ob (Av F o.dst e) h1=.ok (eb,h1):=by rw[tS p2 (fun z hz sG=>p3 z sG hz) bN];exact wm
    refine⟨o,e,h1,k1,Hk,k3,?_⟩
    have Ha:b∈(k::l).erase i:=(List.mem_erase_of_ne (fun e=>sv e.symm)).2 hb
    cases hl:(k::l).erase i with
    |nil=>rw[hl] at Ha;cases Ha
    |cons k' l'=>
     refine .inl ⟨b,ob,eb,by rw[<-hl];exact Ha,?_,Ar,Ky,?_⟩
     ·rw[<-hl]
      exact dW (fun j hj=>List.mem_of_mem_erase hj) Mz
     ·rw[<-hl,List.erase_comm];exact Lm hP n _ (Dz.kV p3) k4
  ·obtain⟨o,e,h1,k1,k2,k3,k4⟩:=hx i hi hu;exact⟨o,e,h1,k1,k2,k3,k4⟩
theorem XQ {s t:List Nat}{i:Nat}(h:(s++i::t).Nodup):(s++i::t).erase i=s++t:=by
 rw[List.nodup_append] at h
 rw[List.erase_append_right _ (fun hi=>h.2.2 i hi i (by simp) rfl)]
 simp
theorem cj (hI:∀w w',I w->Below B0 w w'->I w')(DU:∀d,OH C I B0 (cl d))(hd:Mk ops=true)
  {n:Nat} (Hy:(ops.toList.all fun o=>F9 n o.dst)=true) {Post:Fr->Hp->Prop} (hP:∀F F' h,Dz F F'->Post F h->Post F' h) {Q:Exit->Act->World->Prop}:
  ∀(fuel:Nat) (listed:Array Bool) (F:Fr) (E:Env) (a:Act),listed.size=ops.size->Ln ops listed->(rest ops listed).length=fuel->
   PV C cl ops Post (fuel+1) (rest ops listed) F E.h->Good C.G I B0 E->AR E F a->n<=a.tmps.size->
   (∀G E' a',Post G E'.h->Step C.G I B0 E E'->AR E' G a'->a'.tmps.size=a.tmps.size->a'.defers=a.defers->Q .normal a' E'.w)->wpAny C.P .any ops Q fuel listed a E.w:=by
 intro fuel
 induction fuel with
 |zero=>
  intro listed F E a hs hc hl hx H hf hn hQ;have hr:rest ops listed=[]:=List.eq_nil_of_length_eq_zero hl;rw[hr] at hx;refine⟨?_,hQ F E a hx (Step.refl H) hf rfl rfl⟩
  cases JQ:Region.ready .any ops listed with
  |nil=>rfl
  |cons i l=>
   have:i∈rest ops listed:=E7 (by rw[JQ];simp)
   rw[hr] at this;cases this
 |succ fuel ih=>
  intro listed F E a hs hc hl hx H hf hn hQ
  refine⟨fun JQ=>absurd JQ (LN (fun j o ho=>(Om hd ho).2.2) hs (by intro h;rw[h] at hl;cases hl)),fun i hi=> ?_⟩
  obtain⟨s,t,DI⟩:=List.append_of_mem (E7 hi);obtain⟨o,ho,RE,EJ,EB,SG,j5,OY,hun⟩:=Gd hs hc hi DI
  have bO:(rest ops listed).Nodup:=(Gc (ops:=ops) listed).imp fun h=>Nat.ne_of_lt h
  obtain⟨o',e,h1,k1,k2,k3,k4⟩:=So hd (Ra Hy) hP (fuel+1) (rest ops listed) bO hx i (E7 hi) (List.all_eq_true.2 fun j hj=>by rw[hun j hj];rfl)
  rw[ho] at k1
  injection k1 with k1
  subst k1;have ir:=(Om hd ho).2.1
  have RJ:DG (Jh o) o=o.dst:=by unfold DG;rw[ir];cases Jh o<;>rfl
  have SL:F9 n o.dst=true:=List.all_eq_true.1 Hy _ (by simpa using Array.mem_of_getElem? ho)
  refine KS hI (DU _) ho SL k2 H hf hn fun E' a' S Hl FT CD F7=> ?_
  rw[RJ] at FT
  have F7:=F7.resolve_left (by rw[ir];simp)
  refine ih _ _ E' a' (by simpa using hs) j5 ?_ ?_ S.Cn FT (by rw[CD];exact hn) fun G eM lq hp S' Uw Fv Ns=>hQ G eM lq hp (S.trans S') Uw (Fv.trans CD) (Ns.trans F7)
  ·rw[OY];rw[DI] at hl;simp at hl⊢;omega
  ·rw[OY,<-XQ (DI▸bO),<-DI,Hl];exact k4
theorem SA (hI:∀w w',I w->Below B0 w w'->I w')(hm:C.P.follows .mixedOrders=true)(DU:∀d,OH C I B0 (cl d))(hd:Mk ops=true)
  {n:Nat} (Hy:(ops.toList.all fun o=>F9 n o.dst)=true) {Q:Exit->Act->World->Prop} {id:Nat} {F G:Fr} {h':Hp} {E:Env} {a:Act}
  (hx:KC C cl ops F E.h=.ok (G,h')) (H:Good C.G I B0 E) (hf:AR E F a) (hn:n<=a.tmps.size)
  (hQ:∀E' a',Step C.G I B0 E E'->E'.h=h'->AR E' G a'->a'.tmps.size=a.tmps.size->a'.defers=a.defers->Q .normal a' E'.w):(Code.region id ops true).wp C.P Q a E.w:=by
 refine wp_region_any hm ?_
 have hb:∀B,Below B E.w {E.w with drawn:=E.w.drawn+1}:=fun B=>⟨rfl,rfl,rfl,Nat.le_refl _,fun _ _=>rfl⟩
 have S:=NF hI H (w':={E.w with drawn:=E.w.drawn+1}) (hb _) rfl
 unfold KC at hx;split at hx
 ·rename_i G1 h1 hr;split at hx
  ·rename_i xw;simp only[Except.ok.injEq,Prod.mk.injEq] at hx;obtain⟨rfl,rfl⟩:=hx;have iQ:=@of_decide_eq_true _ (Classical.propDecidable _) xw
   refine cj hI DU hd Hy (Post:=fun G' h2=>(∀n,lk G' n=lk G1 n)/\h2=h1) (fun F F' h he hp=>⟨fun n=>(he n).symm.trans (hp.1 n),hp.2⟩) ops.size _ F {E with w:={E.w with drawn:=E.w.drawn+1}} a (by simp) (Lg ops) (by rw[IU];simp)
    (by rw[IU];exact iQ) S.Cn (AR.mono S.le hf) hn fun G' E' a' hp S' FT hs F7=>hQ E' a' (S.trans S') hp.2 (FT.eq fun n=>hp.1 n) hs F7
  ·cases hx
 ·cases hx
end
end Go.Ai
