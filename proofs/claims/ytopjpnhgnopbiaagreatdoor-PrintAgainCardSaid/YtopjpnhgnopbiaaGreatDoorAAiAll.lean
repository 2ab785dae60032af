/-
  Drawn regions all of whose orders are gone through.
-/
import Derived.Test.YtopjpnhgnopbiaaGreatDoorAAiAny
set_option linter.unusedVariables false
set_option linter.unusedSimpArgs false
set_option linter.unnecessarySimpa false
namespace Go.Ai
open Go.RowKit
section
variable {C:Bm}{cl:Bool->FuncId->List AV->Hp->Except (List Nat) (AV×Hp)}{ops:Array Oper}{I:World->Prop}{B0:Nat}
theorem Oi (h:Mf ops=true){j:Nat}{o:Oper}(ho:ops[j]?=some o):gD o.op=true/\EE o=false/\∀e∈o.after,Region.binds .any e=true->e.on<j:=by
 unfold Mf at h;rw[Bool.and_eq_true] at h
 have hz:(o,j)∈ops.toList.zipIdx:=List.mem_of_getElem? (by rw[List.getElem?_zipIdx];simp[ho]:ops.toList.zipIdx[j]?=some (o,j))
 have h1:=List.all_eq_true.1 h.1 _ hz;simp only[Bool.and_eq_true,Bool.not_eq_true'] at h1
 refine⟨h1.1,h1.2.1,fun e he hb=> ?_⟩
 have:=List.all_eq_true.1 h1.2.2 e (by simpa using he)
 rw[hb] at this;simp only[Bool.not_true,Bool.false_or] at this;exact Nat.le_of_ble_eq_true this
theorem RZ (h:Mf ops=true){i j:Nat}{x y:Oper}(hx:ops[i]?=some x)(hy:ops[j]?=some y)(wo:i<j):Dj ops i j=true\/x.apart ops y=true:=by
 unfold Mf at h;rw[Bool.and_eq_true] at h
 have hzy:(y,j)∈ops.toList.zipIdx:=List.mem_of_getElem? (by rw[List.getElem?_zipIdx];simp[hy]:ops.toList.zipIdx[j]?=some (y,j))
 have hzx:(x,i)∈ops.toList.zipIdx:=List.mem_of_getElem? (by rw[List.getElem?_zipIdx];simp[hx]:ops.toList.zipIdx[i]?=some (x,i))
 have:=List.all_eq_true.1 (List.all_eq_true.1 h.2 _ hzy) _ hzx;simp only[Bool.or_eq_true,Bool.not_eq_true'] at this
 rcases this with (h1|h1)|h1
 ·have:Nat.blt i j=true:=Nat.ble_eq_true_of_le wo;rw[this] at h1;cases h1
 ·exact .inl h1
 ·exact .inr h1
theorem Ir {l:List Nat}{i:Nat}(h:FQ ops l i=true):∀j∈l,Dj ops j i=false:=fun j hj=>by
 have:=List.all_eq_true.1 h j hj;simpa using this
theorem OE {l l':List Nat}{i:Nat}(hs:∀j∈l',j∈l)(h:FQ ops l i=true):FQ ops l' i=true:=
 List.all_eq_true.2 fun j hj=>List.all_eq_true.1 h j (hs j hj)
theorem RL {l:List Nat}{i:Nat}(h:Oa C ops l i=true):FQ ops l i=true/\(∃o,ops[i]?=some o/\Eb C o=true)/\((∀o,ops[i]?=some o->MA o=true)\/∀j∈l,j=i\/(∀y,ops[j]?=some y->Eb C y=true)\/Dj ops i j=true):=by
 unfold Oa at h;simp only[Bool.and_eq_true] at h;obtain⟨⟨h1,h2⟩,h3⟩:=h;refine⟨h1,?_,?_⟩
 ·split at h2
  ·exact⟨_,by assumption,h2⟩
  ·cases h2
 ·rw[Bool.or_eq_true] at h3
  rcases h3 with h3|h3
  ·refine .inl fun o ho=> ?_
   rw[ho] at h3;exact h3
  refine .inr fun j hj=> ?_
  have:=List.all_eq_true.1 h3 j hj;simp only[Bool.or_eq_true] at this
  rcases this with (h4|h4)|h4
  ·exact .inl (Nat.eq_of_beq_eq_true h4)
  ·refine .inr (.inl fun y hy=> ?_)
   rw[hy] at h4;exact h4
  ·exact .inr (.inr h4)
theorem dP {l l':List Nat}{i:Nat}(hs:∀j∈l',j∈l)(h:Oa C ops l i=true):Oa C ops l' i=true:=by
 unfold Oa at h⊢;simp only[Bool.and_eq_true] at h⊢;refine⟨⟨OE hs h.1.1,h.1.2⟩,?_⟩;rw[Bool.or_eq_true] at *
 exact h.2.imp id fun h=>List.all_eq_true.2 fun j hj=>List.all_eq_true.1 h j (hs j hj)
theorem OI {o:Oper}{F F':Fr}{h:Hp}(he:Dw F F'):EW C cl ops o F h=EW C cl ops o F' h:=
 Bu o (fun t _=>he t) (.inr (he dS)) (.inr fun d _=>he d)
theorem Li {Post:Fr->Hp->Prop}(hP:∀F F' h,Dw F F'->Post F h->Post F' h):∀(n:Nat) (l:List Nat) {F F':Fr} {h:Hp},Dw F F'->PR C cl ops Post n l F h->PR C cl ops Post n l F' h
 |0,_,_,_,_,_,hx=>hx
 |n+1,[],F,F',h,he,hx=>hP F F' h he hx
 |n+1,k::l,F,F',h,he,hx=>by
  rcases hx with ⟨i,o,e,h1,h2,h3,h4,h5⟩|hx
  ·exact .inl ⟨i,o,e,h1,h2,h3,by rw[<-OI he];exact h4,Li hP n _ (he.put _ _) h5⟩
  ·refine .inr fun i hi hu=> ?_
   obtain⟨o,e,h1,k1,k2,k3,k4⟩:=hx i hi hu
   exact⟨o,e,h1,k1,by rw[<-OI he];exact k2,k3,Li hP n _ (he.put _ _) k4⟩
theorem Dw.kD {F:Fr}{d1 d2:Option Nat}{e1 e2:Bool×AV}(h:∀x,d1=some x->d2≠some x):Dw (Av (Av F d1 e1) d2 e2) (Av (Av F d2 e2) d1 e1):=by
 intro n
 cases d1 with
 |none=>rfl
 |some a=>
  cases d2 with
  |none=>rfl
  |some b=>
   have Xr:a≠b:=fun e=>h a rfl (by rw[e])
   simp only[Av,lk]
   cases h1:Nat.beq b n with
   |true=>
    have:b=n:=Nat.eq_of_beq_eq_true h1
    have h2:Nat.beq a n=false:=by
     cases h2:Nat.beq a n with
     |false=>rfl
     |true=>exact absurd ((Nat.eq_of_beq_eq_true h2).trans this.symm) Xr
    simp[h2]
   |false=>cases h2:Nat.beq a n<;>simp
theorem XF {F:Fr}(h h1:Hp){o:Oper}(hp:MA o=true):Bl C (Je o) F h1 o=(Bl C (Je o) F h o).map fun r=>(r.1,r.2.1,h1):=by
 obtain⟨dst,op,ty,pos,after,gd⟩:=o;unfold MA at hp;rw[Bool.and_eq_true] at hp
 replace hp:=hp.2
 cases op<;>simp only[Bool.false_eq_true] at hp
 case nilCheck x=>
  simp only[Je,Bl,B6,evalOp,Ez];generalize ev C.G F x=y;obtain⟨y1,y2⟩:=y
  cases y2<;>rfl
 case fieldAddr s x f=>
  simp only[Je,Bl,B6,evalOp,EH];generalize ev C.G F x=y;obtain⟨y1,y2⟩:=y;generalize C.P.underlying s=u
  cases u with
  |none=>rfl
  |some d=>
   cases d<;>try rfl
   rename_i fs
   cases hq:fs[f]? with
   |none=>cases y2<;>simp[hq]
   |some fd=>cases hb:Nat.beq (C.P.cellsOf fd.type) 0<;>cases y2<;>simp[hq,hb]
 case indexAddr t x i=>
  simp only[Je,Bl,B6,evalOp,EG];generalize ev C.G F x=y;generalize ev C.G F i=z;obtain⟨y1,y2⟩:=y;obtain⟨z1,z2⟩:=z;generalize C.P.underlying t=u
  cases u with
  |none=>rfl
  |some d=>
   cases d<;>try rfl
   all_goals (cases y2<;>try rfl)
   all_goals (cases z2<;>rfl)
 case buildSlice t len parts=>
  simp only[Je,Bl,evalOp,C7];generalize C.P.underlying t=u
  cases u with
  |none=>rfl
  |some d=>
   cases d<;>try rfl
   simp only
   generalize ((parts.size.beq len&&parts.toList.zipIdx.all fun p=>p.fst.fst.beq p.snd)&&_&&_&&_&&_)=b
   cases b<;>rfl
 case call c=>
  obtain⟨callee,args,Xe⟩:=c
  cases callee with
  |builtin b=>
   cases b<;>simp only[Bool.false_eq_true] at hp
   simp only[Je,Bl,B6,evalOp,HE];generalize args.toList=l;generalize Xe.toList=m
   match l,m with
   |[],_=>cases m<;>rfl
   |_::_::_,_=>cases m<;>rfl
   |[_],[]=>rfl
   |[_],_::_::_=>rfl
   |[x],[t]=>
    simp only[TW];generalize ev C.G F x=y;obtain⟨y1,y2⟩:=y;generalize C.P.underlying t=u
    cases u with
    |none=>rfl
    |some d=>
     cases d<;>try rfl
     all_goals (cases y2<;>rfl)
  |_=>simp at hp
theorem Za {F:Fr}{h h':Hp}{o:Oper}{g:Bool}{e:Bool×AV}(hp:MA o=true)(hx:Bl C (Je o) F h o=some (g,e,h'))(h1:Hp):Bl C (Je o) F h1 o=some (g,e,h1):=by
 rw[XF h h1 hp,hx];rfl
theorem YH {o:Oper}{F:Fr}{h:Hp}{e:Bool×AV}(hp:MA o=true)(hx:EW C cl ops o F h=.ok (e,h))(h1:Hp):EW C cl ops o F h1=.ok (e,h1):=by
 have hg:o.guard=none:=by
  unfold MA at hp;rw[Bool.and_eq_true] at hp;simpa using hp.1
 have key:∀h,EW C cl ops o F h=BF C (cl (Je o)) (Je o) o F h:=by
  intro h;unfold EW AW guardOf;simp only[hg]
  have:FL C.P (Je o) ops o F h=none:=by
   obtain⟨dst,op,ty,pos,after,gd⟩:=o;unfold MA at hp;rw[Bool.and_eq_true] at hp
   replace hp:=hp.2
   unfold FL
   cases op<;>simp only[Bool.false_eq_true] at hp
   all_goals (simp only[Je];split<;>first|rfl|simp_all)
  rw[this]
 have gen:∀h,BF C (cl (Je o)) (Je o) o F h=(match Bl C (Je o) F h o with
   |some (true,e,h')=>.ok (e,h')
   |some (false,_,_)=>.error [1006]
   |none=>.error [1007]):=by
  intro h;obtain⟨dst,op,ty,pos,after,gd⟩:=o;simp only at hg;subst hg;unfold MA at hp;simp only[Option.isNone_none,Bool.true_and] at hp
  cases op<;>try simp only[Bool.false_eq_true] at hp
  case call c=>
   obtain⟨callee,args,Xe⟩:=c
   cases callee with
   |builtin b=>rfl
   |_=>simp at hp
  all_goals rfl
 rw[key,gen] at hx⊢;split at hx
 ·rename_i e1 h2 he;rw[Za hp he h1];simp at hx;rw[hx.1]
 ·cases hx
 ·cases hx
theorem Sm (hd:Mf ops=true)(tz:∀o∈ops.toList,o.dst≠some dS){Post:Fr->Hp->Prop}(hP:∀F F' h,Dw F F'->Post F h->Post F' h):∀(n:Nat) (l:List Nat) {F:Fr} {h:Hp},l.Nodup->PR C cl ops Post (n+1) l F h->∀i∈l,FQ ops l i=true->
  ∃o e h1,ops[i]?=some o/\EW C cl ops o F h=.ok (e,h1)/\(Eb C o=true->h1=h)/\PR C cl ops Post n (l.erase i) (Av F o.dst e) h1
 |n,[],F,h,_,_,i,hi,_=>by cases hi
 |0,k::l,F,h,_,hx,i,hi,hu=>by
  rcases hx with ⟨_,_,_,_,_,_,_,h5⟩|hx
  ·exact h5.elim
  ·exact hx i hi hu
 |n+1,k::l,F,h,hn,hx,i,hi,hu=>by
  rcases hx with ⟨b,ob,eb,hb,Mu,Ar,wU,kj⟩|hx
  ·obtain⟨f1,⟨vp,f2,f3⟩,f4⟩:=RL Mu;rw[Ar] at f2
   injection f2 with f2
   subst f2
   by_cases se:i=b
   ·subst se
    exact⟨ob,eb,h,Ar,wU,fun _=>rfl,kj⟩
   ·have Ja:i∈(k::l).erase b:=(List.mem_erase_of_ne se).2 hi
    have wQ:∀j∈(k::l).erase b,j∈k::l:=fun j hj=>List.mem_of_mem_erase hj
    obtain⟨o,e,h1,k1,k2,k3,k4⟩:=Sm hd tz hP n _ (hn.erase b) kj i Ja (OE wQ hu)
    have wT:EW C cl ops ob F h1=.ok (eb,h1):=by
     rcases f4 with h4|f4
     ·exact YH (h4 ob Ar) wU h1
     have hqi:Eb C o=true:=by
      rcases f4 i hi with h4|h4|h4
      ·exact absurd h4 se
      ·exact h4 o k1
      ·rw[Ir hu b hb] at h4;cases h4
     rw[k3 hqi];exact wU
    have Uw:(∀t∈o.looksAt ops,ob.dst≠some t)/\(∀t∈ob.looksAt ops,o.dst≠some t)/\∀x,ob.dst=some x->o.dst≠some x:=by
     rcases Nat.lt_or_gt_of_ne se with BC|BC
     ·rcases RZ hd k1 Ar BC with h5|h5
      ·rw[Ir f1 i hi] at h5;cases h5
      ·obtain⟨a1,a2,a3⟩:=Oper.apart_spec h5
       exact⟨fun t ht e=>a3 t e ht,fun t ht e=>a1 t e ht,fun x hx KW=>a2 x KW hx⟩
     ·rcases RZ hd Ar k1 BC with h5|h5
      ·rw[Ir hu b hb] at h5;cases h5
      ·obtain⟨a1,a2,a3⟩:=Oper.apart_spec h5
       exact⟨fun t ht e=>a1 t e ht,fun t ht e=>a3 t e ht,fun x hx KW=>a2 x hx KW⟩
    obtain⟨p1,p2,p3⟩:=Uw
    have wc:ob∈ops.toList:=by simpa using Array.mem_of_getElem? Ar
    have bH:o∈ops.toList:=by simpa using Array.mem_of_getElem? k1
    have tF:∀{x y:Oper} {ey:Bool×AV} {g:Hp},(∀t∈x.looksAt ops,y.dst≠some t)->(∀z,y.dst=some z->x.dst≠some z)->y∈ops.toList->EW C cl ops x (Av F y.dst ey) g=EW C cl ops x F g:=by
     intro x y ey g hl bK hy
     refine Bu x (fun t ht=>A9 (hl t ht)) (.inr (A9 (tz y hy))) (.inr fun z hz=>A9 fun e=> ?_)
     have:x.dst=some z:=by
      unfold JT at hz;split at hz
      ·exact hz
      ·cases hz
     exact bK z e this
    have Hf:EW C cl ops o F h=.ok (e,h1):=by rw[<-tF p1 p3 wc (ey:=eb)];exact k2
    have Ku:EW C cl ops ob (Av F o.dst e) h1=.ok (eb,h1):=by rw[tF p2 (fun z hz rq=>p3 z rq hz) bH];exact wT
    refine⟨o,e,h1,k1,Hf,k3,?_⟩
    have HV:b∈(k::l).erase i:=(List.mem_erase_of_ne (fun e=>se e.symm)).2 hb
    cases hl:(k::l).erase i with
    |nil=>rw[hl] at HV;cases HV
    |cons k' l'=>
     refine .inl ⟨b,ob,eb,by rw[<-hl];exact HV,?_,Ar,Ku,?_⟩
     ·rw[<-hl]
      exact dP (fun j hj=>List.mem_of_mem_erase hj) Mu
     ·rw[<-hl,List.erase_comm];exact Li hP n _ (Dw.kD p3) k4
  ·obtain⟨o,e,h1,k1,k2,k3,k4⟩:=hx i hi hu;exact⟨o,e,h1,k1,k2,k3,k4⟩
theorem XO {s t:List Nat}{i:Nat}(h:(s++i::t).Nodup):(s++i::t).erase i=s++t:=by
 rw[List.nodup_append] at h
 rw[List.erase_append_right _ (fun hi=>h.2.2 i hi i (by simp) rfl)]
 simp
theorem cZ (hI:∀w w',I w->Below B0 w w'->I w')(DS:∀d,OD C I B0 (cl d))(hd:Mf ops=true)
  {n:Nat} (Hw:(ops.toList.all fun o=>F6 n o.dst)=true) {Post:Fr->Hp->Prop} (hP:∀F F' h,Dw F F'->Post F h->Post F' h) {Q:Exit->Act->World->Prop}:
  ∀(fuel:Nat) (listed:Array Bool) (F:Fr) (E:Env) (a:Act),listed.size=ops.size->Lj ops listed->(rest ops listed).length=fuel->
   PR C cl ops Post (fuel+1) (rest ops listed) F E.h->Good C.G I B0 E->AR E F a->n<=a.tmps.size->
   (∀G E' a',Post G E'.h->Step C.G I B0 E E'->AR E' G a'->a'.tmps.size=a.tmps.size->a'.defers=a.defers->Q .normal a' E'.w)->wpAny C.P .any ops Q fuel listed a E.w:=by
 intro fuel
 induction fuel with
 |zero=>
  intro listed F E a hs hc hl hx H hf hn hQ;have hr:rest ops listed=[]:=List.eq_nil_of_length_eq_zero hl;rw[hr] at hx;refine⟨?_,hQ F E a hx (Step.refl H) hf rfl rfl⟩
  cases JN:Region.ready .any ops listed with
  |nil=>rfl
  |cons i l=>
   have:i∈rest ops listed:=Ew (by rw[JN];simp)
   rw[hr] at this;cases this
 |succ fuel ih=>
  intro listed F E a hs hc hl hx H hf hn hQ
  refine⟨fun JN=>absurd JN (LJ (fun j o ho=>(Oi hd ho).2.2) hs (by intro h;rw[h] at hl;cases hl)),fun i hi=> ?_⟩
  obtain⟨s,t,DH⟩:=List.append_of_mem (Ew hi);obtain⟨o,ho,RC,EF,D8,SE,jo,OU,hun⟩:=Ga hs hc hi DH
  have bI:(rest ops listed).Nodup:=(GZ (ops:=ops) listed).imp fun h=>Nat.ne_of_lt h
  obtain⟨o',e,h1,k1,k2,k3,k4⟩:=Sm hd (RY Hw) hP (fuel+1) (rest ops listed) bI hx i (Ew hi) (List.all_eq_true.2 fun j hj=>by rw[hun j hj];rfl)
  rw[ho] at k1
  injection k1 with k1
  subst k1;have iV:=(Oi hd ho).2.1
  have RG:DF (Je o) o=o.dst:=by unfold DF;rw[iV];cases Je o<;>rfl
  have SJ:F6 n o.dst=true:=List.all_eq_true.1 Hw _ (by simpa using Array.mem_of_getElem? ho)
  refine KN hI (DS _) ho SJ k2 H hf hn fun E' a' S Hg FO CD Fy=> ?_
  rw[RG] at FO
  have Fy:=Fy.resolve_left (by rw[iV];simp)
  refine ih _ _ E' a' (by simpa using hs) jo ?_ ?_ S.Co FO (by rw[CD];exact hn) fun G eF lU hp S' Uv Fs Nn=>hQ G eF lU hp (S.trans S') Uv (Fs.trans CD) (Nn.trans Fy)
  ·rw[OU];rw[DH] at hl;simp at hl⊢;omega
  ·rw[OU,<-XO (DH▸bI),<-DH,Hg];exact k4
theorem R8 (hI:∀w w',I w->Below B0 w w'->I w')(hm:C.P.follows .mixedOrders=true)(DS:∀d,OD C I B0 (cl d))(hd:Mf ops=true)
  {n:Nat} (Hw:(ops.toList.all fun o=>F6 n o.dst)=true) {Q:Exit->Act->World->Prop} {id:Nat} {F G:Fr} {h':Hp} {E:Env} {a:Act}
  (hx:J9 C cl ops F E.h=.ok (G,h')) (H:Good C.G I B0 E) (hf:AR E F a) (hn:n<=a.tmps.size)
  (hQ:∀E' a',Step C.G I B0 E E'->E'.h=h'->AR E' G a'->a'.tmps.size=a.tmps.size->a'.defers=a.defers->Q .normal a' E'.w):(Code.region id ops true).wp C.P Q a E.w:=by
 refine wp_region_any hm ?_
 have hb:∀B,Below B E.w {E.w with drawn:=E.w.drawn+1}:=fun B=>⟨rfl,rfl,rfl,Nat.le_refl _,fun _ _=>rfl⟩
 have S:=M9 hI H (w':={E.w with drawn:=E.w.drawn+1}) (hb _) rfl
 unfold J9 at hx;split at hx
 ·rename_i G1 h1 hr;split at hx
  ·rename_i xd;simp only[Except.ok.injEq,Prod.mk.injEq] at hx;obtain⟨rfl,rfl⟩:=hx;have iA:=@of_decide_eq_true _ (Classical.propDecidable _) xd
   refine cZ hI DS hd Hw (Post:=fun G' h2=>(∀n,lk G' n=lk G1 n)/\h2=h1) (fun F F' h he hp=>⟨fun n=>(he n).symm.trans (hp.1 n),hp.2⟩) ops.size _ F {E with w:={E.w with drawn:=E.w.drawn+1}} a (by simp) (Lb ops) (by rw[IS];simp)
    (by rw[IS];exact iA) S.Co (AR.mono S.le hf) hn fun G' E' a' hp S' FO hs Fy=>hQ E' a' (S.trans S') hp.2 (FO.eq fun n=>hp.1 n) hs Fy
  ·cases hx
 ·cases hx
end
end Go.Ai
