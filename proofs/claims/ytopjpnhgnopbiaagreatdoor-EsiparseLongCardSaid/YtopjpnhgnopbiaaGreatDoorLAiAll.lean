/-
  Drawn regions all of whose orders are gone through.
-/
import Derived.Test.YtopjpnhgnopbiaaGreatDoorLAiAny
set_option linter.unusedVariables false
set_option linter.unusedSimpArgs false
set_option linter.unnecessarySimpa false
namespace Go.Ai
open Go.RowKit
section
variable {C:Bh}{cl:Bool->FuncId->List AV->Hp->Except (List Nat) (AV×Hp)}{ops:Array Oper}{I:World->Prop}{B0:Nat}
theorem NA (h:LL ops=true){j:Nat}{o:Oper}(ho:ops[j]?=some o):cM o.op=true/\Dk o=false/\∀e∈o.after,Region.binds .any e=true->e.on<j:=by
 unfold LL at h;rw[Bool.and_eq_true] at h
 have hz:(o,j)∈ops.toList.zipIdx:=List.mem_of_getElem? (by rw[List.getElem?_zipIdx];simp[ho]:ops.toList.zipIdx[j]?=some (o,j))
 have h1:=List.all_eq_true.1 h.1 _ hz;simp only[Bool.and_eq_true,Bool.not_eq_true'] at h1
 refine⟨h1.1,h1.2.1,fun e he hb=> ?_⟩
 have:=List.all_eq_true.1 h1.2.2 e (by simpa using he)
 rw[hb] at this;simp only[Bool.not_true,Bool.false_or] at this;exact Nat.le_of_ble_eq_true this
theorem Pe (h:LL ops=true){i j:Nat}{x y:Oper}(hx:ops[i]?=some x)(hy:ops[j]?=some y)(tI:i<j):DR ops i j=true\/x.apart ops y=true:=by
 unfold LL at h;rw[Bool.and_eq_true] at h
 have wJ:(y,j)∈ops.toList.zipIdx:=List.mem_of_getElem? (by rw[List.getElem?_zipIdx];simp[hy]:ops.toList.zipIdx[j]?=some (y,j))
 have wK:(x,i)∈ops.toList.zipIdx:=List.mem_of_getElem? (by rw[List.getElem?_zipIdx];simp[hx]:ops.toList.zipIdx[i]?=some (x,i))
 have:=List.all_eq_true.1 (List.all_eq_true.1 h.2 _ wJ) _ wK;simp only[Bool.or_eq_true,Bool.not_eq_true'] at this
 rcases this with (h1|h1)|h1
 ·have:Nat.blt i j=true:=Nat.ble_eq_true_of_le tI;rw[this] at h1;cases h1
 ·exact .inl h1
 ·exact .inr h1
theorem Hi {l:List Nat}{i:Nat}(h:Ei ops l i=true):∀j∈l,DR ops j i=false:=fun j hj=>by
 have:=List.all_eq_true.1 h j hj;simpa using this
theorem Me {l l':List Nat}{i:Nat}(hs:∀j∈l',j∈l)(h:Ei ops l i=true):Ei ops l' i=true:=
 List.all_eq_true.2 fun j hj=>List.all_eq_true.1 h j (hs j hj)
theorem PM {l:List Nat}{i:Nat}(h:Mw C ops l i=true):Ei ops l i=true/\(∃o,ops[i]?=some o/\EC C o=true)/\((∀o,ops[i]?=some o->Ko o=true)\/∀j∈l,j=i\/(∀y,ops[j]?=some y->EC C y=true)\/DR ops i j=true):=by
 unfold Mw at h;simp only[Bool.and_eq_true] at h;obtain⟨⟨h1,h2⟩,h3⟩:=h;refine⟨h1,?_,?_⟩
 ·split at h2
  ·exact⟨_,by assumption,h2⟩
  ·cases h2
 ·rw[Bool.or_eq_true] at h3
  rcases h3 with h3|h3
  ·refine .inl fun o ho=> ?_
   rw[ho] at h3;exact h3
  refine .inr fun j hj=> ?_
  have:=List.all_eq_true.1 h3 j hj;simp only[Bool.or_eq_true] at this
  rcases this with (h4|h4)|h4
  ·exact .inl (Nat.eq_of_beq_eq_true h4)
  ·refine .inr (.inl fun y hy=> ?_)
   rw[hy] at h4;exact h4
  ·exact .inr (.inr h4)
theorem Zd {l l':List Nat}{i:Nat}(hs:∀j∈l',j∈l)(h:Mw C ops l i=true):Mw C ops l' i=true:=by
 unfold Mw at h⊢;simp only[Bool.and_eq_true] at h⊢;refine⟨⟨Me hs h.1.1,h.1.2⟩,?_⟩;rw[Bool.or_eq_true] at *
 exact h.2.imp id fun h=>List.all_eq_true.2 fun j hj=>List.all_eq_true.1 h j (hs j hj)
theorem Mh {o:Oper}{F F':Fr}{h:Hp}(he:Db F F'):D6 C cl ops o F h=D6 C cl ops o F' h:=
 Bt o (fun t _=>he t) (.inr (he dS)) (.inr fun d _=>he d)
theorem KV {Post:Fr->Hp->Prop}(hP:∀F F' h,Db F F'->Post F h->Post F' h):∀(n:Nat) (l:List Nat) {F F':Fr} {h:Hp},Db F F'->Nf C cl ops Post n l F h->Nf C cl ops Post n l F' h
 |0,_,_,_,_,_,hx=>hx
 |n+1,[],F,F',h,he,hx=>hP F F' h he hx
 |n+1,k::l,F,F',h,he,hx=>by
  rcases hx with ⟨i,o,e,h1,h2,h3,h4,h5⟩|hx
  ·exact .inl ⟨i,o,e,h1,h2,h3,by rw[<-Mh he];exact h4,KV hP n _ (he.put _ _) h5⟩
  ·refine .inr fun i hi hu=> ?_
   obtain⟨o,e,h1,k1,k2,k3,k4⟩:=hx i hi hu
   exact⟨o,e,h1,k1,by rw[<-Mh he];exact k2,k3,KV hP n _ (he.put _ _) k4⟩
theorem Db.gG {F:Fr}{d1 d2:Option Nat}{e1 e2:Bool×AV}(h:∀x,d1=some x->d2≠some x):Db (Aq (Aq F d1 e1) d2 e2) (Aq (Aq F d2 e2) d1 e1):=by
 intro n
 cases d1 with
 |none=>rfl
 |some a=>
  cases d2 with
  |none=>rfl
  |some b=>
   have Q6:a≠b:=fun e=>h a rfl (by rw[e])
   simp only[Aq,lk]
   cases h1:Nat.beq b n with
   |true=>
    have:b=n:=Nat.eq_of_beq_eq_true h1
    have h2:Nat.beq a n=false:=by
     cases h2:Nat.beq a n with
     |false=>rfl
     |true=>exact absurd ((Nat.eq_of_beq_eq_true h2).trans this.symm) Q6
    simp[h2]
   |false=>cases h2:Nat.beq a n<;>simp
theorem Up {F:Fr}(h h1:Hp){o:Oper}(hp:Ko o=true):Bg C (IV o) F h1 o=(Bg C (IV o) F h o).map fun r=>(r.1,r.2.1,h1):=by
 obtain⟨dst,op,ty,pos,after,gd⟩:=o;unfold Ko at hp;rw[Bool.and_eq_true] at hp
 replace hp:=hp.2
 cases op<;>simp only[Bool.false_eq_true] at hp
 case nilCheck x=>
  simp only[IV,Bg,Bx,evalOp,EU];generalize ev C.G F x=y;obtain⟨y1,y2⟩:=y
  cases y2<;>rfl
 case fieldAddr s x f=>
  simp only[IV,Bg,Bx,evalOp,Dn];generalize ev C.G F x=y;obtain⟨y1,y2⟩:=y;generalize C.P.underlying s=u
  cases u with
  |none=>rfl
  |some d=>
   cases d<;>try rfl
   rename_i fs
   cases hq:fs[f]? with
   |none=>cases y2<;>simp[hq]
   |some fd=>cases hb:Nat.beq (C.P.cellsOf fd.type) 0<;>cases y2<;>simp[hq,hb]
 case indexAddr t x i=>
  simp only[IV,Bg,Bx,evalOp,Dm];generalize ev C.G F x=y;generalize ev C.G F i=z;obtain⟨y1,y2⟩:=y;obtain⟨z1,z2⟩:=z;generalize C.P.underlying t=u
  cases u with
  |none=>rfl
  |some d=>
   cases d<;>try rfl
   all_goals (cases y2<;>try rfl)
   all_goals (cases z2<;>rfl)
 case buildSlice t len parts=>
  simp only[IV,Bg,evalOp,Cr];generalize C.P.underlying t=u
  cases u with
  |none=>rfl
  |some d=>
   cases d<;>try rfl
   simp only
   generalize ((parts.size.beq len&&parts.toList.zipIdx.all fun p=>p.fst.fst.beq p.snd)&&_&&_&&_&&_)=b
   cases b<;>rfl
 case call c=>
  obtain⟨callee,args,CG⟩:=c
  cases callee with
  |builtin b=>
   cases b<;>simp only[Bool.false_eq_true] at hp
   simp only[IV,Bg,Bx,evalOp,GL];generalize args.toList=l;generalize CG.toList=m
   match l,m with
   |[],_=>cases m<;>rfl
   |_::_::_,_=>cases m<;>rfl
   |[_],[]=>rfl
   |[_],_::_::_=>rfl
   |[x],[t]=>
    simp only[RH];generalize ev C.G F x=y;obtain⟨y1,y2⟩:=y;generalize C.P.underlying t=u
    cases u with
    |none=>rfl
    |some d=>
     cases d<;>try rfl
     all_goals (cases y2<;>rfl)
  |_=>simp at hp
theorem W7 {F:Fr}{h h':Hp}{o:Oper}{g:Bool}{e:Bool×AV}(hp:Ko o=true)(hx:Bg C (IV o) F h o=some (g,e,h'))(h1:Hp):Bg C (IV o) F h1 o=some (g,e,h1):=by
 rw[Up h h1 hp,hx];rfl
theorem Vo {o:Oper}{F:Fr}{h:Hp}{e:Bool×AV}(hp:Ko o=true)(hx:D6 C cl ops o F h=.ok (e,h))(h1:Hp):D6 C cl ops o F h1=.ok (e,h1):=by
 have hg:o.guard=none:=by
  unfold Ko at hp;rw[Bool.and_eq_true] at hp;simpa using hp.1
 have key:∀h,D6 C cl ops o F h=BB C (cl (IV o)) (IV o) o F h:=by
  intro h;unfold D6 AW guardOf;simp only[hg]
  have:Ef C.P (IV o) ops o F h=none:=by
   obtain⟨dst,op,ty,pos,after,gd⟩:=o;unfold Ko at hp;rw[Bool.and_eq_true] at hp
   replace hp:=hp.2
   unfold Ef
   cases op<;>simp only[Bool.false_eq_true] at hp
   all_goals (simp only[IV];split<;>first|rfl|simp_all)
  rw[this]
 have gen:∀h,BB C (cl (IV o)) (IV o) o F h=(match Bg C (IV o) F h o with
   |some (true,e,h')=>.ok (e,h')
   |some (false,_,_)=>.error [1006]
   |none=>.error [1007]):=by
  intro h;obtain⟨dst,op,ty,pos,after,gd⟩:=o;simp only at hg;subst hg;unfold Ko at hp;simp only[Option.isNone_none,Bool.true_and] at hp
  cases op<;>try simp only[Bool.false_eq_true] at hp
  case call c=>
   obtain⟨callee,args,CG⟩:=c
   cases callee with
   |builtin b=>rfl
   |_=>simp at hp
  all_goals rfl
 rw[key,gen] at hx⊢;split at hx
 ·rename_i e1 h2 he;rw[W7 hp he h1];simp at hx;rw[hx.1]
 ·cases hx
 ·cases hx
theorem Qi (hd:LL ops=true)(pw:∀o∈ops.toList,o.dst≠some dS){Post:Fr->Hp->Prop}(hP:∀F F' h,Db F F'->Post F h->Post F' h):∀(n:Nat) (l:List Nat) {F:Fr} {h:Hp},l.Nodup->Nf C cl ops Post (n+1) l F h->∀i∈l,Ei ops l i=true->
  ∃o e h1,ops[i]?=some o/\D6 C cl ops o F h=.ok (e,h1)/\(EC C o=true->h1=h)/\Nf C cl ops Post n (l.erase i) (Aq F o.dst e) h1
 |n,[],F,h,_,_,i,hi,_=>by cases hi
 |0,k::l,F,h,_,hx,i,hi,hu=>by
  rcases hx with ⟨_,_,_,_,_,_,_,h5⟩|hx
  ·exact h5.elim
  ·exact hx i hi hu
 |n+1,k::l,F,h,hn,hx,i,hi,hu=>by
  rcases hx with ⟨b,ob,eb,hb,KX,Am,sk,gk⟩|hx
  ·obtain⟨f1,⟨sG,f2,f3⟩,f4⟩:=PM KX;rw[Am] at f2
   injection f2 with f2
   subst f2
   by_cases oS:i=b
   ·subst oS
    exact⟨ob,eb,h,Am,sk,fun _=>rfl,gk⟩
   ·have IT:i∈(k::l).erase b:=(List.mem_erase_of_ne oS).2 hi
    have sg:∀j∈(k::l).erase b,j∈k::l:=fun j hj=>List.mem_of_mem_erase hj
    obtain⟨o,e,h1,k1,k2,k3,k4⟩:=Qi hd pw hP n _ (hn.erase b) gk i IT (Me sg hu)
    have sj:D6 C cl ops ob F h1=.ok (eb,h1):=by
     rcases f4 with h4|f4
     ·exact Vo (h4 ob Am) sk h1
     have wz:EC C o=true:=by
      rcases f4 i hi with h4|h4|h4
      ·exact absurd h4 oS
      ·exact h4 o k1
      ·rw[Hi hu b hb] at h4;cases h4
     rw[k3 wz];exact sk
    have Sb:(∀t∈o.looksAt ops,ob.dst≠some t)/\(∀t∈ob.looksAt ops,o.dst≠some t)/\∀x,ob.dst=some x->o.dst≠some x:=by
     rcases Nat.lt_or_gt_of_ne oS with Au|Au
     ·rcases Pe hd k1 Am Au with h5|h5
      ·rw[Hi f1 i hi] at h5;cases h5
      ·obtain⟨a1,a2,a3⟩:=Oper.apart_spec h5
       exact⟨fun t ht e=>a3 t e ht,fun t ht e=>a1 t e ht,fun x hx IS=>a2 x IS hx⟩
     ·rcases Pe hd Am k1 Au with h5|h5
      ·rw[Hi hu b hb] at h5;cases h5
      ·obtain⟨a1,a2,a3⟩:=Oper.apart_spec h5
       exact⟨fun t ht e=>a1 t e ht,fun t ht e=>a3 t e ht,fun x hx IS=>a2 x hx IS⟩
    obtain⟨p1,p2,p3⟩:=Sb
    have sy:ob∈ops.toList:=by simpa using Array.mem_of_getElem? Am
    have YD:o∈ops.toList:=by simpa using Array.mem_of_getElem? k1
    have pD:∀{x y:Oper} {ey:Bool×AV} {g:Hp},(∀t∈x.looksAt ops,y.dst≠some t)->(∀z,y.dst=some z->x.dst≠some z)->y∈ops.toList->D6 C cl ops x (Aq F y.dst ey) g=D6 C cl ops x F g:=by
     intro x y ey g hl gw hy
     refine Bt x (fun t ht=>Az (hl t ht)) (.inr (Az (pw y hy))) (.inr fun z hz=>Az fun e=> ?_)
     have:x.dst=some z:=by
      unfold IK at hz;split at hz
      ·exact hz
      ·cases hz
     exact gw z e this
    have GK:D6 C cl ops o F h=.ok (e,h1):=by rw[<-pD p1 p3 sy (ey:=eb)];exact k2
    have JO:D6 C cl ops ob (Aq F o.dst e) h1=.ok (eb,h1):=by rw[pD p2 (fun z hz nq=>p3 z nq hz) YD];exact sj
    refine⟨o,e,h1,k1,GK,k3,?_⟩
    have Gf:b∈(k::l).erase i:=(List.mem_erase_of_ne (fun e=>oS e.symm)).2 hb
    cases hl:(k::l).erase i with
    |nil=>rw[hl] at Gf;cases Gf
    |cons k' l'=>
     refine .inl ⟨b,ob,eb,by rw[<-hl];exact Gf,?_,Am,JO,?_⟩
     ·rw[<-hl]
      exact Zd (fun j hj=>List.mem_of_mem_erase hj) KX
     ·rw[<-hl,List.erase_comm];exact KV hP n _ (Db.gG p3) k4
  ·obtain⟨o,e,h1,k1,k2,k3,k4⟩:=hx i hi hu;exact⟨o,e,h1,k1,k2,k3,k4⟩
theorem Ux {s t:List Nat}{i:Nat}(h:(s++i::t).Nodup):(s++i::t).erase i=s++t:=by
 rw[List.nodup_append] at h
 rw[List.erase_append_right _ (fun hi=>h.2.2 i hi i (by simp) rfl)]
 simp
theorem ZB (hI:∀w w',I w->Below B0 w w'->I w')(Da:∀d,Md C I B0 (cl d))(hd:LL ops=true)
  {n:Nat} (Gv:(ops.toList.all fun o=>FG n o.dst)=true) {Post:Fr->Hp->Prop} (hP:∀F F' h,Db F F'->Post F h->Post F' h) {Q:Exit->Act->World->Prop}:
  ∀(fuel:Nat) (listed:Array Bool) (F:Fr) (E:Env) (a:Act),listed.size=ops.size->KW ops listed->(rest ops listed).length=fuel->
   Nf C cl ops Post (fuel+1) (rest ops listed) F E.h->Good C.G I B0 E->AP E F a->n<=a.tmps.size->
   (∀G E' a',Post G E'.h->Step C.G I B0 E E'->AP E' G a'->a'.tmps.size=a.tmps.size->a'.defers=a.defers->Q .normal a' E'.w)->wpAny C.P .any ops Q fuel listed a E.w:=by
 intro fuel
 induction fuel with
 |zero=>
  intro listed F E a hs hc hl hx H hf hn hQ;have hr:rest ops listed=[]:=List.eq_nil_of_length_eq_zero hl;rw[hr] at hx;refine⟨?_,hQ F E a hx (Step.refl H) hf rfl rfl⟩
  cases IG:Region.ready .any ops listed with
  |nil=>rfl
  |cons i l=>
   have:i∈rest ops listed:=ES (by rw[IG];simp)
   rw[hr] at this;cases this
 |succ fuel ih=>
  intro listed F E a hs hc hl hx H hf hn hQ
  refine⟨fun IG=>absurd IG (J9 (fun j o ho=>(NA hd ho).2.2) hs (by intro h;rw[h] at hl;cases hl)),fun i hi=> ?_⟩
  obtain⟨s,t,DJ⟩:=List.append_of_mem (ES hi);obtain⟨o,ho,PD,Dl,De,QF,fg,Mr,wY⟩:=Ff hs hc hi DJ
  have YE:(rest ops listed).Nodup:=(Fe (ops:=ops) listed).imp fun h=>Nat.ne_of_lt h
  obtain⟨o',e,h1,k1,k2,k3,k4⟩:=Qi hd (Pd Gv) hP (fuel+1) (rest ops listed) YE hx i (ES hi) (List.all_eq_true.2 fun j hj=>by rw[wY j hj];rfl)
  rw[ho] at k1
  injection k1 with k1
  subst k1;have dq:=(NA hd ho).2.1
  have PJ:Cx (IV o) o=o.dst:=by unfold Cx;rw[dq];cases IV o<;>rfl
  have QJ:FG n o.dst=true:=List.all_eq_true.1 Gv _ (by simpa using Array.mem_of_getElem? ho)
  refine JF hI (Da _) ho QJ k2 H hf hn fun E' a' S Gr F9 CC FF=> ?_
  rw[PJ] at F9
  have FF:=FF.resolve_left (by rw[dq];simp)
  refine ih _ _ E' a' (by simpa using hs) fg ?_ ?_ S.Cg F9 (by rw[CC];exact hn) fun G aJ iT hp S' SZ FB MN=>hQ G aJ iT hp (S.trans S') SZ (FB.trans CC) (MN.trans FF)
  ·rw[Mr];rw[DJ] at hl;simp at hl⊢;omega
  ·rw[Mr,<-Ux (DJ▸YE),<-DJ,Gr];exact k4
theorem P9 (hI:∀w w',I w->Below B0 w w'->I w')(hm:C.P.follows .mixedOrders=true)(Da:∀d,Md C I B0 (cl d))(hd:LL ops=true)
  {n:Nat} (Gv:(ops.toList.all fun o=>FG n o.dst)=true) {Q:Exit->Act->World->Prop} {id:Nat} {F G:Fr} {h':Hp} {E:Env} {a:Act}
  (hx:Iv C cl ops F E.h=.ok (G,h')) (H:Good C.G I B0 E) (hf:AP E F a) (hn:n<=a.tmps.size)
  (hQ:∀E' a',Step C.G I B0 E E'->E'.h=h'->AP E' G a'->a'.tmps.size=a.tmps.size->a'.defers=a.defers->Q .normal a' E'.w):(Code.region id ops true).wp C.P Q a E.w:=by
 refine wp_region_any hm ?_
 have hb:∀B,Below B E.w {E.w with drawn:=E.w.drawn+1}:=fun B=>⟨rfl,rfl,rfl,Nat.le_refl _,fun _ _=>rfl⟩
 have S:=Ld hI H (w':={E.w with drawn:=E.w.drawn+1}) (hb _) rfl
 unfold Iv at hx;split at hx
 ·rename_i G1 h1 hr;split at hx
  ·rename_i tw;simp only[Except.ok.injEq,Prod.mk.injEq] at hx;obtain⟨rfl,rfl⟩:=hx;have dQ:=@of_decide_eq_true _ (Classical.propDecidable _) tw
   refine ZB hI Da hd Gv (Post:=fun G' h2=>(∀n,lk G' n=lk G1 n)/\h2=h1) (fun F F' h he hp=>⟨fun n=>(he n).symm.trans (hp.1 n),hp.2⟩) ops.size _ F {E with w:={E.w with drawn:=E.w.drawn+1}} a (by simp) (KQ ops) (by rw[HL];simp)
    (by rw[HL];exact dQ) S.Cg (AP.mono S.le hf) hn fun G' E' a' hp S' F9 hs FF=>hQ E' a' (S.trans S') hp.2 (F9.eq fun n=>hp.1 n) hs FF
  ·cases hx
 ·cases hx
end
end Go.Ai
