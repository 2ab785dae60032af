/-
  Runs that end in a panic: what gives up, with what, and what is left of memory. No statement about the program is made here.
-/
import Derived.Test.YtopjpnhgnopbiaaGreatDoorLAiCtr
set_option linter.unusedVariables false
set_option linter.unusedSimpArgs false
set_option linter.unnecessarySimpa false
namespace Go.Ai
open Go.RowKit
abbrev PX :=Int×Int
abbrev GD :=FuncId->List AV->Option PX
def Ma (C:Bh)(PK:FuncId->List AV->Hp->PX->Hp->Prop)(o:Oper)(F:Fr)(h:Hp)(x:PX)(h':Hp):Prop:=
 match o.op with
 |.call {callee:=.value y,args,argTypes:=_}=>
  ∃k first cap vs,ev C.G F y=(true,.fn (.func k) first cap)/\MU C.G F args.toList=(true,vs)/\C.ident k=false/\PK k (first++vs++cap) h x h'
 |_=>False
def Kp (draw:Bool)(F:Fr):Fr:=match draw with
 |true=>[(dS,lk F dS)]
 |false=>F
def I9 (C:Bh)(PK:FuncId->List AV->Hp->PX->Hp->Prop)(ops:Array Oper)(draw:Bool):Nat->List Oper->Fr->Hp->PX->Fr->Hp->Prop
 |_,[],_,_,_,_,_=>False
 |i,o::os,F,h,x,F',h'=>(A6 C ops draw i=false/\guardOf ops F o=some true/\F'=Kp draw F/\Ma C PK o F h x h')\/
   ∃e h1,(∃n0,∀n,n0<=n->AW C (call C (A6 C ops draw i) n) ops (A6 C ops draw i) o F h=.ok (e,h1))/\EI C ops draw i F h h1=true/\I9 C PK ops draw (i+1) os (Aq F (Cx (A6 C ops draw i) o) e) h1 x F' h'
mutual
def EV (C:Bh)(PF:GD):Nat->FuncId->Code->Fr->Hp->PX->Fr->Hp->Prop
 |0,_,_,_,_,_,_,_=>False
 |n+1,f,c,F,h,x,F',h'=>
  match c with
  |.seq a b=>EV C PF n f a F h x F' h'\/∃F1 h1,DH C f a F h .normal F1 h1/\EV C PF n f b F1 h1 x F' h'
  |.cond y a b=>∃t,ev C.G F y=(true,.bool t)/\EV C PF n f (match t with|true=>a|false=>b) F h x F' h'
  |.block _ a=>EV C PF n f a F h x F' h'
  |.loop a=>EV C PF n f a F h x F' h'\/∃F1 h1,DH C f a F h .normal F1 h1/\
    EV C PF n f (.loop a) (match C.FD f with|true=>Cv h.length h1 F1|false=>F1) (match C.FD f with|true=>(h1.take h.length).map (AN h.length h1)|false=>h1) x F' h'
  |.region id ops draw=>(draw&&C.Gt f id)=false/\((!C.Cs f&&Er ops.toList)||(draw&& !SQ ops.toList (IM (FJ ops draw) h.length ((C.live f id).map fun s=>(s,lk F s)))))=false/\I9 C (Mb C PF n) ops draw 0 ops.toList (IM (FJ ops draw) h.length ((C.live f id).map fun s=>(s,lk F s))) (P6 (FJ ops draw) h) x F' h'
  |_=>False
def Mb (C:Bh)(PF:GD):Nat->FuncId->List AV->Hp->PX->Hp->Prop
  | 0,_,_,_,_,_=>False
  | n+1,k,vs,h,x,h'=>
    (PF k vs=some x/\h'=h)\/
    (C.ok k=true/\C.Cz k=none/\C.E9 k=none/\C.Cs k=false/\∃fn c,C.P.funcs[k]?=some fn/\fn.body=some c/\
      ((C.heap k=true/\∃F1 h1,EV C PF n k c (DZ 0 vs) h x F1 h1/\h'=(h1.take h.length).map (AN h.length h1))\/
       (C.heap k=false/\∃F1 h1,EV C PF n k c (DZ 0 (AQ 0 [] vs)) [] x F1 h1/\h'=h)))
end
section
variable {C:Bh}{I:World->Prop}{B0:Nat}
def jc (G:Nat->Option (List AV))(I:World->Prop)(B0:Nat)(ch:PX->List PanicEntry)(E:Env)(x:PX)(h':Hp)(e:Ending)(w':World):Prop:=
 e=.panicked (ch x)/\∃E',E'.w=w'/\Step G I B0 E E'/\E'.h=h'
def Zz (C:Bh)(I:World->Prop)(B0:Nat)(ch:PX->List PanicEntry)(PK:FuncId->List AV->Hp->PX->Hp->Prop):Prop:=
 ∀k vs h x h',PK k vs h x h'->Callee C.P k/\∀(E:Env) (args:List Value),E.h=h->Good C.G I B0 E->BK E vs args->Calls C.P k args.toArray E.w (jc C.G I B0 ch E x h')
def iV (C:Bh)(I:World->Prop)(B0:Nat)(ch:PX->List PanicEntry)(PF:GD):Prop:=
 ∀k vs x,PF k vs=some x->Callee C.P k/\∀(E:Env) (args:List Value),Good C.G I B0 E->BK E vs args->Calls C.P k args.toArray E.w (jc C.G I B0 ch E x E.h)
theorem Xg {ch:PX->List PanicEntry}{PK:FuncId->List AV->Hp->PX->Hp->Prop}(lL:Zz C I B0 ch PK){ops:Array Oper}{Q:Exit->Act->World->Prop}{K:Act->World->Prop}{i:Nat}{o:Oper}(ho:ops[i]?=some o){F:Fr}{x:PX}{h':Hp}{E:Env}{a:Act}
  (hg:guardOf ops F o=some true) (hx:Ma C PK o F E.h x h') (H:Good C.G I B0 E) (hf:AP E F a) (hQ:∀E',Step C.G I B0 E E'->E'.h=h'->Q (.panic (ch x)) a E'.w):wpOp C.P ops Q i K a E.w:=by
 simp only[wpOp,ho];rw[IA hf hg,if_pos rfl];refine .inl ?_;unfold Ma at hx;split at hx
 ·rename_i y args _ Bc
  obtain⟨k,first,cap,vs,MM,dp,hid,hk⟩:=hx
  obtain⟨fa,ca,mG,Qv,Ms⟩:=Aj H hf MM rfl
  have CV:=Si H hf args.toList (by rw[dp])
  rw[dp] at CV;have CE:=BK.append (BK.append Qv CV) Ms
  have Iq:fa++args.map a.eval++ca=(fa.toList++args.toList.map a.eval++ca.toList).toArray:=by
   apply Array.ext';simp
  obtain⟨⟨fn,Mu,hb,K2⟩,Wk⟩:=lL k _ _ _ _ hk;have hc:=Wk E _ rfl H CE
  have Ug:(execOp a.eval o).run C.P E.w=.ok (.enter k (fa.toList++args.toList.map a.eval++ca.toList).toArray) E.w:=by
   obtain⟨d,op,ty,pos,after,gd⟩:=o;simp only at Bc;subst Bc;simp only[execOp,resolve,mG,Deferred.ofValue,Sem.run_bind,Sem.run_pure,Result.andThen_ok,invoke,callFunc,run_program,Mu,K2,hb,Iq];rfl
  unfold Oper.wp;rw[Ug,Oper.upon_enter]
  refine hc.mono fun e w' UZ=> ?_
  obtain⟨rfl,E1,rfl,S,KK⟩:=UZ;exact hQ E1 S KK
 ·exact hx.elim
theorem Y9 (hI:∀w w',I w->Below B0 w w'->I w')(Da:∀n,Md C I B0 (call C false n)){ch:PX->List PanicEntry}{PK:FuncId->List AV->Hp->PX->Hp->Prop}(lL:Zz C I B0 ch PK){ops:Array Oper}{n:Nat}{Q:Exit->Act->World->Prop}:
  ∀(l:List Nat) (j:Nat) (F:Fr) (h:Hp) (x:PX) (F':Fr) (h':Hp),((G8 ops l).all fun o=>FG n o.dst)=true->I9 C PK ops false j (G8 ops l) F h x F' h'->∀(E:Env) (a:Act),E.h=h->Good C.G I B0 E->AP E F a->n<=a.tmps.size->
   (∀E' a',Step C.G I B0 E E'->E'.h=h'->AP E' F' a'->a'.tmps.size=a.tmps.size->(Er (G8 ops l)=true\/a'.defers=a.defers)->Q (.panic (ch x)) a' E'.w)->wpOps C.P ops Q l a E.w:=by
 intro l
 induction l with
 |nil=>
  intro j F h x F' h' _ hx;exact hx.elim
 |cons i l ih=>
  intro j F h x F' h' Gv hx E a hE H hf hn hQ;subst hE;rw[wpOps_cons]
  cases ho:ops[i]? with
  |none=>
   have:G8 ops (i::l)=G8 ops l:=by simp[G8,ho]
   rw[this] at hx Gv;simp only[wpOp,ho];rw[this] at hQ;exact ih j F E.h x F' h' Gv hx E a rfl H hf hn hQ
  |some o=>
   have:G8 ops (i::l)=o::G8 ops l:=by simp[G8,ho]
   rw[this] at hx Gv hQ;rw[List.all_cons,Bool.and_eq_true] at Gv;have tv:A6 C ops false j=false:=rfl;simp only[I9,tv,Kp,true_and] at hx
   rcases hx with ⟨hg,rfl,hx⟩|⟨e,h1,⟨n0,hs⟩,_,hx⟩
   ·exact Xg lL ho hg hx H hf fun E1 S KK=>hQ E1 a S KK (AP.mono S.le hf) rfl (.inr rfl)
   ·exact JF hI (Da n0) ho Gv.1 (hs n0 (Nat.le_refl _)) H hf hn fun E' a' S Gr F9 CC FF=>
     ih _ _ _ x F' h' Gv.2 hx E' a' Gr S.Cg F9 (by rw[CC];exact hn) fun aJ iT S' Wn SZ FB MN=>hQ aJ iT (S.trans S') Wn SZ (FB.trans CC) (by
      rcases FF with ⟨_,h2⟩|FF
      ·exact .inl (by simp[Er,h2])
      ·rcases MN with h2|MN
       ·exact .inl (by simp only[Er] at h2⊢;simp[h2])
       ·exact .inr (MN.trans FF))
theorem OZ {PK:FuncId->List AV->Hp->PX->Hp->Prop}{ops:Array Oper}{o:Oper}{F F':Fr}{h:Hp}{x:PX}{h':Hp}(he:∀t∈o.looksAt ops,lk F t=lk F' t)(hx:Ma C PK o F h x h'):Ma C PK o F' h x h':=by
 unfold Ma at hx⊢;split at hx
 ·rename_i y args CG Bc
  obtain⟨k,first,cap,vs,h1,h2,h3,h4⟩:=hx
  have hm:∀z∈o.op.operands,ev C.G F z=ev C.G F' z:=fun z hz=>Ur fun t ht=>he t (by
   subst ht
   exact List.mem_append_left _ (List.mem_filterMap.2 ⟨.tmp t,by simpa using hz,rfl⟩))
  rw[Bc] at hm
  have e1:ev C.G F y=ev C.G F' y:=hm y (by simp[Op.operands,Call.operands])
  have e2:MU C.G F args.toList=MU C.G F' args.toList:=JS fun z hz=>hm z (by simp[Op.operands,Call.operands];exact .inr (by simpa using hz))
  refine⟨k,first,cap,vs,?_,?_,h3,h4⟩
  ·rw[<-e1];exact h1
  ·rw[<-e2];exact h2
 ·exact hx.elim
theorem OY {PK:FuncId->List AV->Hp->PX->Hp->Prop}{ops:Array Oper}{x:PX}{F':Fr}{h':Hp}:∀(os:List Oper) (i:Nat) {F:Fr} {h:Hp},(∀j,os[j]?=ops[i+j]?)->I9 C PK ops true i os F h x F' h'->
  ∃A m B o F1 h1,List.range' i os.length=A++m::B/\ops[m]?=some o/\GY C ops m=true/\(∃n0,∀n,n0<=n->Bu C (fun d=>call C d n) ops A F h=.ok (F1,h1))/\Ma C PK o F1 h1 x h'/\F'=Kp true F1
 |[],i,F,h,_,hx=>hx.elim
 |o::os,i,F,h,TC,hx=>by
  have ho:ops[i]?=some o:=by simpa using(TC 0).symm
  simp only[I9] at hx;rw[List.length_cons,List.range'_succ]
  rcases hx with ⟨Wi,hg,rfl,hx⟩|⟨e,h1,⟨n0,hs⟩,hm,hx⟩
  ·have fe:GY C ops i=true:=by
    cases fe:GY C ops i with
    |true=>rfl
    |false=>rw[Fo fe] at Wi;cases Wi
   exact⟨[],i,_,o,F,h,rfl,ho,fe,⟨0,fun n _=>rfl⟩,hx,rfl⟩
  ·obtain⟨A,m,B,om,F1,h2,k1,k2,k3,⟨m0,k4⟩,k5,k6⟩:=OY os (i+1) (fun j=>by rw[show i+1+j=i+(j+1) by omega,<-TC (j+1)];simp) hx
   refine⟨i::A,m,B,om,F1,h2,by rw[k1];rfl,k2,k3,⟨n0+m0,fun n hn=> ?_⟩,k5,k6⟩
   exact(CZ ho).2 ⟨e,h1,hs n (by omega),hm,k4 n (by omega)⟩
theorem Zv (hI:∀w w',I w->Below B0 w w'->I w'){cl:Bool->FuncId->List AV->Hp->Except (List Nat) (AV×Hp)}(Da:∀d,Md C I B0 (cl d))(HE:Hf (cl true)){ops:Array Oper}(hd:HI C.P ops=true)
  {ch:PX->List PanicEntry} {PK:FuncId->List AV->Hp->PX->Hp->Prop} (lL:Zz C I B0 ch PK) {n:Nat} (Gv:(ops.toList.all fun o=>FG n o.dst)=true) {Q:Exit->Act->World->Prop} {m:Nat} {om:Oper} (YD:ops[m]?=some om) (tA:GY C ops m=true) {x:PX} {h':Hp}:
  ∀(fuel:Nat) (listed:Array Bool) (A B:List Nat) (F F1:Fr) (h1:Hp) (E:Env) (a:Act),listed.size=ops.size->KW ops listed->(rest ops listed).length=fuel->rest ops listed=A++m::B->
   VX ops.toList F->Bu C cl ops A F E.h=.ok (F1,h1)->Ma C PK om F1 h1 x h'->Good C.G I B0 E->AP E F a->n<=a.tmps.size->
   (∀E' a',Step C.G I B0 E E'->E'.h=h'->AP E' (Kp true F1) a'->a'.tmps.size=a.tmps.size->a'.defers=a.defers->Q (.panic (ch x)) a' E'.w)->wpAny C.P .any ops Q fuel listed a E.w:=by
 obtain⟨zI,Hs,PL,Ge,uB⟩:=HR tA;rw[YD] at Hs
 injection Hs with Hs
 subst Hs;obtain⟨_,kx,FF⟩:=Ht PL;intro fuel
 induction fuel with
 |zero=>
  intro listed A B F F1 h1 E a hs hc hl hr;rw[hr] at hl;simp at hl
 |succ fuel ih=>
  intro listed A B F F1 h1 E a hs hc hl hr Wm hx oI H hf hn hQ
  refine⟨fun IG=>absurd IG (J9 (fun j o ho=>LK hd ho) hs (by intro h;rw[h] at hl;cases hl)),fun i hi=> ?_⟩
  have mD:=ES hi;rw[hr] at mD;have X8:=Fe (ops:=ops) listed;rw[hr,List.pairwise_append,List.pairwise_cons] at X8
  rcases List.mem_append.1 mD with xX|tL
  ·obtain⟨s,t,rfl⟩:=List.append_of_mem xX
   obtain⟨o,ho,PD,Dl,De,QF,fg,Mr,_⟩:=Ff hs hc hi (s:=s) (t:=t++m::B) (by rw[hr];simp)
   obtain⟨e,h2,sh,G1,HB,aF⟩:=UU HE hd (Pd Gv) ho Dl De QF PD Wm hx
   refine OR hI Da Gv ho Wm sh H hf hn fun E' a' S Gr F9 lO CC FF=> ?_
   subst Gr
   refine ih _ (s++t) B _ G1 h1 E' a' (by simpa using hs) fg ?_ (by rw[Mr];simp) lO HB (OZ (ops:=ops) (fun u _=>aF u) oI) S.Cg F9 (by rw[CC];exact hn) fun aJ iT S' Wn SZ FB MN=>
    hQ aJ iT (S.trans S') Wn (SZ.eq fun n=>by simp only[Kp];rw[aF dS]) (FB.trans CC) (MN.trans FF)
   rw[Mr];rw[hr] at hl;simp at hl⊢;omega
  ·rcases List.mem_cons.1 tL with rfl|tL
   ·obtain⟨o,ho,PD,Dl,De,QF,fg,Mr,_⟩:=Ff hs hc hi hr;rw[YD] at ho
    injection ho with ho
    subst ho
    have VP:∀k∈A,GY C ops k=false:=by
     intro k hk
     cases hm:GY C ops k with
     |false=>rfl
     |true=>
      obtain⟨_,_,_,_,h4⟩:=HR hm;have:=h4 i (De k hk) PD;rw[QF k hk] at this;cases this
    rw[Cw A VP] at hx
    obtain⟨r1,r2⟩:=Fk HE A (fun k hk=>(Ge k (De k hk)).resolve_left (by rw[QF k hk];simp)) hx
    subst r1
    have Ua:∀k∈A,∀x,ops[k]?=some x->x.apart ops om=true:=by
     intro k hk x VT
     rcases M8 hd VT YD (De k hk) with hb|Sb
     ·have:=QF k hk;unfold DR at this;rw[hb] at this;cases this
     ·exact Sb.1
    have UY:∀u,u∈om.looksAt ops->lk F1 u=lk F u:=fun u hu=>r2 u fun k hk x VT nw=>(Oper.apart_spec (Ua k hk x VT)).1 u nw hu
    have hS:lk F1 dS=lk F dS:=r2 dS fun k hk x VT=>Pd Gv x (by simpa using Array.mem_of_getElem? VT)
    refine Xg lL YD (F:=F) (by simp[guardOf,kx]) (OZ UY oI) H hf fun E1 S KK=>hQ E1 a S KK ?_ rfl rfl
    have LX:=AP.mono S.le hf
    refine⟨fun u=> ?_,?_⟩
    ·simp only[Kp,lk]
     cases hb:Nat.beq dS u with
     |true=>
      have:=Nat.eq_of_beq_eq_true hb;subst this;simp only[cond_true];rw[hS];exact LX.1 dS
     |false=>simp only[cond_false];exact⟨fun _=>trivial,fun h=>by cases h⟩
    ·simp only[Kp,lk,Nat.beq_refl,cond_true];rw[hS];exact LX.2
   ·have fe:m<i:=X8.2.1.1 i tL;obtain⟨s,t,DJ⟩:=List.append_of_mem (ES hi);obtain⟨o,ho,PD,_,_,_,_,_,kX⟩:=Ff hs hc hi DJ
    have h1:=kX m (by rw[hr];simp)
    rw[uB i fe PD] at h1;cases h1
theorem P7 (hI:∀w w',I w->Below B0 w w'->I w')(hm:C.P.follows .mixedOrders=true)(Da:∀n d,Md C I B0 (call C d n))(HE:∀n,Hf (call C true n)){ops:Array Oper}(hd:HI C.P ops=true)
  {ch:PX->List PanicEntry} {PK:FuncId->List AV->Hp->PX->Hp->Prop} (lL:Zz C I B0 ch PK) {n:Nat} (Gv:(ops.toList.all fun o=>FG n o.dst)=true) {Q:Exit->Act->World->Prop} {id:Nat} {F F':Fr} {x:PX} {h':Hp} {E:Env} {a:Act}
  (Wm:VX ops.toList F) (hx:I9 C PK ops true 0 ops.toList F E.h x F' h') (H:Good C.G I B0 E) (hf:AP E F a) (hn:n<=a.tmps.size)
  (hQ:∀E' a',Step C.G I B0 E E'->E'.h=h'->AP E' F' a'->a'.tmps.size=a.tmps.size->a'.defers=a.defers->Q (.panic (ch x)) a' E'.w):(Code.region id ops true).wp C.P Q a E.w:=by
 refine wp_region_any hm ?_
 have hb:∀B,Below B E.w {E.w with drawn:=E.w.drawn+1}:=fun B=>⟨rfl,rfl,rfl,Nat.le_refl _,fun _ _=>rfl⟩
 have S:=Ld hI H (w':={E.w with drawn:=E.w.drawn+1}) (hb _) rfl
 obtain⟨A,m,B,om,F1,h1,k1,k2,k3,⟨n0,k4⟩,k5,rfl⟩:=OY ops.toList 0 (fun j=>by simp) hx
 rw[<-List.range_eq_range',Array.length_toList] at k1
 exact Zv hI (cl:=fun d=>call C d n0) (Da n0) (HE n0) hd lL Gv k2 k3 ops.size _ A B F F1 h1 {E with w:={E.w with drawn:=E.w.drawn+1}} a (by simp) (KQ ops) (by rw[HL];simp) (by rw[HL];exact k1) Wm
  (k4 n0 (Nat.le_refl _)) k5 S.Cg (AP.mono S.le hf) hn fun E' a' S'=>hQ E' a' (S.trans S')
def Px (C:Bh)(I:World->Prop)(B0:Nat)(ch:PX->List PanicEntry)(PF:GD)(n:Nat):Prop:=
 ∀(f:FuncId) (c:Code) (F:Fr) (h:Hp) (x:PX) (F':Fr) (h':Hp) (m:Nat),EV C PF n f c F h x F' h'->Bj C.P m (C.Gt f) c=true->∀(E:Env) (a:Act),E.h=h->Good C.G I B0 E->AP E F a->m<=a.tmps.size->
  ∀Q:Exit->Act->World->Prop,(∀E' a',Step C.G I B0 E E'->E'.h=h'->AP E' F' a'->a'.tmps.size=a.tmps.size->(C.Cs f=true\/a'.defers=a.defers)->Q (.panic (ch x)) a' E'.w)->c.wp C.P Q a E.w
theorem Oa (S0:Sound C I B0){ch:PX->List PanicEntry}{PF:GD}:∀(n:Nat),(∀m,m<n->Px C I B0 ch PF m)->
  ∀(f:FuncId) (c:Code) (F:Fr) (h:Hp) (x:PX) (F':Fr) (h':Hp) (m:Nat),EV C PF n f (.loop c) F h x F' h'->Bj C.P m (C.Gt f) c=true->∀(E:Env) (a:Act),E.h=h->Good C.G I B0 E->AP E F a->m<=a.tmps.size->
  ∀Q:Exit->Act->World->Prop,(∀E' a',Step C.G I B0 E E'->E'.h=h'->AP E' F' a'->a'.tmps.size=a.tmps.size->(C.Cs f=true\/a'.defers=a.defers)->Q (.panic (ch x)) a' E'.w)->Code.rounds C.P c Q n a E.w
 |0,_,f,c,F,h,x,F',h',m,hx,_=>by simp[EV] at hx
 |n+1,ih,f,c,F,h,x,F',h',m,hx,BF=>by
  intro E a hE H hf hm Q hQ;rw[rounds_succ];simp only[EV] at hx
  rcases hx with hx|⟨F1,h1,⟨n0,he⟩,hx⟩
  ·exact ih n (Nat.lt_succ_self n) f c F h x F' h' m hx BF E a hE H hf hm _ hQ
  ·refine Pv S0 n0 f c F h .normal F1 h1 m (he n0 (Nat.le_refl _)) BF E a hE H hf hm _ fun E1 a1 S1 KK LX GK Sa=> ?_
   have uz:=Oa S0 n (fun k hk=>ih k (Nat.lt_succ_of_lt hk)) f c
   cases ht:C.FD f with
   |false=>
    rw[ht] at hx
    exact uz F1 h1 x F' h' m hx BF E1 a1 KK S1.Cg LX (by rw[GK];exact hm) Q fun E2 a2 S2 Na TF JO Ui=>hQ E2 a2 (S1.trans S2) Na TF (JO.trans GK) (DT.trans' Ui Sa)
   |true=>
    rw[ht] at hx;subst hE;subst KK;obtain⟨K,S'⟩:=Lg H S1 S0.IE
    exact uz _ _ x F' h' m hx BF {E1 with h:=(E1.h.take E.h.length).map (AN E.h.length E1.h)} a1 rfl S'.Cg (Q9 K LX) (by rw[GK];exact hm) Q
     fun E2 a2 S2 Na TF JO Ui=>hQ E2 a2 (S'.trans S2) Na TF (JO.trans GK) (DT.trans' Ui Sa)
theorem gL (S0:Sound C I B0){ch:PX->List PanicEntry}{PF:GD}{n:Nat}(ih:∀m,m<n->Px C I B0 ch PF m)(u0:∀m,m<n->Zz C I B0 ch (Mb C PF m)):Px C I B0 ch PF n:=by
 intro f c F h x F' h' m hx BF E a hE H hf hm Q hQ
 cases n with
 |zero=>simp[EV] at hx
 |succ n=>
  have Qt:=ih n (Nat.lt_succ_self n)
  cases c with
  |seq p q=>
   simp only[Bj,Bool.and_eq_true] at BF;simp only[EV] at hx
   rcases hx with hx|⟨F1,h1,⟨n0,he⟩,hx⟩
   ·exact wp_seq (Qt f p F h x F' h' m hx BF.1 E a hE H hf hm _ hQ)
   ·refine wp_seq (Pv S0 n0 f p F h .normal F1 h1 m (he n0 (Nat.le_refl _)) BF.1 E a hE H hf hm _ fun E1 a1 S1 KK LX GK Sa=> ?_)
    exact Qt f q F1 h1 x F' h' m hx BF.2 E1 a1 KK S1.Cg LX (by rw[GK];exact hm) Q fun E2 a2 S2 Na TF JO Ui=>hQ E2 a2 (S1.trans S2) Na TF (JO.trans GK) (DT.trans' Ui Sa)
  |cond y p q=>
   simp only[Bj,Bool.and_eq_true] at BF;simp only[EV] at hx;obtain⟨t,MM,hx⟩:=hx;have hv:a.eval y=.bool t:=Aj H hf MM rfl
   cases t with
   |true=>exact wp_cond_true hv (Qt f p F h x F' h' m hx BF.1 E a hE H hf hm Q hQ)
   |false=>exact wp_cond_false hv (Qt f q F h x F' h' m hx BF.2 E a hE H hf hm Q hQ)
  |block id p=>
   simp only[Bj] at BF;simp only[EV] at hx;exact wp_block (Qt f p F h x F' h' m hx BF E a hE H hf hm _ hQ)
  |loop p=>
   simp only[Bj] at BF;exact wp_loop_rounds (n+1) (Oa S0 (n+1) ih f p F h x F' h' m hx BF E a hE H hf hm Q hQ)
  |region id ops draw=>
   simp only[Bj,Bool.and_eq_true] at BF;simp only[EV] at hx;obtain⟨CE,Wj,hx⟩:=hx;rw[Bool.or_eq_false_iff] at Wj;obtain⟨gw,kq⟩:=Wj;subst hE;obtain⟨E0,T0,n2,tM,oX⟩:=Vv S0.hI (FJ ops draw) H (WQ hf (C.live f id)) (Td BF.1)
   have hQ:∀E' a',Step C.G I B0 E0 E'->E'.h=h'->AP E' F' a'->a'.tmps.size=a.tmps.size->_:=fun E' a' S=>hQ E' a' (T0.trans S)
   have H:=T0.Cg;rw[<-tM] at hx;rw[<-n2]
   cases draw with
   |true=>
    exact P7 S0.hI S0.mixed (fun n d=>LO S0 d n) (fun n=>Pm n) (by
     have h1:C.Gt f id=false:=by simpa using CE
     have h2:=BF.2;rw[h1] at h2
     simpa using h2) (u0 n (Nat.lt_succ_self n)) BF.1 (cP (by simpa using kq)) hx H oX hm fun E' a' S Gr F9 hs hd=>hQ E' a' S Gr F9 hs (.inr hd)
   |false=>
    have SW:=Lj ops ops.size (Nat.le_refl _)
    rw[List.take_of_length_le (by simp)] at SW
    refine wp_region (Y9 S0.hI (fun n=>LO S0 false n) (u0 n (Nat.lt_succ_self n)) (List.range ops.size) 0 _ E0.h x F' h' (by rw[SW];exact BF.1) (by rw[SW];exact hx) E0 a rfl H oX hm fun E' a' S Gr F9 hs hd=>hQ E' a' S Gr F9 hs ?_)
    rcases hd with h2|hd
    ·rw[SW] at h2;rw[h2,Bool.and_true,Bool.not_eq_false'] at gw;exact .inl gw
    ·exact .inr hd
  |_=>simp[EV] at hx
theorem gK (S0:Sound C I B0){ch:PX->List PanicEntry}{PF:GD}(oq:iV C I B0 ch PF){n:Nat}(ih:∀m,m<n->Px C I B0 ch PF m):Zz C I B0 ch (Mb C PF n):=by
 intro k vs h x h' hx
 cases n with
 |zero=>simp[Mb] at hx
 |succ n=>
  simp only[Mb] at hx
  rcases hx with ⟨hp,rfl⟩|⟨BF,TE,hp,FF,fn,c,Mu,hb,hx⟩
  ·obtain⟨h1,h2⟩:=oq k vs x hp
   refine⟨h1,fun E args hE H CV=> ?_⟩
   subst hE;exact h2 E args H CV
  ·refine⟨S0.fns k BF,fun E args hE H CV=>calls_of_wp Mu hb ?_⟩
   have Ip:=S0.YT k fn c BF TE hp Mu hb
   have CC:fn.ntmps<=(args.toArray++Array.replicate (fn.ntmps-args.toArray.size) undef).size:=by simp;omega
   rcases hx with ⟨hh,F1,h1,hx,rfl⟩|⟨hh,F1,h1,hx,rfl⟩
   ·refine ih n (Nat.lt_succ_self n) k c _ h x F1 h1 fn.ntmps hx Ip E _ hE H (LV CV fn.ntmps) CC _ fun E' a' S Gr F9 _ hd=> ?_
    obtain⟨K,S'⟩:=Lg H S S0.IE;rw[Gr,hE] at S'
    exact⟨hd.resolve_left (by rw[FF];simp),rfl,{E' with h:=(h1.take h.length).map (AN h.length h1)},rfl,S',rfl⟩
   ·have H1:=Hu H S0.IE;have Ir:=BK.cut (Ph (E:=E)) vs args CV
    refine ih n (Nat.lt_succ_self n) k c _ [] x F1 h1 fn.ntmps hx Ip (fresh E) _ rfl H1 (LV Ir fn.ntmps) CC _ fun E' a' S Gr F9 _ hd=> ?_
    exact⟨hd.resolve_left (by rw[FF];simp),rfl,{E with w:=E'.w},rfl,Jz S0.hI H S.below,hE⟩
theorem gI (S0:Sound C I B0){ch:PX->List PanicEntry}{PF:GD}(oq:iV C I B0 ch PF):∀n,Px C I B0 ch PF n:=by
 intro n
 induction n using Nat.strongRecOn with
 |_ n ih=>exact gL S0 ih fun m hm=>gK S0 oq fun k hk=>ih k (Nat.lt_trans hk hm)
end
end Go.Ai
