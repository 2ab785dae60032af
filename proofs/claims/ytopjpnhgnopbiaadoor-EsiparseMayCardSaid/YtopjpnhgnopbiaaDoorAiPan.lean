/-
  Runs that end in a panic: what gives up, with what, and what is left of memory. No statement about the program is made here.
-/
import Derived.Test.YtopjpnhgnopbiaaDoorAiCtr
set_option linter.unusedVariables false
set_option linter.unusedSimpArgs false
set_option linter.unnecessarySimpa false
namespace Go.Ai
open Go.RowKit
abbrev PX :=Int×Int
abbrev PFun :=FuncId→List AV→Option PX
def PanO (C:Cfg)(PK:FuncId→List AV→Hp→PX→Hp→Prop)(o:Oper)(F:Fr)(h:Hp)(x:PX)(h':Hp):Prop:=
 match o.op with
 |.call {callee:=.value y,args,argTypes:=_}=>
  ∃k first cap vs,ev C.G F y=(true,.fn (.func k) first cap)∧evs C.G F args.toList=(true,vs)∧C.ident k=false∧PK k (first++vs++cap) h x h'
 |_=>False
def panF (draw:Bool)(F:Fr):Fr:=match draw with
 |true=>[(dS,lk F dS)]
 |false=>F
def PanOps (C:Cfg)(PK:FuncId→List AV→Hp→PX→Hp→Prop)(ops:Array Oper)(draw:Bool):Nat→List Oper→Fr→Hp→PX→Fr→Hp→Prop
 |_,[],_,_,_,_,_=>False
 |i,o::os,F,h,x,F',h'=>(drawI C ops draw i=false∧guardOf ops F o=some true∧F'=panF draw F∧PanO C PK o F h x h')∨
   ∃e h1,(∃n0,∀n,n0≤n→stepOp C (call C (drawI C ops draw i) n) ops (drawI C ops draw i) o F h=.ok (e,h1))∧midOk C ops draw i F h h1=true∧PanOps C PK ops draw (i+1) os (putF F (dstW (drawI C ops draw i) o) e) h1 x F' h'
mutual
def PanC (C:Cfg)(PF:PFun):Nat→FuncId→Code→Fr→Hp→PX→Fr→Hp→Prop
 |0,_,_,_,_,_,_,_=>False
 |n+1,f,c,F,h,x,F',h'=>
  match c with
  |.seq a b=>PanC C PF n f a F h x F' h'∨∃F1 h1,ExecR C f a F h .normal F1 h1∧PanC C PF n f b F1 h1 x F' h'
  |.cond y a b=>∃t,ev C.G F y=(true,.bool t)∧PanC C PF n f (match t with|true=>a|false=>b) F h x F' h'
  |.block _ a=>PanC C PF n f a F h x F' h'
  |.loop a=>PanC C PF n f a F h x F' h'∨∃F1 h1,ExecR C f a F h .normal F1 h1∧
    PanC C PF n f (.loop a) (match C.trunc f with|true=>stripF h.length h1 F1|false=>F1) (match C.trunc f with|true=>(h1.take h.length).map (stripB h.length h1)|false=>h1) x F' h'
  |.region id ops draw=>(draw&&C.allD f id)=false∧((!C.dfr f&&hasDef ops.toList)||(draw&& !lsOk ops.toList (resF (resL ops draw) h.length ((C.live f id).map fun s=>(s,lk F s)))))=false∧PanOps C (PanK C PF n) ops draw 0 ops.toList (resF (resL ops draw) h.length ((C.live f id).map fun s=>(s,lk F s))) (resH (resL ops draw) h) x F' h'
  |_=>False
def PanK (C:Cfg)(PF:PFun):Nat→FuncId→List AV→Hp→PX→Hp→Prop
  | 0,_,_,_,_,_=>False
  | n+1,k,vs,h,x,h'=>
    (PF k vs=some x∧h'=h)∨
    (C.ok k=true∧C.hprim k=none∧C.prim k=none∧C.dfr k=false∧∃fn c,C.P.funcs[k]?=some fn∧fn.body=some c∧
      ((C.heap k=true∧∃F1 h1,PanC C PF n k c (argFr 0 vs) h x F1 h1∧h'=(h1.take h.length).map (stripB h.length h1))∨
       (C.heap k=false∧∃F1 h1,PanC C PF n k c (argFr 0 (strips 0 [] vs)) [] x F1 h1∧h'=h)))
end
section
variable {C:Cfg}{I:World→Prop}{B0:Nat}
def PPost (G:Nat→Option (List AV))(I:World→Prop)(B0:Nat)(ch:PX→List PanicEntry)(E:Env)(x:PX)(h':Hp)(e:Ending)(w':World):Prop:=
 e=.panicked (ch x)∧∃E',E'.w=w'∧Step G I B0 E E'∧E'.h=h'
def PKOk (C:Cfg)(I:World→Prop)(B0:Nat)(ch:PX→List PanicEntry)(PK:FuncId→List AV→Hp→PX→Hp→Prop):Prop:=
 ∀k vs h x h',PK k vs h x h'→Callee C.P k∧∀(E:Env) (args:List Value),E.h=h→Good C.G I B0 E→Rels E vs args→Calls C.P k args.toArray E.w (PPost C.G I B0 ch E x h')
def PFOk (C:Cfg)(I:World→Prop)(B0:Nat)(ch:PX→List PanicEntry)(PF:PFun):Prop:=
 ∀k vs x,PF k vs=some x→Callee C.P k∧∀(E:Env) (args:List Value),Good C.G I B0 E→Rels E vs args→Calls C.P k args.toArray E.w (PPost C.G I B0 ch E x E.h)
theorem panO_ok {ch:PX→List PanicEntry}{PK:FuncId→List AV→Hp→PX→Hp→Prop}(hPK:PKOk C I B0 ch PK){ops:Array Oper}{Q:Exit→Act→World→Prop}{K:Act→World→Prop}{i:Nat}{o:Oper}(ho:ops[i]?=some o){F:Fr}{x:PX}{h':Hp}{E:Env}{a:Act}
  (hg:guardOf ops F o=some true) (hx:PanO C PK o F E.h x h') (H:Good C.G I B0 E) (hf:FrsOk E F a) (hQ:∀E',Step C.G I B0 E E'→E'.h=h'→Q (.panic (ch x)) a E'.w):wpOp C.P ops Q i K a E.w:=by
 simp only[wpOp,ho];rw[wanted_of_guard hf hg,if_pos rfl];refine .inl ?_;unfold PanO at hx;split at hx
 ·rename_i y args _ hop
  obtain⟨k,first,cap,vs,hev,hevs,hid,hk⟩:=hx
  obtain⟨fa,ca,hfv,hr1,hr2⟩:=ev_rel H hf hev rfl
  have hargs:=evs_ok H hf args.toList (by rw[hevs])
  rw[hevs] at hargs;have hall:=Rels.append (Rels.append hr1 hargs) hr2
  have harr:fa++args.map a.eval++ca=(fa.toList++args.toList.map a.eval++ca.toList).toArray:=by
   apply Array.ext';simp
  obtain⟨⟨fn,hfn,hb,hname⟩,hcalls⟩:=hPK k _ _ _ _ hk;have hc:=hcalls E _ rfl H hall
  have hexec:(execOp a.eval o).run C.P E.w=.ok (.enter k (fa.toList++args.toList.map a.eval++ca.toList).toArray) E.w:=by
   obtain⟨d,op,ty,pos,after,gd⟩:=o;simp only at hop;subst hop;simp only[execOp,resolve,hfv,Deferred.ofValue,Sem.run_bind,Sem.run_pure,Result.andThen_ok,invoke,callFunc,run_program,hfn,hname,hb,harr];rfl
  unfold Oper.wp;rw[hexec,Oper.upon_enter]
  refine hc.mono fun e w' hpost=> ?_
  obtain⟨rfl,E1,rfl,S,hE1⟩:=hpost;exact hQ E1 S hE1
 ·exact hx.elim
theorem panOps_ok (hI:∀w w',I w→Below B0 w w'→I w')(hcl:∀n,ClOk C I B0 (call C false n)){ch:PX→List PanicEntry}{PK:FuncId→List AV→Hp→PX→Hp→Prop}(hPK:PKOk C I B0 ch PK){ops:Array Oper}{n:Nat}{Q:Exit→Act→World→Prop}:
  ∀(l:List Nat) (j:Nat) (F:Fr) (h:Hp) (x:PX) (F':Fr) (h':Hp),((sel ops l).all fun o=>dstOk n o.dst)=true→PanOps C PK ops false j (sel ops l) F h x F' h'→∀(E:Env) (a:Act),E.h=h→Good C.G I B0 E→FrsOk E F a→n≤a.tmps.size→
   (∀E' a',Step C.G I B0 E E'→E'.h=h'→FrsOk E' F' a'→a'.tmps.size=a.tmps.size→(hasDef (sel ops l)=true∨a'.defers=a.defers)→Q (.panic (ch x)) a' E'.w)→wpOps C.P ops Q l a E.w:=by
 intro l
 induction l with
 |nil=>
  intro j F h x F' h' _ hx;exact hx.elim
 |cons i l ih=>
  intro j F h x F' h' hds hx E a hE H hf hn hQ;subst hE;rw[wpOps_cons]
  cases ho:ops[i]? with
  |none=>
   have:sel ops (i::l)=sel ops l:=by simp[sel,ho]
   rw[this] at hx hds;simp only[wpOp,ho];rw[this] at hQ;exact ih j F E.h x F' h' hds hx E a rfl H hf hn hQ
  |some o=>
   have:sel ops (i::l)=o::sel ops l:=by simp[sel,ho]
   rw[this] at hx hds hQ;rw[List.all_cons,Bool.and_eq_true] at hds;have hdi:drawI C ops false j=false:=rfl;simp only[PanOps,hdi,panF,true_and] at hx
   rcases hx with ⟨hg,rfl,hx⟩|⟨e,h1,⟨n0,hs⟩,_,hx⟩
   ·exact panO_ok hPK ho hg hx H hf fun E1 S hE1=>hQ E1 a S hE1 (FrsOk.mono S.le hf) rfl (.inr rfl)
   ·exact stepOp_ok hI (hcl n0) ho hds.1 (hs n0 (Nat.le_refl _)) H hf hn fun E' a' S hE' hf' hsz hdf=>
     ih _ _ _ x F' h' hds.2 hx E' a' hE' S.good hf' (by rw[hsz];exact hn) fun E'' a'' S' hE'' hf'' hsz' hdf'=>hQ E'' a'' (S.trans S') hE'' hf'' (hsz'.trans hsz) (by
      rcases hdf with ⟨_,h2⟩|hdf
      ·exact .inl (by simp[hasDef,h2])
      ·rcases hdf' with h2|hdf'
       ·exact .inl (by simp only[hasDef] at h2⊢;simp[h2])
       ·exact .inr (hdf'.trans hdf))
theorem panO_congr {PK:FuncId→List AV→Hp→PX→Hp→Prop}{ops:Array Oper}{o:Oper}{F F':Fr}{h:Hp}{x:PX}{h':Hp}(he:∀t∈o.looksAt ops,lk F t=lk F' t)(hx:PanO C PK o F h x h'):PanO C PK o F' h x h':=by
 unfold PanO at hx⊢;split at hx
 ·rename_i y args ats hop
  obtain⟨k,first,cap,vs,h1,h2,h3,h4⟩:=hx
  have hm:∀z∈o.op.operands,ev C.G F z=ev C.G F' z:=fun z hz=>ev_congr fun t ht=>he t (by
   subst ht
   exact List.mem_append_left _ (List.mem_filterMap.2 ⟨.tmp t,by simpa using hz,rfl⟩))
  rw[hop] at hm
  have e1:ev C.G F y=ev C.G F' y:=hm y (by simp[Op.operands,Call.operands])
  have e2:evs C.G F args.toList=evs C.G F' args.toList:=evs_congr fun z hz=>hm z (by simp[Op.operands,Call.operands];exact .inr (by simpa using hz))
  refine⟨k,first,cap,vs,?_,?_,h3,h4⟩
  ·rw[←e1];exact h1
  ·rw[←e2];exact h2
 ·exact hx.elim
theorem panOps_idx {PK:FuncId→List AV→Hp→PX→Hp→Prop}{ops:Array Oper}{x:PX}{F':Fr}{h':Hp}:∀(os:List Oper) (i:Nat) {F:Fr} {h:Hp},(∀j,os[j]?=ops[i+j]?)→PanOps C PK ops true i os F h x F' h'→
  ∃A m B o F1 h1,List.range' i os.length=A++m::B∧ops[m]?=some o∧midO C ops m=true∧(∃n0,∀n,n0≤n→execIdx C (fun d=>call C d n) ops A F h=.ok (F1,h1))∧PanO C PK o F1 h1 x h'∧F'=panF true F1
 |[],i,F,h,_,hx=>hx.elim
 |o::os,i,F,h,hos,hx=>by
  have ho:ops[i]?=some o:=by simpa using(hos 0).symm
  simp only[PanOps] at hx;rw[List.length_cons,List.range'_succ]
  rcases hx with ⟨hdr,hg,rfl,hx⟩|⟨e,h1,⟨n0,hs⟩,hm,hx⟩
  ·have hmi:midO C ops i=true:=by
    cases hmi:midO C ops i with
    |true=>rfl
    |false=>rw[drawI_nomid hmi] at hdr;cases hdr
   exact⟨[],i,_,o,F,h,rfl,ho,hmi,⟨0,fun n _=>rfl⟩,hx,rfl⟩
  ·obtain⟨A,m,B,om,F1,h2,k1,k2,k3,⟨m0,k4⟩,k5,k6⟩:=panOps_idx os (i+1) (fun j=>by rw[show i+1+j=i+(j+1) by omega,←hos (j+1)];simp) hx
   refine⟨i::A,m,B,om,F1,h2,by rw[k1];rfl,k2,k3,⟨n0+m0,fun n hn=> ?_⟩,k5,k6⟩
   exact(execIdx_cons ho).2 ⟨e,h1,hs n (by omega),hm,k4 n (by omega)⟩
theorem anyPan_ok (hI:∀w w',I w→Below B0 w w'→I w'){cl:Bool→FuncId→List AV→Hp→Except (List Nat) (AV×Hp)}(hcl:∀d,ClOk C I B0 (cl d))(hbl:Blind (cl true)){ops:Array Oper}(hd:drawOk C.P ops=true)
  {ch:PX→List PanicEntry} {PK:FuncId→List AV→Hp→PX→Hp→Prop} (hPK:PKOk C I B0 ch PK) {n:Nat} (hds:(ops.toList.all fun o=>dstOk n o.dst)=true) {Q:Exit→Act→World→Prop} {m:Nat} {om:Oper} (hom:ops[m]?=some om) (hmid:midO C ops m=true) {x:PX} {h':Hp}:
  ∀(fuel:Nat) (listed:Array Bool) (A B:List Nat) (F F1:Fr) (h1:Hp) (E:Env) (a:Act),listed.size=ops.size→Closed ops listed→(rest ops listed).length=fuel→rest ops listed=A++m::B→
   LsF ops.toList F→execIdx C cl ops A F E.h=.ok (F1,h1)→PanO C PK om F1 h1 x h'→Good C.G I B0 E→FrsOk E F a→n≤a.tmps.size→
   (∀E' a',Step C.G I B0 E E'→E'.h=h'→FrsOk E' (panF true F1) a'→a'.tmps.size=a.tmps.size→a'.defers=a.defers→Q (.panic (ch x)) a' E'.w)→wpAny C.P .any ops Q fuel listed a E.w:=by
 obtain⟨om',hom',hcall,hfl,hbeh⟩:=mid_spec hmid;rw[hom] at hom'
 injection hom' with hom'
 subst hom';obtain⟨_,hgn,hdf⟩:=hcall_spec hcall;intro fuel
 induction fuel with
 |zero=>
  intro listed A B F F1 h1 E a hs hc hl hr;rw[hr] at hl;simp at hl
 |succ fuel ih=>
  intro listed A B F F1 h1 E a hs hc hl hr hLs hx hpan H hf hn hQ
  refine⟨fun hrd=>absurd hrd (ready_some (fun j o ho=>drawOk_edges hd ho) hs (by intro h;rw[h] at hl;cases hl)),fun i hi=> ?_⟩
  have him:=ready_rest hi;rw[hr] at him;have hsorted:=rest_sorted (ops:=ops) listed;rw[hr,List.pairwise_append,List.pairwise_cons] at hsorted
  rcases List.mem_append.1 him with hiA|hiB
  ·obtain⟨s,t,rfl⟩:=List.append_of_mem hiA
   obtain⟨o,ho,hisz,hsort,hsi,hub,hc',hrs,_⟩:=ready_split hs hc hi (s:=s) (t:=t++m::B) (by rw[hr];simp)
   obtain⟨e,h2,hso,G1,hx1,he1⟩:=idx_pull hbl hd (dst_dS hds) ho hsort hsi hub hisz hLs hx
   refine ready_step hI hcl hds ho hLs hso H hf hn fun E' a' S hE' hf' hLs' hsz hdf=> ?_
   subst hE'
   refine ih _ (s++t) B _ G1 h1 E' a' (by simpa using hs) hc' ?_ (by rw[hrs];simp) hLs' hx1 (panO_congr (ops:=ops) (fun u _=>he1 u) hpan) S.good hf' (by rw[hsz];exact hn) fun E'' a'' S' hE'' hf'' hsz' hdf'=>
    hQ E'' a'' (S.trans S') hE'' (hf''.eq fun n=>by simp only[panF];rw[he1 dS]) (hsz'.trans hsz) (hdf'.trans hdf)
   rw[hrs];rw[hr] at hl;simp at hl⊢;omega
  ·rcases List.mem_cons.1 hiB with rfl|hiB
   ·obtain⟨o,ho,hisz,hsort,hsi,hub,hc',hrs,_⟩:=ready_split hs hc hi hr;rw[hom] at ho
    injection ho with ho
    subst ho
    have hnm:∀k∈A,midO C ops k=false:=by
     intro k hk
     cases hm:midO C ops k with
     |false=>rfl
     |true=>
      obtain⟨_,_,_,_,h4⟩:=mid_spec hm;have:=h4 i (hsi k hk) hisz;rw[hub k hk] at this;cases this
    rw[execIdx_nomid A hnm] at hx
    obtain⟨r1,r2⟩:=float_quiet hbl A (fun k hk=>(hfl k (hsi k hk)).resolve_left (by rw[hub k hk];simp)) hx
    subst r1
    have hpair:∀k∈A,∀x,ops[k]?=some x→x.apart ops om=true:=by
     intro k hk x hkx
     rcases drawOk_pair hd hkx hom (hsi k hk) with hb|hap
     ·have:=hub k hk;unfold boundB at this;rw[hb] at this;cases this
     ·exact hap.1
    have hsame:∀u,u∈om.looksAt ops→lk F1 u=lk F u:=fun u hu=>r2 u fun k hk x hkx hxd=>(Oper.apart_spec (hpair k hk x hkx)).1 u hxd hu
    have hS:lk F1 dS=lk F dS:=r2 dS fun k hk x hkx=>dst_dS hds x (by simpa using Array.mem_of_getElem? hkx)
    refine panO_ok hPK hom (F:=F) (by simp[guardOf,hgn]) (panO_congr hsame hpan) H hf fun E1 S hE1=>hQ E1 a S hE1 ?_ rfl rfl
    have hf1:=FrsOk.mono S.le hf
    refine⟨fun u=> ?_,?_⟩
    ·simp only[panF,lk]
     cases hb:Nat.beq dS u with
     |true=>
      have:=Nat.eq_of_beq_eq_true hb;subst this;simp only[cond_true];rw[hS];exact hf1.1 dS
     |false=>simp only[cond_false];exact⟨fun _=>trivial,fun h=>by cases h⟩
    ·simp only[panF,lk,Nat.beq_refl,cond_true];rw[hS];exact hf1.2
   ·have hmi:m<i:=hsorted.2.1.1 i hiB;obtain⟨s,t,hst⟩:=List.append_of_mem (ready_rest hi);obtain⟨o,ho,hisz,_,_,_,_,_,huball⟩:=ready_split hs hc hi hst
    have h1:=huball m (by rw[hr];simp)
    rw[hbeh i hmi hisz] at h1;cases h1
theorem region_pan_ok (hI:∀w w',I w→Below B0 w w'→I w')(hm:C.P.follows .mixedOrders=true)(hcl:∀n d,ClOk C I B0 (call C d n))(hbl:∀n,Blind (call C true n)){ops:Array Oper}(hd:drawOk C.P ops=true)
  {ch:PX→List PanicEntry} {PK:FuncId→List AV→Hp→PX→Hp→Prop} (hPK:PKOk C I B0 ch PK) {n:Nat} (hds:(ops.toList.all fun o=>dstOk n o.dst)=true) {Q:Exit→Act→World→Prop} {id:Nat} {F F':Fr} {x:PX} {h':Hp} {E:Env} {a:Act}
  (hLs:LsF ops.toList F) (hx:PanOps C PK ops true 0 ops.toList F E.h x F' h') (H:Good C.G I B0 E) (hf:FrsOk E F a) (hn:n≤a.tmps.size)
  (hQ:∀E' a',Step C.G I B0 E E'→E'.h=h'→FrsOk E' F' a'→a'.tmps.size=a.tmps.size→a'.defers=a.defers→Q (.panic (ch x)) a' E'.w):(Code.region id ops true).wp C.P Q a E.w:=by
 refine wp_region_any hm ?_
 have hb:∀B,Below B E.w {E.w with drawn:=E.w.drawn+1}:=fun B=>⟨rfl,rfl,rfl,Nat.le_refl _,fun _ _=>rfl⟩
 have S:=step_same hI H (w':={E.w with drawn:=E.w.drawn+1}) (hb _) rfl
 obtain⟨A,m,B,om,F1,h1,k1,k2,k3,⟨n0,k4⟩,k5,rfl⟩:=panOps_idx ops.toList 0 (fun j=>by simp) hx
 rw[←List.range_eq_range',Array.length_toList] at k1
 exact anyPan_ok hI (cl:=fun d=>call C d n0) (hcl n0) (hbl n0) hd hPK hds k2 k3 ops.size _ A B F F1 h1 {E with w:={E.w with drawn:=E.w.drawn+1}} a (by simp) (closed_all ops) (by rw[rest_all];simp) (by rw[rest_all];exact k1) hLs
  (k4 n0 (Nat.le_refl _)) k5 S.good (FrsOk.mono S.le hf) hn fun E' a' S'=>hQ E' a' (S.trans S')
def PanCOk (C:Cfg)(I:World→Prop)(B0:Nat)(ch:PX→List PanicEntry)(PF:PFun)(n:Nat):Prop:=
 ∀(f:FuncId) (c:Code) (F:Fr) (h:Hp) (x:PX) (F':Fr) (h':Hp) (m:Nat),PanC C PF n f c F h x F' h'→okCode C.P m (C.allD f) c=true→∀(E:Env) (a:Act),E.h=h→Good C.G I B0 E→FrsOk E F a→m≤a.tmps.size→
  ∀Q:Exit→Act→World→Prop,(∀E' a',Step C.G I B0 E E'→E'.h=h'→FrsOk E' F' a'→a'.tmps.size=a.tmps.size→(C.dfr f=true∨a'.defers=a.defers)→Q (.panic (ch x)) a' E'.w)→c.wp C.P Q a E.w
theorem panLoop_ok (S0:Sound C I B0){ch:PX→List PanicEntry}{PF:PFun}:∀(n:Nat),(∀m,m<n→PanCOk C I B0 ch PF m)→
  ∀(f:FuncId) (c:Code) (F:Fr) (h:Hp) (x:PX) (F':Fr) (h':Hp) (m:Nat),PanC C PF n f (.loop c) F h x F' h'→okCode C.P m (C.allD f) c=true→∀(E:Env) (a:Act),E.h=h→Good C.G I B0 E→FrsOk E F a→m≤a.tmps.size→
  ∀Q:Exit→Act→World→Prop,(∀E' a',Step C.G I B0 E E'→E'.h=h'→FrsOk E' F' a'→a'.tmps.size=a.tmps.size→(C.dfr f=true∨a'.defers=a.defers)→Q (.panic (ch x)) a' E'.w)→Code.rounds C.P c Q n a E.w
 |0,_,f,c,F,h,x,F',h',m,hx,_=>by simp[PanC] at hx
 |n+1,ih,f,c,F,h,x,F',h',m,hx,hok=>by
  intro E a hE H hf hm Q hQ;rw[rounds_succ];simp only[PanC] at hx
  rcases hx with hx|⟨F1,h1,⟨n0,he⟩,hx⟩
  ·exact ih n (Nat.lt_succ_self n) f c F h x F' h' m hx hok E a hE H hf hm _ hQ
  ·refine all_ok S0 n0 f c F h .normal F1 h1 m (he n0 (Nat.le_refl _)) hok E a hE H hf hm _ fun E1 a1 S1 hE1 hf1 hs1 hd1=> ?_
   have ihl:=panLoop_ok S0 n (fun k hk=>ih k (Nat.lt_succ_of_lt hk)) f c
   cases ht:C.trunc f with
   |false=>
    rw[ht] at hx
    exact ihl F1 h1 x F' h' m hx hok E1 a1 hE1 S1.good hf1 (by rw[hs1];exact hm) Q fun E2 a2 S2 hE2 hf2 hs2 hd2=>hQ E2 a2 (S1.trans S2) hE2 hf2 (hs2.trans hs1) (DT.trans' hd2 hd1)
   |true=>
    rw[ht] at hx;subst hE;subst hE1;obtain⟨K,S'⟩:=step_keep H S1 S0.pureG
    exact ihl _ _ x F' h' m hx hok {E1 with h:=(E1.h.take E.h.length).map (stripB E.h.length E1.h)} a1 rfl S'.good (frs_strip K hf1) (by rw[hs1];exact hm) Q
     fun E2 a2 S2 hE2 hf2 hs2 hd2=>hQ E2 a2 (S'.trans S2) hE2 hf2 (hs2.trans hs1) (DT.trans' hd2 hd1)
theorem panC_ok (S0:Sound C I B0){ch:PX→List PanicEntry}{PF:PFun}{n:Nat}(ih:∀m,m<n→PanCOk C I B0 ch PF m)(ihk:∀m,m<n→PKOk C I B0 ch (PanK C PF m)):PanCOk C I B0 ch PF n:=by
 intro f c F h x F' h' m hx hok E a hE H hf hm Q hQ
 cases n with
 |zero=>simp[PanC] at hx
 |succ n=>
  have ihn:=ih n (Nat.lt_succ_self n)
  cases c with
  |seq p q=>
   simp only[okCode,Bool.and_eq_true] at hok;simp only[PanC] at hx
   rcases hx with hx|⟨F1,h1,⟨n0,he⟩,hx⟩
   ·exact wp_seq (ihn f p F h x F' h' m hx hok.1 E a hE H hf hm _ hQ)
   ·refine wp_seq (all_ok S0 n0 f p F h .normal F1 h1 m (he n0 (Nat.le_refl _)) hok.1 E a hE H hf hm _ fun E1 a1 S1 hE1 hf1 hs1 hd1=> ?_)
    exact ihn f q F1 h1 x F' h' m hx hok.2 E1 a1 hE1 S1.good hf1 (by rw[hs1];exact hm) Q fun E2 a2 S2 hE2 hf2 hs2 hd2=>hQ E2 a2 (S1.trans S2) hE2 hf2 (hs2.trans hs1) (DT.trans' hd2 hd1)
  |cond y p q=>
   simp only[okCode,Bool.and_eq_true] at hok;simp only[PanC] at hx;obtain⟨t,hev,hx⟩:=hx;have hv:a.eval y=.bool t:=ev_rel H hf hev rfl
   cases t with
   |true=>exact wp_cond_true hv (ihn f p F h x F' h' m hx hok.1 E a hE H hf hm Q hQ)
   |false=>exact wp_cond_false hv (ihn f q F h x F' h' m hx hok.2 E a hE H hf hm Q hQ)
  |block id p=>
   simp only[okCode] at hok;simp only[PanC] at hx;exact wp_block (ihn f p F h x F' h' m hx hok E a hE H hf hm _ hQ)
  |loop p=>
   simp only[okCode] at hok;exact wp_loop_rounds (n+1) (panLoop_ok S0 (n+1) ih f p F h x F' h' m hx hok E a hE H hf hm Q hQ)
  |region id ops draw=>
   simp only[okCode,Bool.and_eq_true] at hok;simp only[PanC] at hx;obtain⟨hall,hdd0,hx⟩:=hx;rw[Bool.or_eq_false_iff] at hdd0;obtain⟨hdd,hlso⟩:=hdd0;subst hE;obtain⟨E0,T0,hw0,hh0,hf0⟩:=res_ok S0.hI (resL ops draw) H (lk_map hf (C.live f id)) (resL_dst hok.1)
   have hQ:∀E' a',Step C.G I B0 E0 E'→E'.h=h'→FrsOk E' F' a'→a'.tmps.size=a.tmps.size→_:=fun E' a' S=>hQ E' a' (T0.trans S)
   have H:=T0.good;rw[←hh0] at hx;rw[←hw0]
   cases draw with
   |true=>
    exact region_pan_ok S0.hI S0.mixed (fun n d=>calls_ok S0 d n) (fun n=>call_blind n) (by
     have h1:C.allD f id=false:=by simpa using hall
     have h2:=hok.2;rw[h1] at h2
     simpa using h2) (ihk n (Nat.lt_succ_self n)) hok.1 (lsF_of (by simpa using hlso)) hx H hf0 hm fun E' a' S hE' hf' hs hd=>hQ E' a' S hE' hf' hs (.inr hd)
   |false=>
    have hsel:=sel_range ops ops.size (Nat.le_refl _)
    rw[List.take_of_length_le (by simp)] at hsel
    refine wp_region (panOps_ok S0.hI (fun n=>calls_ok S0 false n) (ihk n (Nat.lt_succ_self n)) (List.range ops.size) 0 _ E0.h x F' h' (by rw[hsel];exact hok.1) (by rw[hsel];exact hx) E0 a rfl H hf0 hm fun E' a' S hE' hf' hs hd=>hQ E' a' S hE' hf' hs ?_)
    rcases hd with h2|hd
    ·rw[hsel] at h2;rw[h2,Bool.and_true,Bool.not_eq_false'] at hdd;exact .inl hdd
    ·exact .inr hd
  |_=>simp[PanC] at hx
theorem panK_ok (S0:Sound C I B0){ch:PX→List PanicEntry}{PF:PFun}(hPF:PFOk C I B0 ch PF){n:Nat}(ih:∀m,m<n→PanCOk C I B0 ch PF m):PKOk C I B0 ch (PanK C PF n):=by
 intro k vs h x h' hx
 cases n with
 |zero=>simp[PanK] at hx
 |succ n=>
  simp only[PanK] at hx
  rcases hx with ⟨hp,rfl⟩|⟨hok,hhp,hp,hdf,fn,c,hfn,hb,hx⟩
  ·obtain⟨h1,h2⟩:=hPF k vs x hp
   refine⟨h1,fun E args hE H hargs=> ?_⟩
   subst hE;exact h2 E args H hargs
  ·refine⟨S0.fns k hok,fun E args hE H hargs=>calls_of_wp hfn hb ?_⟩
   have hcode:=S0.codes k fn c hok hhp hp hfn hb
   have hsz:fn.ntmps≤(args.toArray++Array.replicate (fn.ntmps-args.toArray.size) undef).size:=by simp;omega
   rcases hx with ⟨hh,F1,h1,hx,rfl⟩|⟨hh,F1,h1,hx,rfl⟩
   ·refine ih n (Nat.lt_succ_self n) k c _ h x F1 h1 fn.ntmps hx hcode E _ hE H (argFr_ok hargs fn.ntmps) hsz _ fun E' a' S hE' hf' _ hd=> ?_
    obtain⟨K,S'⟩:=step_keep H S S0.pureG;rw[hE',hE] at S'
    exact⟨hd.resolve_left (by rw[hdf];simp),rfl,{E' with h:=(h1.take h.length).map (stripB h.length h1)},rfl,S',rfl⟩
   ·have H1:=fresh_good H S0.pureG;have hargs1:=Rels.cut (cut_in (E:=E)) vs args hargs
    refine ih n (Nat.lt_succ_self n) k c _ [] x F1 h1 fn.ntmps hx hcode (fresh E) _ rfl H1 (argFr_ok hargs1 fn.ntmps) hsz _ fun E' a' S hE' hf' _ hd=> ?_
    exact⟨hd.resolve_left (by rw[hdf];simp),rfl,{E with w:=E'.w},rfl,step_below S0.hI H S.below,hE⟩
theorem pan_all (S0:Sound C I B0){ch:PX→List PanicEntry}{PF:PFun}(hPF:PFOk C I B0 ch PF):∀n,PanCOk C I B0 ch PF n:=by
 intro n
 induction n using Nat.strongRecOn with
 |_ n ih=>exact panC_ok S0 ih fun m hm=>panK_ok S0 hPF fun k hk=>ih k (Nat.lt_trans hk hm)
end
end Go.Ai
