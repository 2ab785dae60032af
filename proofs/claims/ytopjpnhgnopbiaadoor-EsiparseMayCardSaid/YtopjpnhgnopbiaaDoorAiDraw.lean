/-
  Drawn regions: in whatever order the operations are done, they come to the same.
-/
import Derived.Test.YtopjpnhgnopbiaaDoorAiReg
set_option linter.unusedVariables false
set_option linter.unusedSimpArgs false
set_option linter.unnecessarySimpa false
namespace Go.Ai
open Go.RowKit
def FrEq (F F':Fr):Prop:=∀n,lk F n=lk F' n
theorem FrEq.refl (F:Fr):FrEq F F:=fun _=>rfl
theorem FrEq.trans {F G H:Fr}(h:FrEq F G)(k:FrEq G H):FrEq F H:=fun n=>(h n).trans (k n)
theorem FrEq.put {F F':Fr}(h:FrEq F F')(d:Option Nat)(e:Bool×AV):FrEq (putF F d e) (putF F' d e):=by
 cases d with
 |none=>exact h
 |some d=>
  intro n;simp only[putF,lk];rw[h n]
theorem lk_put_ne {F:Fr}{d:Option Nat}{e:Bool×AV}{n:Nat}(h:d≠some n):lk (putF F d e) n=lk F n:=by
 cases d with
 |none=>rfl
 |some d=>
  have hne:d≠n:=fun he=>h (by rw[he])
  have hb:Nat.beq d n=false:=by
   cases hb:Nat.beq d n with
   |false=>rfl
   |true=>exact absurd (Nat.eq_of_beq_eq_true hb) hne
  simp[putF,lk,hb]
theorem lk_put_eq {F:Fr}{t:Nat}{e:Bool×AV}:lk (putF F (some t) e) t=e:=by simp[putF,lk,Nat.beq_refl]
theorem put_comm {F:Fr}{d d':Option Nat}{e e':Bool×AV}(h:∀x,d=some x→d'≠some x):FrEq (putF (putF F d e) d' e') (putF (putF F d' e') d e):=by
 intro n
 cases d with
 |none=>rfl
 |some d=>
  cases d' with
  |none=>rfl
  |some d'=>
   have hne:d≠d':=fun he=>h d rfl (by rw[he])
   simp only[putF,lk]
   cases h1:Nat.beq d' n<;>cases h2:Nat.beq d n<;>simp
   exact absurd ((Nat.eq_of_beq_eq_true h2).trans (Nat.eq_of_beq_eq_true h1).symm) hne
theorem ev_congr {G:Nat→Option (List AV)}{F F':Fr}{x:Operand}(h:∀t,x=.tmp t→lk F t=lk F' t):ev G F x=ev G F' x:=by
 cases x with
 |tmp t=>exact h t rfl
 |_=>rfl
theorem evs_congr {G:Nat→Option (List AV)}{F F':Fr}{l:List Operand}(h:∀x∈l,ev G F x=ev G F' x):evs G F l=evs G F' l:=by
 simp only[evs]
 congr 1
 ·induction l with
  |nil=>rfl
  |cons x l ih=>
   rw[List.all_cons,List.all_cons,h x (by simp),ih fun y hy=>h y (by simp[hy])]
 ·exact List.map_congr_left fun x hx=>by rw[h x hx]
section
variable {C:Cfg}{F F':Fr}{h:Hp}{dr:Bool}
theorem parts_congr (parts:Array (Nat×Operand))(hx:∀x∈(parts.toList.map (·.2)).toArray,ev C.G F x=ev C.G F' x):∀p∈parts.toList,ev C.G F p.2=ev C.G F' p.2:=fun p hp=>
 hx p.2 (by simp only[List.mem_toArray,List.mem_map];exact⟨p,hp,rfl⟩)
theorem all_congr' {α:Type}{l:List α}{f g:α→Bool}(h:∀x∈l,f x=g x):l.all f=l.all g:=by
 induction l with
 |nil=>rfl
 |cons x l ih=>rw[List.all_cons,List.all_cons,h x (by simp),ih fun y hy=>h y (by simp[hy])]
theorem evBuild_congr (t:TypeId)(parts:Array (Nat×Operand))(hp:∀p∈parts.toList,ev C.G F p.2=ev C.G F' p.2):evBuild C dr F h t parts=evBuild C dr F' h t parts:=by
 unfold evBuild
 have e1:(parts.toList.map fun p=>(p.1,(ev C.G F p.2).2))=parts.toList.map fun p=>(p.1,(ev C.G F' p.2).2):=List.map_congr_left fun p hm=>by rw[hp p hm]
 have e2:(parts.toList.all fun p=>(ev C.G F p.2).1&&flatOk (ev C.G F p.2).2)=parts.toList.all fun p=>(ev C.G F' p.2).1&&flatOk (ev C.G F' p.2).2:=all_congr' fun p hm=>by rw[hp p hm]
 rw[e1,e2]
theorem evBuildSlice_congr (t:TypeId)(len:Nat)(parts:Array (Nat×Operand))(hp:∀p∈parts.toList,ev C.G F p.2=ev C.G F' p.2):evBuildSlice C dr F h t len parts=evBuildSlice C dr F' h t len parts:=by
 unfold evBuildSlice
 have e1:(parts.toList.map fun p=>flat (ev C.G F p.2).2)=parts.toList.map fun p=>flat (ev C.G F' p.2).2:=List.map_congr_left fun p hm=>by rw[hp p hm]
 have e2:(parts.toList.all fun p=>(ev C.G F p.2).1&&flatOk (ev C.G F p.2).2)=parts.toList.all fun p=>(ev C.G F' p.2).1&&flatOk (ev C.G F' p.2).2:=all_congr' fun p hm=>by rw[hp p hm]
 have e3:∀n:Nat,(parts.toList.all fun p=>Nat.beq (flat (ev C.G F p.2).2).length n)=parts.toList.all fun p=>Nat.beq (flat (ev C.G F' p.2).2).length n:=fun n=>all_congr' fun p hm=>by rw[hp p hm]
 simp only[e1,e2,e3]
theorem evalOp_congr (o:Oper)(hx:∀x∈o.op.operands,ev C.G F x=ev C.G F' x):evalOp C dr F h o=evalOp C dr F' h o:=by
 obtain⟨d,op,ty,pos,after,gd⟩:=o
 have mem:∀{x:Operand} {l:List Operand},x∈l→x∈l.toArray:=fun hm=>by simpa using hm
 cases op
 case move x=>
  have e:=hx x (by simp[Op.operands])
  cases x<;>simp only[evalOp,evMove,e]
 case assign x=>
  have e:=hx x (by simp[Op.operands])
  cases x<;>simp only[evalOp,evMove,e]
 case pick c a b=>
  simp only[evalOp,evPick,hx c (by simp[Op.operands]),hx a (by simp[Op.operands]),hx b (by simp[Op.operands])]
 case box t x=>simp only[evalOp,hx x (by simp[Op.operands])]
 case range t x=>simp only[evalOp,evRange,hx x (by simp[Op.operands])]
 case next it b=>simp only[evalOp,evNext,hx it (by simp[Op.operands])]
 case typeAssert x xt t ok=>simp only[evalOp,evAssert,hx x (by simp[Op.operands])]
 case makeSlice t l c=>simp only[evalOp,evMake,hx l (by simp[Op.operands]),hx c (by simp[Op.operands])]
 case build t parts=>exact evBuild_congr t parts (parts_congr parts hx)
 case buildSlice t len parts=>exact evBuildSlice_congr t len parts (parts_congr parts hx)
 case load t x=>simp only[evalOp,evLoad,hx x (by simp[Op.operands])]
 case store t x y=>simp only[evalOp,evStore,hx x (by simp[Op.operands]),hx y (by simp[Op.operands])]
 case nilCheck x=>simp only[evalOp,evNilCheck,hx x (by simp[Op.operands])]
 case binOp op t x y z=>simp only[evalOp,evBin,evEqS,hx x (by simp[Op.operands]),hx y (by simp[Op.operands])]
 case unOp op t x=>simp only[evalOp,hx x (by simp[Op.operands])]
 case convert s t x=>simp only[evalOp,evConvert,hx x (by simp[Op.operands])]
 case makeFunc f first cap=>
  have e1:evs C.G F first.toList=evs C.G F' first.toList:=evs_congr fun x hm=>hx x (by simp[Op.operands];exact .inl (by simpa using hm))
  have e2:evs C.G F cap.toList=evs C.G F' cap.toList:=evs_congr fun x hm=>hx x (by simp[Op.operands];exact .inr (by simpa using hm))
  simp only[evalOp,e1,e2]
 case slice t x lo hi mx=>
  have e:=hx x (by simp[Op.operands])
  have el:lo.map (ev C.G F)=lo.map (ev C.G F'):=by
   cases lo with
   |none=>rfl
   |some l=>exact congrArg some (hx l (by simp[Op.operands]))
  have eh:hi.map (ev C.G F)=hi.map (ev C.G F'):=by
   cases hi with
   |none=>rfl
   |some l=>exact congrArg some (hx l (by simp[Op.operands]))
  simp only[evalOp,evSlice,evSliceP,e,el,eh]
 case fieldAddr s x f=>simp only[evalOp,evFieldAddr,hx x (by simp[Op.operands])]
 case field s x f=>simp only[evalOp,evField,hx x (by simp[Op.operands])]
 case indexAddr t x i=>simp only[evalOp,evIndexAddr,hx x (by simp[Op.operands]),hx i (by simp[Op.operands])]
 case index t x i=>simp only[evalOp,evIndex,hx x (by simp[Op.operands]),hx i (by simp[Op.operands])]
 case extract t ix=>simp only[evalOp,evExtract,hx t (by simp[Op.operands])]
 case call c=>
  obtain⟨callee,args,ats⟩:=c
  cases callee with
  |builtin b=>
   have ha:∀x∈args.toList,ev C.G F x=ev C.G F' x:=fun x hm=>hx x (by simp[Op.operands,Call.operands];simpa using hm)
   simp only[evalOp];generalize args.toList=l at ha⊢;generalize ats.toList=ts;unfold evBuiltin;split
   ·rename_i x t
    simp only[evLen,ha x (by simp)]
   ·rename_i x y
    simp only[evMax,ha x (by simp),ha y (by simp)]
   ·rename_i x y
    simp only[evMin,ha x (by simp),ha y (by simp)]
   ·rename_i s x t t'
    simp only[evAppend,evAppendS,ha s (by simp),ha x (by simp)]
   ·rfl
  |_=>rfl
 all_goals rfl
theorem evStk_congr (o:Oper)(hx:∀x∈o.op.operands,ev C.G F x=ev C.G F' x):evStk C F h o=evStk C F' h o:=by
 obtain⟨d,op,ty,pos,after,gd⟩:=o;cases op
 case buildSlice t len parts=>
  have hp:=parts_congr parts hx;simp only[evStk];split
  ·rename_i p _ _ hl
   rw[hp p (by rw[hl];simp)]
  ·rfl
 case load t x=>simp only[evStk,hx x (by simp[Op.operands])]
 case store t x y=>simp only[evStk,hx x (by simp[Op.operands]),hx y (by simp[Op.operands])]
 case nilCheck x=>simp only[evStk,hx x (by simp[Op.operands])]
 case fieldAddr s x f=>simp only[evStk,hx x (by simp[Op.operands])]
 case indexAddr t x i=>simp only[evStk,hx x (by simp[Op.operands]),hx i (by simp[Op.operands])]
 case lookup t x i ok=>simp only[evStk,hx x (by simp[Op.operands]),hx i (by simp[Op.operands])]
 case slice t x lo hi mx=>
  have e:=hx x (by simp[Op.operands])
  have eh:hi.map (ev C.G F)=hi.map (ev C.G F'):=by
   cases hi with
   |none=>rfl
   |some l=>exact congrArg some (hx l (by simp[Op.operands]))
  simp only[evStk,e,eh]
 case call c=>
  obtain⟨callee,args,ats⟩:=c
  cases callee with
  |builtin b=>
   have ha:∀x∈args.toList,ev C.G F x=ev C.G F' x:=fun x hm=>hx x (by simp[Op.operands,Call.operands];simpa using hm)
   cases b<;>try rfl
   ·simp only[evStk];split
    ·rename_i s x t t' hl hts
     simp only[ha s (by rw[hl];simp),ha x (by rw[hl];simp)]
    ·rfl
   ·simp only[evStk];split
    ·rename_i x t hl hts
     simp only[ha x (by rw[hl];simp)]
    ·rfl
  |_=>rfl
 all_goals rfl
theorem evalX_congr (o:Oper)(hx:∀x∈o.op.operands,ev C.G F x=ev C.G F' x):evalX C dr F h o=evalX C dr F' h o:=by
 unfold evalX;rw[evalOp_congr o hx,evalOp_congr (dr:=false) o hx,evStk_congr o hx]
theorem stepGo_congr {cl:FuncId→List AV→Hp→Except (List Nat) (AV×Hp)}{draw:Bool}(o:Oper)(hx:∀x∈o.op.operands,ev C.G F x=ev C.G F' x)(hd:draw=true∨lk F dS=lk F' dS):stepGo C cl draw o F h=stepGo C cl draw o F' h:=by
 have e:=fun dr=>evalX_congr (C:=C) (F:=F) (F':=F') (h:=h) (dr:=dr) o hx
 unfold stepGo;split
 ·rename_i x args ats hop;rw[hop] at hx
  have e1:ev C.G F x=ev C.G F' x:=hx x (by simp[Op.operands,Call.operands])
  have e2:evs C.G F args.toList=evs C.G F' args.toList:=evs_congr fun y hm=>hx y (by simp[Op.operands,Call.operands];exact .inr (by simpa using hm))
  rw[e1,e2]
 ·rename_i x args ats hop;rw[hop] at hx
  have e1:ev C.G F x=ev C.G F' x:=hx x (by simp[Op.operands,Call.operands])
  rcases hd with rfl|hd
  ·simp
  ·rw[e1,hd]
 ·rw[e]
theorem twoG_congr {P:Program}{ops:Array Oper}{draw:Bool}(o:Oper)(hx:∀t∈o.looksAt ops,lk F t=lk F' t)(h2:draw=false∨∀d,alDst o=some d→lk F d=lk F' d):twoG P draw ops o F h=twoG P draw ops o F' h:=by
 unfold twoG
 cases draw with
 |false=>rfl
 |true=>
  cases twoA ops with
  |false=>rfl
  |true=>
   simp only[Bool.and_self];split
   ·rename_i t d hop hdst
    rcases h2 with h2|h2
    ·cases h2
    ·rw[h2 d (by simp[alDst,hop,hdst])]
   ·rename_i p hop
    rw[hx p (by
     refine List.mem_append_left _ (List.mem_filterMap.2 ⟨.tmp p,?_,rfl⟩);rw[hop]
     simp[Op.operands])]
   ·rfl
theorem twoG_blind {P:Program}{ops:Array Oper}{draw:Bool}(o:Oper)(ht:touches P o.op=false)(h:Hp):twoG P draw ops o F h=none:=by
 unfold twoG;split
 ·rfl
 ·split
  ·rename_i hop _;rw[hop] at ht;simp[touches,effect] at ht
  ·rename_i hop;rw[hop] at ht;simp[touches] at ht
  ·rfl
theorem twoG_quiet {P:Program}{ops:Array Oper}{draw:Bool}(o:Oper)(ht:effect P o.op=false):(∀g,twoG P draw ops o F g=none)∨∃x,∀g,twoG P draw ops o F g=some (.error x):=by
 unfold twoG;split
 ·exact .inl fun _=>rfl
 ·split
  ·rename_i hop _;rw[hop] at ht;simp[effect] at ht
  ·split
   ·exact .inl fun _=>rfl
   ·exact .inr ⟨_,fun _=>rfl⟩
   ·exact .inl fun _=>rfl
  ·exact .inl fun _=>rfl
theorem twoG_al {P:Program}{ops:Array Oper}{draw:Bool}(o:Oper)(ht:∀t,o.op≠.alloc t)(ht2:∀t p,o.op≠.load t (.tmp p))(h:Hp):twoG P draw ops o F h=none:=by
 unfold twoG;split
 ·rfl
 ·split
  ·rename_i hop _;exact absurd hop (ht _)
  ·rename_i hop;exact absurd hop (ht2 _ _)
  ·rfl
theorem stepOp_congr {cl:FuncId→List AV→Hp→Except (List Nat) (AV×Hp)}{ops:Array Oper}{draw:Bool}(o:Oper)(hx:∀t∈o.looksAt ops,lk F t=lk F' t)(hdd:draw=true∨lk F dS=lk F' dS)(h2:draw=false∨∀d,alDst o=some d→lk F d=lk F' d):stepOp C cl ops draw o F h=stepOp C cl ops draw o F' h:=by
 have hg:guardOf ops F o=guardOf ops F' o:=by
  unfold guardOf
  cases hgd:o.guard with
  |none=>rfl
  |some jw=>
   obtain⟨j,want⟩:=jw;simp only
   cases hd:(ops[j]?).bind (·.dst) with
   |none=>rfl
   |some d=>
    simp only
    rw[hx d (by simp[Oper.looksAt,hgd,hd])]
 have hs:stepGo C cl draw o F h=stepGo C cl draw o F' h:=stepGo_congr o (fun x hm=>ev_congr fun t ht=>hx t (by
  subst ht
  exact List.mem_append_left _ (List.mem_filterMap.2 ⟨.tmp t,by simpa using hm,rfl⟩))) hdd
 unfold stepOp;rw[hg,hs,twoG_congr o hx h2]
def Blind (cl:FuncId→List AV→Hp→Except (List Nat) (AV×Hp)):Prop:=
 ∀k vs h v h',cl k vs h=.ok (v,h')→h'=h∧∀g,cl k vs g=.ok (v,g)
theorem zeroOf_dr {P:Program}{t:TypeId}{n:Nat}{cs:List AV}{more:Hp}(hz:zeroOf P true t n=some (cs,more)):more=[]∧∀m,zeroOf P true t m=some (cs,[]):=by
 unfold zeroOf at hz⊢
 cases hi:P.info? t with
 |none=>rw[hi] at hz;cases hz
 |some i=>
  rw[hi] at hz;simp only at hz⊢
  cases hzz:i.zero with
  |none=>rw[hzz] at hz;cases hz
  |some z=>
   rw[hzz] at hz;simp only at hz⊢
   cases hb:(!(z.cells.toList.all (·.oneCell'))) with
   |true=>rw[hb] at hz;cases hz
   |false=>
    rw[hb] at hz;simp only[cond_false,Option.some.injEq,Prod.mk.injEq] at hz⊢
    exact⟨hz.2.symm,fun _=>⟨hz.1,trivial⟩⟩
theorem evSliceP_dr (t:TypeId)(x:Operand)(lo hi mx:Option Operand):evSliceP C true F h t x lo hi mx=none:=by simp[evSliceP]
theorem evalOp_slice_dr (o:Oper){t:TypeId}{x:Operand}{lo hi mx:Option Operand}(ho:o.op=.slice t x lo hi mx):evalOp C true F h o=evSlice C F h t x lo hi mx:=by
 unfold evalOp;rw[ho];simp only[evSliceP_dr]
 cases evSlice C F h t x lo hi mx<;>rfl
theorem evalOp_blind (o:Oper)(ht:touches C.P o.op=false){r:Bool×(Bool×AV)}{h':Hp}(hx:evalOp C true F h o=some (r.1,r.2,h')):h'=h∧∀g,evalOp C true F g o=some (r.1,r.2,g):=by
 obtain⟨d,op,ty,pos,after,gd⟩:=o;obtain⟨r1,r2⟩:=r
 have mv:∀x:Operand,evMove C true F h ty x=some (r1,r2,h')→h'=h∧∀g,evMove C true F g ty x=some (r1,r2,g):=by
  intro x hx
  cases x with
  |const v=>
   simp only[evMove] at hx⊢
   cases hn:nilSl v<;>rw[hn] at hx<;>simp only[Option.some.injEq,Prod.mk.injEq] at hx⊢<;>exact⟨hx.2.2.symm,fun _=>⟨hx.1,hx.2.1,trivial⟩⟩
  |_=>
   simp only[evMove,Option.some.injEq,Prod.mk.injEq] at hx⊢
   exact⟨hx.2.2.symm,fun _=>⟨hx.1,hx.2.1,trivial⟩⟩
 cases op<;>simp only[touches,effect,Bool.true_eq_false] at ht
 case move x=>exact mv x hx
 case assign x=>exact mv x hx
 case pick c a b=>
  simp only[evalOp,evPick] at hx⊢
  split at hx<;>simp_all
 case build t parts=>
  simp only[evalOp,evBuild] at hx⊢;split at hx
  ·rename_i fs z more hu hz;obtain⟨rfl,hz'⟩:=zeroOf_dr hz;split at hx
   ·rename_i cs hf;simp only[Option.some.injEq,Prod.mk.injEq] at hx;obtain⟨rfl,rfl,rfl⟩:=hx
    refine⟨by simp,fun g=> ?_⟩
    simp only[hu,hz' g.length,hf,List.append_nil]
   ·cases hx
  ·rename_i m e z more hu hz;obtain⟨rfl,hz'⟩:=zeroOf_dr hz;split at hx
   ·rename_i cs hf;simp only[Option.some.injEq,Prod.mk.injEq] at hx;obtain⟨rfl,rfl,rfl⟩:=hx
    refine⟨by simp,fun g=> ?_⟩
    simp only[hu,hz' g.length,hf,List.append_nil]
   ·cases hx
  ·cases hx
 case buildSlice t len parts=>
  simp only[evalOp,evBuildSlice] at hx⊢;split at hx
  ·generalize hb:(_&&_:Bool)=b at hx⊢
   cases b with
   |false=>simp at hx
   |true=>simp_all
  ·cases hx
 case nilCheck x=>
  simp only[evalOp,evNilCheck] at hx⊢
  split at hx<;>simp_all
 case binOp op t x y z=>
  simp only[evalOp,evBin] at hx⊢;split at hx
  ·simp_all
  ·split at hx
   ·simp_all
   ·simp_all
   ·unfold evEqS at hx⊢;split at hx
    ·split at hx<;>simp_all
    ·split at hx<;>simp_all
    ·cases hx
 case unOp op t x=>
  simp only[evalOp] at hx⊢
  split at hx<;>simp_all
 case convert s t x=>
  simp only[evalOp,evConvert] at hx⊢;unfold convTouch at ht;split at hx
  ·simp_all
  ·simp_all
  ·simp_all
  ·simp_all
  ·simp_all
  ·rename_i e g1 l hs hd hx2;rw[hs,hd] at ht;simp at ht
  ·split at hx<;>simp_all
 case makeFunc f first cap=>
  simp only[evalOp,Option.some.injEq,Prod.mk.injEq] at hx⊢
  exact⟨hx.2.2.symm,fun _=>⟨hx.1,hx.2.1,trivial⟩⟩
 case slice t x lo hi mx=>
  have e0:∀g,evalOp C true F g ⟨d,.slice t x lo hi mx,ty,pos,after,gd⟩=evSlice C F g t x lo hi mx:=fun g=>evalOp_slice_dr (h:=g) ⟨d,.slice t x lo hi mx,ty,pos,after,gd⟩ rfl
  rw[e0] at hx;simp only[e0];simp only[evSlice] at hx⊢
  split at hx<;>simp_all
 case fieldAddr s x f=>
  simp only[evalOp,evFieldAddr] at hx⊢;split at hx
  ·split at hx
   ·generalize hb:Nat.beq _ _=b at hx⊢
    cases b with
    |true=>simp at hx
    |false=>split at hx<;>simp_all
   ·cases hx
  ·cases hx
 case field s x f=>
  simp only[evalOp,evField] at hx⊢;split at hx
  ·split at hx
   ·split at hx<;>simp_all
   ·cases hx
  ·cases hx
 case indexAddr t x i=>
  simp only[evalOp,evIndexAddr] at hx⊢
  split at hx<;>simp_all
 case index t x i=>
  simp only[evalOp,evIndex] at hx⊢
  split at hx<;>simp_all
 case typeAssert x xt t ok=>
  simp only[evalOp,evAssert] at hx⊢;split at hx
  ·cases hx
  ·split at hx
   ·simp_all
   ·cases hx
  ·cases hx
 case extract t ix=>
  simp only[evalOp,evExtract] at hx⊢;split at hx
  ·split at hx<;>simp_all
  ·cases hx
 case call c=>
  obtain⟨callee,args,ats⟩:=c
  cases callee with
  |builtin b=>
   simp only[evalOp] at hx⊢;generalize args.toList=l at hx⊢;generalize ats.toList=ts at hx⊢;unfold evBuiltin at hx⊢;split at hx
   ·simp only[evLen] at hx⊢
    split at hx<;>simp_all
   ·simp only[evMax] at hx⊢
    split at hx<;>simp_all
   ·simp only[evMin] at hx⊢
    split at hx<;>simp_all
   ·simp at ht
   ·cases hx
  |_=>simp[evalOp] at hx
 all_goals (simp[evalOp] at hx)
theorem evalOp_quiet (o:Oper)(ht:effect C.P o.op=false){r:Bool×(Bool×AV)}{h':Hp}(hx:evalOp C true F h o=some (r.1,r.2,h')):h'=h:=by
 cases htt:touches C.P o.op with
 |false=>exact(evalOp_blind o htt hx).1
 |true=>
  obtain⟨d,op,ty,pos,after,gd⟩:=o;obtain⟨r1,r2⟩:=r
  cases op<;>simp only[touches,ht,Bool.false_eq_true] at htt
  case load t x=>
   simp only[evalOp,evLoad] at hx;split at hx
   ·split at hx<;>simp_all
   ·split at hx
    ·split at hx<;>simp_all
    ·cases hx
   ·cases hx
  case convert s t x=>
   simp only[evalOp,evConvert] at hx;split at hx
   ·split at hx<;>simp_all
   ·split at hx<;>simp_all
   ·simp_all
   ·split at hx<;>simp_all
   ·split at hx<;>simp_all
   ·rename_i e g1 l hs hd hx2;simp[effect,strBytes,hs,hd] at ht
   ·split at hx<;>simp_all
variable {cl:FuncId→List AV→Hp→Except (List Nat) (AV×Hp)}{ops:Array Oper}
theorem stepOp_blind (hcl:Blind cl)(o:Oper)(ht:touches C.P o.op=false){e:Bool×AV}{h':Hp}(hx:stepOp C cl ops true o F h=.ok (e,h')):h'=h∧∀g,stepOp C cl ops true o F g=.ok (e,g):=by
 unfold stepOp at hx⊢;split at hx
 ·cases hx
 ·simp only[Except.ok.injEq,Prod.mk.injEq] at hx;obtain⟨rfl,rfl⟩:=hx
  exact⟨rfl,fun _=>rfl⟩
 ·simp only[twoG_blind o ht] at hx⊢;unfold stepGo at hx⊢;split at hx
  ·split at hx
   ·split at hx
    ·simp_all
    ·cases hx
    ·split at hx
     ·rename_i hc;simp only[Except.ok.injEq,Prod.mk.injEq] at hx;obtain⟨rfl,rfl⟩:=hx;obtain⟨rfl,hg⟩:=hcl _ _ _ _ _ hc
      refine⟨rfl,fun g=> ?_⟩
      simp_all
     ·cases hx
   ·cases hx
  ·simp at hx
  ·simp only[Bool.true_or,evalX] at hx⊢;split at hx
   ·rename_i e' h2 hev;simp only[Except.ok.injEq,Prod.mk.injEq] at hx;obtain⟨rfl,rfl⟩:=hx;obtain⟨rfl,hg⟩:=evalOp_blind (r:=(true,e')) o ht hev
    exact⟨rfl,fun g=>by simp[hg g]⟩
   ·cases hx
   ·cases hx
theorem stepOp_quiet (hcl:Blind cl)(o:Oper)(ht:effect C.P o.op=false){e:Bool×AV}{h':Hp}(hx:stepOp C cl ops true o F h=.ok (e,h')):h'=h:=by
 cases htt:touches C.P o.op with
 |false=>exact(stepOp_blind hcl o htt hx).1
 |true=>
  unfold stepOp at hx;split at hx
  ·cases hx
  ·simp only[Except.ok.injEq,Prod.mk.injEq] at hx;exact hx.2.symm
  ·rcases twoG_quiet (P:=C.P) (F:=F) (ops:=ops) (draw:=true) o ht with h0|⟨x,h0⟩
   case inr=>rw[h0] at hx;cases hx
   simp only[h0] at hx;unfold stepGo at hx;split at hx
   ·rename_i hop;rw[hop] at htt;simp[touches,effect] at htt
   ·simp at hx
   ·simp only[Bool.true_or] at hx;split at hx
    ·rename_i e' h2 hev;simp only[Except.ok.injEq,Prod.mk.injEq] at hx;obtain⟨rfl,rfl⟩:=hx;exact evalOp_quiet (r:=(true,e')) o ht hev
    ·cases hx
    ·cases hx
theorem lsP_spec {os:List Oper}{x y:Oper}(h:lsP os x y=true):∃t p t' q v r r',x.op=.load t (.tmp p)∧y.op=.store t' (.tmp q) v∧x.guard=none∧y.guard=none∧rootT os rootN p=some r∧rootT os rootN q=some r':=by
 unfold lsP at h;split at h
 ·rename_i t p t' q v h1 h2 h3 h4;split at h
  ·rename_i r r' h5 h6;exact⟨t,p,t',q,v,r,r',h1,h2,h3,h4,h5,h6⟩
  ·cases h
 ·cases h
theorem stabT_ne {os:List Oper}{t:Nat}(h:stabT os t=true){z:Oper}(hz:z∈os):z.dst≠some t:=by
 intro e;have h1:=List.all_eq_true.1 h z hz;rw[e] at h1;simp[Nat.beq_refl] at h1
theorem rootT_stab {os:List Oper}:∀{n t r:Nat},rootT os n t=some r→stabT os r=true
 |0,t,r,h=>by cases h
 |n+1,t,r,h=>by
  unfold rootT at h;split at h
  ·rename_i hs;injection h with h;subst h;exact hs
  ·split at h
   ·exact rootT_stab h
   ·cases h
theorem rootT_succ {os:List Oper}:∀{n t r:Nat},rootT os n t=some r→rootT os (n+1) t=some r
 |0,t,r,h=>by cases h
 |n+1,t,r,h=>by
  rw[rootT] at h⊢
  cases hs:stabT os t with
  |true=>rw[hs] at h;exact h
  |false=>
   rw[hs] at h;simp only at h⊢
   cases hx:srcOf os t with
   |none=>rw[hx] at h;cases h
   |some x=>
    rw[hx] at h;simp only at h⊢;exact rootT_succ h
theorem srcO_spec {o:Oper}{x:Nat}(h:srcO o=some x):o.guard=none∧(o.op=.move (.tmp x)∨o.op=.nilCheck (.tmp x)∨∃s k,o.op=.fieldAddr s (.tmp x) k):=by
 unfold srcO at h;split at h
 ·rename_i x' h1 h2;injection h with h;subst h;exact⟨h2,.inl h1⟩
 ·rename_i x' h1 h2;injection h with h;subst h;exact⟨h2,.inr (.inl h1)⟩
 ·rename_i s x' k h1 h2;injection h with h;subst h;exact⟨h2,.inr (.inr ⟨s,k,h1⟩)⟩
 ·cases h
theorem srcOf_spec {os:List Oper}{t x:Nat}(h:srcOf os t=some x){z:Oper}(hz:z∈os)(hd:z.dst=some t):z.guard=none∧(z.op=.move (.tmp x)∨z.op=.nilCheck (.tmp x)∨∃s k,z.op=.fieldAddr s (.tmp x) k):=by
 unfold srcOf at h
 have hm:z∈os.filter (turnsB t):=List.mem_filter.2 ⟨hz,by unfold turnsB;rw[hd];simp[Nat.beq_refl]⟩
 generalize os.filter (turnsB t)=l at h hm
 cases l with
 |nil=>cases hm
 |cons o l2=>
  cases l2 with
  |cons=>cases h
  |nil=>
   obtain rfl:=List.mem_singleton.1 hm;exact srcO_spec h
def RootF (os:List Oper)(F:Fr):Prop:=∀t r,rootT os rootN t=some r→∀g b o,lk F t=(g,.ptr b o)→∃g' o',lk F r=(g',.ptr b o')
def LsF (os:List Oper)(F:Fr):Prop:=(∀x∈os,∀y∈os,lsP os x y=true→lsD os F x y=true)∧((∃o∈os,isStore o.op=true)→RootF os F)
theorem rootB_spec {os:List Oper}{F:Fr}{t:Nat}(h:rootB os F t=true){r:Nat}(hr:rootT os rootN t=some r){g:Bool}{b o:Nat}(hl:lk F t=(g,.ptr b o)):∃g' o',lk F r=(g',.ptr b o'):=by
 unfold rootB at h;rw[hr] at h;simp only[hl] at h;split at h
 ·rename_i g' b' o' hl';have:=Nat.eq_of_beq_eq_true h;subst this;exact⟨g',o',hl'⟩
 ·cases h
theorem lsF_of {os:List Oper}{F:Fr}(h:lsOk os F=true):LsF os F:=by
 unfold lsOk at h;rw[Bool.and_eq_true] at h
 refine⟨fun x hx y hy hp=> ?_,fun hst t r hr g b o hl=> ?_⟩
 ·have h1:=List.all_eq_true.1 (List.all_eq_true.1 h.1 x hx) y hy;rw[hp] at h1;simpa using h1
 ·have ha:(os.any fun o=>isStore o.op)=true:=List.any_eq_true.2 hst
  have h2:=h.2;rw[ha] at h2;simp only[Bool.not_true,Bool.false_or] at h2
  cases hs:stabT os t with
  |true=>
   have:rootT os rootN t=some t:=by unfold rootN rootT;rw[hs]
   rw[this] at hr
   injection hr with hr
   subst hr;exact⟨g,o,hl⟩
  |false=>
   obtain⟨z,hz,hd⟩:∃z∈os,z.dst=some t:=by
    unfold stabT at hs;obtain⟨z,hz,hzd⟩:=List.all_eq_false.1 hs;refine⟨z,hz,?_⟩
    cases hd:z.dst with
    |none=>rw[hd] at hzd;simp at hzd
    |some d=>
     rw[hd] at hzd;simp only[Bool.not_eq_true,Bool.not_eq_false'] at hzd
     have:Nat.beq d t=true:=by simpa using hzd
     rw[Nat.eq_of_beq_eq_true this]
   have h3:=List.all_eq_true.1 h2 z hz;rw[hd] at h3;exact rootB_spec h3 hr hl
theorem src_step {os:List Oper}{t x:Nat}(h:srcOf os t=some x){z:Oper}(hz:z∈os)(hd:z.dst=some t){e:Bool×AV}{h':Hp}{h0:Hp}(hs:stepOp C cl ops true z F h0=.ok (e,h')){g:Bool}{b o:Nat}(he:e=(g,.ptr b o)):
  ∃g' o',lk F x=(g',.ptr b o'):=by
 obtain⟨hg,hop⟩:=srcOf_spec h hz hd;obtain⟨d,op,ty,pos,after,gd⟩:=z;simp only at hg hop;subst hg
 rcases hop with hop|hop|⟨s,k,hop⟩
 ·subst hop
  simp only[stepOp,guardOf,twoG_al ⟨d,.move (.tmp x),ty,pos,after,none⟩ (fun _ h=>by cases h) (fun _ _ h=>by cases h),stepGo,evalX,Bool.true_or,evalOp,evMove,ev] at hs
  simp only[Except.ok.injEq,Prod.mk.injEq] at hs;obtain⟨rfl,-⟩:=hs;exact⟨g,o,he⟩
 ·subst hop
  simp only[stepOp,guardOf,twoG_al ⟨d,.nilCheck (.tmp x),ty,pos,after,none⟩ (fun _ h=>by cases h) (fun _ _ h=>by cases h),stepGo,evalX,Bool.true_or,evalOp,evNilCheck,ev] at hs
  cases hx:lk F x with
  |mk g1 v1=>
   rw[hx] at hs
   cases v1 with
   |ptr b1 o1=>
    cases g1 with
    |false=>cases hs
    |true=>
     simp only[Except.ok.injEq,Prod.mk.injEq] at hs;obtain⟨rfl,-⟩:=hs;simp only[Prod.mk.injEq,AV.ptr.injEq] at he;obtain⟨-,rfl,-⟩:=he;exact⟨true,o1,rfl⟩
   |ro cs=>
    cases g1 with
    |false=>cases hs
    |true=>
     simp only[Except.ok.injEq,Prod.mk.injEq] at hs;obtain⟨rfl,-⟩:=hs;cases he
   |_=>cases hs
 ·subst hop
  simp only[stepOp,guardOf,twoG_al ⟨d,.fieldAddr s (.tmp x) k,ty,pos,after,none⟩ (fun _ h=>by cases h) (fun _ _ h=>by cases h),stepGo,evalX,Bool.true_or,evalOp,evFieldAddr,ev] at hs
  split at hs
  ·rename_i e1 h1 hm;simp only[Except.ok.injEq,Prod.mk.injEq] at hs;obtain⟨rfl,-⟩:=hs;split at hm
   ·split at hm
    ·rename_i fd hfd
     cases hz0:Nat.beq (C.P.cellsOf fd.type) 0 with
     |true=>rw[hz0] at hm;cases hm
     |false=>
      rw[hz0] at hm;simp only[cond_false] at hm
      cases hx:lk F x with
      |mk g1 v1=>
       rw[hx] at hm
       cases v1 with
       |ptr b1 o1=>
        simp only[Option.some.injEq,Prod.mk.injEq] at hm;obtain⟨-,rfl,-⟩:=hm;simp only[Prod.mk.injEq,AV.ptr.injEq] at he;obtain⟨-,rfl,-⟩:=he;exact⟨g1,o1,rfl⟩
       |ro cs=>
        simp only[Option.some.injEq,Prod.mk.injEq] at hm;obtain⟨-,rfl,-⟩:=hm;cases he
       |_=>cases hm
    ·cases hm
   ·cases hm
  ·cases hs
  ·cases hs
theorem RootF.put {os:List Oper}{F:Fr}(hF:RootF os F){z:Oper}(hz:z∈os){e:Bool×AV}{h':Hp}{h0:Hp}(hs:stepOp C cl ops true z F h0=.ok (e,h')):RootF os (putF F z.dst e):=by
 intro t r hr g b o hl;have hrs:=rootT_stab hr;rw[lk_put_ne (stabT_ne hrs hz)]
 by_cases hd:z.dst=some t
 ·rw[hd,lk_put_eq] at hl
  cases hst:stabT os t with
  |true=>exact absurd hd (stabT_ne hst hz)
  |false=>
   have hr2:=hr;unfold rootN rootT at hr2;rw[hst] at hr2;simp only at hr2;split at hr2
   ·rename_i x hx;obtain⟨g',o',hx'⟩:=src_step hx hz hd hs hl;exact hF x r (rootT_succ hr2) g' b o' hx'
   ·cases hr2
 ·rw[lk_put_ne hd] at hl;exact hF t r hr g b o hl
theorem LsF.put {os:List Oper}{F:Fr}(h:LsF os F){z:Oper}(hz:z∈os){e:Bool×AV}{h':Hp}{h0:Hp}(hs:stepOp C cl ops true z F h0=.ok (e,h')):LsF os (putF F z.dst e):=by
 refine⟨fun x hx y hy hp=> ?_,fun hst=>(h.2 hst).put hz hs⟩
 have h1:=h.1 x hx y hy hp;obtain⟨t,p,t',q,v,r,r',k1,k2,_,_,k5,k6⟩:=lsP_spec hp;unfold lsD at h1⊢;rw[k1,k2] at h1⊢;simp only[k5,k6] at h1⊢;rw[lk_put_ne (stabT_ne (rootT_stab k5) hz),lk_put_ne (stabT_ne (rootT_stab k6) hz)];exact h1
theorem lsD_spec {os:List Oper}{F:Fr}{x y:Oper}{t p t' q r r':Nat}{v:Operand}(hx:x.op=.load t (.tmp p))(hy:y.op=.store t' (.tmp q) v)(hr:rootT os rootN p=some r)(hr':rootT os rootN q=some r')(h:lsD os F x y=true):
  ∃b o b' o',lk F r=(true,.ptr b o)∧lk F r'=(true,.ptr b' o')∧b≠b':=by
 unfold lsD at h;rw[hx,hy] at h;simp only[hr,hr'] at h;split at h
 ·rename_i b o b' o' h1 h2
  exact⟨b,o,b',o',h1,h2,fun e=>by subst e;simp[Nat.beq_refl] at h⟩
 ·cases h
theorem load_step {x:Oper}{t p:Nat}(hop:x.op=.load t (.tmp p))(hg:x.guard=none){e:Bool×AV}{h':Hp}(hx:stepOp C cl ops true x F h=.ok (e,h')):
  h'=h∧((∀g:Hp,stepOp C cl ops true x F g=.ok (e,g))∨∃b o,lk F p=(true,.ptr b o)∧∀g:Hp,g[b]?=h[b]?→stepOp C cl ops true x F g=.ok (e,g)):=by
 obtain⟨d,op,ty,pos,after,gd⟩:=x;simp only at hop hg;subst hop;subst hg
 rcases twoG_quiet (P:=C.P) (F:=F) (ops:=ops) (draw:=true) ⟨d,.load t (.tmp p),ty,pos,after,none⟩ rfl with h0|⟨z,h0⟩
 case inr=>simp only[stepOp,guardOf,h0] at hx;cases hx
 simp only[stepOp,guardOf,h0,stepGo,evalX,Bool.true_or,evalOp,evLoad,ev] at hx⊢
 cases hl:lk F p with
 |mk g1 v1=>
  rw[hl] at hx
  cases v1 with
  |ro cs=>
   simp only at hx⊢
   cases hr:rd C.P t cs with
   |none=>rw[hr] at hx;cases hx
   |some v=>
    rw[hr] at hx
    cases g1 with
    |false=>cases hx
    |true=>
     simp only[Except.ok.injEq,Prod.mk.injEq] at hx;obtain⟨rfl,rfl⟩:=hx
     exact⟨rfl,.inl fun g=>rfl⟩
  |ptr b o=>
   simp only at hx⊢
   cases hb:h[b]? with
   |none=>rw[hb] at hx;cases hx
   |some y=>
    rw[hb] at hx
    cases y with
    |mem t0 cs=>
     simp only at hx
     cases hr:rd C.P t (cs.drop o) with
     |none=>rw[hr] at hx;cases hx
     |some v=>
      rw[hr] at hx
      cases g1 with
      |false=>cases hx
      |true=>
       simp only[Except.ok.injEq,Prod.mk.injEq] at hx;obtain⟨rfl,rfl⟩:=hx
       refine⟨rfl,.inr ⟨b,o,rfl,fun g hgb=> ?_⟩⟩
       simp only[hgb,hb,hr]
    |_=>cases hx
  |_=>cases hx
theorem store_step {y:Oper}{t q:Nat}{v:Operand}(hop:y.op=.store t (.tmp q) v)(hg:y.guard=none){e:Bool×AV}{h':Hp}(hx:stepOp C cl ops true y F h=.ok (e,h')):
  ∃b o,lk F q=(true,.ptr b o)∧∀c,c≠b→h'[c]?=h[c]? :=by
 obtain⟨d,op,ty,pos,after,gd⟩:=y;simp only at hop hg;subst hop;subst hg
 simp only[stepOp,guardOf,twoG_al ⟨d,.store t (.tmp q) v,ty,pos,after,none⟩ (fun _ h=>by cases h) (fun _ _ h=>by cases h),stepGo,evalX,Bool.true_or,evalOp,evStore,ev] at hx
 cases hl:lk F q with
 |mk g1 v1=>
  rw[hl] at hx
  cases v1 with
  |ptr b o=>
   simp only at hx;split at hx
   ·rename_i e1 h1 hm;simp only[Except.ok.injEq,Prod.mk.injEq] at hx;obtain⟨rfl,rfl⟩:=hx;split at hm
    ·simp only[Option.some.injEq,Prod.mk.injEq] at hm;obtain⟨hgt,_,rfl⟩:=hm
     cases g1 with
     |false=>simp at hgt
     |true=>exact⟨b,o,rfl,fun c hc=>by rw[List.getElem?_set_ne (fun e=>hc e.symm)]⟩
    ·cases hm
   ·cases hx
   ·cases hx
  |_=>cases hx
theorem alDst_dst {o:Oper}{d:Nat}(h:alDst o=some d):o.dst=some d:=by
 unfold alDst at h;split at h
 ·exact h
 ·cases h
theorem swapLS {os:List Oper}(hF:LsF os F){x y:Oper}(hxm:x∈os)(hym:y∈os)(hap:x.apart ops y=true)(hls:(lsP os x y||lsP os y x)=true){e1 e2:Bool×AV}{h1 h2:Hp}
  (hx:stepOp C cl ops true x F h=.ok (e1,h1)) (hy:stepOp C cl ops true y (putF F x.dst e1) h1=.ok (e2,h2)):
  ∃h3,stepOp C cl ops true y F h=.ok (e2,h3)∧stepOp C cl ops true x (putF F y.dst e2) h3=.ok (e1,h2)∧FrEq (putF (putF F x.dst e1) y.dst e2) (putF (putF F y.dst e2) x.dst e1):=by
 obtain⟨a1,a2,a3⟩:=Oper.apart_spec hap
 have cy:∀g,stepOp C cl ops true y (putF F x.dst e1) g=stepOp C cl ops true y F g:=fun g=>stepOp_congr y (fun t ht=>lk_put_ne fun hd=>a1 t hd ht) (.inl rfl) (.inr fun d hd=>lk_put_ne fun hdx=>a2 d hdx (alDst_dst hd))
 have cx:∀g,stepOp C cl ops true x (putF F y.dst e2) g=stepOp C cl ops true x F g:=fun g=>stepOp_congr x (fun t ht=>lk_put_ne fun hd=>a3 t hd ht) (.inl rfl) (.inr fun d hd=>lk_put_ne fun hdy=>a2 d (alDst_dst hd) hdy)
 have hp:FrEq (putF (putF F x.dst e1) y.dst e2) (putF (putF F y.dst e2) x.dst e1):=put_comm a2;rw[cy] at hy;rw[Bool.or_eq_true] at hls
 rcases hls with hl|hl
 ·have hd:=hF.1 x hxm y hym hl;obtain⟨t,p,t',q,v,r,r',k1,k2,k3,k4,k5,k6⟩:=lsP_spec hl
  have hR:=hF.2 ⟨y,hym,by rw[k2];rfl⟩
  obtain⟨b,o,b',o',q1,q2,hne⟩:=lsD_spec k1 k2 k5 k6 hd;obtain⟨rfl,hld⟩:=load_step k1 k3 hx;obtain⟨d,od,hq,hs⟩:=store_step k2 k4 hy
  rcases hld with hall|⟨c,oc,hpc,hall⟩
  ·exact⟨h2,hy,(cx h2).trans (hall h2),hp⟩
  ·obtain⟨_,_,hc⟩:=hR p r k5 _ _ _ hpc;obtain⟨_,_,hdq⟩:=hR q r' k6 _ _ _ hq;rw[q1] at hc;rw[q2] at hdq
   injection hc with _ hc;injection hc with hc _
   injection hdq with _ hdq;injection hdq with hdq _
   subst hc;subst hdq;exact⟨h2,hy,(cx h2).trans (hall h2 (hs _ hne)),hp⟩
 ·have hd:=hF.1 y hym x hxm hl;obtain⟨t,p,t',q,v,r,r',k1,k2,k3,k4,k5,k6⟩:=lsP_spec hl
  have hR:=hF.2 ⟨x,hxm,by rw[k2];rfl⟩
  obtain⟨b,o,b',o',q1,q2,hne⟩:=lsD_spec k1 k2 k5 k6 hd;obtain⟨d,od,hq,hs⟩:=store_step k2 k4 hx;obtain⟨rfl,hld⟩:=load_step k1 k3 hy
  rcases hld with hall|⟨c,oc,hpc,hall⟩
  ·exact⟨h,hall h,(cx h).trans hx,hp⟩
  ·obtain⟨_,_,hc⟩:=hR p r k5 _ _ _ hpc;obtain⟨_,_,hdq⟩:=hR q r' k6 _ _ _ hq;rw[q1] at hc;rw[q2] at hdq
   injection hc with _ hc;injection hc with hc _
   injection hdq with _ hdq;injection hdq with hdq _
   subst hc;subst hdq;exact⟨h,hall h (hs _ hne).symm,(cx h).trans hx,hp⟩
theorem laP_spec {x y:Op}(h:laP x y=true):(∃t a,x=.load t a)∧∃t,y=.alloc t:=by
 unfold laP at h;split at h
 ·exact⟨⟨_,_,rfl⟩,⟨_,rfl⟩⟩
 ·cases h
theorem load_app {x:Oper}{t:TypeId}{a:Operand}(hop:x.op=.load t a){e:Bool×AV}{h':Hp}(hx:stepOp C cl ops true x F h=.ok (e,h')):
  h'=h∧(∀m:Hp,stepOp C cl ops true x F (h++m)=.ok (e,h++m))∧∀b m,h[b]?=some .dead→stepOp C cl ops true x F (h.set b m)=.ok (e,h.set b m):=by
 obtain⟨d,op,ty,pos,after,gd⟩:=x;simp only at hop;subst hop
 rcases twoG_quiet (P:=C.P) (F:=F) (ops:=ops) (draw:=true) ⟨d,.load t a,ty,pos,after,gd⟩ rfl with h0|⟨z,h0⟩
 case inr=>
  simp only[stepOp,h0] at hx⊢;split at hx
  ·cases hx
  ·simp only[Except.ok.injEq,Prod.mk.injEq] at hx;obtain⟨rfl,rfl⟩:=hx
   exact⟨rfl,fun m=>rfl,fun b m _=>rfl⟩
  ·cases hx
 simp only[stepOp,h0] at hx⊢;split at hx
 ·cases hx
 ·simp only[Except.ok.injEq,Prod.mk.injEq] at hx;obtain⟨rfl,rfl⟩:=hx
  exact⟨rfl,fun m=>rfl,fun b m _=>rfl⟩
 ·simp only[stepGo,evalX,Bool.true_or,evalOp,evLoad] at hx⊢
  cases hev:ev C.G F a with
  |mk g v=>
   rw[hev] at hx
   cases v with
   |ro cs=>
    simp only at hx⊢
    cases hr:rd C.P t cs with
    |none=>rw[hr] at hx;cases hx
    |some v=>
     rw[hr] at hx
     cases g with
     |false=>cases hx
     |true=>
      simp only[Except.ok.injEq,Prod.mk.injEq] at hx⊢;obtain⟨rfl,rfl⟩:=hx
      exact⟨rfl,fun m=>⟨rfl,trivial⟩,fun b m _=>⟨rfl,trivial⟩⟩
   |ptr b o=>
    simp only at hx⊢
    cases hb:h[b]? with
    |none=>rw[hb] at hx;cases hx
    |some y=>
     have hlt:b<h.length:=by
      rcases Nat.lt_or_ge b h.length with hl|hl
      ·exact hl
      ·rw[List.getElem?_eq_none hl] at hb;cases hb
     rw[hb] at hx
     cases y with
     |mem t0 cs=>
      simp only at hx
      cases hr:rd C.P t (cs.drop o) with
      |none=>rw[hr] at hx;cases hx
      |some v=>
       rw[hr] at hx
       cases g with
       |false=>cases hx
       |true=>
        simp only[Except.ok.injEq,Prod.mk.injEq] at hx;obtain⟨rfl,rfl⟩:=hx
        refine⟨rfl,fun m=> ?_,fun b' m hb'=> ?_⟩
        ·rw[List.getElem?_append_left hlt,hb];simp only[hr]
        ·have hne:b'≠b:=by rintro rfl;rw[hb] at hb';cases hb'
         rw[List.getElem?_set_ne hne,hb];simp only[hr]
     |_=>cases hx
   |_=>cases hx
theorem alloc_end {y:Oper}{t:TypeId}(hop:y.op=.alloc t){e:Bool×AV}{h':Hp}(hy:stepOp C cl ops true y F h=.ok (e,h')):(∃m,h'=h++m)∨∃b m,h[b]?=some .dead∧h'=h.set b m:=by
 obtain⟨d,op,ty,pos,after,gd⟩:=y;simp only at hop;subst hop;simp only[stepOp] at hy;split at hy
 ·cases hy
 ·simp only[Except.ok.injEq,Prod.mk.injEq] at hy
  exact .inl ⟨[],by rw[List.append_nil];exact hy.2.symm⟩
 ·split at hy
  ·rename_i r htw;subst hy;unfold twoG at htw;split at htw
   ·cases htw
   ·split at htw
    ·simp only[Option.some.injEq] at htw;unfold fillG at htw;split at htw
     ·split at htw
      ·rename_i hb _;simp only[Except.ok.injEq,Prod.mk.injEq] at htw;obtain⟨_,rfl⟩:=htw;exact .inr ⟨_,_,hb,rfl⟩
      ·cases htw
     ·cases htw
    ·split at htw<;>cases htw
    ·cases htw
  ·simp only[stepGo,evalX,Bool.true_or,evalOp,evAlloc] at hy;split at hy
   ·rename_i e1 h1 hm;simp only[Except.ok.injEq,Prod.mk.injEq] at hy;obtain⟨rfl,rfl⟩:=hy;split at hm
    ·simp only[Option.some.injEq,Prod.mk.injEq] at hm;obtain⟨_,_,rfl⟩:=hm
     exact .inl ⟨_,by rw[List.append_assoc]⟩
    ·cases hm
   ·cases hy
   ·cases hy
theorem swap (hcl:Blind cl){x y:Oper}(hap:x.apart ops y=true)(hcm:calm C.P x.op y.op=true){e1 e2:Bool×AV}{h1 h2:Hp}
  (hx:stepOp C cl ops true x F h=.ok (e1,h1)) (hy:stepOp C cl ops true y (putF F x.dst e1) h1=.ok (e2,h2)):
  ∃h3,stepOp C cl ops true y F h=.ok (e2,h3)∧stepOp C cl ops true x (putF F y.dst e2) h3=.ok (e1,h2)∧FrEq (putF (putF F x.dst e1) y.dst e2) (putF (putF F y.dst e2) x.dst e1):=by
 obtain⟨a1,a2,a3⟩:=Oper.apart_spec hap
 have cy:∀g,stepOp C cl ops true y (putF F x.dst e1) g=stepOp C cl ops true y F g:=fun g=>stepOp_congr y (fun t ht=>lk_put_ne fun hd=>a1 t hd ht) (.inl rfl) (.inr fun d hd=>lk_put_ne fun hdx=>a2 d hdx (alDst_dst hd))
 have cx:∀g,stepOp C cl ops true x (putF F y.dst e2) g=stepOp C cl ops true x F g:=fun g=>stepOp_congr x (fun t ht=>lk_put_ne fun hd=>a3 t hd ht) (.inl rfl) (.inr fun d hd=>lk_put_ne fun hdy=>a2 d (alDst_dst hd) hdy)
 have hp:FrEq (putF (putF F x.dst e1) y.dst e2) (putF (putF F y.dst e2) x.dst e1):=put_comm a2;rw[cy] at hy
 cases hla:laP x.op y.op with
 |true=>
  obtain⟨⟨t,a,k1⟩,t',k2⟩:=laP_spec hla;obtain⟨rfl,hg,hg2⟩:=load_app k1 hx
  rcases alloc_end k2 hy with ⟨m,rfl⟩|⟨b,m,hb,rfl⟩
  ·exact⟨_,hy,(cx _).trans (hg m),hp⟩
  ·exact⟨_,hy,(cx _).trans (hg2 b m hb),hp⟩
 |false=>
 cases hxt:touches C.P x.op with
 |false=>
  obtain⟨rfl,hg⟩:=stepOp_blind hcl x hxt hx;exact⟨h2,hy,(cx h2).trans (hg h2),hp⟩
 |true=>
  cases hyt:touches C.P y.op with
  |false=>
   obtain⟨rfl,hg⟩:=stepOp_blind hcl y hyt hy;exact⟨h,hg h,(cx h).trans hx,hp⟩
  |true=>
   have hey:effect C.P y.op=false:=by cases he:effect C.P y.op<;>simp_all[calm]
   have hex:effect C.P x.op=false:=by cases he:effect C.P x.op<;>simp_all[calm]
   have e1':=stepOp_quiet hcl x hex hx;subst e1';have e2':=stepOp_quiet hcl y hey hy;subst e2';exact⟨h2,hy,(cx h2).trans hx,hp⟩
theorem al_step {x:Oper}(h2:twoA ops=true)(ha:(alDst x).isSome=true){e:Bool×AV}{h':Hp}(hx:stepOp C cl ops true x F h=.ok (e,h')):
  (h'=h∧∀g,stepOp C cl ops true x F g=.ok (e,g))∨∃b m,m≠Blk.dead∧h[b]?=some .dead∧h'=h.set b m∧∀g:Hp,g[b]?=some .dead→stepOp C cl ops true x F g=.ok (e,g.set b m):=by
 obtain⟨t,d,hop,hdst⟩:∃t d,x.op=.alloc t∧x.dst=some d:=by
  unfold alDst at ha;split at ha
  ·rename_i t hop;exact⟨t,_,hop,Option.eq_some_of_isSome ha⟩
  ·cases ha
 have e0:∀g,twoG C.P true ops x F g=some (fillG C.P t (lk F d).2 g):=fun g=>by
  unfold twoG;rw[h2];simp only[Bool.and_self,hop,hdst]
 unfold stepOp at hx⊢;split at hx
 ·cases hx
 ·rename_i hgd;simp only[Except.ok.injEq,Prod.mk.injEq] at hx;obtain⟨rfl,rfl⟩:=hx
  exact .inl ⟨rfl,fun g=>by simp only[hgd]⟩
 ·rename_i hgd;simp only[e0] at hx;unfold fillG at hx;split at hx
  ·rename_i b hv;split at hx
   ·rename_i cs more hb hz;simp only[Except.ok.injEq,Prod.mk.injEq] at hx;obtain⟨rfl,rfl⟩:=hx
    refine .inr ⟨b,_,(by intro h;cases h),hb,rfl,fun g hg=> ?_⟩
    simp only[hgd,e0,fillG,hv,hg,hz]
   ·cases hx
  ·cases hx
theorem ro_step {x:Oper}(h2:twoA ops=true)(hr:roL ops x=true){e:Bool×AV}{h':Hp}(hx:stepOp C cl ops true x F h=.ok (e,h')):h'=h∧∀g,stepOp C cl ops true x F g=.ok (e,g):=by
 obtain⟨t,p,hop,hi⟩:∃t p,x.op=.load t (.tmp p)∧idxT ops p=true:=by
  unfold roL at hr;split at hr
  ·rename_i t p hop;exact⟨t,p,hop,hr⟩
  ·cases hr
 obtain⟨d,op,ty,pos,after,gd⟩:=x;simp only at hop;subst hop
 have e0:∀g,twoG C.P true ops ⟨d,.load t (.tmp p),ty,pos,after,gd⟩ F g=match(lk F p).2 with|.ro _=>none|_=>some (.error [1035]):=fun g=>by
  unfold twoG;rw[h2];simp only[Bool.and_self,hi]
  cases (lk F p).2<;>rfl
 simp only[stepOp] at hx⊢;split at hx
 ·cases hx
 ·simp only[Except.ok.injEq,Prod.mk.injEq] at hx;obtain⟨rfl,rfl⟩:=hx
  exact⟨rfl,fun g=>rfl⟩
 ·simp only[e0] at hx⊢
  cases hl:lk F p with
  |mk g1 v1=>
   rw[hl] at hx
   cases v1 with
   |ro cs=>
    simp only[stepGo,evalX,Bool.true_or,evalOp,evLoad,ev,hl] at hx⊢
    cases hrd:rd C.P t cs with
    |none=>rw[hrd] at hx;cases hx
    |some v=>
     rw[hrd] at hx
     cases g1 with
     |false=>cases hx
     |true=>
      simp only[Except.ok.injEq,Prod.mk.injEq] at hx⊢;obtain⟨rfl,rfl⟩:=hx
      exact⟨rfl,fun g=>⟨rfl,trivial⟩⟩
   |_=>cases hx
theorem swapTwo {x y:Oper}(hap:x.apart ops y=true)(htp:twoP ops x y=true){e1 e2:Bool×AV}{h1 h2:Hp}
  (hx:stepOp C cl ops true x F h=.ok (e1,h1)) (hy:stepOp C cl ops true y (putF F x.dst e1) h1=.ok (e2,h2)):
  ∃h3,stepOp C cl ops true y F h=.ok (e2,h3)∧stepOp C cl ops true x (putF F y.dst e2) h3=.ok (e1,h2)∧FrEq (putF (putF F x.dst e1) y.dst e2) (putF (putF F y.dst e2) x.dst e1):=by
 obtain⟨a1,a2,a3⟩:=Oper.apart_spec hap
 have cy:∀g,stepOp C cl ops true y (putF F x.dst e1) g=stepOp C cl ops true y F g:=fun g=>stepOp_congr y (fun t ht=>lk_put_ne fun hd=>a1 t hd ht) (.inl rfl) (.inr fun d hd=>lk_put_ne fun hdx=>a2 d hdx (alDst_dst hd))
 have cx:∀g,stepOp C cl ops true x (putF F y.dst e2) g=stepOp C cl ops true x F g:=fun g=>stepOp_congr x (fun t ht=>lk_put_ne fun hd=>a3 t hd ht) (.inl rfl) (.inr fun d hd=>lk_put_ne fun hdy=>a2 d (alDst_dst hd) hdy)
 have hp:FrEq (putF (putF F x.dst e1) y.dst e2) (putF (putF F y.dst e2) x.dst e1):=put_comm a2;rw[cy] at hy;unfold twoP at htp;rw[Bool.and_eq_true,Bool.or_eq_true,Bool.and_eq_true] at htp;obtain⟨t2,⟨hax,hay⟩|hro⟩:=htp
 ·rcases al_step t2 hax hx with ⟨rfl,hg⟩|⟨b,m,hm,hb,rfl,hg⟩
  ·exact⟨h2,hy,(cx h2).trans (hg h2),hp⟩
  ·rcases al_step t2 hay hy with ⟨rfl,hg'⟩|⟨b',m',hm',hb',rfl,hg'⟩
   ·exact⟨h,hg' h,(cx h).trans hx,hp⟩
   ·have hbl:b<h.length:=(List.getElem?_eq_some_iff.1 hb).1
    have hne:b≠b':=by
     rintro rfl
     rw[List.getElem?_set_self hbl] at hb'
     injection hb' with hb'
     exact hm hb'
    rw[List.getElem?_set_ne hne] at hb';refine⟨_,hg' h hb',?_,hp⟩
    rw[cx,hg _ (by rw[List.getElem?_set_ne (Ne.symm hne)];exact hb),List.set_comm _ _ hne]
 ·obtain⟨rfl,hg⟩:=ro_step t2 hro hx;exact⟨h2,hy,(cx h2).trans (hg h2),hp⟩
theorem execOps_congr {draw:Bool}:∀(l:List Oper) {F F':Fr} {h h':Hp} {G:Fr},FrEq F F'→execOps C cl ops draw l F h=.ok (G,h')→∃G',execOps C cl ops draw l F' h=.ok (G',h')∧FrEq G G'
 |[],F,F',h,h',G,he,hx=>by
  simp only[execOps,Except.ok.injEq,Prod.mk.injEq] at hx⊢;obtain⟨rfl,rfl⟩:=hx;exact⟨F',⟨rfl,rfl⟩,he⟩
 |o::l,F,F',h,h',G,he,hx=>by
  simp only[execOps] at hx⊢
  rw[←stepOp_congr (F:=F) (F':=F') o (fun t _=>he t) (.inr (he dS)) (.inr fun d _=>he d)]
  split at hx
  ·exact execOps_congr l (he.put _ _) hx
  ·cases hx
theorem pull (hcl:Blind cl){os:List Oper}{o:Oper}(hom:o∈os){post:List Oper}:∀(pre:List Oper) {F:Fr} {h h':Hp} {G:Fr},LsF os F→(∀x∈pre,x∈os∧x.apart ops o=true∧(calm C.P x.op o.op||lsP os x o||lsP os o x||twoP ops x o)=true)→
  execOps C cl ops true (pre++o::post) F h=.ok (G,h')→∃G',execOps C cl ops true (o::(pre++post)) F h=.ok (G',h')∧FrEq G G'
 |[],F,h,h',G,_,_,hx=>⟨G,hx,FrEq.refl G⟩
 |x::pre,F,h,h',G,hF,hap,hx=>by
  rw[List.cons_append] at hx;simp only[execOps,dstW] at hx
  cases hs:stepOp C cl ops true x F h with
  |error e=>rw[hs] at hx;cases hx
  |ok r=>
   obtain⟨e1,h1⟩:=r;rw[hs] at hx;simp only at hx
   obtain⟨G1,hx1,he1⟩:=pull hcl hom pre (hF.put (hap x (by simp)).1 hs) (fun y hy=>hap y (by simp[hy])) hx
   simp only[execOps,dstW] at hx1
   cases hs2:stepOp C cl ops true o (putF F x.dst e1) h1 with
   |error e=>rw[hs2] at hx1;cases hx1
   |ok r2=>
    obtain⟨e2,h2⟩:=r2;rw[hs2] at hx1;simp only at hx1
    have hsw:∃h3,stepOp C cl ops true o F h=.ok (e2,h3)∧stepOp C cl ops true x (putF F o.dst e2) h3=.ok (e1,h2)∧FrEq (putF (putF F x.dst e1) o.dst e2) (putF (putF F o.dst e2) x.dst e1):=by
     obtain⟨m1,m2,m3⟩:=hap x (by simp)
     cases hcm:calm C.P x.op o.op with
     |true=>exact swap hcl m2 hcm hs hs2
     |false=>
      rw[hcm,Bool.false_or,Bool.or_eq_true] at m3
      rcases m3 with m3|m3
      ·exact swapLS hF m1 hom m2 m3 hs hs2
      ·exact swapTwo m2 m3 hs hs2
    obtain⟨h3,k1,k2,k3⟩:=hsw;obtain⟨G2,hx2,he2⟩:=execOps_congr _ k3 hx1;refine⟨G2,?_,he1.trans he2⟩;rw[List.cons_append];simp only[execOps,dstW,k1,k2];exact hx2
end
end Go.Ai
