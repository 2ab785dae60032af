/-
  Drawn regions: in whatever order the operations are done, they come to the same.
-/
import Derived.Test.YtopjpnhgnopbiaaGreatDoorLAiReg
set_option linter.unusedVariables false
set_option linter.unusedSimpArgs false
set_option linter.unnecessarySimpa false
namespace Go.Ai
open Go.RowKit
def Db (F F':Fr):Prop:=∀n,lk F n=lk F' n
theorem Db.refl (F:Fr):Db F F:=fun _=>rfl
theorem Db.trans {F G H:Fr}(h:Db F G)(k:Db G H):Db F H:=fun n=>(h n).trans (k n)
theorem Db.put {F F':Fr}(h:Db F F')(d:Option Nat)(e:Bool×AV):Db (Aq F d e) (Aq F' d e):=by
 cases d with
 |none=>exact h
 |some d=>
  intro n;simp only[Aq,lk];rw[h n]
theorem Az {F:Fr}{d:Option Nat}{e:Bool×AV}{n:Nat}(h:d≠some n):lk (Aq F d e) n=lk F n:=by
 cases d with
 |none=>rfl
 |some d=>
  have BU:d≠n:=fun he=>h (by rw[he])
  have hb:Nat.beq d n=false:=by
   cases hb:Nat.beq d n with
   |false=>rfl
   |true=>exact absurd (Nat.eq_of_beq_eq_true hb) BU
  simp[Aq,lk,hb]
theorem ZO {F:Fr}{t:Nat}{e:Bool×AV}:lk (Aq F (some t) e) t=e:=by simp[Aq,lk,Nat.beq_refl]
theorem put_comm {F:Fr}{d d':Option Nat}{e e':Bool×AV}(h:∀x,d=some x->d'≠some x):Db (Aq (Aq F d e) d' e') (Aq (Aq F d' e') d e):=by
 intro n
 cases d with
 |none=>rfl
 |some d=>
  cases d' with
  |none=>rfl
  |some d'=>
   have BU:d≠d':=fun he=>h d rfl (by rw[he])
   simp only[Aq,lk]
   cases h1:Nat.beq d' n<;>cases h2:Nat.beq d n<;>simp
   exact absurd ((Nat.eq_of_beq_eq_true h2).trans (Nat.eq_of_beq_eq_true h1).symm) BU
theorem Ur {G:Nat->Option (List AV)}{F F':Fr}{x:Operand}(h:∀t,x=.tmp t->lk F t=lk F' t):ev G F x=ev G F' x:=by
 cases x with
 |tmp t=>exact h t rfl
 |_=>rfl
theorem JS {G:Nat->Option (List AV)}{F F':Fr}{l:List Operand}(h:∀x∈l,ev G F x=ev G F' x):MU G F l=MU G F' l:=by
 simp only[MU]
 congr 1
 ·induction l with
  |nil=>rfl
  |cons x l ih=>
   rw[List.all_cons,List.all_cons,h x (by simp),ih fun y hy=>h y (by simp[hy])]
 ·exact List.map_congr_left fun x hx=>by rw[h x hx]
section
variable {C:Bh}{F F':Fr}{h:Hp}{dr:Bool}
theorem Ib (parts:Array (Nat×Operand))(hx:∀x∈(parts.toList.map (·.2)).toArray,ev C.G F x=ev C.G F' x):∀p∈parts.toList,ev C.G F p.2=ev C.G F' p.2:=fun p hp=>
 hx p.2 (by simp only[List.mem_toArray,List.mem_map];exact⟨p,hp,rfl⟩)
theorem KU {α:Type}{l:List α}{f g:α->Bool}(h:∀x∈l,f x=g x):l.all f=l.all g:=by
 induction l with
 |nil=>rfl
 |cons x l ih=>rw[List.all_cons,List.all_cons,h x (by simp),ih fun y hy=>h y (by simp[hy])]
theorem QM (t:TypeId)(parts:Array (Nat×Operand))(hp:∀p∈parts.toList,ev C.G F p.2=ev C.G F' p.2):JT C dr F h t parts=JT C dr F' h t parts:=by
 unfold JT
 have e1:(parts.toList.map fun p=>(p.1,(ev C.G F p.2).2))=parts.toList.map fun p=>(p.1,(ev C.G F' p.2).2):=List.map_congr_left fun p hm=>by rw[hp p hm]
 have e2:(parts.toList.all fun p=>(ev C.G F p.2).1&&CM (ev C.G F p.2).2)=parts.toList.all fun p=>(ev C.G F' p.2).1&&CM (ev C.G F' p.2).2:=KU fun p hm=>by rw[hp p hm]
 rw[e1,e2]
theorem KN (t:TypeId)(len:Nat)(parts:Array (Nat×Operand))(hp:∀p∈parts.toList,ev C.G F p.2=ev C.G F' p.2):Cr C dr F h t len parts=Cr C dr F' h t len parts:=by
 unfold Cr
 have e1:(parts.toList.map fun p=>flat (ev C.G F p.2).2)=parts.toList.map fun p=>flat (ev C.G F' p.2).2:=List.map_congr_left fun p hm=>by rw[hp p hm]
 have e2:(parts.toList.all fun p=>(ev C.G F p.2).1&&CM (ev C.G F p.2).2)=parts.toList.all fun p=>(ev C.G F' p.2).1&&CM (ev C.G F' p.2).2:=KU fun p hm=>by rw[hp p hm]
 have e3:∀n:Nat,(parts.toList.all fun p=>Nat.beq (flat (ev C.G F p.2).2).length n)=parts.toList.all fun p=>Nat.beq (flat (ev C.G F' p.2).2).length n:=fun n=>KU fun p hm=>by rw[hp p hm]
 simp only[e1,e2,e3]
theorem LD (o:Oper)(hx:∀x∈o.op.operands,ev C.G F x=ev C.G F' x):evalOp C dr F h o=evalOp C dr F' h o:=by
 obtain⟨d,op,ty,pos,after,gd⟩:=o
 have mem:∀{x:Operand} {l:List Operand},x∈l->x∈l.toArray:=fun hm=>by simpa using hm
 cases op
 case move x=>
  have e:=hx x (by simp[Op.operands])
  cases x<;>simp only[evalOp,Gi,e]
 case assign x=>
  have e:=hx x (by simp[Op.operands])
  cases x<;>simp only[evalOp,Gi,e]
 case pick c a b=>
  simp only[evalOp,Pa,hx c (by simp[Op.operands]),hx a (by simp[Op.operands]),hx b (by simp[Op.operands])]
 case box t x=>simp only[evalOp,hx x (by simp[Op.operands])]
 case range t x=>simp only[evalOp,Sj,hx x (by simp[Op.operands])]
 case next it b=>simp only[evalOp,W8,hx it (by simp[Op.operands])]
 case typeAssert x xt t ok=>simp only[evalOp,LI,hx x (by simp[Op.operands])]
 case makeSlice t l c=>simp only[evalOp,Sk,hx l (by simp[Op.operands]),hx c (by simp[Op.operands])]
 case build t parts=>exact QM t parts (Ib parts hx)
 case buildSlice t len parts=>exact KN t len parts (Ib parts hx)
 case load t x=>simp only[evalOp,Hy,hx x (by simp[Op.operands])]
 case store t x y=>simp only[evalOp,Nu,hx x (by simp[Op.operands]),hx y (by simp[Op.operands])]
 case nilCheck x=>simp only[evalOp,EU,hx x (by simp[Op.operands])]
 case binOp op t x y z=>simp only[evalOp,Uv,Uu,hx x (by simp[Op.operands]),hx y (by simp[Op.operands])]
 case unOp op t x=>simp only[evalOp,hx x (by simp[Op.operands])]
 case convert s t x=>simp only[evalOp,Hb,hx x (by simp[Op.operands])]
 case makeFunc f first cap=>
  have e1:MU C.G F first.toList=MU C.G F' first.toList:=JS fun x hm=>hx x (by simp[Op.operands];exact .inl (by simpa using hm))
  have e2:MU C.G F cap.toList=MU C.G F' cap.toList:=JS fun x hm=>hx x (by simp[Op.operands];exact .inr (by simpa using hm))
  simp only[evalOp,e1,e2]
 case slice t x lo hi mx=>
  have e:=hx x (by simp[Op.operands])
  have el:lo.map (ev C.G F)=lo.map (ev C.G F'):=by
   cases lo with
   |none=>rfl
   |some l=>exact congrArg some (hx l (by simp[Op.operands]))
  have eh:hi.map (ev C.G F)=hi.map (ev C.G F'):=by
   cases hi with
   |none=>rfl
   |some l=>exact congrArg some (hx l (by simp[Op.operands]))
  simp only[evalOp,Hx,Iw,e,el,eh]
 case fieldAddr s x f=>simp only[evalOp,Dn,hx x (by simp[Op.operands])]
 case field s x f=>simp only[evalOp,LH,hx x (by simp[Op.operands])]
 case indexAddr t x i=>simp only[evalOp,Dm,hx x (by simp[Op.operands]),hx i (by simp[Op.operands])]
 case index t x i=>simp only[evalOp,LG,hx x (by simp[Op.operands]),hx i (by simp[Op.operands])]
 case extract t ix=>simp only[evalOp,Ha,hx t (by simp[Op.operands])]
 case call c=>
  obtain⟨callee,args,CG⟩:=c
  cases callee with
  |builtin b=>
   have ha:∀x∈args.toList,ev C.G F x=ev C.G F' x:=fun x hm=>hx x (by simp[Op.operands,Call.operands];simpa using hm)
   simp only[evalOp];generalize args.toList=l at ha⊢;generalize CG.toList=ts;unfold GL;split
   ·rename_i x t
    simp only[RH,ha x (by simp)]
   ·rename_i x y
    simp only[YN,ha x (by simp),ha y (by simp)]
   ·rename_i x y
    simp only[YM,ha x (by simp),ha y (by simp)]
   ·rename_i s x t t'
    simp only[LJ,JU,ha s (by simp),ha x (by simp)]
   ·rfl
  |_=>rfl
 all_goals rfl
theorem Us (o:Oper)(hx:∀x∈o.op.operands,ev C.G F x=ev C.G F' x):Bx C F h o=Bx C F' h o:=by
 obtain⟨d,op,ty,pos,after,gd⟩:=o;cases op
 case buildSlice t len parts=>
  have hp:=Ib parts hx;simp only[Bx];split
  ·rename_i p _ _ hl
   rw[hp p (by rw[hl];simp)]
  ·rfl
 case load t x=>simp only[Bx,hx x (by simp[Op.operands])]
 case store t x y=>simp only[Bx,hx x (by simp[Op.operands]),hx y (by simp[Op.operands])]
 case nilCheck x=>simp only[Bx,hx x (by simp[Op.operands])]
 case fieldAddr s x f=>simp only[Bx,hx x (by simp[Op.operands])]
 case indexAddr t x i=>simp only[Bx,hx x (by simp[Op.operands]),hx i (by simp[Op.operands])]
 case lookup t x i ok=>simp only[Bx,hx x (by simp[Op.operands]),hx i (by simp[Op.operands])]
 case slice t x lo hi mx=>
  have e:=hx x (by simp[Op.operands])
  have eh:hi.map (ev C.G F)=hi.map (ev C.G F'):=by
   cases hi with
   |none=>rfl
   |some l=>exact congrArg some (hx l (by simp[Op.operands]))
  simp only[Bx,e,eh]
 case call c=>
  obtain⟨callee,args,CG⟩:=c
  cases callee with
  |builtin b=>
   have ha:∀x∈args.toList,ev C.G F x=ev C.G F' x:=fun x hm=>hx x (by simp[Op.operands,Call.operands];simpa using hm)
   cases b<;>try rfl
   ·simp only[Bx];split
    ·rename_i s x t t' hl S9
     simp only[ha s (by rw[hl];simp),ha x (by rw[hl];simp)]
    ·rfl
   ·simp only[Bx];split
    ·rename_i x t hl S9
     simp only[ha x (by rw[hl];simp)]
    ·rfl
  |_=>rfl
 all_goals rfl
theorem Uq (o:Oper)(hx:∀x∈o.op.operands,ev C.G F x=ev C.G F' x):Bg C dr F h o=Bg C dr F' h o:=by
 unfold Bg;rw[LD o hx,LD (dr:=false) o hx,Us o hx]
theorem Rf {cl:FuncId->List AV->Hp->Except (List Nat) (AV×Hp)}{draw:Bool}(o:Oper)(hx:∀x∈o.op.operands,ev C.G F x=ev C.G F' x)(hd:draw=true\/lk F dS=lk F' dS):BB C cl draw o F h=BB C cl draw o F' h:=by
 have e:=fun dr=>Uq (C:=C) (F:=F) (F':=F') (h:=h) (dr:=dr) o hx
 unfold BB;split
 ·rename_i x args CG Bc;rw[Bc] at hx
  have e1:ev C.G F x=ev C.G F' x:=hx x (by simp[Op.operands,Call.operands])
  have e2:MU C.G F args.toList=MU C.G F' args.toList:=JS fun y hm=>hx y (by simp[Op.operands,Call.operands];exact .inr (by simpa using hm))
  rw[e1,e2]
 ·rename_i x args CG Bc;rw[Bc] at hx
  have e1:ev C.G F x=ev C.G F' x:=hx x (by simp[Op.operands,Call.operands])
  rcases hd with rfl|hd
  ·simp
  ·rw[e1,hd]
 ·rw[e]
theorem Vb {P:Program}{ops:Array Oper}{draw:Bool}(o:Oper)(hx:∀t∈o.looksAt ops,lk F t=lk F' t)(h2:draw=false\/∀d,IK o=some d->lk F d=lk F' d):Ef P draw ops o F h=Ef P draw ops o F' h:=by
 unfold Ef
 cases draw with
 |false=>rfl
 |true=>
  cases Yh ops with
  |false=>rfl
  |true=>
   simp only[Bool.and_self];split
   ·rename_i t d Bc QJ
    rcases h2 with h2|h2
    ·cases h2
    ·rw[h2 d (by simp[IK,Bc,QJ])]
   ·rename_i p Bc
    rw[hx p (by
     refine List.mem_append_left _ (List.mem_filterMap.2 ⟨.tmp p,?_,rfl⟩);rw[Bc]
     simp[Op.operands])]
   ·rfl
theorem Vc {P:Program}{ops:Array Oper}{draw:Bool}(o:Oper)(ht:DL P o.op=false)(h:Hp):Ef P draw ops o F h=none:=by
 unfold Ef;split
 ·rfl
 ·split
  ·rename_i Bc _;rw[Bc] at ht;simp[DL,effect] at ht
  ·rename_i Bc;rw[Bc] at ht;simp[DL] at ht
  ·rfl
theorem Jr {P:Program}{ops:Array Oper}{draw:Bool}(o:Oper)(ht:effect P o.op=false):(∀g,Ef P draw ops o F g=none)\/∃x,∀g,Ef P draw ops o F g=some (.error x):=by
 unfold Ef;split
 ·exact .inl fun _=>rfl
 ·split
  ·rename_i Bc _;rw[Bc] at ht;simp[effect] at ht
  ·split
   ·exact .inl fun _=>rfl
   ·exact .inr ⟨_,fun _=>rfl⟩
   ·exact .inl fun _=>rfl
  ·exact .inl fun _=>rfl
theorem Ng {P:Program}{ops:Array Oper}{draw:Bool}(o:Oper)(ht:∀t,o.op≠.alloc t)(pk:∀t p,o.op≠.load t (.tmp p))(h:Hp):Ef P draw ops o F h=none:=by
 unfold Ef;split
 ·rfl
 ·split
  ·rename_i Bc _;exact absurd Bc (ht _)
  ·rename_i Bc;exact absurd Bc (pk _ _)
  ·rfl
theorem Bt {cl:FuncId->List AV->Hp->Except (List Nat) (AV×Hp)}{ops:Array Oper}{draw:Bool}(o:Oper)(hx:∀t∈o.looksAt ops,lk F t=lk F' t)(gw:draw=true\/lk F dS=lk F' dS)(h2:draw=false\/∀d,IK o=some d->lk F d=lk F' d):AW C cl ops draw o F h=AW C cl ops draw o F' h:=by
 have hg:guardOf ops F o=guardOf ops F' o:=by
  unfold guardOf
  cases Qy:o.guard with
  |none=>rfl
  |some jw=>
   obtain⟨j,want⟩:=jw;simp only
   cases hd:(ops[j]?).bind (·.dst) with
   |none=>rfl
   |some d=>
    simp only
    rw[hx d (by simp[Oper.looksAt,Qy,hd])]
 have hs:BB C cl draw o F h=BB C cl draw o F' h:=Rf o (fun x hm=>Ur fun t ht=>hx t (by
  subst ht
  exact List.mem_append_left _ (List.mem_filterMap.2 ⟨.tmp t,by simpa using hm,rfl⟩))) gw
 unfold AW;rw[hg,hs,Vb o hx h2]
def Hf (cl:FuncId->List AV->Hp->Except (List Nat) (AV×Hp)):Prop:=
 ∀k vs h v h',cl k vs h=.ok (v,h')->h'=h/\∀g,cl k vs g=.ok (v,g)
theorem QR {P:Program}{t:TypeId}{n:Nat}{cs:List AV}{more:Hp}(hz:zeroOf P true t n=some (cs,more)):more=[]/\∀m,zeroOf P true t m=some (cs,[]):=by
 unfold zeroOf at hz⊢
 cases hi:P.info? t with
 |none=>rw[hi] at hz;cases hz
 |some i=>
  rw[hi] at hz;simp only at hz⊢
  cases gf:i.zero with
  |none=>rw[gf] at hz;cases hz
  |some z=>
   rw[gf] at hz;simp only at hz⊢
   cases hb:(!(z.cells.toList.all (·.oneCell'))) with
   |true=>rw[hb] at hz;cases hz
   |false=>
    rw[hb] at hz;simp only[cond_false,Option.some.injEq,Prod.mk.injEq] at hz⊢
    exact⟨hz.2.symm,fun _=>⟨hz.1,trivial⟩⟩
theorem Ut (t:TypeId)(x:Operand)(lo hi mx:Option Operand):Iw C true F h t x lo hi mx=none:=by simp[Iw]
theorem Nb (o:Oper){t:TypeId}{x:Operand}{lo hi mx:Option Operand}(ho:o.op=.slice t x lo hi mx):evalOp C true F h o=Hx C F h t x lo hi mx:=by
 unfold evalOp;rw[ho];simp only[Ut]
 cases Hx C F h t x lo hi mx<;>rfl
theorem LF (o:Oper)(ht:DL C.P o.op=false){r:Bool×(Bool×AV)}{h':Hp}(hx:evalOp C true F h o=some (r.1,r.2,h')):h'=h/\∀g,evalOp C true F g o=some (r.1,r.2,g):=by
 obtain⟨d,op,ty,pos,after,gd⟩:=o;obtain⟨r1,r2⟩:=r
 have mv:∀x:Operand,Gi C true F h ty x=some (r1,r2,h')->h'=h/\∀g,Gi C true F g ty x=some (r1,r2,g):=by
  intro x hx
  cases x with
  |const v=>
   simp only[Gi] at hx⊢
   cases hn:T6 v<;>rw[hn] at hx<;>simp only[Option.some.injEq,Prod.mk.injEq] at hx⊢<;>exact⟨hx.2.2.symm,fun _=>⟨hx.1,hx.2.1,trivial⟩⟩
  |_=>
   simp only[Gi,Option.some.injEq,Prod.mk.injEq] at hx⊢
   exact⟨hx.2.2.symm,fun _=>⟨hx.1,hx.2.1,trivial⟩⟩
 cases op<;>simp only[DL,effect,Bool.true_eq_false] at ht
 case move x=>exact mv x hx
 case assign x=>exact mv x hx
 case pick c a b=>
  simp only[evalOp,Pa] at hx⊢
  split at hx<;>simp_all
 case build t parts=>
  simp only[evalOp,JT] at hx⊢;split at hx
  ·rename_i fs z more hu hz;obtain⟨rfl,nq⟩:=QR hz;split at hx
   ·rename_i cs hf;simp only[Option.some.injEq,Prod.mk.injEq] at hx;obtain⟨rfl,rfl,rfl⟩:=hx
    refine⟨by simp,fun g=> ?_⟩
    simp only[hu,nq g.length,hf,List.append_nil]
   ·cases hx
  ·rename_i m e z more hu hz;obtain⟨rfl,nq⟩:=QR hz;split at hx
   ·rename_i cs hf;simp only[Option.some.injEq,Prod.mk.injEq] at hx;obtain⟨rfl,rfl,rfl⟩:=hx
    refine⟨by simp,fun g=> ?_⟩
    simp only[hu,nq g.length,hf,List.append_nil]
   ·cases hx
  ·cases hx
 case buildSlice t len parts=>
  simp only[evalOp,Cr] at hx⊢;split at hx
  ·generalize hb:(_&&_:Bool)=b at hx⊢
   cases b with
   |false=>simp at hx
   |true=>simp_all
  ·cases hx
 case nilCheck x=>
  simp only[evalOp,EU] at hx⊢
  split at hx<;>simp_all
 case binOp op t x y z=>
  simp only[evalOp,Uv] at hx⊢;split at hx
  ·simp_all
  ·split at hx
   ·simp_all
   ·simp_all
   ·unfold Uu at hx⊢;split at hx
    ·split at hx<;>simp_all
    ·split at hx<;>simp_all
    ·cases hx
 case unOp op t x=>
  simp only[evalOp] at hx⊢
  split at hx<;>simp_all
 case convert s t x=>
  simp only[evalOp,Hb] at hx⊢;unfold RM at ht;split at hx
  ·simp_all
  ·simp_all
  ·simp_all
  ·simp_all
  ·simp_all
  ·rename_i e g1 l hs hd ny;rw[hs,hd] at ht;simp at ht
  ·split at hx<;>simp_all
 case makeFunc f first cap=>
  simp only[evalOp,Option.some.injEq,Prod.mk.injEq] at hx⊢
  exact⟨hx.2.2.symm,fun _=>⟨hx.1,hx.2.1,trivial⟩⟩
 case slice t x lo hi mx=>
  have e0:∀g,evalOp C true F g ⟨d,.slice t x lo hi mx,ty,pos,after,gd⟩=Hx C F g t x lo hi mx:=fun g=>Nb (h:=g) ⟨d,.slice t x lo hi mx,ty,pos,after,gd⟩ rfl
  rw[e0] at hx;simp only[e0];simp only[Hx] at hx⊢
  split at hx<;>simp_all
 case fieldAddr s x f=>
  simp only[evalOp,Dn] at hx⊢;split at hx
  ·split at hx
   ·generalize hb:Nat.beq _ _=b at hx⊢
    cases b with
    |true=>simp at hx
    |false=>split at hx<;>simp_all
   ·cases hx
  ·cases hx
 case field s x f=>
  simp only[evalOp,LH] at hx⊢;split at hx
  ·split at hx
   ·split at hx<;>simp_all
   ·cases hx
  ·cases hx
 case indexAddr t x i=>
  simp only[evalOp,Dm] at hx⊢
  split at hx<;>simp_all
 case index t x i=>
  simp only[evalOp,LG] at hx⊢
  split at hx<;>simp_all
 case typeAssert x xt t ok=>
  simp only[evalOp,LI] at hx⊢;split at hx
  ·cases hx
  ·split at hx
   ·simp_all
   ·cases hx
  ·cases hx
 case extract t ix=>
  simp only[evalOp,Ha] at hx⊢;split at hx
  ·split at hx<;>simp_all
  ·cases hx
 case call c=>
  obtain⟨callee,args,CG⟩:=c
  cases callee with
  |builtin b=>
   simp only[evalOp] at hx⊢;generalize args.toList=l at hx⊢;generalize CG.toList=ts at hx⊢;unfold GL at hx⊢;split at hx
   ·simp only[RH] at hx⊢
    split at hx<;>simp_all
   ·simp only[YN] at hx⊢
    split at hx<;>simp_all
   ·simp only[YM] at hx⊢
    split at hx<;>simp_all
   ·simp at ht
   ·cases hx
  |_=>simp[evalOp] at hx
 all_goals (simp[evalOp] at hx)
theorem GB (o:Oper)(ht:effect C.P o.op=false){r:Bool×(Bool×AV)}{h':Hp}(hx:evalOp C true F h o=some (r.1,r.2,h')):h'=h:=by
 cases lz:DL C.P o.op with
 |false=>exact(LF o lz hx).1
 |true=>
  obtain⟨d,op,ty,pos,after,gd⟩:=o;obtain⟨r1,r2⟩:=r
  cases op<;>simp only[DL,ht,Bool.false_eq_true] at lz
  case load t x=>
   simp only[evalOp,Hy] at hx;split at hx
   ·split at hx<;>simp_all
   ·split at hx
    ·split at hx<;>simp_all
    ·cases hx
   ·cases hx
  case convert s t x=>
   simp only[evalOp,Hb] at hx;split at hx
   ·split at hx<;>simp_all
   ·split at hx<;>simp_all
   ·simp_all
   ·split at hx<;>simp_all
   ·split at hx<;>simp_all
   ·rename_i e g1 l hs hd ny;simp[effect,TQ,hs,hd] at ht
   ·split at hx<;>simp_all
variable {cl:FuncId->List AV->Hp->Except (List Nat) (AV×Hp)}{ops:Array Oper}
theorem Ek (Da:Hf cl)(o:Oper)(ht:DL C.P o.op=false){e:Bool×AV}{h':Hp}(hx:AW C cl ops true o F h=.ok (e,h')):h'=h/\∀g,AW C cl ops true o F g=.ok (e,g):=by
 unfold AW at hx⊢;split at hx
 ·cases hx
 ·simp only[Except.ok.injEq,Prod.mk.injEq] at hx;obtain⟨rfl,rfl⟩:=hx
  exact⟨rfl,fun _=>rfl⟩
 ·simp only[Vc o ht] at hx⊢;unfold BB at hx⊢;split at hx
  ·split at hx
   ·split at hx
    ·simp_all
    ·cases hx
    ·split at hx
     ·rename_i hc;simp only[Except.ok.injEq,Prod.mk.injEq] at hx;obtain⟨rfl,rfl⟩:=hx;obtain⟨rfl,hg⟩:=Da _ _ _ _ _ hc
      refine⟨rfl,fun g=> ?_⟩
      simp_all
     ·cases hx
   ·cases hx
  ·simp at hx
  ·simp only[Bool.true_or,Bg] at hx⊢;split at hx
   ·rename_i e' h2 MM;simp only[Except.ok.injEq,Prod.mk.injEq] at hx;obtain⟨rfl,rfl⟩:=hx;obtain⟨rfl,hg⟩:=LF (r:=(true,e')) o ht MM
    exact⟨rfl,fun g=>by simp[hg g]⟩
   ·cases hx
   ·cases hx
theorem Kf (Da:Hf cl)(o:Oper)(ht:effect C.P o.op=false){e:Bool×AV}{h':Hp}(hx:AW C cl ops true o F h=.ok (e,h')):h'=h:=by
 cases lz:DL C.P o.op with
 |false=>exact(Ek Da o lz hx).1
 |true=>
  unfold AW at hx;split at hx
  ·cases hx
  ·simp only[Except.ok.injEq,Prod.mk.injEq] at hx;exact hx.2.symm
  ·rcases Jr (P:=C.P) (F:=F) (ops:=ops) (draw:=true) o ht with h0|⟨x,h0⟩
   case inr=>rw[h0] at hx;cases hx
   simp only[h0] at hx;unfold BB at hx;split at hx
   ·rename_i Bc;rw[Bc] at lz;simp[DL,effect] at lz
   ·simp at hx
   ·simp only[Bool.true_or] at hx;split at hx
    ·rename_i e' h2 MM;simp only[Except.ok.injEq,Prod.mk.injEq] at hx;obtain⟨rfl,rfl⟩:=hx;exact GB (r:=(true,e')) o ht MM
    ·cases hx
    ·cases hx
theorem Ky {os:List Oper}{x y:Oper}(h:VN os x y=true):∃t p t' q v r r',x.op=.load t (.tmp p)/\y.op=.store t' (.tmp q) v/\x.guard=none/\y.guard=none/\EH os GU p=some r/\EH os GU q=some r':=by
 unfold VN at h;split at h
 ·rename_i t p t' q v h1 h2 h3 h4;split at h
  ·rename_i r r' h5 h6;exact⟨t,p,t',q,v,r,r',h1,h2,h3,h4,h5,h6⟩
  ·cases h
 ·cases h
theorem Fb {os:List Oper}{t:Nat}(h:Mi os t=true){z:Oper}(hz:z∈os):z.dst≠some t:=by
 intro e;have h1:=List.all_eq_true.1 h z hz;rw[e] at h1;simp[Nat.beq_refl] at h1
theorem EO {os:List Oper}:∀{n t r:Nat},EH os n t=some r->Mi os r=true
 |0,t,r,h=>by cases h
 |n+1,t,r,h=>by
  unfold EH at h;split at h
  ·rename_i hs;injection h with h;subst h;exact hs
  ·split at h
   ·exact EO h
   ·cases h
theorem OO {os:List Oper}:∀{n t r:Nat},EH os n t=some r->EH os (n+1) t=some r
 |0,t,r,h=>by cases h
 |n+1,t,r,h=>by
  rw[EH] at h⊢
  cases hs:Mi os t with
  |true=>rw[hs] at h;exact h
  |false=>
   rw[hs] at h;simp only at h⊢
   cases hx:TT os t with
   |none=>rw[hx] at h;cases h
   |some x=>
    rw[hx] at h;simp only at h⊢;exact OO h
theorem Yp {o:Oper}{x:Nat}(h:js o=some x):o.guard=none/\(o.op=.move (.tmp x)\/o.op=.nilCheck (.tmp x)\/∃s k,o.op=.fieldAddr s (.tmp x) k):=by
 unfold js at h;split at h
 ·rename_i x' h1 h2;injection h with h;subst h;exact⟨h2,.inl h1⟩
 ·rename_i x' h1 h2;injection h with h;subst h;exact⟨h2,.inr (.inl h1)⟩
 ·rename_i s x' k h1 h2;injection h with h;subst h;exact⟨h2,.inr (.inr ⟨s,k,h1⟩)⟩
 ·cases h
theorem OH {os:List Oper}{t x:Nat}(h:TT os t=some x){z:Oper}(hz:z∈os)(hd:z.dst=some t):z.guard=none/\(z.op=.move (.tmp x)\/z.op=.nilCheck (.tmp x)\/∃s k,z.op=.fieldAddr s (.tmp x) k):=by
 unfold TT at h
 have hm:z∈os.filter (Js t):=List.mem_filter.2 ⟨hz,by unfold Js;rw[hd];simp[Nat.beq_refl]⟩
 generalize os.filter (Js t)=l at h hm
 cases l with
 |nil=>cases hm
 |cons o l2=>
  cases l2 with
  |cons=>cases h
  |nil=>
   obtain rfl:=List.mem_singleton.1 hm;exact Yp h
def Ye (os:List Oper)(F:Fr):Prop:=∀t r,EH os GU t=some r->∀g b o,lk F t=(g,.ptr b o)->∃g' o',lk F r=(g',.ptr b o')
def VX (os:List Oper)(F:Fr):Prop:=(∀x∈os,∀y∈os,VN os x y=true->lu os F x y=true)/\((∃o∈os,SU o.op=true)->Ye os F)
theorem Vu {os:List Oper}{F:Fr}{t:Nat}(h:bd os F t=true){r:Nat}(hr:EH os GU t=some r){g:Bool}{b o:Nat}(hl:lk F t=(g,.ptr b o)):∃g' o',lk F r=(g',.ptr b o'):=by
 unfold bd at h;rw[hr] at h;simp only[hl] at h;split at h
 ·rename_i g' b' o' Wd;have:=Nat.eq_of_beq_eq_true h;subst this;exact⟨g',o',Wd⟩
 ·cases h
theorem cP {os:List Oper}{F:Fr}(h:SQ os F=true):VX os F:=by
 unfold SQ at h;rw[Bool.and_eq_true] at h
 refine⟨fun x hx y hy hp=> ?_,fun DJ t r hr g b o hl=> ?_⟩
 ·have h1:=List.all_eq_true.1 (List.all_eq_true.1 h.1 x hx) y hy;rw[hp] at h1;simpa using h1
 ·have ha:(os.any fun o=>SU o.op)=true:=List.any_eq_true.2 DJ
  have h2:=h.2;rw[ha] at h2;simp only[Bool.not_true,Bool.false_or] at h2
  cases hs:Mi os t with
  |true=>
   have:EH os GU t=some t:=by unfold GU EH;rw[hs]
   rw[this] at hr
   injection hr with hr
   subst hr;exact⟨g,o,hl⟩
  |false=>
   obtain⟨z,hz,hd⟩:∃z∈os,z.dst=some t:=by
    unfold Mi at hs;obtain⟨z,hz,dI⟩:=List.all_eq_false.1 hs;refine⟨z,hz,?_⟩
    cases hd:z.dst with
    |none=>rw[hd] at dI;simp at dI
    |some d=>
     rw[hd] at dI;simp only[Bool.not_eq_true,Bool.not_eq_false'] at dI
     have:Nat.beq d t=true:=by simpa using dI
     rw[Nat.eq_of_beq_eq_true this]
   have h3:=List.all_eq_true.1 h2 z hz;rw[hd] at h3;exact Vu h3 hr hl
theorem bM {os:List Oper}{t x:Nat}(h:TT os t=some x){z:Oper}(hz:z∈os)(hd:z.dst=some t){e:Bool×AV}{h':Hp}{h0:Hp}(hs:AW C cl ops true z F h0=.ok (e,h')){g:Bool}{b o:Nat}(he:e=(g,.ptr b o)):
  ∃g' o',lk F x=(g',.ptr b o'):=by
 obtain⟨hg,Bc⟩:=OH h hz hd;obtain⟨d,op,ty,pos,after,gd⟩:=z;simp only at hg Bc;subst hg
 rcases Bc with Bc|Bc|⟨s,k,Bc⟩
 ·subst Bc
  simp only[AW,guardOf,Ng ⟨d,.move (.tmp x),ty,pos,after,none⟩ (fun _ h=>by cases h) (fun _ _ h=>by cases h),BB,Bg,Bool.true_or,evalOp,Gi,ev] at hs
  simp only[Except.ok.injEq,Prod.mk.injEq] at hs;obtain⟨rfl,-⟩:=hs;exact⟨g,o,he⟩
 ·subst Bc
  simp only[AW,guardOf,Ng ⟨d,.nilCheck (.tmp x),ty,pos,after,none⟩ (fun _ h=>by cases h) (fun _ _ h=>by cases h),BB,Bg,Bool.true_or,evalOp,EU,ev] at hs
  cases hx:lk F x with
  |mk g1 v1=>
   rw[hx] at hs
   cases v1 with
   |ptr b1 o1=>
    cases g1 with
    |false=>cases hs
    |true=>
     simp only[Except.ok.injEq,Prod.mk.injEq] at hs;obtain⟨rfl,-⟩:=hs;simp only[Prod.mk.injEq,AV.ptr.injEq] at he;obtain⟨-,rfl,-⟩:=he;exact⟨true,o1,rfl⟩
   |ro cs=>
    cases g1 with
    |false=>cases hs
    |true=>
     simp only[Except.ok.injEq,Prod.mk.injEq] at hs;obtain⟨rfl,-⟩:=hs;cases he
   |_=>cases hs
 ·subst Bc
  simp only[AW,guardOf,Ng ⟨d,.fieldAddr s (.tmp x) k,ty,pos,after,none⟩ (fun _ h=>by cases h) (fun _ _ h=>by cases h),BB,Bg,Bool.true_or,evalOp,Dn,ev] at hs
  split at hs
  ·rename_i e1 h1 hm;simp only[Except.ok.injEq,Prod.mk.injEq] at hs;obtain⟨rfl,-⟩:=hs;split at hm
   ·split at hm
    ·rename_i fd Wh
     cases u7:Nat.beq (C.P.cellsOf fd.type) 0 with
     |true=>rw[u7] at hm;cases hm
     |false=>
      rw[u7] at hm;simp only[cond_false] at hm
      cases hx:lk F x with
      |mk g1 v1=>
       rw[hx] at hm
       cases v1 with
       |ptr b1 o1=>
        simp only[Option.some.injEq,Prod.mk.injEq] at hm;obtain⟨-,rfl,-⟩:=hm;simp only[Prod.mk.injEq,AV.ptr.injEq] at he;obtain⟨-,rfl,-⟩:=he;exact⟨g1,o1,rfl⟩
       |ro cs=>
        simp only[Option.some.injEq,Prod.mk.injEq] at hm;obtain⟨-,rfl,-⟩:=hm;cases he
       |_=>cases hm
    ·cases hm
   ·cases hm
  ·cases hs
  ·cases hs
theorem Ye.put {os:List Oper}{F:Fr}(hF:Ye os F){z:Oper}(hz:z∈os){e:Bool×AV}{h':Hp}{h0:Hp}(hs:AW C cl ops true z F h0=.ok (e,h')):Ye os (Aq F z.dst e):=by
 intro t r hr g b o hl;have Mr:=EO hr;rw[Az (Fb Mr hz)]
 by_cases hd:z.dst=some t
 ·rw[hd,ZO] at hl
  cases DJ:Mi os t with
  |true=>exact absurd hd (Fb DJ hz)
  |false=>
   have Ms:=hr;unfold GU EH at Ms;rw[DJ] at Ms;simp only at Ms;split at Ms
   ·rename_i x hx;obtain⟨g',o',IS⟩:=bM hx hz hd hs hl;exact hF x r (OO Ms) g' b o' IS
   ·cases Ms
 ·rw[Az hd] at hl;exact hF t r hr g b o hl
theorem VX.put {os:List Oper}{F:Fr}(h:VX os F){z:Oper}(hz:z∈os){e:Bool×AV}{h':Hp}{h0:Hp}(hs:AW C cl ops true z F h0=.ok (e,h')):VX os (Aq F z.dst e):=by
 refine⟨fun x hx y hy hp=> ?_,fun DJ=>(h.2 DJ).put hz hs⟩
 have h1:=h.1 x hx y hy hp;obtain⟨t,p,t',q,v,r,r',k1,k2,_,_,k5,k6⟩:=Ky hp;unfold lu at h1⊢;rw[k1,k2] at h1⊢;simp only[k5,k6] at h1⊢;rw[Az (Fb (EO k5) hz),Az (Fb (EO k6) hz)];exact h1
theorem UI {os:List Oper}{F:Fr}{x y:Oper}{t p t' q r r':Nat}{v:Operand}(hx:x.op=.load t (.tmp p))(hy:y.op=.store t' (.tmp q) v)(hr:EH os GU p=some r)(fb:EH os GU q=some r')(h:lu os F x y=true):
  ∃b o b' o',lk F r=(true,.ptr b o)/\lk F r'=(true,.ptr b' o')/\b≠b':=by
 unfold lu at h;rw[hx,hy] at h;simp only[hr,fb] at h;split at h
 ·rename_i b o b' o' h1 h2
  exact⟨b,o,b',o',h1,h2,fun e=>by subst e;simp[Nat.beq_refl] at h⟩
 ·cases h
theorem JL {x:Oper}{t p:Nat}(Bc:x.op=.load t (.tmp p))(hg:x.guard=none){e:Bool×AV}{h':Hp}(hx:AW C cl ops true x F h=.ok (e,h')):
  h'=h/\((∀g:Hp,AW C cl ops true x F g=.ok (e,g))\/∃b o,lk F p=(true,.ptr b o)/\∀g:Hp,g[b]?=h[b]?->AW C cl ops true x F g=.ok (e,g)):=by
 obtain⟨d,op,ty,pos,after,gd⟩:=x;simp only at Bc hg;subst Bc;subst hg
 rcases Jr (P:=C.P) (F:=F) (ops:=ops) (draw:=true) ⟨d,.load t (.tmp p),ty,pos,after,none⟩ rfl with h0|⟨z,h0⟩
 case inr=>simp only[AW,guardOf,h0] at hx;cases hx
 simp only[AW,guardOf,h0,BB,Bg,Bool.true_or,evalOp,Hy,ev] at hx⊢
 cases hl:lk F p with
 |mk g1 v1=>
  rw[hl] at hx
  cases v1 with
  |ro cs=>
   simp only at hx⊢
   cases hr:rd C.P t cs with
   |none=>rw[hr] at hx;cases hx
   |some v=>
    rw[hr] at hx
    cases g1 with
    |false=>cases hx
    |true=>
     simp only[Except.ok.injEq,Prod.mk.injEq] at hx;obtain⟨rfl,rfl⟩:=hx
     exact⟨rfl,.inl fun g=>rfl⟩
  |ptr b o=>
   simp only at hx⊢
   cases hb:h[b]? with
   |none=>rw[hb] at hx;cases hx
   |some y=>
    rw[hb] at hx
    cases y with
    |mem t0 cs=>
     simp only at hx
     cases hr:rd C.P t (cs.drop o) with
     |none=>rw[hr] at hx;cases hx
     |some v=>
      rw[hr] at hx
      cases g1 with
      |false=>cases hx
      |true=>
       simp only[Except.ok.injEq,Prod.mk.injEq] at hx;obtain⟨rfl,rfl⟩:=hx
       refine⟨rfl,.inr ⟨b,o,rfl,fun g xc=> ?_⟩⟩
       simp only[xc,hb,hr]
    |_=>cases hx
  |_=>cases hx
theorem OE {y:Oper}{t q:Nat}{v:Operand}(Bc:y.op=.store t (.tmp q) v)(hg:y.guard=none){e:Bool×AV}{h':Hp}(hx:AW C cl ops true y F h=.ok (e,h')):
  ∃b o,lk F q=(true,.ptr b o)/\∀c,c≠b->h'[c]?=h[c]? :=by
 obtain⟨d,op,ty,pos,after,gd⟩:=y;simp only at Bc hg;subst Bc;subst hg
 simp only[AW,guardOf,Ng ⟨d,.store t (.tmp q) v,ty,pos,after,none⟩ (fun _ h=>by cases h) (fun _ _ h=>by cases h),BB,Bg,Bool.true_or,evalOp,Nu,ev] at hx
 cases hl:lk F q with
 |mk g1 v1=>
  rw[hl] at hx
  cases v1 with
  |ptr b o=>
   simp only at hx;split at hx
   ·rename_i e1 h1 hm;simp only[Except.ok.injEq,Prod.mk.injEq] at hx;obtain⟨rfl,rfl⟩:=hx;split at hm
    ·simp only[Option.some.injEq,Prod.mk.injEq] at hm;obtain⟨xZ,_,rfl⟩:=hm
     cases g1 with
     |false=>simp at xZ
     |true=>exact⟨b,o,rfl,fun c hc=>by rw[List.getElem?_set_ne (fun e=>hc e.symm)]⟩
    ·cases hm
   ·cases hx
   ·cases hx
  |_=>cases hx
theorem Ee {o:Oper}{d:Nat}(h:IK o=some d):o.dst=some d:=by
 unfold IK at h;split at h
 ·exact h
 ·cases h
theorem jr {os:List Oper}(hF:VX os F){x y:Oper}(nv:x∈os)(sT:y∈os)(Sb:x.apart ops y=true)(vJ:(VN os x y||VN os y x)=true){e1 e2:Bool×AV}{h1 h2:Hp}
  (hx:AW C cl ops true x F h=.ok (e1,h1)) (hy:AW C cl ops true y (Aq F x.dst e1) h1=.ok (e2,h2)):
  ∃h3,AW C cl ops true y F h=.ok (e2,h3)/\AW C cl ops true x (Aq F y.dst e2) h3=.ok (e1,h2)/\Db (Aq (Aq F x.dst e1) y.dst e2) (Aq (Aq F y.dst e2) x.dst e1):=by
 obtain⟨a1,a2,a3⟩:=Oper.apart_spec Sb
 have cy:∀g,AW C cl ops true y (Aq F x.dst e1) g=AW C cl ops true y F g:=fun g=>Bt y (fun t ht=>Az fun hd=>a1 t hd ht) (.inl rfl) (.inr fun d hd=>Az fun oe=>a2 d oe (Ee hd))
 have cx:∀g,AW C cl ops true x (Aq F y.dst e2) g=AW C cl ops true x F g:=fun g=>Bt x (fun t ht=>Az fun hd=>a3 t hd ht) (.inl rfl) (.inr fun d hd=>Az fun oZ=>a2 d (Ee hd) oZ)
 have hp:Db (Aq (Aq F x.dst e1) y.dst e2) (Aq (Aq F y.dst e2) x.dst e1):=put_comm a2;rw[cy] at hy;rw[Bool.or_eq_true] at vJ
 rcases vJ with hl|hl
 ·have hd:=hF.1 x nv y sT hl;obtain⟨t,p,t',q,v,r,r',k1,k2,k3,k4,k5,k6⟩:=Ky hl
  have hR:=hF.2 ⟨y,sT,by rw[k2];rfl⟩
  obtain⟨b,o,b',o',q1,q2,BU⟩:=UI k1 k2 k5 k6 hd;obtain⟨rfl,tD⟩:=JL k1 k3 hx;obtain⟨d,od,hq,hs⟩:=OE k2 k4 hy
  rcases tD with CE|⟨c,oc,sv,CE⟩
  ·exact⟨h2,hy,(cx h2).trans (CE h2),hp⟩
  ·obtain⟨_,_,hc⟩:=hR p r k5 _ _ _ sv;obtain⟨_,_,Zb⟩:=hR q r' k6 _ _ _ hq;rw[q1] at hc;rw[q2] at Zb
   injection hc with _ hc;injection hc with hc _
   injection Zb with _ Zb;injection Zb with Zb _
   subst hc;subst Zb;exact⟨h2,hy,(cx h2).trans (CE h2 (hs _ BU)),hp⟩
 ·have hd:=hF.1 y sT x nv hl;obtain⟨t,p,t',q,v,r,r',k1,k2,k3,k4,k5,k6⟩:=Ky hl
  have hR:=hF.2 ⟨x,nv,by rw[k2];rfl⟩
  obtain⟨b,o,b',o',q1,q2,BU⟩:=UI k1 k2 k5 k6 hd;obtain⟨d,od,hq,hs⟩:=OE k2 k4 hx;obtain⟨rfl,tD⟩:=JL k1 k3 hy
  rcases tD with CE|⟨c,oc,sv,CE⟩
  ·exact⟨h,CE h,(cx h).trans hx,hp⟩
  ·obtain⟨_,_,hc⟩:=hR p r k5 _ _ _ sv;obtain⟨_,_,Zb⟩:=hR q r' k6 _ _ _ hq;rw[q1] at hc;rw[q2] at Zb
   injection hc with _ hc;injection hc with hc _
   injection Zb with _ Zb;injection Zb with Zb _
   subst hc;subst Zb;exact⟨h,CE h (hs _ BU).symm,(cx h).trans hx,hp⟩
theorem cr {x y:Op}(h:pc x y=true):(∃t a,x=.load t a)/\∃t,y=.alloc t:=by
 unfold pc at h;split at h
 ·exact⟨⟨_,_,rfl⟩,⟨_,rfl⟩⟩
 ·cases h
theorem cg {x:Oper}{t:TypeId}{a:Operand}(Bc:x.op=.load t a){e:Bool×AV}{h':Hp}(hx:AW C cl ops true x F h=.ok (e,h')):
  h'=h/\(∀m:Hp,AW C cl ops true x F (h++m)=.ok (e,h++m))/\∀b m,h[b]?=some .dead->AW C cl ops true x F (h.set b m)=.ok (e,h.set b m):=by
 obtain⟨d,op,ty,pos,after,gd⟩:=x;simp only at Bc;subst Bc
 rcases Jr (P:=C.P) (F:=F) (ops:=ops) (draw:=true) ⟨d,.load t a,ty,pos,after,gd⟩ rfl with h0|⟨z,h0⟩
 case inr=>
  simp only[AW,h0] at hx⊢;split at hx
  ·cases hx
  ·simp only[Except.ok.injEq,Prod.mk.injEq] at hx;obtain⟨rfl,rfl⟩:=hx
   exact⟨rfl,fun m=>rfl,fun b m _=>rfl⟩
  ·cases hx
 simp only[AW,h0] at hx⊢;split at hx
 ·cases hx
 ·simp only[Except.ok.injEq,Prod.mk.injEq] at hx;obtain⟨rfl,rfl⟩:=hx
  exact⟨rfl,fun m=>rfl,fun b m _=>rfl⟩
 ·simp only[BB,Bg,Bool.true_or,evalOp,Hy] at hx⊢
  cases MM:ev C.G F a with
  |mk g v=>
   rw[MM] at hx
   cases v with
   |ro cs=>
    simp only at hx⊢
    cases hr:rd C.P t cs with
    |none=>rw[hr] at hx;cases hx
    |some v=>
     rw[hr] at hx
     cases g with
     |false=>cases hx
     |true=>
      simp only[Except.ok.injEq,Prod.mk.injEq] at hx⊢;obtain⟨rfl,rfl⟩:=hx
      exact⟨rfl,fun m=>⟨rfl,trivial⟩,fun b m _=>⟨rfl,trivial⟩⟩
   |ptr b o=>
    simp only at hx⊢
    cases hb:h[b]? with
    |none=>rw[hb] at hx;cases hx
    |some y=>
     have Au:b<h.length:=by
      rcases Nat.lt_or_ge b h.length with hl|hl
      ·exact hl
      ·rw[List.getElem?_eq_none hl] at hb;cases hb
     rw[hb] at hx
     cases y with
     |mem t0 cs=>
      simp only at hx
      cases hr:rd C.P t (cs.drop o) with
      |none=>rw[hr] at hx;cases hx
      |some v=>
       rw[hr] at hx
       cases g with
       |false=>cases hx
       |true=>
        simp only[Except.ok.injEq,Prod.mk.injEq] at hx;obtain⟨rfl,rfl⟩:=hx
        refine⟨rfl,fun m=> ?_,fun b' m Gf=> ?_⟩
        ·rw[List.getElem?_append_left Au,hb];simp only[hr]
        ·have BU:b'≠b:=by rintro rfl;rw[hb] at Gf;cases Gf
         rw[List.getElem?_set_ne BU,hb];simp only[hr]
     |_=>cases hx
   |_=>cases hx
theorem Zw {y:Oper}{t:TypeId}(Bc:y.op=.alloc t){e:Bool×AV}{h':Hp}(hy:AW C cl ops true y F h=.ok (e,h')):(∃m,h'=h++m)\/∃b m,h[b]?=some .dead/\h'=h.set b m:=by
 obtain⟨d,op,ty,pos,after,gd⟩:=y;simp only at Bc;subst Bc;simp only[AW] at hy;split at hy
 ·cases hy
 ·simp only[Except.ok.injEq,Prod.mk.injEq] at hy
  exact .inl ⟨[],by rw[List.append_nil];exact hy.2.symm⟩
 ·split at hy
  ·rename_i r F8;subst hy;unfold Ef at F8;split at F8
   ·cases F8
   ·split at F8
    ·simp only[Option.some.injEq] at F8;unfold RE at F8;split at F8
     ·split at F8
      ·rename_i hb _;simp only[Except.ok.injEq,Prod.mk.injEq] at F8;obtain⟨_,rfl⟩:=F8;exact .inr ⟨_,_,hb,rfl⟩
      ·cases F8
     ·cases F8
    ·split at F8<;>cases F8
    ·cases F8
  ·simp only[BB,Bg,Bool.true_or,evalOp,Sm] at hy;split at hy
   ·rename_i e1 h1 hm;simp only[Except.ok.injEq,Prod.mk.injEq] at hy;obtain⟨rfl,rfl⟩:=hy;split at hm
    ·simp only[Option.some.injEq,Prod.mk.injEq] at hm;obtain⟨_,_,rfl⟩:=hm
     exact .inl ⟨_,by rw[List.append_assoc]⟩
    ·cases hm
   ·cases hy
   ·cases hy
theorem swap (Da:Hf cl){x y:Oper}(Sb:x.apart ops y=true)(NY:calm C.P x.op y.op=true){e1 e2:Bool×AV}{h1 h2:Hp}
  (hx:AW C cl ops true x F h=.ok (e1,h1)) (hy:AW C cl ops true y (Aq F x.dst e1) h1=.ok (e2,h2)):
  ∃h3,AW C cl ops true y F h=.ok (e2,h3)/\AW C cl ops true x (Aq F y.dst e2) h3=.ok (e1,h2)/\Db (Aq (Aq F x.dst e1) y.dst e2) (Aq (Aq F y.dst e2) x.dst e1):=by
 obtain⟨a1,a2,a3⟩:=Oper.apart_spec Sb
 have cy:∀g,AW C cl ops true y (Aq F x.dst e1) g=AW C cl ops true y F g:=fun g=>Bt y (fun t ht=>Az fun hd=>a1 t hd ht) (.inl rfl) (.inr fun d hd=>Az fun oe=>a2 d oe (Ee hd))
 have cx:∀g,AW C cl ops true x (Aq F y.dst e2) g=AW C cl ops true x F g:=fun g=>Bt x (fun t ht=>Az fun hd=>a3 t hd ht) (.inl rfl) (.inr fun d hd=>Az fun oZ=>a2 d (Ee hd) oZ)
 have hp:Db (Aq (Aq F x.dst e1) y.dst e2) (Aq (Aq F y.dst e2) x.dst e1):=put_comm a2;rw[cy] at hy
 cases xP:pc x.op y.op with
 |true=>
  obtain⟨⟨t,a,k1⟩,t',k2⟩:=cr xP;obtain⟨rfl,hg,gv⟩:=cg k1 hx
  rcases Zw k2 hy with ⟨m,rfl⟩|⟨b,m,hb,rfl⟩
  ·exact⟨_,hy,(cx _).trans (hg m),hp⟩
  ·exact⟨_,hy,(cx _).trans (gv b m hb),hp⟩
 |false=>
 cases wR:DL C.P x.op with
 |false=>
  obtain⟨rfl,hg⟩:=Ek Da x wR hx;exact⟨h2,hy,(cx h2).trans (hg h2),hp⟩
 |true=>
  cases wP:DL C.P y.op with
  |false=>
   obtain⟨rfl,hg⟩:=Ek Da y wP hy;exact⟨h,hg h,(cx h).trans hx,hp⟩
  |true=>
   have xi:effect C.P y.op=false:=by cases he:effect C.P y.op<;>simp_all[calm]
   have hex:effect C.P x.op=false:=by cases he:effect C.P x.op<;>simp_all[calm]
   have pA:=Kf Da x hex hx;subst pA;have yY:=Kf Da y xi hy;subst yY;exact⟨h2,hy,(cx h2).trans hx,hp⟩
theorem Ya {x:Oper}(h2:Yh ops=true)(ha:(IK x).isSome=true){e:Bool×AV}{h':Hp}(hx:AW C cl ops true x F h=.ok (e,h')):
  (h'=h/\∀g,AW C cl ops true x F g=.ok (e,g))\/∃b m,m≠Blk.dead/\h[b]?=some .dead/\h'=h.set b m/\∀g:Hp,g[b]?=some .dead->AW C cl ops true x F g=.ok (e,g.set b m):=by
 obtain⟨t,d,Bc,QJ⟩:∃t d,x.op=.alloc t/\x.dst=some d:=by
  unfold IK at ha;split at ha
  ·rename_i t Bc;exact⟨t,_,Bc,Option.eq_some_of_isSome ha⟩
  ·cases ha
 have e0:∀g,Ef C.P true ops x F g=some (RE C.P t (lk F d).2 g):=fun g=>by
  unfold Ef;rw[h2];simp only[Bool.and_self,Bc,QJ]
 unfold AW at hx⊢;split at hx
 ·cases hx
 ·rename_i Qy;simp only[Except.ok.injEq,Prod.mk.injEq] at hx;obtain⟨rfl,rfl⟩:=hx
  exact .inl ⟨rfl,fun g=>by simp only[Qy]⟩
 ·rename_i Qy;simp only[e0] at hx;unfold RE at hx;split at hx
  ·rename_i b hv;split at hx
   ·rename_i cs more hb hz;simp only[Except.ok.injEq,Prod.mk.injEq] at hx;obtain⟨rfl,rfl⟩:=hx
    refine .inr ⟨b,_,(by intro h;cases h),hb,rfl,fun g hg=> ?_⟩
    simp only[Qy,e0,RE,hv,hg,hz]
   ·cases hx
  ·cases hx
theorem gC {x:Oper}(h2:Yh ops=true)(hr:rF ops x=true){e:Bool×AV}{h':Hp}(hx:AW C cl ops true x F h=.ok (e,h')):h'=h/\∀g,AW C cl ops true x F g=.ok (e,g):=by
 obtain⟨t,p,Bc,hi⟩:∃t p,x.op=.load t (.tmp p)/\kU ops p=true:=by
  unfold rF at hr;split at hr
  ·rename_i t p Bc;exact⟨t,p,Bc,hr⟩
  ·cases hr
 obtain⟨d,op,ty,pos,after,gd⟩:=x;simp only at Bc;subst Bc
 have e0:∀g,Ef C.P true ops ⟨d,.load t (.tmp p),ty,pos,after,gd⟩ F g=match(lk F p).2 with|.ro _=>none|_=>some (.error [1035]):=fun g=>by
  unfold Ef;rw[h2];simp only[Bool.and_self,hi]
  cases (lk F p).2<;>rfl
 simp only[AW] at hx⊢;split at hx
 ·cases hx
 ·simp only[Except.ok.injEq,Prod.mk.injEq] at hx;obtain⟨rfl,rfl⟩:=hx
  exact⟨rfl,fun g=>rfl⟩
 ·simp only[e0] at hx⊢
  cases hl:lk F p with
  |mk g1 v1=>
   rw[hl] at hx
   cases v1 with
   |ro cs=>
    simp only[BB,Bg,Bool.true_or,evalOp,Hy,ev,hl] at hx⊢
    cases IG:rd C.P t cs with
    |none=>rw[IG] at hx;cases hx
    |some v=>
     rw[IG] at hx
     cases g1 with
     |false=>cases hx
     |true=>
      simp only[Except.ok.injEq,Prod.mk.injEq] at hx⊢;obtain⟨rfl,rfl⟩:=hx
      exact⟨rfl,fun g=>⟨rfl,trivial⟩⟩
   |_=>cases hx
theorem fv {x y:Oper}(Sb:x.apart ops y=true)(Qu:Va ops x y=true){e1 e2:Bool×AV}{h1 h2:Hp}
  (hx:AW C cl ops true x F h=.ok (e1,h1)) (hy:AW C cl ops true y (Aq F x.dst e1) h1=.ok (e2,h2)):
  ∃h3,AW C cl ops true y F h=.ok (e2,h3)/\AW C cl ops true x (Aq F y.dst e2) h3=.ok (e1,h2)/\Db (Aq (Aq F x.dst e1) y.dst e2) (Aq (Aq F y.dst e2) x.dst e1):=by
 obtain⟨a1,a2,a3⟩:=Oper.apart_spec Sb
 have cy:∀g,AW C cl ops true y (Aq F x.dst e1) g=AW C cl ops true y F g:=fun g=>Bt y (fun t ht=>Az fun hd=>a1 t hd ht) (.inl rfl) (.inr fun d hd=>Az fun oe=>a2 d oe (Ee hd))
 have cx:∀g,AW C cl ops true x (Aq F y.dst e2) g=AW C cl ops true x F g:=fun g=>Bt x (fun t ht=>Az fun hd=>a3 t hd ht) (.inl rfl) (.inr fun d hd=>Az fun oZ=>a2 d (Ee hd) oZ)
 have hp:Db (Aq (Aq F x.dst e1) y.dst e2) (Aq (Aq F y.dst e2) x.dst e1):=put_comm a2;rw[cy] at hy;unfold Va at Qu;rw[Bool.and_eq_true,Bool.or_eq_true,Bool.and_eq_true] at Qu;obtain⟨t2,⟨yD,yC⟩|oC⟩:=Qu
 ·rcases Ya t2 yD hx with ⟨rfl,hg⟩|⟨b,m,hm,hb,rfl,hg⟩
  ·exact⟨h2,hy,(cx h2).trans (hg h2),hp⟩
  ·rcases Ya t2 yC hy with ⟨rfl,CR⟩|⟨b',m',oJ,Gf,rfl,CR⟩
   ·exact⟨h,CR h,(cx h).trans hx,hp⟩
   ·have HE:b<h.length:=(List.getElem?_eq_some_iff.1 hb).1
    have BU:b≠b':=by
     rintro rfl
     rw[List.getElem?_set_self HE] at Gf
     injection Gf with Gf
     exact hm Gf
    rw[List.getElem?_set_ne BU] at Gf;refine⟨_,CR h Gf,?_,hp⟩
    rw[cx,hg _ (by rw[List.getElem?_set_ne (Ne.symm BU)];exact hb),List.set_comm _ _ BU]
 ·obtain⟨rfl,hg⟩:=gC t2 oC hx;exact⟨h2,hy,(cx h2).trans (hg h2),hp⟩
theorem HH {draw:Bool}:∀(l:List Oper) {F F':Fr} {h h':Hp} {G:Fr},Db F F'->BJ C cl ops draw l F h=.ok (G,h')->∃G',BJ C cl ops draw l F' h=.ok (G',h')/\Db G G'
 |[],F,F',h,h',G,he,hx=>by
  simp only[BJ,Except.ok.injEq,Prod.mk.injEq] at hx⊢;obtain⟨rfl,rfl⟩:=hx;exact⟨F',⟨rfl,rfl⟩,he⟩
 |o::l,F,F',h,h',G,he,hx=>by
  simp only[BJ] at hx⊢
  rw[<-Bt (F:=F) (F':=F') o (fun t _=>he t) (.inr (he dS)) (.inr fun d _=>he d)]
  split at hx
  ·exact HH l (he.put _ _) hx
  ·cases hx
theorem pull (Da:Hf cl){os:List Oper}{o:Oper}(YD:o∈os){post:List Oper}:∀(pre:List Oper) {F:Fr} {h h':Hp} {G:Fr},VX os F->(∀x∈pre,x∈os/\x.apart ops o=true/\(calm C.P x.op o.op||VN os x o||VN os o x||Va ops x o)=true)->
  BJ C cl ops true (pre++o::post) F h=.ok (G,h')->∃G',BJ C cl ops true (o::(pre++post)) F h=.ok (G',h')/\Db G G'
 |[],F,h,h',G,_,_,hx=>⟨G,hx,Db.refl G⟩
 |x::pre,F,h,h',G,hF,Sb,hx=>by
  rw[List.cons_append] at hx;simp only[BJ,Cx] at hx
  cases hs:AW C cl ops true x F h with
  |error e=>rw[hs] at hx;cases hx
  |ok r=>
   obtain⟨e1,h1⟩:=r;rw[hs] at hx;simp only at hx
   obtain⟨G1,HB,aF⟩:=pull Da YD pre (hF.put (Sb x (by simp)).1 hs) (fun y hy=>Sb y (by simp[hy])) hx
   simp only[BJ,Cx] at HB
   cases JO:AW C cl ops true o (Aq F x.dst e1) h1 with
   |error e=>rw[JO] at HB;cases HB
   |ok r2=>
    obtain⟨e2,h2⟩:=r2;rw[JO] at HB;simp only at HB
    have wg:∃h3,AW C cl ops true o F h=.ok (e2,h3)/\AW C cl ops true x (Aq F o.dst e2) h3=.ok (e1,h2)/\Db (Aq (Aq F x.dst e1) o.dst e2) (Aq (Aq F o.dst e2) x.dst e1):=by
     obtain⟨m1,m2,m3⟩:=Sb x (by simp)
     cases NY:calm C.P x.op o.op with
     |true=>exact swap Da m2 NY hs JO
     |false=>
      rw[NY,Bool.false_or,Bool.or_eq_true] at m3
      rcases m3 with m3|m3
      ·exact jr hF m1 YD m2 m3 hs JO
      ·exact fv m2 m3 hs JO
    obtain⟨h3,k1,k2,k3⟩:=wg;obtain⟨G2,ny,xm⟩:=HH _ k3 HB;refine⟨G2,?_,aF.trans xm⟩;rw[List.cons_append];simp only[BJ,Cx,k1,k2];exact ny
end
end Go.Ai
