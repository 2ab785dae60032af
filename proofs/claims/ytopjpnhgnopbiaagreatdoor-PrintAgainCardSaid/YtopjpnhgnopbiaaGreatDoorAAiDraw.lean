/-
  Drawn regions: in whatever order the operations are done, they come to the same.
-/
import Derived.Test.YtopjpnhgnopbiaaGreatDoorAAiReg
set_option linter.unusedVariables false
set_option linter.unusedSimpArgs false
set_option linter.unnecessarySimpa false
namespace Go.Ai
open Go.RowKit
def Dw (F F':Fr):Prop:=∀n,lk F n=lk F' n
theorem Dw.refl (F:Fr):Dw F F:=fun _=>rfl
theorem Dw.trans {F G H:Fr}(h:Dw F G)(k:Dw G H):Dw F H:=fun n=>(h n).trans (k n)
theorem Dw.put {F F':Fr}(h:Dw F F')(d:Option Nat)(e:Bool×AV):Dw (Av F d e) (Av F' d e):=by
 cases d with
 |none=>exact h
 |some d=>
  intro n;simp only[Av,lk];rw[h n]
theorem A9 {F:Fr}{d:Option Nat}{e:Bool×AV}{n:Nat}(h:d≠some n):lk (Av F d e) n=lk F n:=by
 cases d with
 |none=>rfl
 |some d=>
  have BM:d≠n:=fun he=>h (by rw[he])
  have hb:Nat.beq d n=false:=by
   cases hb:Nat.beq d n with
   |false=>rfl
   |true=>exact absurd (Nat.eq_of_beq_eq_true hb) BM
  simp[Av,lk,hb]
theorem cu {F:Fr}{t:Nat}{e:Bool×AV}:lk (Av F (some t) e) t=e:=by simp[Av,lk,Nat.beq_refl]
theorem put_comm {F:Fr}{d d':Option Nat}{e e':Bool×AV}(h:∀x,d=some x->d'≠some x):Dw (Av (Av F d e) d' e') (Av (Av F d' e') d e):=by
 intro n
 cases d with
 |none=>rfl
 |some d=>
  cases d' with
  |none=>rfl
  |some d'=>
   have BM:d≠d':=fun he=>h d rfl (by rw[he])
   simp only[Av,lk]
   cases h1:Nat.beq d' n<;>cases h2:Nat.beq d n<;>simp
   exact absurd ((Nat.eq_of_beq_eq_true h2).trans (Nat.eq_of_beq_eq_true h1).symm) BM
theorem XH {G:Nat->Option (List AV)}{F F':Fr}{x:Operand}(h:∀t,x=.tmp t->lk F t=lk F' t):ev G F x=ev G F' x:=by
 cases x with
 |tmp t=>exact h t rfl
 |_=>rfl
theorem Ka {G:Nat->Option (List AV)}{F F':Fr}{l:List Operand}(h:∀x∈l,ev G F x=ev G F' x):Nw G F l=Nw G F' l:=by
 simp only[Nw]
 congr 1
 ·induction l with
  |nil=>rfl
  |cons x l ih=>
   rw[List.all_cons,List.all_cons,h x (by simp),ih fun y hy=>h y (by simp[hy])]
 ·exact List.map_congr_left fun x hx=>by rw[h x hx]
section
variable {C:Bm}{F F':Fr}{h:Hp}{dr:Bool}
theorem Jl (parts:Array (Nat×Operand))(hx:∀x∈(parts.toList.map (·.2)).toArray,ev C.G F x=ev C.G F' x):∀p∈parts.toList,ev C.G F p.2=ev C.G F' p.2:=fun p hp=>
 hx p.2 (by simp only[List.mem_toArray,List.mem_map];exact⟨p,hp,rfl⟩)
theorem Lh {α:Type}{l:List α}{f g:α->Bool}(h:∀x∈l,f x=g x):l.all f=l.all g:=by
 induction l with
 |nil=>rfl
 |cons x l ih=>rw[List.all_cons,List.all_cons,h x (by simp),ih fun y hy=>h y (by simp[hy])]
theorem SO (t:TypeId)(parts:Array (Nat×Operand))(hp:∀p∈parts.toList,ev C.G F p.2=ev C.G F' p.2):Kb C dr F h t parts=Kb C dr F' h t parts:=by
 unfold Kb
 have e1:(parts.toList.map fun p=>(p.1,(ev C.G F p.2).2))=parts.toList.map fun p=>(p.1,(ev C.G F' p.2).2):=List.map_congr_left fun p hm=>by rw[hp p hm]
 have e2:(parts.toList.all fun p=>(ev C.G F p.2).1&&CP (ev C.G F p.2).2)=parts.toList.all fun p=>(ev C.G F' p.2).1&&CP (ev C.G F' p.2).2:=Lh fun p hm=>by rw[hp p hm]
 rw[e1,e2]
theorem LY (t:TypeId)(len:Nat)(parts:Array (Nat×Operand))(hp:∀p∈parts.toList,ev C.G F p.2=ev C.G F' p.2):C7 C dr F h t len parts=C7 C dr F' h t len parts:=by
 unfold C7
 have e1:(parts.toList.map fun p=>flat (ev C.G F p.2).2)=parts.toList.map fun p=>flat (ev C.G F' p.2).2:=List.map_congr_left fun p hm=>by rw[hp p hm]
 have e2:(parts.toList.all fun p=>(ev C.G F p.2).1&&CP (ev C.G F p.2).2)=parts.toList.all fun p=>(ev C.G F' p.2).1&&CP (ev C.G F' p.2).2:=Lh fun p hm=>by rw[hp p hm]
 have e3:∀n:Nat,(parts.toList.all fun p=>Nat.beq (flat (ev C.G F p.2).2).length n)=parts.toList.all fun p=>Nat.beq (flat (ev C.G F' p.2).2).length n:=fun n=>Lh fun p hm=>by rw[hp p hm]
 simp only[e1,e2,e3]
theorem MX (o:Oper)(hx:∀x∈o.op.operands,ev C.G F x=ev C.G F' x):evalOp C dr F h o=evalOp C dr F' h o:=by
 obtain⟨d,op,ty,pos,after,gd⟩:=o
 have mem:∀{x:Operand} {l:List Operand},x∈l->x∈l.toArray:=fun hm=>by simpa using hm
 cases op
 case move x=>
  have e:=hx x (by simp[Op.operands])
  cases x<;>simp only[evalOp,HY,e]
 case assign x=>
  have e:=hx x (by simp[Op.operands])
  cases x<;>simp only[evalOp,HY,e]
 case pick c a b=>
  simp only[evalOp,RV,hx c (by simp[Op.operands]),hx a (by simp[Op.operands]),hx b (by simp[Op.operands])]
 case box t x=>simp only[evalOp,hx x (by simp[Op.operands])]
 case range t x=>simp only[evalOp,U8,hx x (by simp[Op.operands])]
 case next it b=>simp only[evalOp,Zb,hx it (by simp[Op.operands])]
 case typeAssert x xt t ok=>simp only[evalOp,Mb,hx x (by simp[Op.operands])]
 case makeSlice t l c=>simp only[evalOp,U9,hx l (by simp[Op.operands]),hx c (by simp[Op.operands])]
 case build t parts=>exact SO t parts (Jl parts hx)
 case buildSlice t len parts=>exact LY t len parts (Jl parts hx)
 case load t x=>simp only[evalOp,JD,hx x (by simp[Op.operands])]
 case store t x y=>simp only[evalOp,Pl,hx x (by simp[Op.operands]),hx y (by simp[Op.operands])]
 case nilCheck x=>simp only[evalOp,Ez,hx x (by simp[Op.operands])]
 case binOp op t x y z=>simp only[evalOp,XL,XK,hx x (by simp[Op.operands]),hx y (by simp[Op.operands])]
 case unOp op t x=>simp only[evalOp,hx x (by simp[Op.operands])]
 case convert s t x=>simp only[evalOp,Ii,hx x (by simp[Op.operands])]
 case makeFunc f first cap=>
  have e1:Nw C.G F first.toList=Nw C.G F' first.toList:=Ka fun x hm=>hx x (by simp[Op.operands];exact .inl (by simpa using hm))
  have e2:Nw C.G F cap.toList=Nw C.G F' cap.toList:=Ka fun x hm=>hx x (by simp[Op.operands];exact .inr (by simpa using hm))
  simp only[evalOp,e1,e2]
 case slice t x lo hi mx=>
  have e:=hx x (by simp[Op.operands])
  have el:lo.map (ev C.G F)=lo.map (ev C.G F'):=by
   cases lo with
   |none=>rfl
   |some l=>exact congrArg some (hx l (by simp[Op.operands]))
  have eh:hi.map (ev C.G F)=hi.map (ev C.G F'):=by
   cases hi with
   |none=>rfl
   |some l=>exact congrArg some (hx l (by simp[Op.operands]))
  simp only[evalOp,JC,KA,e,el,eh]
 case fieldAddr s x f=>simp only[evalOp,EH,hx x (by simp[Op.operands])]
 case field s x f=>simp only[evalOp,Ma,hx x (by simp[Op.operands])]
 case indexAddr t x i=>simp only[evalOp,EG,hx x (by simp[Op.operands]),hx i (by simp[Op.operands])]
 case index t x i=>simp only[evalOp,MZ,hx x (by simp[Op.operands]),hx i (by simp[Op.operands])]
 case extract t ix=>simp only[evalOp,Ih,hx t (by simp[Op.operands])]
 case call c=>
  obtain⟨callee,args,Xe⟩:=c
  cases callee with
  |builtin b=>
   have ha:∀x∈args.toList,ev C.G F x=ev C.G F' x:=fun x hm=>hx x (by simp[Op.operands,Call.operands];simpa using hm)
   simp only[evalOp];generalize args.toList=l at ha⊢;generalize Xe.toList=ts;unfold HE;split
   ·rename_i x t
    simp only[TW,ha x (by simp)]
   ·rename_i x y
    simp only[bR,ha x (by simp),ha y (by simp)]
   ·rename_i x y
    simp only[bQ,ha x (by simp),ha y (by simp)]
   ·rename_i s x t t'
    simp only[Mc,Kc,ha s (by simp),ha x (by simp)]
   ·rfl
  |_=>rfl
 all_goals rfl
theorem XI (o:Oper)(hx:∀x∈o.op.operands,ev C.G F x=ev C.G F' x):B6 C F h o=B6 C F' h o:=by
 obtain⟨d,op,ty,pos,after,gd⟩:=o;cases op
 case buildSlice t len parts=>
  have hp:=Jl parts hx;simp only[B6];split
  ·rename_i p _ _ hl
   rw[hp p (by rw[hl];simp)]
  ·rfl
 case load t x=>simp only[B6,hx x (by simp[Op.operands])]
 case store t x y=>simp only[B6,hx x (by simp[Op.operands]),hx y (by simp[Op.operands])]
 case nilCheck x=>simp only[B6,hx x (by simp[Op.operands])]
 case fieldAddr s x f=>simp only[B6,hx x (by simp[Op.operands])]
 case indexAddr t x i=>simp only[B6,hx x (by simp[Op.operands]),hx i (by simp[Op.operands])]
 case lookup t x i ok=>simp only[B6,hx x (by simp[Op.operands]),hx i (by simp[Op.operands])]
 case slice t x lo hi mx=>
  have e:=hx x (by simp[Op.operands])
  have eh:hi.map (ev C.G F)=hi.map (ev C.G F'):=by
   cases hi with
   |none=>rfl
   |some l=>exact congrArg some (hx l (by simp[Op.operands]))
  simp only[B6,e,eh]
 case call c=>
  obtain⟨callee,args,Xe⟩:=c
  cases callee with
  |builtin b=>
   have ha:∀x∈args.toList,ev C.G F x=ev C.G F' x:=fun x hm=>hx x (by simp[Op.operands,Call.operands];simpa using hm)
   cases b<;>try rfl
   ·simp only[B6];split
    ·rename_i s x t t' hl VU
     simp only[ha s (by rw[hl];simp),ha x (by rw[hl];simp)]
    ·rfl
   ·simp only[B6];split
    ·rename_i x t hl VU
     simp only[ha x (by rw[hl];simp)]
    ·rfl
  |_=>rfl
 all_goals rfl
theorem XG (o:Oper)(hx:∀x∈o.op.operands,ev C.G F x=ev C.G F' x):Bl C dr F h o=Bl C dr F' h o:=by
 unfold Bl;rw[MX o hx,MX (dr:=false) o hx,XI o hx]
theorem Tz {cl:FuncId->List AV->Hp->Except (List Nat) (AV×Hp)}{draw:Bool}(o:Oper)(hx:∀x∈o.op.operands,ev C.G F x=ev C.G F' x)(hd:draw=true\/lk F dS=lk F' dS):BF C cl draw o F h=BF C cl draw o F' h:=by
 have e:=fun dr=>XG (C:=C) (F:=F) (F':=F') (h:=h) (dr:=dr) o hx
 unfold BF;split
 ·rename_i x args Xe Bo;rw[Bo] at hx
  have e1:ev C.G F x=ev C.G F' x:=hx x (by simp[Op.operands,Call.operands])
  have e2:Nw C.G F args.toList=Nw C.G F' args.toList:=Ka fun y hm=>hx y (by simp[Op.operands,Call.operands];exact .inr (by simpa using hm))
  rw[e1,e2]
 ·rename_i x args Xe Bo;rw[Bo] at hx
  have e1:ev C.G F x=ev C.G F' x:=hx x (by simp[Op.operands,Call.operands])
  rcases hd with rfl|hd
  ·simp
  ·rw[e1,hd]
 ·rw[e]
theorem Xz {P:Program}{ops:Array Oper}{draw:Bool}(o:Oper)(hx:∀t∈o.looksAt ops,lk F t=lk F' t)(h2:draw=false\/∀d,JT o=some d->lk F d=lk F' d):FL P draw ops o F h=FL P draw ops o F' h:=by
 unfold FL
 cases draw with
 |false=>rfl
 |true=>
  cases bu ops with
  |false=>rfl
  |true=>
   simp only[Bool.and_self];split
   ·rename_i t d Bo SJ
    rcases h2 with h2|h2
    ·cases h2
    ·rw[h2 d (by simp[JT,Bo,SJ])]
   ·rename_i p Bo
    rw[hx p (by
     refine List.mem_append_left _ (List.mem_filterMap.2 ⟨.tmp p,?_,rfl⟩);rw[Bo]
     simp[Op.operands])]
   ·rfl
theorem X5 {P:Program}{ops:Array Oper}{draw:Bool}(o:Oper)(ht:DZ P o.op=false)(h:Hp):FL P draw ops o F h=none:=by
 unfold FL;split
 ·rfl
 ·split
  ·rename_i Bo _;rw[Bo] at ht;simp[DZ,effect] at ht
  ·rename_i Bo;rw[Bo] at ht;simp[DZ] at ht
  ·rfl
theorem K6 {P:Program}{ops:Array Oper}{draw:Bool}(o:Oper)(ht:effect P o.op=false):(∀g,FL P draw ops o F g=none)\/∃x,∀g,FL P draw ops o F g=some (.error x):=by
 unfold FL;split
 ·exact .inl fun _=>rfl
 ·split
  ·rename_i Bo _;rw[Bo] at ht;simp[effect] at ht
  ·split
   ·exact .inl fun _=>rfl
   ·exact .inr ⟨_,fun _=>rfl⟩
   ·exact .inl fun _=>rfl
  ·exact .inl fun _=>rfl
theorem PS {P:Program}{ops:Array Oper}{draw:Bool}(o:Oper)(ht:∀t,o.op≠.alloc t)(tj:∀t p,o.op≠.load t (.tmp p))(h:Hp):FL P draw ops o F h=none:=by
 unfold FL;split
 ·rfl
 ·split
  ·rename_i Bo _;exact absurd Bo (ht _)
  ·rename_i Bo;exact absurd Bo (tj _ _)
  ·rfl
theorem Bu {cl:FuncId->List AV->Hp->Except (List Nat) (AV×Hp)}{ops:Array Oper}{draw:Bool}(o:Oper)(hx:∀t∈o.looksAt ops,lk F t=lk F' t)(bK:draw=true\/lk F dS=lk F' dS)(h2:draw=false\/∀d,JT o=some d->lk F d=lk F' d):AW C cl ops draw o F h=AW C cl ops draw o F' h:=by
 have hg:guardOf ops F o=guardOf ops F' o:=by
  unfold guardOf
  cases TK:o.guard with
  |none=>rfl
  |some jw=>
   obtain⟨j,want⟩:=jw;simp only
   cases hd:(ops[j]?).bind (·.dst) with
   |none=>rfl
   |some d=>
    simp only
    rw[hx d (by simp[Oper.looksAt,TK,hd])]
 have hs:BF C cl draw o F h=BF C cl draw o F' h:=Tz o (fun x hm=>XH fun t ht=>hx t (by
  subst ht
  exact List.mem_append_left _ (List.mem_filterMap.2 ⟨.tmp t,by simpa using hm,rfl⟩))) bK
 unfold AW;rw[hg,hs,Xz o hx h2]
def Io (cl:FuncId->List AV->Hp->Except (List Nat) (AV×Hp)):Prop:=
 ∀k vs h v h',cl k vs h=.ok (v,h')->h'=h/\∀g,cl k vs g=.ok (v,g)
theorem SS {P:Program}{t:TypeId}{n:Nat}{cs:List AV}{more:Hp}(hz:zeroOf P true t n=some (cs,more)):more=[]/\∀m,zeroOf P true t m=some (cs,[]):=by
 unfold zeroOf at hz⊢
 cases hi:P.info? t with
 |none=>rw[hi] at hz;cases hz
 |some i=>
  rw[hi] at hz;simp only at hz⊢
  cases kg:i.zero with
  |none=>rw[kg] at hz;cases hz
  |some z=>
   rw[kg] at hz;simp only at hz⊢
   cases hb:(!(z.cells.toList.all (·.oneCell'))) with
   |true=>rw[hb] at hz;cases hz
   |false=>
    rw[hb] at hz;simp only[cond_false,Option.some.injEq,Prod.mk.injEq] at hz⊢
    exact⟨hz.2.symm,fun _=>⟨hz.1,trivial⟩⟩
theorem XJ (t:TypeId)(x:Operand)(lo hi mx:Option Operand):KA C true F h t x lo hi mx=none:=by simp[KA]
theorem PO (o:Oper){t:TypeId}{x:Operand}{lo hi mx:Option Operand}(ho:o.op=.slice t x lo hi mx):evalOp C true F h o=JC C F h t x lo hi mx:=by
 unfold evalOp;rw[ho];simp only[XJ]
 cases JC C F h t x lo hi mx<;>rfl
theorem MY (o:Oper)(ht:DZ C.P o.op=false){r:Bool×(Bool×AV)}{h':Hp}(hx:evalOp C true F h o=some (r.1,r.2,h')):h'=h/\∀g,evalOp C true F g o=some (r.1,r.2,g):=by
 obtain⟨d,op,ty,pos,after,gd⟩:=o;obtain⟨r1,r2⟩:=r
 have mv:∀x:Operand,HY C true F h ty x=some (r1,r2,h')->h'=h/\∀g,HY C true F g ty x=some (r1,r2,g):=by
  intro x hx
  cases x with
  |const v=>
   simp only[HY] at hx⊢
   cases hn:WS v<;>rw[hn] at hx<;>simp only[Option.some.injEq,Prod.mk.injEq] at hx⊢<;>exact⟨hx.2.2.symm,fun _=>⟨hx.1,hx.2.1,trivial⟩⟩
  |_=>
   simp only[HY,Option.some.injEq,Prod.mk.injEq] at hx⊢
   exact⟨hx.2.2.symm,fun _=>⟨hx.1,hx.2.1,trivial⟩⟩
 cases op<;>simp only[DZ,effect,Bool.true_eq_false] at ht
 case move x=>exact mv x hx
 case assign x=>exact mv x hx
 case pick c a b=>
  simp only[evalOp,RV] at hx⊢
  split at hx<;>simp_all
 case build t parts=>
  simp only[evalOp,Kb] at hx⊢;split at hx
  ·rename_i fs z more hu hz;obtain⟨rfl,rq⟩:=SS hz;split at hx
   ·rename_i cs hf;simp only[Option.some.injEq,Prod.mk.injEq] at hx;obtain⟨rfl,rfl,rfl⟩:=hx
    refine⟨by simp,fun g=> ?_⟩
    simp only[hu,rq g.length,hf,List.append_nil]
   ·cases hx
  ·rename_i m e z more hu hz;obtain⟨rfl,rq⟩:=SS hz;split at hx
   ·rename_i cs hf;simp only[Option.some.injEq,Prod.mk.injEq] at hx;obtain⟨rfl,rfl,rfl⟩:=hx
    refine⟨by simp,fun g=> ?_⟩
    simp only[hu,rq g.length,hf,List.append_nil]
   ·cases hx
  ·cases hx
 case buildSlice t len parts=>
  simp only[evalOp,C7] at hx⊢;split at hx
  ·generalize hb:(_&&_:Bool)=b at hx⊢
   cases b with
   |false=>simp at hx
   |true=>simp_all
  ·cases hx
 case nilCheck x=>
  simp only[evalOp,Ez] at hx⊢
  split at hx<;>simp_all
 case binOp op t x y z=>
  simp only[evalOp,XL] at hx⊢;split at hx
  ·simp_all
  ·split at hx
   ·simp_all
   ·simp_all
   ·unfold XK at hx⊢;split at hx
    ·split at hx<;>simp_all
    ·split at hx<;>simp_all
    ·cases hx
 case unOp op t x=>
  simp only[evalOp] at hx⊢
  split at hx<;>simp_all
 case convert s t x=>
  simp only[evalOp,Ii] at hx⊢;unfold Ta at ht;split at hx
  ·simp_all
  ·simp_all
  ·simp_all
  ·simp_all
  ·simp_all
  ·rename_i e g1 l hs hd rz;rw[hs,hd] at ht;simp at ht
  ·split at hx<;>simp_all
 case makeFunc f first cap=>
  simp only[evalOp,Option.some.injEq,Prod.mk.injEq] at hx⊢
  exact⟨hx.2.2.symm,fun _=>⟨hx.1,hx.2.1,trivial⟩⟩
 case slice t x lo hi mx=>
  have e0:∀g,evalOp C true F g ⟨d,.slice t x lo hi mx,ty,pos,after,gd⟩=JC C F g t x lo hi mx:=fun g=>PO (h:=g) ⟨d,.slice t x lo hi mx,ty,pos,after,gd⟩ rfl
  rw[e0] at hx;simp only[e0];simp only[JC] at hx⊢
  split at hx<;>simp_all
 case fieldAddr s x f=>
  simp only[evalOp,EH] at hx⊢;split at hx
  ·split at hx
   ·generalize hb:Nat.beq _ _=b at hx⊢
    cases b with
    |true=>simp at hx
    |false=>split at hx<;>simp_all
   ·cases hx
  ·cases hx
 case field s x f=>
  simp only[evalOp,Ma] at hx⊢;split at hx
  ·split at hx
   ·split at hx<;>simp_all
   ·cases hx
  ·cases hx
 case indexAddr t x i=>
  simp only[evalOp,EG] at hx⊢
  split at hx<;>simp_all
 case index t x i=>
  simp only[evalOp,MZ] at hx⊢
  split at hx<;>simp_all
 case typeAssert x xt t ok=>
  simp only[evalOp,Mb] at hx⊢;split at hx
  ·cases hx
  ·split at hx
   ·simp_all
   ·cases hx
  ·cases hx
 case extract t ix=>
  simp only[evalOp,Ih] at hx⊢;split at hx
  ·split at hx<;>simp_all
  ·cases hx
 case call c=>
  obtain⟨callee,args,Xe⟩:=c
  cases callee with
  |builtin b=>
   simp only[evalOp] at hx⊢;generalize args.toList=l at hx⊢;generalize Xe.toList=ts at hx⊢;unfold HE at hx⊢;split at hx
   ·simp only[TW] at hx⊢
    split at hx<;>simp_all
   ·simp only[bR] at hx⊢
    split at hx<;>simp_all
   ·simp only[bQ] at hx⊢
    split at hx<;>simp_all
   ·simp at ht
   ·cases hx
  |_=>simp[evalOp] at hx
 all_goals (simp[evalOp] at hx)
theorem Gz (o:Oper)(ht:effect C.P o.op=false){r:Bool×(Bool×AV)}{h':Hp}(hx:evalOp C true F h o=some (r.1,r.2,h')):h'=h:=by
 cases pw:DZ C.P o.op with
 |false=>exact(MY o pw hx).1
 |true=>
  obtain⟨d,op,ty,pos,after,gd⟩:=o;obtain⟨r1,r2⟩:=r
  cases op<;>simp only[DZ,ht,Bool.false_eq_true] at pw
  case load t x=>
   simp only[evalOp,JD] at hx;split at hx
   ·split at hx<;>simp_all
   ·split at hx
    ·split at hx<;>simp_all
    ·cases hx
   ·cases hx
  case convert s t x=>
   simp only[evalOp,Ii] at hx;split at hx
   ·split at hx<;>simp_all
   ·split at hx<;>simp_all
   ·simp_all
   ·split at hx<;>simp_all
   ·split at hx<;>simp_all
   ·rename_i e g1 l hs hd rz;simp[effect,Vi,hs,hd] at ht
   ·split at hx<;>simp_all
variable {cl:FuncId->List AV->Hp->Except (List Nat) (AV×Hp)}{ops:Array Oper}
theorem FU (DS:Io cl)(o:Oper)(ht:DZ C.P o.op=false){e:Bool×AV}{h':Hp}(hx:AW C cl ops true o F h=.ok (e,h')):h'=h/\∀g,AW C cl ops true o F g=.ok (e,g):=by
 unfold AW at hx⊢;split at hx
 ·cases hx
 ·simp only[Except.ok.injEq,Prod.mk.injEq] at hx;obtain⟨rfl,rfl⟩:=hx
  exact⟨rfl,fun _=>rfl⟩
 ·simp only[X5 o ht] at hx⊢;unfold BF at hx⊢;split at hx
  ·split at hx
   ·split at hx
    ·simp_all
    ·cases hx
    ·split at hx
     ·rename_i hc;simp only[Except.ok.injEq,Prod.mk.injEq] at hx;obtain⟨rfl,rfl⟩:=hx;obtain⟨rfl,hg⟩:=DS _ _ _ _ _ hc
      refine⟨rfl,fun g=> ?_⟩
      simp_all
     ·cases hx
   ·cases hx
  ·simp at hx
  ·simp only[Bool.true_or,Bl] at hx⊢;split at hx
   ·rename_i e' h2 Nl;simp only[Except.ok.injEq,Prod.mk.injEq] at hx;obtain⟨rfl,rfl⟩:=hx;obtain⟨rfl,hg⟩:=MY (r:=(true,e')) o ht Nl
    exact⟨rfl,fun g=>by simp[hg g]⟩
   ·cases hx
   ·cases hx
theorem Lu (DS:Io cl)(o:Oper)(ht:effect C.P o.op=false){e:Bool×AV}{h':Hp}(hx:AW C cl ops true o F h=.ok (e,h')):h'=h:=by
 cases pw:DZ C.P o.op with
 |false=>exact(FU DS o pw hx).1
 |true=>
  unfold AW at hx;split at hx
  ·cases hx
  ·simp only[Except.ok.injEq,Prod.mk.injEq] at hx;exact hx.2.symm
  ·rcases K6 (P:=C.P) (F:=F) (ops:=ops) (draw:=true) o ht with h0|⟨x,h0⟩
   case inr=>rw[h0] at hx;cases hx
   simp only[h0] at hx;unfold BF at hx;split at hx
   ·rename_i Bo;rw[Bo] at pw;simp[DZ,effect] at pw
   ·simp at hx
   ·simp only[Bool.true_or] at hx;split at hx
    ·rename_i e' h2 Nl;simp only[Except.ok.injEq,Prod.mk.injEq] at hx;obtain⟨rfl,rfl⟩:=hx;exact Gz (r:=(true,e')) o ht Nl
    ·cases hx
    ·cases hx
theorem MI {os:List Oper}{x y:Oper}(h:Xm os x y=true):∃t p t' q v r r',x.op=.load t (.tmp p)/\y.op=.store t' (.tmp q) v/\x.guard=none/\y.guard=none/\Ej os HM p=some r/\Ej os HM q=some r':=by
 unfold Xm at h;split at h
 ·rename_i t p t' q v h1 h2 h3 h4;split at h
  ·rename_i r r' h5 h6;exact⟨t,p,t',q,v,r,r',h1,h2,h3,h4,h5,h6⟩
  ·cases h
 ·cases h
theorem GW {os:List Oper}{t:Nat}(h:OJ os t=true){z:Oper}(hz:z∈os):z.dst≠some t:=by
 intro e;have h1:=List.all_eq_true.1 h z hz;rw[e] at h1;simp[Nat.beq_refl] at h1
theorem Eu {os:List Oper}:∀{n t r:Nat},Ej os n t=some r->OJ os r=true
 |0,t,r,h=>by cases h
 |n+1,t,r,h=>by
  unfold Ej at h;split at h
  ·rename_i hs;injection h with h;subst h;exact hs
  ·split at h
   ·exact Eu h
   ·cases h
theorem QN {os:List Oper}:∀{n t r:Nat},Ej os n t=some r->Ej os (n+1) t=some r
 |0,t,r,h=>by cases h
 |n+1,t,r,h=>by
  rw[Ej] at h⊢
  cases hs:OJ os t with
  |true=>rw[hs] at h;exact h
  |false=>
   rw[hs] at h;simp only at h⊢
   cases hx:Vl os t with
   |none=>rw[hx] at h;cases h
   |some x=>
    rw[hx] at h;simp only at h⊢;exact QN h
theorem cF {o:Oper}{x:Nat}(h:nG o=some x):o.guard=none/\(o.op=.move (.tmp x)\/o.op=.nilCheck (.tmp x)\/∃s k,o.op=.fieldAddr s (.tmp x) k):=by
 unfold nG at h;split at h
 ·rename_i x' h1 h2;injection h with h;subst h;exact⟨h2,.inl h1⟩
 ·rename_i x' h1 h2;injection h with h;subst h;exact⟨h2,.inr (.inl h1)⟩
 ·rename_i s x' k h1 h2;injection h with h;subst h;exact⟨h2,.inr (.inr ⟨s,k,h1⟩)⟩
 ·cases h
theorem QC {os:List Oper}{t x:Nat}(h:Vl os t=some x){z:Oper}(hz:z∈os)(hd:z.dst=some t):z.guard=none/\(z.op=.move (.tmp x)\/z.op=.nilCheck (.tmp x)\/∃s k,z.op=.fieldAddr s (.tmp x) k):=by
 unfold Vl at h
 have hm:z∈os.filter (K7 t):=List.mem_filter.2 ⟨hz,by unfold K7;rw[hd];simp[Nat.beq_refl]⟩
 generalize os.filter (K7 t)=l at h hm
 cases l with
 |nil=>cases hm
 |cons o l2=>
  cases l2 with
  |cons=>cases h
  |nil=>
   obtain rfl:=List.mem_singleton.1 hm;exact cF h
def bq (os:List Oper)(F:Fr):Prop:=∀t r,Ej os HM t=some r->∀g b o,lk F t=(g,.ptr b o)->∃g' o',lk F r=(g',.ptr b o')
def Xt (os:List Oper)(F:Fr):Prop:=(∀x∈os,∀y∈os,Xm os x y=true->pk os F x y=true)/\((∃o∈os,Un o.op=true)->bq os F)
theorem YQ {os:List Oper}{F:Fr}{t:Nat}(h:fV os F t=true){r:Nat}(hr:Ej os HM t=some r){g:Bool}{b o:Nat}(hl:lk F t=(g,.ptr b o)):∃g' o',lk F r=(g',.ptr b o'):=by
 unfold fV at h;rw[hr] at h;simp only[hl] at h;split at h
 ·rename_i g' b' o' Ju;have:=Nat.eq_of_beq_eq_true h;subst this;exact⟨g',o',Ju⟩
 ·cases h
theorem gJ {os:List Oper}{F:Fr}(h:Ui os F=true):Xt os F:=by
 unfold Ui at h;rw[Bool.and_eq_true] at h
 refine⟨fun x hx y hy hp=> ?_,fun DH t r hr g b o hl=> ?_⟩
 ·have h1:=List.all_eq_true.1 (List.all_eq_true.1 h.1 x hx) y hy;rw[hp] at h1;simpa using h1
 ·have ha:(os.any fun o=>Un o.op)=true:=List.any_eq_true.2 DH
  have h2:=h.2;rw[ha] at h2;simp only[Bool.not_true,Bool.false_or] at h2
  cases hs:OJ os t with
  |true=>
   have:Ej os HM t=some t:=by unfold HM Ej;rw[hs]
   rw[this] at hr
   injection hr with hr
   subst hr;exact⟨g,o,hl⟩
  |false=>
   obtain⟨z,hz,hd⟩:∃z∈os,z.dst=some t:=by
    unfold OJ at hs;obtain⟨z,hz,gz⟩:=List.all_eq_false.1 hs;refine⟨z,hz,?_⟩
    cases hd:z.dst with
    |none=>rw[hd] at gz;simp at gz
    |some d=>
     rw[hd] at gz;simp only[Bool.not_eq_true,Bool.not_eq_false'] at gz
     have:Nat.beq d t=true:=by simpa using gz
     rw[Nat.eq_of_beq_eq_true this]
   have h3:=List.all_eq_true.1 h2 z hz;rw[hd] at h3;exact YQ h3 hr hl
theorem fF {os:List Oper}{t x:Nat}(h:Vl os t=some x){z:Oper}(hz:z∈os)(hd:z.dst=some t){e:Bool×AV}{h':Hp}{h0:Hp}(hs:AW C cl ops true z F h0=.ok (e,h')){g:Bool}{b o:Nat}(he:e=(g,.ptr b o)):
  ∃g' o',lk F x=(g',.ptr b o'):=by
 obtain⟨hg,Bo⟩:=QC h hz hd;obtain⟨d,op,ty,pos,after,gd⟩:=z;simp only at hg Bo;subst hg
 rcases Bo with Bo|Bo|⟨s,k,Bo⟩
 ·subst Bo
  simp only[AW,guardOf,PS ⟨d,.move (.tmp x),ty,pos,after,none⟩ (fun _ h=>by cases h) (fun _ _ h=>by cases h),BF,Bl,Bool.true_or,evalOp,HY,ev] at hs
  simp only[Except.ok.injEq,Prod.mk.injEq] at hs;obtain⟨rfl,-⟩:=hs;exact⟨g,o,he⟩
 ·subst Bo
  simp only[AW,guardOf,PS ⟨d,.nilCheck (.tmp x),ty,pos,after,none⟩ (fun _ h=>by cases h) (fun _ _ h=>by cases h),BF,Bl,Bool.true_or,evalOp,Ez,ev] at hs
  cases hx:lk F x with
  |mk g1 v1=>
   rw[hx] at hs
   cases v1 with
   |ptr b1 o1=>
    cases g1 with
    |false=>cases hs
    |true=>
     simp only[Except.ok.injEq,Prod.mk.injEq] at hs;obtain⟨rfl,-⟩:=hs;simp only[Prod.mk.injEq,AV.ptr.injEq] at he;obtain⟨-,rfl,-⟩:=he;exact⟨true,o1,rfl⟩
   |ro cs=>
    cases g1 with
    |false=>cases hs
    |true=>
     simp only[Except.ok.injEq,Prod.mk.injEq] at hs;obtain⟨rfl,-⟩:=hs;cases he
   |_=>cases hs
 ·subst Bo
  simp only[AW,guardOf,PS ⟨d,.fieldAddr s (.tmp x) k,ty,pos,after,none⟩ (fun _ h=>by cases h) (fun _ _ h=>by cases h),BF,Bl,Bool.true_or,evalOp,EH,ev] at hs
  split at hs
  ·rename_i e1 h1 hm;simp only[Except.ok.injEq,Prod.mk.injEq] at hs;obtain⟨rfl,-⟩:=hs;split at hm
   ·split at hm
    ·rename_i fd ZE
     cases yh:Nat.beq (C.P.cellsOf fd.type) 0 with
     |true=>rw[yh] at hm;cases hm
     |false=>
      rw[yh] at hm;simp only[cond_false] at hm
      cases hx:lk F x with
      |mk g1 v1=>
       rw[hx] at hm
       cases v1 with
       |ptr b1 o1=>
        simp only[Option.some.injEq,Prod.mk.injEq] at hm;obtain⟨-,rfl,-⟩:=hm;simp only[Prod.mk.injEq,AV.ptr.injEq] at he;obtain⟨-,rfl,-⟩:=he;exact⟨g1,o1,rfl⟩
       |ro cs=>
        simp only[Option.some.injEq,Prod.mk.injEq] at hm;obtain⟨-,rfl,-⟩:=hm;cases he
       |_=>cases hm
    ·cases hm
   ·cases hm
  ·cases hs
  ·cases hs
theorem bq.put {os:List Oper}{F:Fr}(hF:bq os F){z:Oper}(hz:z∈os){e:Bool×AV}{h':Hp}{h0:Hp}(hs:AW C cl ops true z F h0=.ok (e,h')):bq os (Av F z.dst e):=by
 intro t r hr g b o hl;have OU:=Eu hr;rw[A9 (GW OU hz)]
 by_cases hd:z.dst=some t
 ·rw[hd,cu] at hl
  cases DH:OJ os t with
  |true=>exact absurd hd (GW DH hz)
  |false=>
   have OV:=hr;unfold HM Ej at OV;rw[DH] at OV;simp only at OV;split at OV
   ·rename_i x hx;obtain⟨g',o',KW⟩:=fF hx hz hd hs hl;exact hF x r (QN OV) g' b o' KW
   ·cases OV
 ·rw[A9 hd] at hl;exact hF t r hr g b o hl
theorem Xt.put {os:List Oper}{F:Fr}(h:Xt os F){z:Oper}(hz:z∈os){e:Bool×AV}{h':Hp}{h0:Hp}(hs:AW C cl ops true z F h0=.ok (e,h')):Xt os (Av F z.dst e):=by
 refine⟨fun x hx y hy hp=> ?_,fun DH=>(h.2 DH).put hz hs⟩
 have h1:=h.1 x hx y hy hp;obtain⟨t,p,t',q,v,r,r',k1,k2,_,_,k5,k6⟩:=MI hp;unfold pk at h1⊢;rw[k1,k2] at h1⊢;simp only[k5,k6] at h1⊢;rw[A9 (GW (Eu k5) hz),A9 (GW (Eu k6) hz)];exact h1
theorem Wc {os:List Oper}{F:Fr}{x y:Oper}{t p t' q r r':Nat}{v:Operand}(hx:x.op=.load t (.tmp p))(hy:y.op=.store t' (.tmp q) v)(hr:Ej os HM p=some r)(jl:Ej os HM q=some r')(h:pk os F x y=true):
  ∃b o b' o',lk F r=(true,.ptr b o)/\lk F r'=(true,.ptr b' o')/\b≠b':=by
 unfold pk at h;rw[hx,hy] at h;simp only[hr,jl] at h;split at h
 ·rename_i b o b' o' h1 h2
  exact⟨b,o,b',o',h1,h2,fun e=>by subst e;simp[Nat.beq_refl] at h⟩
 ·cases h
theorem KT {x:Oper}{t p:Nat}(Bo:x.op=.load t (.tmp p))(hg:x.guard=none){e:Bool×AV}{h':Hp}(hx:AW C cl ops true x F h=.ok (e,h')):
  h'=h/\((∀g:Hp,AW C cl ops true x F g=.ok (e,g))\/∃b o,lk F p=(true,.ptr b o)/\∀g:Hp,g[b]?=h[b]?->AW C cl ops true x F g=.ok (e,g)):=by
 obtain⟨d,op,ty,pos,after,gd⟩:=x;simp only at Bo hg;subst Bo;subst hg
 rcases K6 (P:=C.P) (F:=F) (ops:=ops) (draw:=true) ⟨d,.load t (.tmp p),ty,pos,after,none⟩ rfl with h0|⟨z,h0⟩
 case inr=>simp only[AW,guardOf,h0] at hx;cases hx
 simp only[AW,guardOf,h0,BF,Bl,Bool.true_or,evalOp,JD,ev] at hx⊢
 cases hl:lk F p with
 |mk g1 v1=>
  rw[hl] at hx
  cases v1 with
  |ro cs=>
   simp only at hx⊢
   cases hr:rd C.P t cs with
   |none=>rw[hr] at hx;cases hx
   |some v=>
    rw[hr] at hx
    cases g1 with
    |false=>cases hx
    |true=>
     simp only[Except.ok.injEq,Prod.mk.injEq] at hx;obtain⟨rfl,rfl⟩:=hx
     exact⟨rfl,.inl fun g=>rfl⟩
  |ptr b o=>
   simp only at hx⊢
   cases hb:h[b]? with
   |none=>rw[hb] at hx;cases hx
   |some y=>
    rw[hb] at hx
    cases y with
    |mem t0 cs=>
     simp only at hx
     cases hr:rd C.P t (cs.drop o) with
     |none=>rw[hr] at hx;cases hx
     |some v=>
      rw[hr] at hx
      cases g1 with
      |false=>cases hx
      |true=>
       simp only[Except.ok.injEq,Prod.mk.injEq] at hx;obtain⟨rfl,rfl⟩:=hx
       refine⟨rfl,.inr ⟨b,o,rfl,fun g hgb=> ?_⟩⟩
       simp only[hgb,hb,hr]
    |_=>cases hx
  |_=>cases hx
theorem P9 {y:Oper}{t q:Nat}{v:Operand}(Bo:y.op=.store t (.tmp q) v)(hg:y.guard=none){e:Bool×AV}{h':Hp}(hx:AW C cl ops true y F h=.ok (e,h')):
  ∃b o,lk F q=(true,.ptr b o)/\∀c,c≠b->h'[c]?=h[c]? :=by
 obtain⟨d,op,ty,pos,after,gd⟩:=y;simp only at Bo hg;subst Bo;subst hg
 simp only[AW,guardOf,PS ⟨d,.store t (.tmp q) v,ty,pos,after,none⟩ (fun _ h=>by cases h) (fun _ _ h=>by cases h),BF,Bl,Bool.true_or,evalOp,Pl,ev] at hx
 cases hl:lk F q with
 |mk g1 v1=>
  rw[hl] at hx
  cases v1 with
  |ptr b o=>
   simp only at hx;split at hx
   ·rename_i e1 h1 hm;simp only[Except.ok.injEq,Prod.mk.injEq] at hx;obtain⟨rfl,rfl⟩:=hx;split at hm
    ·simp only[Option.some.injEq,Prod.mk.injEq] at hm;obtain⟨hgt,_,rfl⟩:=hm
     cases g1 with
     |false=>simp at hgt
     |true=>exact⟨b,o,rfl,fun c hc=>by rw[List.getElem?_set_ne (fun e=>hc e.symm)]⟩
    ·cases hm
   ·cases hx
   ·cases hx
  |_=>cases hx
theorem FK {o:Oper}{d:Nat}(h:JT o=some d):o.dst=some d:=by
 unfold JT at h;split at h
 ·exact h
 ·cases h
theorem nF {os:List Oper}(hF:Xt os F){x y:Oper}(rv:x∈os)(wC:y∈os)(Uw:x.apart ops y=true)(yy:(Xm os x y||Xm os y x)=true){e1 e2:Bool×AV}{h1 h2:Hp}
  (hx:AW C cl ops true x F h=.ok (e1,h1)) (hy:AW C cl ops true y (Av F x.dst e1) h1=.ok (e2,h2)):
  ∃h3,AW C cl ops true y F h=.ok (e2,h3)/\AW C cl ops true x (Av F y.dst e2) h3=.ok (e1,h2)/\Dw (Av (Av F x.dst e1) y.dst e2) (Av (Av F y.dst e2) x.dst e1):=by
 obtain⟨a1,a2,a3⟩:=Oper.apart_spec Uw
 have cy:∀g,AW C cl ops true y (Av F x.dst e1) g=AW C cl ops true y F g:=fun g=>Bu y (fun t ht=>A9 fun hd=>a1 t hd ht) (.inl rfl) (.inr fun d hd=>A9 fun sn=>a2 d sn (FK hd))
 have cx:∀g,AW C cl ops true x (Av F y.dst e2) g=AW C cl ops true x F g:=fun g=>Bu x (fun t ht=>A9 fun hd=>a3 t hd ht) (.inl rfl) (.inr fun d hd=>A9 fun sk=>a2 d (FK hd) sk)
 have hp:Dw (Av (Av F x.dst e1) y.dst e2) (Av (Av F y.dst e2) x.dst e1):=put_comm a2;rw[cy] at hy;rw[Bool.or_eq_true] at yy
 rcases yy with hl|hl
 ·have hd:=hF.1 x rv y wC hl;obtain⟨t,p,t',q,v,r,r',k1,k2,k3,k4,k5,k6⟩:=MI hl
  have hR:=hF.2 ⟨y,wC,by rw[k2];rfl⟩
  obtain⟨b,o,b',o',q1,q2,BM⟩:=Wc k1 k2 k5 k6 hd;obtain⟨rfl,wj⟩:=KT k1 k3 hx;obtain⟨d,od,hq,hs⟩:=P9 k2 k4 hy
  rcases wj with CG|⟨c,oc,wY,CG⟩
  ·exact⟨h2,hy,(cx h2).trans (CG h2),hp⟩
  ·obtain⟨_,_,hc⟩:=hR p r k5 _ _ _ wY;obtain⟨_,_,dM⟩:=hR q r' k6 _ _ _ hq;rw[q1] at hc;rw[q2] at dM
   injection hc with _ hc;injection hc with hc _
   injection dM with _ dM;injection dM with dM _
   subst hc;subst dM;exact⟨h2,hy,(cx h2).trans (CG h2 (hs _ BM)),hp⟩
 ·have hd:=hF.1 y wC x rv hl;obtain⟨t,p,t',q,v,r,r',k1,k2,k3,k4,k5,k6⟩:=MI hl
  have hR:=hF.2 ⟨x,rv,by rw[k2];rfl⟩
  obtain⟨b,o,b',o',q1,q2,BM⟩:=Wc k1 k2 k5 k6 hd;obtain⟨d,od,hq,hs⟩:=P9 k2 k4 hx;obtain⟨rfl,wj⟩:=KT k1 k3 hy
  rcases wj with CG|⟨c,oc,wY,CG⟩
  ·exact⟨h,CG h,(cx h).trans hx,hp⟩
  ·obtain⟨_,_,hc⟩:=hR p r k5 _ _ _ wY;obtain⟨_,_,dM⟩:=hR q r' k6 _ _ _ hq;rw[q1] at hc;rw[q2] at dM
   injection hc with _ hc;injection hc with hc _
   injection dM with _ dM;injection dM with dM _
   subst hc;subst dM;exact⟨h,CG h (hs _ BM).symm,(cx h).trans hx,hp⟩
theorem gf {x y:Op}(h:tb x y=true):(∃t a,x=.load t a)/\∃t,y=.alloc t:=by
 unfold tb at h;split at h
 ·exact⟨⟨_,_,rfl⟩,⟨_,rfl⟩⟩
 ·cases h
theorem gU {x:Oper}{t:TypeId}{a:Operand}(Bo:x.op=.load t a){e:Bool×AV}{h':Hp}(hx:AW C cl ops true x F h=.ok (e,h')):
  h'=h/\(∀m:Hp,AW C cl ops true x F (h++m)=.ok (e,h++m))/\∀b m,h[b]?=some .dead->AW C cl ops true x F (h.set b m)=.ok (e,h.set b m):=by
 obtain⟨d,op,ty,pos,after,gd⟩:=x;simp only at Bo;subst Bo
 rcases K6 (P:=C.P) (F:=F) (ops:=ops) (draw:=true) ⟨d,.load t a,ty,pos,after,gd⟩ rfl with h0|⟨z,h0⟩
 case inr=>
  simp only[AW,h0] at hx⊢;split at hx
  ·cases hx
  ·simp only[Except.ok.injEq,Prod.mk.injEq] at hx;obtain⟨rfl,rfl⟩:=hx
   exact⟨rfl,fun m=>rfl,fun b m _=>rfl⟩
  ·cases hx
 simp only[AW,h0] at hx⊢;split at hx
 ·cases hx
 ·simp only[Except.ok.injEq,Prod.mk.injEq] at hx;obtain⟨rfl,rfl⟩:=hx
  exact⟨rfl,fun m=>rfl,fun b m _=>rfl⟩
 ·simp only[BF,Bl,Bool.true_or,evalOp,JD] at hx⊢
  cases Nl:ev C.G F a with
  |mk g v=>
   rw[Nl] at hx
   cases v with
   |ro cs=>
    simp only at hx⊢
    cases hr:rd C.P t cs with
    |none=>rw[hr] at hx;cases hx
    |some v=>
     rw[hr] at hx
     cases g with
     |false=>cases hx
     |true=>
      simp only[Except.ok.injEq,Prod.mk.injEq] at hx⊢;obtain⟨rfl,rfl⟩:=hx
      exact⟨rfl,fun m=>⟨rfl,trivial⟩,fun b m _=>⟨rfl,trivial⟩⟩
   |ptr b o=>
    simp only at hx⊢
    cases hb:h[b]? with
    |none=>rw[hb] at hx;cases hx
    |some y=>
     have BC:b<h.length:=by
      rcases Nat.lt_or_ge b h.length with hl|hl
      ·exact hl
      ·rw[List.getElem?_eq_none hl] at hb;cases hb
     rw[hb] at hx
     cases y with
     |mem t0 cs=>
      simp only at hx
      cases hr:rd C.P t (cs.drop o) with
      |none=>rw[hr] at hx;cases hx
      |some v=>
       rw[hr] at hx
       cases g with
       |false=>cases hx
       |true=>
        simp only[Except.ok.injEq,Prod.mk.injEq] at hx;obtain⟨rfl,rfl⟩:=hx
        refine⟨rfl,fun m=> ?_,fun b' m HV=> ?_⟩
        ·rw[List.getElem?_append_left BC,hb];simp only[hr]
        ·have BM:b'≠b:=by rintro rfl;rw[hb] at HV;cases HV
         rw[List.getElem?_set_ne BM,hb];simp only[hr]
     |_=>cases hx
   |_=>cases hx
theorem dp {y:Oper}{t:TypeId}(Bo:y.op=.alloc t){e:Bool×AV}{h':Hp}(hy:AW C cl ops true y F h=.ok (e,h')):(∃m,h'=h++m)\/∃b m,h[b]?=some .dead/\h'=h.set b m:=by
 obtain⟨d,op,ty,pos,after,gd⟩:=y;simp only at Bo;subst Bo;simp only[AW] at hy;split at hy
 ·cases hy
 ·simp only[Except.ok.injEq,Prod.mk.injEq] at hy
  exact .inl ⟨[],by rw[List.append_nil];exact hy.2.symm⟩
 ·split at hy
  ·rename_i r Gx;subst hy;unfold FL at Gx;split at Gx
   ·cases Gx
   ·split at Gx
    ·simp only[Option.some.injEq] at Gx;unfold TT at Gx;split at Gx
     ·split at Gx
      ·rename_i hb _;simp only[Except.ok.injEq,Prod.mk.injEq] at Gx;obtain⟨_,rfl⟩:=Gx;exact .inr ⟨_,_,hb,rfl⟩
      ·cases Gx
     ·cases Gx
    ·split at Gx<;>cases Gx
    ·cases Gx
  ·simp only[BF,Bl,Bool.true_or,evalOp,VB] at hy;split at hy
   ·rename_i e1 h1 hm;simp only[Except.ok.injEq,Prod.mk.injEq] at hy;obtain⟨rfl,rfl⟩:=hy;split at hm
    ·simp only[Option.some.injEq,Prod.mk.injEq] at hm;obtain⟨_,_,rfl⟩:=hm
     exact .inl ⟨_,by rw[List.append_assoc]⟩
    ·cases hm
   ·cases hy
   ·cases hy
theorem swap (DS:Io cl){x y:Oper}(Uw:x.apart ops y=true)(PL:calm C.P x.op y.op=true){e1 e2:Bool×AV}{h1 h2:Hp}
  (hx:AW C cl ops true x F h=.ok (e1,h1)) (hy:AW C cl ops true y (Av F x.dst e1) h1=.ok (e2,h2)):
  ∃h3,AW C cl ops true y F h=.ok (e2,h3)/\AW C cl ops true x (Av F y.dst e2) h3=.ok (e1,h2)/\Dw (Av (Av F x.dst e1) y.dst e2) (Av (Av F y.dst e2) x.dst e1):=by
 obtain⟨a1,a2,a3⟩:=Oper.apart_spec Uw
 have cy:∀g,AW C cl ops true y (Av F x.dst e1) g=AW C cl ops true y F g:=fun g=>Bu y (fun t ht=>A9 fun hd=>a1 t hd ht) (.inl rfl) (.inr fun d hd=>A9 fun sn=>a2 d sn (FK hd))
 have cx:∀g,AW C cl ops true x (Av F y.dst e2) g=AW C cl ops true x F g:=fun g=>Bu x (fun t ht=>A9 fun hd=>a3 t hd ht) (.inl rfl) (.inr fun d hd=>A9 fun sk=>a2 d (FK hd) sk)
 have hp:Dw (Av (Av F x.dst e1) y.dst e2) (Av (Av F y.dst e2) x.dst e1):=put_comm a2;rw[cy] at hy
 cases hla:tb x.op y.op with
 |true=>
  obtain⟨⟨t,a,k1⟩,t',k2⟩:=gf hla;obtain⟨rfl,hg,ku⟩:=gU k1 hx
  rcases dp k2 hy with ⟨m,rfl⟩|⟨b,m,hb,rfl⟩
  ·exact⟨_,hy,(cx _).trans (hg m),hp⟩
  ·exact⟨_,hy,(cx _).trans (ku b m hb),hp⟩
 |false=>
 cases hxt:DZ C.P x.op with
 |false=>
  obtain⟨rfl,hg⟩:=FU DS x hxt hx;exact⟨h2,hy,(cx h2).trans (hg h2),hp⟩
 |true=>
  cases hyt:DZ C.P y.op with
  |false=>
   obtain⟨rfl,hg⟩:=FU DS y hyt hy;exact⟨h,hg h,(cx h).trans hx,hp⟩
  |true=>
   have hey:effect C.P y.op=false:=by cases he:effect C.P y.op<;>simp_all[calm]
   have hex:effect C.P x.op=false:=by cases he:effect C.P x.op<;>simp_all[calm]
   have pN:=Lu DS x hex hx;subst pN;have pM:=Lu DS y hey hy;subst pM;exact⟨h2,hy,(cx h2).trans hx,hp⟩
theorem bk {x:Oper}(h2:bu ops=true)(ha:(JT x).isSome=true){e:Bool×AV}{h':Hp}(hx:AW C cl ops true x F h=.ok (e,h')):
  (h'=h/\∀g,AW C cl ops true x F g=.ok (e,g))\/∃b m,m≠Blk.dead/\h[b]?=some .dead/\h'=h.set b m/\∀g:Hp,g[b]?=some .dead->AW C cl ops true x F g=.ok (e,g.set b m):=by
 obtain⟨t,d,Bo,SJ⟩:∃t d,x.op=.alloc t/\x.dst=some d:=by
  unfold JT at ha;split at ha
  ·rename_i t Bo;exact⟨t,_,Bo,Option.eq_some_of_isSome ha⟩
  ·cases ha
 have e0:∀g,FL C.P true ops x F g=some (TT C.P t (lk F d).2 g):=fun g=>by
  unfold FL;rw[h2];simp only[Bool.and_self,Bo,SJ]
 unfold AW at hx⊢;split at hx
 ·cases hx
 ·rename_i TK;simp only[Except.ok.injEq,Prod.mk.injEq] at hx;obtain⟨rfl,rfl⟩:=hx
  exact .inl ⟨rfl,fun g=>by simp only[TK]⟩
 ·rename_i TK;simp only[e0] at hx;unfold TT at hx;split at hx
  ·rename_i b hv;split at hx
   ·rename_i cs more hb hz;simp only[Except.ok.injEq,Prod.mk.injEq] at hx;obtain⟨rfl,rfl⟩:=hx
    refine .inr ⟨b,_,(by intro h;cases h),hb,rfl,fun g hg=> ?_⟩
    simp only[TK,e0,TT,hv,hg,hz]
   ·cases hx
  ·cases hx
theorem kA {x:Oper}(h2:bu ops=true)(hr:vG ops x=true){e:Bool×AV}{h':Hp}(hx:AW C cl ops true x F h=.ok (e,h')):h'=h/\∀g,AW C cl ops true x F g=.ok (e,g):=by
 obtain⟨t,p,Bo,hi⟩:∃t p,x.op=.load t (.tmp p)/\oD ops p=true:=by
  unfold vG at hr;split at hr
  ·rename_i t p Bo;exact⟨t,p,Bo,hr⟩
  ·cases hr
 obtain⟨d,op,ty,pos,after,gd⟩:=x;simp only at Bo;subst Bo
 have e0:∀g,FL C.P true ops ⟨d,.load t (.tmp p),ty,pos,after,gd⟩ F g=match(lk F p).2 with|.ro _=>none|_=>some (.error [1035]):=fun g=>by
  unfold FL;rw[h2];simp only[Bool.and_self,hi]
  cases (lk F p).2<;>rfl
 simp only[AW] at hx⊢;split at hx
 ·cases hx
 ·simp only[Except.ok.injEq,Prod.mk.injEq] at hx;obtain⟨rfl,rfl⟩:=hx
  exact⟨rfl,fun g=>rfl⟩
 ·simp only[e0] at hx⊢
  cases hl:lk F p with
  |mk g1 v1=>
   rw[hl] at hx
   cases v1 with
   |ro cs=>
    simp only[BF,Bl,Bool.true_or,evalOp,JD,ev,hl] at hx⊢
    cases JN:rd C.P t cs with
    |none=>rw[JN] at hx;cases hx
    |some v=>
     rw[JN] at hx
     cases g1 with
     |false=>cases hx
     |true=>
      simp only[Except.ok.injEq,Prod.mk.injEq] at hx⊢;obtain⟨rfl,rfl⟩:=hx
      exact⟨rfl,fun g=>⟨rfl,trivial⟩⟩
   |_=>cases hx
theorem j3 {x y:Oper}(Uw:x.apart ops y=true)(TC:Xy ops x y=true){e1 e2:Bool×AV}{h1 h2:Hp}
  (hx:AW C cl ops true x F h=.ok (e1,h1)) (hy:AW C cl ops true y (Av F x.dst e1) h1=.ok (e2,h2)):
  ∃h3,AW C cl ops true y F h=.ok (e2,h3)/\AW C cl ops true x (Av F y.dst e2) h3=.ok (e1,h2)/\Dw (Av (Av F x.dst e1) y.dst e2) (Av (Av F y.dst e2) x.dst e1):=by
 obtain⟨a1,a2,a3⟩:=Oper.apart_spec Uw
 have cy:∀g,AW C cl ops true y (Av F x.dst e1) g=AW C cl ops true y F g:=fun g=>Bu y (fun t ht=>A9 fun hd=>a1 t hd ht) (.inl rfl) (.inr fun d hd=>A9 fun sn=>a2 d sn (FK hd))
 have cx:∀g,AW C cl ops true x (Av F y.dst e2) g=AW C cl ops true x F g:=fun g=>Bu x (fun t ht=>A9 fun hd=>a3 t hd ht) (.inl rfl) (.inr fun d hd=>A9 fun sk=>a2 d (FK hd) sk)
 have hp:Dw (Av (Av F x.dst e1) y.dst e2) (Av (Av F y.dst e2) x.dst e1):=put_comm a2;rw[cy] at hy;unfold Xy at TC;rw[Bool.and_eq_true,Bool.or_eq_true,Bool.and_eq_true] at TC;obtain⟨t2,⟨hax,hay⟩|sK⟩:=TC
 ·rcases bk t2 hax hx with ⟨rfl,hg⟩|⟨b,m,hm,hb,rfl,hg⟩
  ·exact⟨h2,hy,(cx h2).trans (hg h2),hp⟩
  ·rcases bk t2 hay hy with ⟨rfl,CY⟩|⟨b',m',sU,HV,rfl,CY⟩
   ·exact⟨h,CY h,(cx h).trans hx,hp⟩
   ·have HD:b<h.length:=(List.getElem?_eq_some_iff.1 hb).1
    have BM:b≠b':=by
     rintro rfl
     rw[List.getElem?_set_self HD] at HV
     injection HV with HV
     exact hm HV
    rw[List.getElem?_set_ne BM] at HV;refine⟨_,CY h HV,?_,hp⟩
    rw[cx,hg _ (by rw[List.getElem?_set_ne (Ne.symm BM)];exact hb),List.set_comm _ _ BM]
 ·obtain⟨rfl,hg⟩:=kA t2 sK hx;exact⟨h2,hy,(cx h2).trans (hg h2),hp⟩
theorem IH {draw:Bool}:∀(l:List Oper) {F F':Fr} {h h':Hp} {G:Fr},Dw F F'->BQ C cl ops draw l F h=.ok (G,h')->∃G',BQ C cl ops draw l F' h=.ok (G',h')/\Dw G G'
 |[],F,F',h,h',G,he,hx=>by
  simp only[BQ,Except.ok.injEq,Prod.mk.injEq] at hx⊢;obtain⟨rfl,rfl⟩:=hx;exact⟨F',⟨rfl,rfl⟩,he⟩
 |o::l,F,F',h,h',G,he,hx=>by
  simp only[BQ] at hx⊢
  rw[<-Bu (F:=F) (F':=F') o (fun t _=>he t) (.inr (he dS)) (.inr fun d _=>he d)]
  split at hx
  ·exact IH l (he.put _ _) hx
  ·cases hx
theorem pull (DS:Io cl){os:List Oper}{o:Oper}(bH:o∈os){post:List Oper}:∀(pre:List Oper) {F:Fr} {h h':Hp} {G:Fr},Xt os F->(∀x∈pre,x∈os/\x.apart ops o=true/\(calm C.P x.op o.op||Xm os x o||Xm os o x||Xy ops x o)=true)->
  BQ C cl ops true (pre++o::post) F h=.ok (G,h')->∃G',BQ C cl ops true (o::(pre++post)) F h=.ok (G',h')/\Dw G G'
 |[],F,h,h',G,_,_,hx=>⟨G,hx,Dw.refl G⟩
 |x::pre,F,h,h',G,hF,Uw,hx=>by
  rw[List.cons_append] at hx;simp only[BQ,DF] at hx
  cases hs:AW C cl ops true x F h with
  |error e=>rw[hs] at hx;cases hx
  |ok r=>
   obtain⟨e1,h1⟩:=r;rw[hs] at hx;simp only at hx
   obtain⟨G1,IC,qK⟩:=pull DS bH pre (hF.put (Uw x (by simp)).1 hs) (fun y hy=>Uw y (by simp[hy])) hx
   simp only[BQ,DF] at IC
   cases Ku:AW C cl ops true o (Av F x.dst e1) h1 with
   |error e=>rw[Ku] at IC;cases IC
   |ok r2=>
    obtain⟨e2,h2⟩:=r2;rw[Ku] at IC;simp only at IC
    have hsw:∃h3,AW C cl ops true o F h=.ok (e2,h3)/\AW C cl ops true x (Av F o.dst e2) h3=.ok (e1,h2)/\Dw (Av (Av F x.dst e1) o.dst e2) (Av (Av F o.dst e2) x.dst e1):=by
     obtain⟨m1,m2,m3⟩:=Uw x (by simp)
     cases PL:calm C.P x.op o.op with
     |true=>exact swap DS m2 PL hs Ku
     |false=>
      rw[PL,Bool.false_or,Bool.or_eq_true] at m3
      rcases m3 with m3|m3
      ·exact nF hF m1 bH m2 m3 hs Ku
      ·exact j3 m2 m3 hs Ku
    obtain⟨h3,k1,k2,k3⟩:=hsw;obtain⟨G2,rz,xZ⟩:=IH _ k3 IC;refine⟨G2,?_,qK.trans xZ⟩;rw[List.cons_append];simp only[BQ,DF,k1,k2];exact rz
end
end Go.Ai
