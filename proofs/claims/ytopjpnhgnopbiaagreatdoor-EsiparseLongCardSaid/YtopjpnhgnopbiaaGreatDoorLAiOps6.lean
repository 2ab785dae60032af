/-
  What the operations do: cuts and appends; and all of them together.
-/
import Derived.Test.YtopjpnhgnopbiaaGreatDoorLAiOps5
set_option linter.unusedVariables false
set_option linter.unusedSimpArgs false
set_option linter.unnecessarySimpa false
namespace Go.Ai
open Go.RowKit
section
variable {G:Nat->Option (List AV)}{I:World->Prop}{B0:Nat}{E:Env}
variable {P:Program}{F:Fr}{a:Act}{d:Option Tmp}{ty:TypeId}{pos:String}{after:Array Edge}{gd:Option (Nat×Bool)}
theorem JK (H:Good G I B0 E)(hf:AP E F a){o:Option Operand}{g:Bool}{r:Option Int}(h:Ly (o.map (ev G F))=some (g,r))(hg:g=true):
  ∃k:IntKind,o.map a.eval=r.map (Value.int k):=by
 cases o with
 |none=>
  simp only[Option.map_none,Ly,Option.some.injEq,Prod.mk.injEq] at h
  exact⟨.i64,by simp[<-h.2]⟩
 |some x=>
  simp only[Option.map_some] at h;unfold Ly at h;split at h
  ·rename_i h';cases h'
  ·rename_i g' k n h';simp only[Option.some.injEq,Prod.mk.injEq] at h h';obtain⟨rfl,rfl⟩:=h;have:=Aj H hf h' hg
   exact⟨k,by simp only[Option.map_some,Option.some.injEq];exact this⟩
  ·cases h
theorem SE (H:Good G I B0 E)(hf:AP E F a)(t:TypeId)(x:Operand)(lo hi:Option Operand)(ht:P.underlying t=some .string){g g1 g2:Bool}{s:List UInt8}{l r:Option Int}
  (hx:ev G F x=(g,.str s)) (hl:Ly (lo.map (ev G F))=some (g1,l)) (hr:Ly (hi.map (ev G F))=some (g2,r)) (Am:(g&&g1&&g2&&BC s.length l r)=true):
  An P G I B0 E a ⟨d,.slice t x lo hi none,ty,pos,after,gd⟩ true (.str (B6 s l r)) E.h:=by
 simp only[Bool.and_eq_true] at Am;obtain⟨⟨⟨hg,oV⟩,gv⟩,hc⟩:=Am;have h1:a.eval x=.string ⟨s.toArray⟩:=Aj H hf hx hg;obtain⟨k1,e1⟩:=JK H hf hl oV;obtain⟨k2,e2⟩:=JK H hf hr gv;refine An.same H (.string ⟨(B6 s l r).toArray⟩) ?_ rfl;simp only[execOp,h1,e1,e2,Option.map_none,Instr.sliceAt,Sem.run_bind,run_underlying ht,Result.andThen_ok]
 have hx:∀(a b:Nat),a<=b->b<=s.length->(⟨s.toArray⟩:ByteArray).extract a b=⟨((s.take b).drop a).toArray⟩:=by
  intro a b Q6 hb;rw[ByteArray.extract_mk,List.drop_take]
 cases l with
 |none=>cases r with
  |none=>
   simp[Instr.slice,run_underlying ht,Instr.sliceBounds,B6]
  |some b=>
   simp only[BC,Bool.and_eq_true,decide_eq_true_eq] at hc
   have hb:0<=b/\b<=((⟨s.toArray⟩:ByteArray).size:Int):=⟨hc.1,by simpa[ByteArray.size_mk'] using hc.2⟩
   simp[Instr.slice,run_underlying ht,Instr.sliceBounds,Instr.sliceBound,asIntOf,B6,hb,hx 0 b.toNat (by omega) (by omega)]
 |some c=>cases r with
  |none=>
   simp only[BC,Bool.and_eq_true,decide_eq_true_eq] at hc;have hb:0<=c/\c<=(s.length:Int):=hc
   simp[Instr.slice,run_underlying ht,Instr.sliceBounds,Instr.sliceBound,asIntOf,B6,hb,ByteArray.size_mk',hx c.toNat s.length (by omega) (Nat.le_refl _)]
  |some b=>
   simp only[BC,Bool.and_eq_true,decide_eq_true_eq] at hc
   have hb:0<=b/\b<=((⟨s.toArray⟩:ByteArray).size:Int):=⟨by omega,by simpa[ByteArray.size_mk'] using hc.2⟩
   have Gf:0<=c/\c<=b:=hc.1
   have uC:0<=c/\c<=((b.toNat:Nat):Int):=by omega
   simp[Instr.slice,run_underlying ht,Instr.sliceBounds,Instr.sliceBound,asIntOf,B6,hb,uC,hx c.toNat b.toNat (by omega) (by omega)]
   intro Au;omega
theorem bZ {es:List (List AV)}{ad:Addr}{sz:Nat}(h:Rows E es ad)(hu:∀e∈es,e.length=sz)(k m:Nat):Rows E ((es.take m).drop k) (ad.add (k*sz)):=by
 have HV:∀(es:List (List AV)) (ad:Addr) (m:Nat),Rows E es ad->Rows E (es.take m) ad:=by
  intro es
  induction es with
  |nil=>intro ad m _;simp[Rows]
  |cons e es ih=>
   intro ad m h
   cases m with
   |zero=>simp[Rows]
   |succ m=>exact⟨h.1,ih _ m h.2⟩
 have Uh:∀(es:List (List AV)) (ad:Addr) (k:Nat),(∀e∈es,e.length=sz)->Rows E es ad->Rows E (es.drop k) (ad.add (k*sz)):=by
  intro es
  induction es with
  |nil=>intro ad k _ _;simp[Rows]
  |cons e es ih=>
   intro ad k hu h
   cases k with
   |zero=>simpa[Addr.add] using h
   |succ k=>
    have:=ih (ad.add e.length) k (fun r hr=>hu r (by simp[hr])) h.2
    rw[EJ,hu e (by simp)] at this
    rw[List.drop_succ_cons,Nat.add_mul,Nat.one_mul,Nat.add_comm];exact this
 exact Uh _ _ k (fun e he=>hu e (List.mem_of_mem_take he)) (HV es ad m h)
theorem iI {α:Type}(s:List α)(l r:Option Int):B6 s l r=(s.take ((r.map Int.toNat).getD s.length)).drop ((l.map Int.toNat).getD 0):=by
 cases l<;>cases r<;>simp[B6]
theorem SF (H:Good G I B0 E)(hf:AP E F a)(t e:TypeId)(n:Nat)(x:Operand)(lo:Option Operand)(ht:P.underlying t=some (.array n e)){g g1:Bool}{b o:Nat}{l:Int}{t0:TypeId}{cs:List AV}
  (hx:ev G F x=(g,.ptr b o)) (hl:Ly (lo.map (ev G F))=some (g1,some l)) (hb:E.h[b]?=some (.mem t0 cs))
  (Am:(g&&g1&&decide (0<=l)&&decide (l<n)&&(P.info? e).isSome&&Nat.ble (o+n*P.cellsOf e) cs.length&&Nat.ble n 1000000)=true):
  An P G I B0 E a ⟨d,.slice t x lo none none,ty,pos,after,gd⟩ true (.IP b (o+l.toNat*P.cellsOf e) (n-l.toNat) (P.cellsOf e)) E.h:=by
 simp only[Bool.and_eq_true,decide_eq_true_eq] at Am;obtain⟨⟨⟨⟨⟨⟨hg,oV⟩,h0⟩,hn⟩,Ud⟩,hlen⟩,vI⟩:=Am;have hlen:=Nat.le_of_ble_eq_true hlen;have vI:=Nat.le_of_ble_eq_true vI;obtain⟨t2,pC,gg,h2,h3,h4⟩:=Aj H hf hx hg;rw[h2] at hb
 injection hb with hb
 injection hb with iA hb
 subst hb;obtain⟨k1,e1⟩:=JK H hf hl oV;obtain⟨i,hi⟩:=Option.isSome_iff_exists.1 Ud
 have QH:P.cellsOf e=i.size:=by simp[Program.cellsOf,hi]
 have zM:l.toNat<n:=by omega
 have lK:(⟨gg,o,none⟩:Addr).add (l.toNat*i.size)=⟨gg,o+l.toNat*i.size,none⟩:=by
  unfold Addr.add;split
  ·rename_i hz;rw[hz];rfl
  ·rfl
 have CU:(Instr.sliceAt t (.pointer (some ⟨gg,o,none⟩)) (some (.int k1 l)) none none).run P E.w=.ok (.slice (some ⟨gg,o+l.toNat*i.size,none⟩) (n-l.toNat) (n-l.toNat)) E.w:=by
  have hle:l<=(n:Int):=by omega
  have BU:¬n=l.toNat:=by omega
  simp[Instr.sliceAt,Instr.sureAddr,run_underlying ht,Instr.sliceBounds,Instr.sliceBound,asIntOf,sizeOf,typeInfo,hi,h0,hle,BU,lK]
 refine An.same H (.slice (some ⟨gg,o+l.toNat*i.size,none⟩) (n-l.toNat) (n-l.toNat)) ?_ ⟨t2,pC,gg,n-l.toNat,h2,h3,by rw[QH],Nat.le_refl _,?_,?_⟩
 ·have pA:lo.map a.eval=some (Value.int k1 l):=e1;simp only[execOp,h4,pA,Option.map_none,Sem.run_bind,CU,Result.andThen_ok]
  first|rfl|simp
 ·unfold maxLen;omega
 ·have hm:l.toNat*P.cellsOf e+(n-l.toNat)*P.cellsOf e=n*P.cellsOf e:=by
   rw[<-Nat.add_mul];congr 1;omega
  omega
theorem Tq (H:Good G I B0 E)(hf:AP E F a)(t e:TypeId)(x:Operand)(lo hi:Option Operand)(ht:P.underlying t=some (.slice e)){g g1 g2:Bool}{sz:Nat}{es:List (List AV)}{own:Option Nat}{l r:Option Int}
  (hx:ev G F x=(g,.sl sz es own)) (hl:Ly (lo.map (ev G F))=some (g1,l)) (hr:Ly (hi.map (ev G F))=some (g2,r)) (Ud:(P.info? e).isSome=true)
  (Am:(g&&g1&&g2&&BC es.length l r&&(Nat.beq sz (P.cellsOf e)||es.isEmpty))=true):
  An P G I B0 E a ⟨d,.slice t x lo hi none,ty,pos,after,gd⟩ true (.sl sz (B6 es l r) none) E.h:=by
 simp only[Bool.and_eq_true] at Am;obtain⟨⟨⟨⟨hg,oV⟩,gv⟩,hc⟩,CC⟩:=Am;obtain⟨⟨A,cap,h1,h2,h3,h4,h5⟩,_⟩:=Aj H hf hx hg;obtain⟨k1,e1⟩:=JK H hf hl oV;obtain⟨k2,e2⟩:=JK H hf hr gv;obtain⟨i,hi⟩:=Option.isSome_iff_exists.1 Ud
 have QH:P.cellsOf e=i.size:=by simp[Program.cellsOf,hi]
 have xO:0<=(l.map Int.toNat).getD 0/\(l.map Int.toNat).getD 0<=(r.map Int.toNat).getD es.length/\(r.map Int.toNat).getD es.length<=es.length:=by
  cases l<;>cases r<;>simp only[BC,Bool.and_eq_true,decide_eq_true_eq,Option.map_none,Option.map_some,Option.getD_none,Option.getD_some] at hc⊢<;>omega
 have CU:(Instr.sliceAt t (.slice A es.length cap) (l.map (Value.int k1)) (r.map (Value.int k2)) none).run P E.w=
   .ok (.slice (if cap=(l.map Int.toNat).getD 0 then A else A.map (·.add ((l.map Int.toNat).getD 0*i.size))) ((r.map Int.toNat).getD es.length-(l.map Int.toNat).getD 0) (cap-(l.map Int.toNat).getD 0)) E.w:=by
  simp only[Instr.sliceAt,Sem.run_bind,run_underlying ht,Result.andThen_ok]
  cases l with
  |none=>cases r with
   |none=>simp[Instr.slice,run_underlying ht,Instr.sliceBounds,sizeOf,typeInfo,hi]
   |some b=>
    simp only[BC,Bool.and_eq_true,decide_eq_true_eq] at hc
    have hb:0<=b/\b<=(cap:Int):=by omega
    simp[Instr.slice,run_underlying ht,Instr.sliceBounds,Instr.sliceBound,asIntOf,sizeOf,typeInfo,hi,hb]
  |some c=>cases r with
   |none=>
    simp only[BC,Bool.and_eq_true,decide_eq_true_eq] at hc;simp[Instr.slice,run_underlying ht,Instr.sliceBounds,Instr.sliceBound,asIntOf,sizeOf,typeInfo,hi,hc]
   |some b=>
    simp only[BC,Bool.and_eq_true,decide_eq_true_eq] at hc
    have hb:0<=b/\b<=(cap:Int):=by omega
    have Gf:0<=c/\c<=((b.toNat:Nat):Int):=by omega
    simp[Instr.slice,run_underlying ht,Instr.sliceBounds,Instr.sliceBound,asIntOf,sizeOf,typeInfo,hi,hb,Gf];intro Au;omega
 refine An.same H _ (by simp only[execOp,h1,e1,e2,Option.map_none,Sem.run_bind,CU];rfl) ?_
 rw[iI];generalize (l.map Int.toNat).getD 0=c at *;generalize (r.map Int.toNat).getD es.length=m at *
 have hlen:((es.take m).drop c).length=m-c:=by simp;omega
 refine⟨⟨_,cap-c,by rw[hlen],by rw[hlen];omega,by omega,fun q hq=>h4 q (List.mem_of_mem_take (List.mem_of_mem_drop hq)),fun BU=> ?_⟩,trivial⟩
 have Au:c<m:=by
  rcases Nat.lt_or_ge c m with h|h
  ·exact h
  ·exact absurd (List.eq_nil_of_length_eq_zero (by rw[hlen];omega)) BU
 have PI:es≠[]:=by rintro rfl;simp at xO;omega
 obtain⟨ad,rfl,BP⟩:=h5 PI
 have ka:i.size=sz:=by
  rw[<-QH];simp only[Bool.or_eq_true] at CC
  rcases CC with h|h
  ·exact(Nat.eq_of_beq_eq_true h).symm
  ·rw[List.isEmpty_iff] at h;exact absurd h PI
 rw[if_neg (by omega),ka]
 exact⟨_,rfl,bZ BP h4 c m⟩
theorem Ig (hI:∀w w',I w->Below B0 w w'->I w')(H:Good G I B0 E)(hf:AP E F a)(t t' e:TypeId)(s x:Operand)(ht:P.underlying t=some (.slice e)){du:TypeDesc}(hu:P.underlying t'=some du)(vW:∀k,du≠.int k){g:Bool}{sz id:Nat}{es ns:List (List AV)}{i:TypeInfo}{z:Value}
  (hs:ev G F s=(g,.sl sz es (some id))) (hg:g=true) (hi:P.info? e=some i) (hz:i.zero=some z) (WX:z.cells.size=i.size)
  (Hr:Bf E.h es.length (P.cellsOf e) e (some id)=true) (CC:(Nat.beq sz (P.cellsOf e)||es.isEmpty)=true) (Ep:0<P.cellsOf e)
  (VV:(es.length+ns.length)*i.bytes<=140737488355328) (Uj:1<=i.bytes)
  (Nr:∀r∈ns,r.length=i.size) {news:List Value} (HX:Ag E ns.flatten news) (PB:∀w':World,(Builtin.lenOf (a.eval x)).run P w'=.ok ns.length w')
  (Fi:∀w':World,w'.heap=E.w.heap->(Builtin.firstCells i.size ns.length (a.eval x)).run P w'=.ok news.toArray w'):
  An P G I B0 E a ⟨d,.call {callee:=.builtin .append,args:= #[s,x],argTypes:= #[t,t']},ty,pos,after,gd⟩ true (.sl (P.cellsOf e) (es++ns) (some id)) (E.h.set id (.grow (es.length+ns.length) (P.cellsOf e) e)):=by
 have QH:P.cellsOf e=i.size:=by simp[Program.cellsOf,hi]
 rw[QH] at Hr CC Ep⊢;have Mr:=Aj H hf hs hg
 simp only[Bf] at Hr;split at Hr
 case h_2=>cases Hr
 rename_i m v7 e2 FR;simp only[Bool.and_eq_true] at Hr;obtain⟨⟨q1,q2⟩,q3⟩:=Hr;have q1:=Nat.eq_of_beq_eq_true q1;have q2:=Nat.eq_of_beq_eq_true q2;have q3:=Nat.eq_of_beq_eq_true q3;subst q1;subst q2;subst q3;obtain⟨⟨A,cap,h1,h2,h3,h4,h5⟩,pn,pk⟩:=Mr;obtain⟨_,oA⟩:=pk _ _ _ FR;obtain⟨_,⟨xs,Ck⟩,Am⟩:=oA rfl
 have PI:∀r∈es,r.length=i.size:=by
  intro r hr;simp only[Bool.or_eq_true] at CC
  rcases CC with h|h
  ·rw[<-Nat.eq_of_beq_eq_true h];exact h4 r hr
  ·rw[List.isEmpty_iff] at h;subst h;cases hr
 have kW:Ag E es.flatten xs:=by
  have hl:=Bn es PI
  rcases Ck.2 with ⟨_,hn⟩|⟨g0,uR,cur,hv,hY,Ns,gn,NY,FQ,HV⟩
  ·have:es=[]:=List.eq_nil_of_length_eq_zero hn;subst this
   have:xs=[]:=List.eq_nil_of_length_eq_zero (by simpa using Ck.1)
   simp[this,Ag]
  ·rw[hv] at h1
   injection h1 with h1 _ _
   refine Ag.iff.2 ⟨by rw[hl];exact Ck.1,fun j c v hc sY=> ?_⟩
   have BU:es≠[]:=by rintro rfl;simp at hc
   obtain⟨ad,hA,BP⟩:=h5 BU;rw[hA] at h1
   injection h1 with h1
   rw[Rows.iff] at BP;obtain⟨u,p1,p2,_,p4⟩:=At.iff.1 BP j c hc
   have DK:=Ck.cells (g:=g0) (by rw[hv];rfl) j v sY
   rw[h1] at DK;rw[DK] at p1
   injection p1 with p1
   subst p1;exact⟨p2,p4⟩
 have dT:news.length=ns.length*i.size:=by rw[HX.length];exact Bn ns Nr
 have dW:es.length+ns.length<=maxLen:=by
  have:es.length+ns.length<=(es.length+ns.length)*i.bytes:=Nat.le_mul_of_pos_right _ Uj;unfold maxLen;omega
 obtain⟨v',w',CU,Fy,TC,Qu,NV,Br⟩:=GS (P:=P) E.w E.B t t' ty e2 du i z ht hu vW hi hz WX Ep Uj (a.eval s) es.length xs Ck (a.eval x) ns.length news dT PB Fi (GG HX) dW VV H.size;have S:=step_append hI H FR Ck Am Fy TC Qu NV Br
 refine⟨v',_,.inl ?_,S,rfl,fun _=>Mj (n:=es.length+ns.length) (e:=e2) (xs:=xs++news) (fun r hr=> ?_) (by simp) (by simp[pn]) (by show _=Ct E.σ id v'.ownBlock id;rw[Aw]) Fy ?_ H.U (fun q y hq e=>Gq S.Cg (b:=id) (x:=.grow (es.length+ns.length) i.size e2) (by simp[pn]) (by simp) e q y hq rfl)
  (fun j y g0 hj hy GK JO=>S.Cg.inj j id y (.grow (es.length+ns.length) i.size e2) g0 hj (by simp[pn]) hy (by simp) GK JO),fun h=>by cases h⟩
 ·simp only[execOp,resolve,List.map_toArray,List.map_cons,List.map_nil,Sem.run_bind,Sem.run_pure,Result.andThen_ok,invoke,builtin,CU]
 ·rcases List.mem_append.1 hr with h|h
  ·exact PI r h
  ·exact Nr r h
 ·rw[List.flatten_append];exact Du (Ag.mono S.le _ _ kW) (Ag.mono S.le _ _ HX)
theorem ZI (hI:∀w w',I w->Below B0 w w'->I w')(H:Good G I B0 E)(hf:AP E F a)(t e:TypeId)(s x:Operand)(ht:P.underlying t=some (.slice e)){g g':Bool}{sz Dg id:Nat}{es ns:List (List AV)}{Lv:Option Nat}{i:TypeInfo}{z:Value}
  (hs:ev G F s=(g,.sl sz es (some id))) (hx:ev G F x=(g',.sl Dg ns Lv)) (hg:g=true) (CR:g'=true) (hi:P.info? e=some i) (hz:i.zero=some z) (WX:z.cells.size=i.size)
  (Hr:Bf E.h es.length (P.cellsOf e) e (some id)=true) (CC:(Nat.beq sz (P.cellsOf e)||es.isEmpty)=true) (FB:(Nat.beq Dg (P.cellsOf e)||ns.isEmpty)=true) (Ep:0<P.cellsOf e)
  (VV:(es.length+ns.length)*i.bytes<=140737488355328) (Uj:1<=i.bytes):
  An P G I B0 E a ⟨d,.call {callee:=.builtin .append,args:= #[s,x],argTypes:= #[t,t]},ty,pos,after,gd⟩ true (.sl (P.cellsOf e) (es++ns) (some id)) (E.h.set id (.grow (es.length+ns.length) (P.cellsOf e) e)):=by
 have QH:P.cellsOf e=i.size:=by simp[Program.cellsOf,hi]
 obtain⟨⟨A',lU,k1,k2,k3,k4,k5⟩,_⟩:=Aj H hf hx CR
 have Nr:∀r∈ns,r.length=i.size:=by
  intro r hr;simp only[Bool.or_eq_true] at FB
  rcases FB with h|h
  ·rw[<-QH,<-Nat.eq_of_beq_eq_true h];exact k4 r hr
  ·rw[List.isEmpty_iff] at h;subst h;cases hr
 obtain⟨news,HX,Fi⟩:∃news,Ag E ns.flatten news/\∀w':World,w'.heap=E.w.heap->(Builtin.firstCells i.size ns.length (a.eval x)).run P w'=.ok news.toArray w':=by
  by_cases BU:ns=[]
  ·subst BU
   refine⟨[],by simp[Ag],fun w' _=> ?_⟩
   rw[k1]
   cases A' with
   |none=>simp[Builtin.firstCells]
   |some ad=>simp[Builtin.firstCells,loadCells,loadCellsFrom]
  ·obtain⟨ad,hA,BP⟩:=k5 BU;rw[Rows.iff] at BP;obtain⟨vs,p1,p2⟩:=BP.rH.vals
   refine⟨vs,p1,fun w' hw=> ?_⟩
   rw[k1,hA]
   exact run_firstCells_some w' i.size ns.length ad ns.length lU vs (by rw[p1.length];exact Bn ns Nr) (fun j v hv=>by
    have:=p2 j v hv
    simpa[World.cell?,hw] using this)
 exact Ig hI H hf t t e s x ht ht (fun k h=>by cases h) hs hg hi hz WX Hr CC Ep VV Uj Nr HX (fun w'=>by rw[k1];simp[Builtin.lenOf]) Fi
theorem Pn (E:Env):∀l:List UInt8,Ag E (l.map fun b=>AV.int .u8 (b.toNat:Int)) (l.map fun b=>Value.int .u8 (b.toNat:Int))
 |[]=>rfl
 |b::l=>⟨_,_,rfl,rfl,rfl,Pn E l⟩
theorem QE (hI:∀w w',I w->Below B0 w w'->I w')(H:Good G I B0 E)(hf:AP E F a)(t t' e:TypeId)(s x:Operand)(ht:P.underlying t=some (.slice e))(dN:P.underlying t'=some .string){g g':Bool}{sz id:Nat}{es:List (List AV)}{l:List UInt8}{i:TypeInfo}{z:Value}
  (hs:ev G F s=(g,.sl sz es (some id))) (hx:ev G F x=(g',.str l)) (hg:g=true) (CR:g'=true) (hi:P.info? e=some i) (hz:i.zero=some z) (WX:z.cells.size=i.size)
  (Hr:Bf E.h es.length (P.cellsOf e) e (some id)=true) (CC:(Nat.beq sz (P.cellsOf e)||es.isEmpty)=true) (NW:P.cellsOf e=1)
  (VV:(es.length+l.length)*i.bytes<=140737488355328) (Uj:1<=i.bytes):
  An P G I B0 E a ⟨d,.call {callee:=.builtin .append,args:= #[s,x],argTypes:= #[t,t']},ty,pos,after,gd⟩ true (.sl (P.cellsOf e) (es++l.map fun b=>[.int .u8 (b.toNat:Int)]) (some id)) (E.h.set id (.grow (es.length+l.length) (P.cellsOf e) e)):=by
 have QH:P.cellsOf e=i.size:=by simp[Program.cellsOf,hi]
 have sV:a.eval x=.string ⟨l.toArray⟩:=Aj H hf hx CR
 have Ge:(l.map fun b=>[AV.int .u8 (b.toNat:Int)]).flatten=l.map fun b=>AV.int .u8 (b.toNat:Int):=by
  clear VV hx sV
  induction l with
  |nil=>rfl
  |cons b l ih=>simp[ih]
 have dZ:(l.map fun b=>[AV.int .u8 (b.toNat:Int)]).length=l.length:=by simp
 rw[<-dZ] at VV⊢
 refine Ig hI H hf t t' e s x ht dN (fun k h=>by cases h) hs hg hi hz WX Hr CC (by omega) VV Uj (fun r hr=> ?_) (news:=l.map fun b=>Value.int .u8 (b.toNat:Int)) (by rw[Ge];exact Pn E l) (fun w'=> ?_) (fun w' _=> ?_)
 ·obtain⟨b,_,rfl⟩:=List.mem_map.1 hr;simp;omega
 ·rw[sV,dZ];simp[Builtin.lenOf,ByteArray.size]
 ·rw[sV,dZ]
  have h1:((⟨l.toArray⟩:ByteArray).extract 0 l.length).data=l.toArray:=by
   have:(⟨l.toArray⟩:ByteArray).size=l.length:=by simp[ByteArray.size]
   rw[<-this,ByteArray.extract_zero_size]
  simp[Builtin.firstCells,h1]
end
end Go.Ai
