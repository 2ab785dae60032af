/-
  What the operations do: cuts and appends; and all of them together.
-/
import Derived.Test.YtopjpnhgnopbiaaGreatDoorTAiOps5
set_option linter.unusedVariables false
set_option linter.unusedSimpArgs false
set_option linter.unnecessarySimpa false
namespace Go.Ai
open Go.RowKit
section
variable {G:Nat->Option (List AV)}{I:World->Prop}{B0:Nat}{E:Env}
variable {P:Program}{F:Fr}{a:Act}{d:Option Tmp}{ty:TypeId}{pos:String}{after:Array Edge}{gd:Option (Nat×Bool)}
theorem JH (H:Good G I B0 E)(hf:AO E F a){o:Option Operand}{g:Bool}{r:Option Int}(h:Lr (o.map (ev G F))=some (g,r))(hg:g=true):
  ∃k:IntKind,o.map a.eval=r.map (Value.int k):=by
 cases o with
 |none=>
  simp only[Option.map_none,Lr,Option.some.injEq,Prod.mk.injEq] at h
  exact⟨.i64,by simp[<-h.2]⟩
 |some x=>
  simp only[Option.map_some] at h;unfold Lr at h;split at h
  ·rename_i h';cases h'
  ·rename_i g' k n h';simp only[Option.some.injEq,Prod.mk.injEq] at h h';obtain⟨rfl,rfl⟩:=h;have:=Aj H hf h' hg
   exact⟨k,by simp only[Option.map_some,Option.some.injEq];exact this⟩
  ·cases h
theorem R9 (H:Good G I B0 E)(hf:AO E F a)(t:TypeId)(x:Operand)(lo hi:Option Operand)(ht:P.underlying t=some .string){g g1 g2:Bool}{s:List UInt8}{l r:Option Int}
  (hx:ev G F x=(g,.str s)) (hl:Lr (lo.map (ev G F))=some (g1,l)) (hr:Lr (hi.map (ev G F))=some (g2,r)) (Am:(g&&g1&&g2&&BB s.length l r)=true):
  An P G I B0 E a ⟨d,.slice t x lo hi none,ty,pos,after,gd⟩ true (.str (B6 s l r)) E.h:=by
 simp only[Bool.and_eq_true] at Am;obtain⟨⟨⟨hg,oH⟩,gh⟩,hc⟩:=Am;have h1:a.eval x=.string ⟨s.toArray⟩:=Aj H hf hx hg;obtain⟨k1,e1⟩:=JH H hf hl oH;obtain⟨k2,e2⟩:=JH H hf hr gh;refine An.same H (.string ⟨(B6 s l r).toArray⟩) ?_ rfl;simp only[execOp,h1,e1,e2,Option.map_none,Instr.sliceAt,Sem.run_bind,run_underlying ht,Result.andThen_ok]
 have hx:∀(a b:Nat),a<=b->b<=s.length->(⟨s.toArray⟩:ByteArray).extract a b=⟨((s.take b).drop a).toArray⟩:=by
  intro a b Qv hb;rw[ByteArray.extract_mk,List.drop_take]
 cases l with
 |none=>cases r with
  |none=>
   simp[Instr.slice,run_underlying ht,Instr.sliceBounds,B6]
  |some b=>
   simp only[BB,Bool.and_eq_true,decide_eq_true_eq] at hc
   have hb:0<=b/\b<=((⟨s.toArray⟩:ByteArray).size:Int):=⟨hc.1,by simpa[ByteArray.size_mk'] using hc.2⟩
   simp[Instr.slice,run_underlying ht,Instr.sliceBounds,Instr.sliceBound,asIntOf,B6,hb,hx 0 b.toNat (by omega) (by omega)]
 |some c=>cases r with
  |none=>
   simp only[BB,Bool.and_eq_true,decide_eq_true_eq] at hc;have hb:0<=c/\c<=(s.length:Int):=hc
   simp[Instr.slice,run_underlying ht,Instr.sliceBounds,Instr.sliceBound,asIntOf,B6,hb,ByteArray.size_mk',hx c.toNat s.length (by omega) (Nat.le_refl _)]
  |some b=>
   simp only[BB,Bool.and_eq_true,decide_eq_true_eq] at hc
   have hb:0<=b/\b<=((⟨s.toArray⟩:ByteArray).size:Int):=⟨by omega,by simpa[ByteArray.size_mk'] using hc.2⟩
   have Gd:0<=c/\c<=b:=hc.1
   have tl:0<=c/\c<=((b.toNat:Nat):Int):=by omega
   simp[Instr.slice,run_underlying ht,Instr.sliceBounds,Instr.sliceBound,asIntOf,B6,hb,tl,hx c.toNat b.toNat (by omega) (by omega)]
   intro As;omega
theorem bR {es:List (List AV)}{ad:Addr}{sz:Nat}(h:Rows E es ad)(hu:∀e∈es,e.length=sz)(k m:Nat):Rows E ((es.take m).drop k) (ad.add (k*sz)):=by
 have HU:∀(es:List (List AV)) (ad:Addr) (m:Nat),Rows E es ad->Rows E (es.take m) ad:=by
  intro es
  induction es with
  |nil=>intro ad m _;simp[Rows]
  |cons e es ih=>
   intro ad m h
   cases m with
   |zero=>simp[Rows]
   |succ m=>exact⟨h.1,ih _ m h.2⟩
 have Uc:∀(es:List (List AV)) (ad:Addr) (k:Nat),(∀e∈es,e.length=sz)->Rows E es ad->Rows E (es.drop k) (ad.add (k*sz)):=by
  intro es
  induction es with
  |nil=>intro ad k _ _;simp[Rows]
  |cons e es ih=>
   intro ad k hu h
   cases k with
   |zero=>simpa[Addr.add] using h
   |succ k=>
    have:=ih (ad.add e.length) k (fun r hr=>hu r (by simp[hr])) h.2
    rw[EI,hu e (by simp)] at this
    rw[List.drop_succ_cons,Nat.add_mul,Nat.one_mul,Nat.add_comm];exact this
 exact Uc _ _ k (fun e he=>hu e (List.mem_of_mem_take he)) (HU es ad m h)
theorem hH {α:Type}(s:List α)(l r:Option Int):B6 s l r=(s.take ((r.map Int.toNat).getD s.length)).drop ((l.map Int.toNat).getD 0):=by
 cases l<;>cases r<;>simp[B6]
theorem SA (H:Good G I B0 E)(hf:AO E F a)(t e:TypeId)(n:Nat)(x:Operand)(lo:Option Operand)(ht:P.underlying t=some (.array n e)){g g1:Bool}{b o:Nat}{l:Int}{t0:TypeId}{cs:List AV}
  (hx:ev G F x=(g,.ptr b o)) (hl:Lr (lo.map (ev G F))=some (g1,some l)) (hb:E.h[b]?=some (.mem t0 cs))
  (Am:(g&&g1&&decide (0<=l)&&decide (l<n)&&(P.info? e).isSome&&Nat.ble (o+n*P.cellsOf e) cs.length&&Nat.ble n 1000000)=true):
  An P G I B0 E a ⟨d,.slice t x lo none none,ty,pos,after,gd⟩ true (.JW b (o+l.toNat*P.cellsOf e) (n-l.toNat) (P.cellsOf e)) E.h:=by
 simp only[Bool.and_eq_true,decide_eq_true_eq] at Am;obtain⟨⟨⟨⟨⟨⟨hg,oH⟩,h0⟩,hn⟩,UY⟩,hlen⟩,uy⟩:=Am;have hlen:=Nat.le_of_ble_eq_true hlen;have uy:=Nat.le_of_ble_eq_true uy;obtain⟨t2,oo,gg,h2,h3,h4⟩:=Aj H hf hx hg;rw[h2] at hb
 injection hb with hb
 injection hb with gn hb
 subst hb;obtain⟨k1,e1⟩:=JH H hf hl oH;obtain⟨i,hi⟩:=Option.isSome_iff_exists.1 UY
 have QC:P.cellsOf e=i.size:=by simp[Program.cellsOf,hi]
 have yy:l.toNat<n:=by omega
 have kz:(⟨gg,o,none⟩:Addr).add (l.toNat*i.size)=⟨gg,o+l.toNat*i.size,none⟩:=by
  unfold Addr.add;split
  ·rename_i hz;rw[hz];rfl
  ·rfl
 have CU:(Instr.sliceAt t (.pointer (some ⟨gg,o,none⟩)) (some (.int k1 l)) none none).run P E.w=.ok (.slice (some ⟨gg,o+l.toNat*i.size,none⟩) (n-l.toNat) (n-l.toNat)) E.w:=by
  have hle:l<=(n:Int):=by omega
  have BT:¬n=l.toNat:=by omega
  simp[Instr.sliceAt,Instr.sureAddr,run_underlying ht,Instr.sliceBounds,Instr.sliceBound,asIntOf,sizeOf,typeInfo,hi,h0,hle,BT,kz]
 refine An.same H (.slice (some ⟨gg,o+l.toNat*i.size,none⟩) (n-l.toNat) (n-l.toNat)) ?_ ⟨t2,oo,gg,n-l.toNat,h2,h3,by rw[QC],Nat.le_refl _,?_,?_⟩
 ·have oh:lo.map a.eval=some (Value.int k1 l):=e1;simp only[execOp,h4,oh,Option.map_none,Sem.run_bind,CU,Result.andThen_ok]
  first|rfl|simp
 ·unfold maxLen;omega
 ·have hm:l.toNat*P.cellsOf e+(n-l.toNat)*P.cellsOf e=n*P.cellsOf e:=by
   rw[<-Nat.add_mul];congr 1;omega
  omega
theorem Tl (H:Good G I B0 E)(hf:AO E F a)(t e:TypeId)(x:Operand)(lo hi:Option Operand)(ht:P.underlying t=some (.slice e)){g g1 g2:Bool}{sz:Nat}{es:List (List AV)}{own:Option Nat}{l r:Option Int}
  (hx:ev G F x=(g,.sl sz es own)) (hl:Lr (lo.map (ev G F))=some (g1,l)) (hr:Lr (hi.map (ev G F))=some (g2,r)) (UY:(P.info? e).isSome=true)
  (Am:(g&&g1&&g2&&BB es.length l r&&(Nat.beq sz (P.cellsOf e)||es.isEmpty))=true):
  An P G I B0 E a ⟨d,.slice t x lo hi none,ty,pos,after,gd⟩ true (.sl sz (B6 es l r) none) E.h:=by
 simp only[Bool.and_eq_true] at Am;obtain⟨⟨⟨⟨hg,oH⟩,gh⟩,hc⟩,CC⟩:=Am;obtain⟨⟨A,cap,h1,h2,h3,h4,h5⟩,_⟩:=Aj H hf hx hg;obtain⟨k1,e1⟩:=JH H hf hl oH;obtain⟨k2,e2⟩:=JH H hf hr gh;obtain⟨i,hi⟩:=Option.isSome_iff_exists.1 UY
 have QC:P.cellsOf e=i.size:=by simp[Program.cellsOf,hi]
 have wy:0<=(l.map Int.toNat).getD 0/\(l.map Int.toNat).getD 0<=(r.map Int.toNat).getD es.length/\(r.map Int.toNat).getD es.length<=es.length:=by
  cases l<;>cases r<;>simp only[BB,Bool.and_eq_true,decide_eq_true_eq,Option.map_none,Option.map_some,Option.getD_none,Option.getD_some] at hc⊢<;>omega
 have CU:(Instr.sliceAt t (.slice A es.length cap) (l.map (Value.int k1)) (r.map (Value.int k2)) none).run P E.w=
   .ok (.slice (if cap=(l.map Int.toNat).getD 0 then A else A.map (·.add ((l.map Int.toNat).getD 0*i.size))) ((r.map Int.toNat).getD es.length-(l.map Int.toNat).getD 0) (cap-(l.map Int.toNat).getD 0)) E.w:=by
  simp only[Instr.sliceAt,Sem.run_bind,run_underlying ht,Result.andThen_ok]
  cases l with
  |none=>cases r with
   |none=>simp[Instr.slice,run_underlying ht,Instr.sliceBounds,sizeOf,typeInfo,hi]
   |some b=>
    simp only[BB,Bool.and_eq_true,decide_eq_true_eq] at hc
    have hb:0<=b/\b<=(cap:Int):=by omega
    simp[Instr.slice,run_underlying ht,Instr.sliceBounds,Instr.sliceBound,asIntOf,sizeOf,typeInfo,hi,hb]
  |some c=>cases r with
   |none=>
    simp only[BB,Bool.and_eq_true,decide_eq_true_eq] at hc;simp[Instr.slice,run_underlying ht,Instr.sliceBounds,Instr.sliceBound,asIntOf,sizeOf,typeInfo,hi,hc]
   |some b=>
    simp only[BB,Bool.and_eq_true,decide_eq_true_eq] at hc
    have hb:0<=b/\b<=(cap:Int):=by omega
    have Gd:0<=c/\c<=((b.toNat:Nat):Int):=by omega
    simp[Instr.slice,run_underlying ht,Instr.sliceBounds,Instr.sliceBound,asIntOf,sizeOf,typeInfo,hi,hb,Gd];intro As;omega
 refine An.same H _ (by simp only[execOp,h1,e1,e2,Option.map_none,Sem.run_bind,CU];rfl) ?_
 rw[hH];generalize (l.map Int.toNat).getD 0=c at *;generalize (r.map Int.toNat).getD es.length=m at *
 have hlen:((es.take m).drop c).length=m-c:=by simp;omega
 refine⟨⟨_,cap-c,by rw[hlen],by rw[hlen];omega,by omega,fun q hq=>h4 q (List.mem_of_mem_take (List.mem_of_mem_drop hq)),fun BT=> ?_⟩,trivial⟩
 have As:c<m:=by
  rcases Nat.lt_or_ge c m with h|h
  ·exact h
  ·exact absurd (List.eq_nil_of_length_eq_zero (by rw[hlen];omega)) BT
 have PC:es≠[]:=by rintro rfl;simp at wy;omega
 obtain⟨ad,rfl,BO⟩:=h5 PC
 have kP:i.size=sz:=by
  rw[<-QC];simp only[Bool.or_eq_true] at CC
  rcases CC with h|h
  ·exact(Nat.eq_of_beq_eq_true h).symm
  ·rw[List.isEmpty_iff] at h;exact absurd h PC
 rw[if_neg (by omega),kP]
 exact⟨_,rfl,bR BO h4 c m⟩
theorem Ib (hI:∀w w',I w->Below B0 w w'->I w')(H:Good G I B0 E)(hf:AO E F a)(t t' e:TypeId)(s x:Operand)(ht:P.underlying t=some (.slice e)){du:TypeDesc}(hu:P.underlying t'=some du)(vI:∀k,du≠.int k){g:Bool}{sz id:Nat}{es ns:List (List AV)}{i:TypeInfo}{z:Value}
  (hs:ev G F s=(g,.sl sz es (some id))) (hg:g=true) (hi:P.info? e=some i) (hz:i.zero=some z) (WR:z.cells.size=i.size)
  (Ho:Bf E.h es.length (P.cellsOf e) e (some id)=true) (CC:(Nat.beq sz (P.cellsOf e)||es.isEmpty)=true) (En:0<P.cellsOf e)
  (VP:(es.length+ns.length)*i.bytes<=140737488355328) (Ue:1<=i.bytes)
  (Nj:∀r∈ns,r.length=i.size) {news:List Value} (HW:Ag E ns.flatten news) (O6:∀w':World,(Builtin.lenOf (a.eval x)).run P w'=.ok ns.length w')
  (Fg:∀w':World,w'.heap=E.w.heap->(Builtin.firstCells i.size ns.length (a.eval x)).run P w'=.ok news.toArray w'):
  An P G I B0 E a ⟨d,.call {callee:=.builtin .append,args:= #[s,x],argTypes:= #[t,t']},ty,pos,after,gd⟩ true (.sl (P.cellsOf e) (es++ns) (some id)) (E.h.set id (.grow (es.length+ns.length) (P.cellsOf e) e)):=by
 have QC:P.cellsOf e=i.size:=by simp[Program.cellsOf,hi]
 rw[QC] at Ho CC En⊢;have Mm:=Aj H hf hs hg
 simp only[Bf] at Ho;split at Ho
 case h_2=>cases Ho
 rename_i m vk e2 FP;simp only[Bool.and_eq_true] at Ho;obtain⟨⟨q1,q2⟩,q3⟩:=Ho;have q1:=Nat.eq_of_beq_eq_true q1;have q2:=Nat.eq_of_beq_eq_true q2;have q3:=Nat.eq_of_beq_eq_true q3;subst q1;subst q2;subst q3;obtain⟨⟨A,cap,h1,h2,h3,h4,h5⟩,pW,pV⟩:=Mm;obtain⟨_,nj⟩:=pV _ _ _ FP;obtain⟨_,⟨xs,Ck⟩,Am⟩:=nj rfl
 have PC:∀r∈es,r.length=i.size:=by
  intro r hr;simp only[Bool.or_eq_true] at CC
  rcases CC with h|h
  ·rw[<-Nat.eq_of_beq_eq_true h];exact h4 r hr
  ·rw[List.isEmpty_iff] at h;subst h;cases hr
 have kL:Ag E es.flatten xs:=by
  have hl:=Bn es PC
  rcases Ck.2 with ⟨_,hn⟩|⟨g0,uE,cur,hv,gl,Nk,gZ,NS,FO,HU⟩
  ·have:es=[]:=List.eq_nil_of_length_eq_zero hn;subst this
   have:xs=[]:=List.eq_nil_of_length_eq_zero (by simpa using Ck.1)
   simp[this,Ag]
  ·rw[hv] at h1
   injection h1 with h1 _ _
   refine Ag.iff.2 ⟨by rw[hl];exact Ck.1,fun j c v hc sL=> ?_⟩
   have BT:es≠[]:=by rintro rfl;simp at hc
   obtain⟨ad,hA,BO⟩:=h5 BT;rw[hA] at h1
   injection h1 with h1
   rw[Rows.iff] at BO;obtain⟨u,p1,p2,_,p4⟩:=At.iff.1 BO j c hc
   have DJ:=Ck.cells (g:=g0) (by rw[hv];rfl) j v sL
   rw[h1] at DJ;rw[DJ] at p1
   injection p1 with p1
   subst p1;exact⟨p2,p4⟩
 have dL:news.length=ns.length*i.size:=by rw[HW.length];exact Bn ns Nj
 have dP:es.length+ns.length<=maxLen:=by
  have:es.length+ns.length<=(es.length+ns.length)*i.bytes:=Nat.le_mul_of_pos_right _ Ue;unfold maxLen;omega
 obtain⟨v',w',CU,Fw,Sx,Qp,NP,Br⟩:=GQ (P:=P) E.w E.B t t' ty e2 du i z ht hu vI hi hz WR En Ue (a.eval s) es.length xs Ck (a.eval x) ns.length news dL O6 Fg (GD HW) dP VP H.size;have S:=step_append hI H FP Ck Am Fw Sx Qp NP Br
 refine⟨v',_,.inl ?_,S,rfl,fun _=>Me (n:=es.length+ns.length) (e:=e2) (xs:=xs++news) (fun r hr=> ?_) (by simp) (by simp[pW]) (by show _=Ct E.σ id v'.ownBlock id;rw[Av]) Fw ?_ H.U (fun q y hq e=>Gm S.Cg (b:=id) (x:=.grow (es.length+ns.length) i.size e2) (by simp[pW]) (by simp) e q y hq rfl)
  (fun j y g0 hj hy GI JL=>S.Cg.inj j id y (.grow (es.length+ns.length) i.size e2) g0 hj (by simp[pW]) hy (by simp) GI JL),fun h=>by cases h⟩
 ·simp only[execOp,resolve,List.map_toArray,List.map_cons,List.map_nil,Sem.run_bind,Sem.run_pure,Result.andThen_ok,invoke,builtin,CU]
 ·rcases List.mem_append.1 hr with h|h
  ·exact PC r h
  ·exact Nj r h
 ·rw[List.flatten_append];exact Dt (Ag.mono S.le _ _ kL) (Ag.mono S.le _ _ HW)
theorem ZF (hI:∀w w',I w->Below B0 w w'->I w')(H:Good G I B0 E)(hf:AO E F a)(t e:TypeId)(s x:Operand)(ht:P.underlying t=some (.slice e)){g g':Bool}{sz Df id:Nat}{es ns:List (List AV)}{Lo:Option Nat}{i:TypeInfo}{z:Value}
  (hs:ev G F s=(g,.sl sz es (some id))) (hx:ev G F x=(g',.sl Df ns Lo)) (hg:g=true) (CR:g'=true) (hi:P.info? e=some i) (hz:i.zero=some z) (WR:z.cells.size=i.size)
  (Ho:Bf E.h es.length (P.cellsOf e) e (some id)=true) (CC:(Nat.beq sz (P.cellsOf e)||es.isEmpty)=true) (E9:(Nat.beq Df (P.cellsOf e)||ns.isEmpty)=true) (En:0<P.cellsOf e)
  (VP:(es.length+ns.length)*i.bytes<=140737488355328) (Ue:1<=i.bytes):
  An P G I B0 E a ⟨d,.call {callee:=.builtin .append,args:= #[s,x],argTypes:= #[t,t]},ty,pos,after,gd⟩ true (.sl (P.cellsOf e) (es++ns) (some id)) (E.h.set id (.grow (es.length+ns.length) (P.cellsOf e) e)):=by
 have QC:P.cellsOf e=i.size:=by simp[Program.cellsOf,hi]
 obtain⟨⟨A',lJ,k1,k2,k3,k4,k5⟩,_⟩:=Aj H hf hx CR
 have Nj:∀r∈ns,r.length=i.size:=by
  intro r hr;simp only[Bool.or_eq_true] at E9
  rcases E9 with h|h
  ·rw[<-QC,<-Nat.eq_of_beq_eq_true h];exact k4 r hr
  ·rw[List.isEmpty_iff] at h;subst h;cases hr
 obtain⟨news,HW,Fg⟩:∃news,Ag E ns.flatten news/\∀w':World,w'.heap=E.w.heap->(Builtin.firstCells i.size ns.length (a.eval x)).run P w'=.ok news.toArray w':=by
  by_cases BT:ns=[]
  ·subst BT
   refine⟨[],by simp[Ag],fun w' _=> ?_⟩
   rw[k1]
   cases A' with
   |none=>simp[Builtin.firstCells]
   |some ad=>simp[Builtin.firstCells,loadCells,loadCellsFrom]
  ·obtain⟨ad,hA,BO⟩:=k5 BT;rw[Rows.iff] at BO;obtain⟨vs,p1,p2⟩:=BO.qx.vals
   refine⟨vs,p1,fun w' hw=> ?_⟩
   rw[k1,hA]
   exact run_firstCells_some w' i.size ns.length ad ns.length lJ vs (by rw[p1.length];exact Bn ns Nj) (fun j v hv=>by
    have:=p2 j v hv
    simpa[World.cell?,hw] using this)
 exact Ib hI H hf t t e s x ht ht (fun k h=>by cases h) hs hg hi hz WR Ho CC En VP Ue Nj HW (fun w'=>by rw[k1];simp[Builtin.lenOf]) Fg
theorem Ph (E:Env):∀l:List UInt8,Ag E (l.map fun b=>AV.int .u8 (b.toNat:Int)) (l.map fun b=>Value.int .u8 (b.toNat:Int))
 |[]=>rfl
 |b::l=>⟨_,_,rfl,rfl,rfl,Ph E l⟩
theorem P9 (hI:∀w w',I w->Below B0 w w'->I w')(H:Good G I B0 E)(hf:AO E F a)(t t' e:TypeId)(s x:Operand)(ht:P.underlying t=some (.slice e))(dH:P.underlying t'=some .string){g g':Bool}{sz id:Nat}{es:List (List AV)}{l:List UInt8}{i:TypeInfo}{z:Value}
  (hs:ev G F s=(g,.sl sz es (some id))) (hx:ev G F x=(g',.str l)) (hg:g=true) (CR:g'=true) (hi:P.info? e=some i) (hz:i.zero=some z) (WR:z.cells.size=i.size)
  (Ho:Bf E.h es.length (P.cellsOf e) e (some id)=true) (CC:(Nat.beq sz (P.cellsOf e)||es.isEmpty)=true) (NQ:P.cellsOf e=1)
  (VP:(es.length+l.length)*i.bytes<=140737488355328) (Ue:1<=i.bytes):
  An P G I B0 E a ⟨d,.call {callee:=.builtin .append,args:= #[s,x],argTypes:= #[t,t']},ty,pos,after,gd⟩ true (.sl (P.cellsOf e) (es++l.map fun b=>[.int .u8 (b.toNat:Int)]) (some id)) (E.h.set id (.grow (es.length+l.length) (P.cellsOf e) e)):=by
 have QC:P.cellsOf e=i.size:=by simp[Program.cellsOf,hi]
 have sH:a.eval x=.string ⟨l.toArray⟩:=Aj H hf hx CR
 have Gc:(l.map fun b=>[AV.int .u8 (b.toNat:Int)]).flatten=l.map fun b=>AV.int .u8 (b.toNat:Int):=by
  clear VP hx sH
  induction l with
  |nil=>rfl
  |cons b l ih=>simp[ih]
 have dT:(l.map fun b=>[AV.int .u8 (b.toNat:Int)]).length=l.length:=by simp
 rw[<-dT] at VP⊢
 refine Ib hI H hf t t' e s x ht dH (fun k h=>by cases h) hs hg hi hz WR Ho CC (by omega) VP Ue (fun r hr=> ?_) (news:=l.map fun b=>Value.int .u8 (b.toNat:Int)) (by rw[Gc];exact Ph E l) (fun w'=> ?_) (fun w' _=> ?_)
 ·obtain⟨b,_,rfl⟩:=List.mem_map.1 hr;simp;omega
 ·rw[sH,dT];simp[Builtin.lenOf,ByteArray.size]
 ·rw[sH,dT]
  have h1:((⟨l.toArray⟩:ByteArray).extract 0 l.length).data=l.toArray:=by
   have:(⟨l.toArray⟩:ByteArray).size=l.length:=by simp[ByteArray.size]
   rw[<-this,ByteArray.extract_zero_size]
  simp[Builtin.firstCells,h1]
end
end Go.Ai
