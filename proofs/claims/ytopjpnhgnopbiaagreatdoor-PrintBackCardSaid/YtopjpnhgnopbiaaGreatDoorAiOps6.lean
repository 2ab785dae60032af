/-
  What the operations do: cuts and appends; and all of them together.
-/
import Derived.Test.YtopjpnhgnopbiaaGreatDoorAiOps5
set_option linter.unusedVariables false
set_option linter.unusedSimpArgs false
set_option linter.unnecessarySimpa false
namespace Go.Ai
open Go.RowKit
section
variable {G:Nat->Option (List AV)}{I:World->Prop}{B0:Nat}{E:Env}
variable {P:Program}{F:Fr}{a:Act}{d:Option Tmp}{ty:TypeId}{pos:String}{after:Array Edge}{gd:Option (Nat×Bool)}
theorem KW (H:Good G I B0 E)(hf:AR E F a){o:Option Operand}{g:Bool}{r:Option Int}(h:NW (o.map (ev G F))=some (g,r))(hg:g=true):
  ∃k:IntKind,o.map a.eval=r.map (Value.int k):=by
 cases o with
 |none=>
  simp only[Option.map_none,NW,Option.some.injEq,Prod.mk.injEq] at h
  exact⟨.i64,by simp[<-h.2]⟩
 |some x=>
  simp only[Option.map_some] at h;unfold NW at h;split at h
  ·rename_i h';cases h'
  ·rename_i g' k n h';simp only[Option.some.injEq,Prod.mk.injEq] at h h';obtain⟨rfl,rfl⟩:=h;have:=Ah H hf h' hg
   exact⟨k,by simp only[Option.map_some,Option.some.injEq];exact this⟩
  ·cases h
theorem UW (H:Good G I B0 E)(hf:AR E F a)(t:TypeId)(x:Operand)(lo hi:Option Operand)(ht:P.underlying t=some .string){g g1 g2:Bool}{s:List UInt8}{l r:Option Int}
  (hx:ev G F x=(g,.str s)) (hl:NW (lo.map (ev G F))=some (g1,l)) (hr:NW (hi.map (ev G F))=some (g2,r)) (Ar:(g&&g1&&g2&&CK s.length l r)=true):
  Au P G I B0 E a ⟨d,.slice t x lo hi none,ty,pos,after,gd⟩ true (.str (Dj s l r)) E.h:=by
 simp only[Bool.and_eq_true] at Ar;obtain⟨⟨⟨hg,sy⟩,lL⟩,hc⟩:=Ar;have h1:a.eval x=.string ⟨s.toArray⟩:=Ah H hf hx hg;obtain⟨k1,e1⟩:=KW H hf hl sy;obtain⟨k2,e2⟩:=KW H hf hr lL;refine Au.same H (.string ⟨(Dj s l r).toArray⟩) ?_ rfl;simp only[execOp,h1,e1,e2,Option.map_none,Instr.sliceAt,Sem.run_bind,run_underlying ht,Result.andThen_ok]
 have hx:∀(a b:Nat),a<=b->b<=s.length->(⟨s.toArray⟩:ByteArray).extract a b=⟨((s.take b).drop a).toArray⟩:=by
  intro a b Xt hb;rw[ByteArray.extract_mk,List.drop_take]
 cases l with
 |none=>cases r with
  |none=>
   simp[Instr.slice,run_underlying ht,Instr.sliceBounds,Dj]
  |some b=>
   simp only[CK,Bool.and_eq_true,decide_eq_true_eq] at hc
   have hb:0<=b/\b<=((⟨s.toArray⟩:ByteArray).size:Int):=⟨hc.1,by simpa[ByteArray.size_mk'] using hc.2⟩
   simp[Instr.slice,run_underlying ht,Instr.sliceBounds,Instr.sliceBound,asIntOf,Dj,hb,hx 0 b.toNat (by omega) (by omega)]
 |some c=>cases r with
  |none=>
   simp only[CK,Bool.and_eq_true,decide_eq_true_eq] at hc;have hb:0<=c/\c<=(s.length:Int):=hc
   simp[Instr.slice,run_underlying ht,Instr.sliceBounds,Instr.sliceBound,asIntOf,Dj,hb,ByteArray.size_mk',hx c.toNat s.length (by omega) (Nat.le_refl _)]
  |some b=>
   simp only[CK,Bool.and_eq_true,decide_eq_true_eq] at hc
   have hb:0<=b/\b<=((⟨s.toArray⟩:ByteArray).size:Int):=⟨by omega,by simpa[ByteArray.size_mk'] using hc.2⟩
   have Ha:0<=c/\c<=b:=hc.1
   have yC:0<=c/\c<=((b.toNat:Nat):Int):=by omega
   simp[Instr.slice,run_underlying ht,Instr.sliceBounds,Instr.sliceBound,asIntOf,Dj,hb,yC,hx c.toNat b.toNat (by omega) (by omega)]
   intro BC;omega
theorem fe {es:List (List AV)}{ad:Addr}{sz:Nat}(h:Rows E es ad)(hu:∀e∈es,e.length=sz)(k m:Nat):Rows E ((es.take m).drop k) (ad.add (k*sz)):=by
 have Ig:∀(es:List (List AV)) (ad:Addr) (m:Nat),Rows E es ad->Rows E (es.take m) ad:=by
  intro es
  induction es with
  |nil=>intro ad m _;simp[Rows]
  |cons e es ih=>
   intro ad m h
   cases m with
   |zero=>simp[Rows]
   |succ m=>exact⟨h.1,ih _ m h.2⟩
 have XA:∀(es:List (List AV)) (ad:Addr) (k:Nat),(∀e∈es,e.length=sz)->Rows E es ad->Rows E (es.drop k) (ad.add (k*sz)):=by
  intro es
  induction es with
  |nil=>intro ad k _ _;simp[Rows]
  |cons e es ih=>
   intro ad k hu h
   cases k with
   |zero=>simpa[Addr.add] using h
   |succ k=>
    have:=ih (ad.add e.length) k (fun r hr=>hu r (by simp[hr])) h.2
    rw[Eu,hu e (by simp)] at this
    rw[List.drop_succ_cons,Nat.add_mul,Nat.one_mul,Nat.add_comm];exact this
 exact XA _ _ k (fun e he=>hu e (List.mem_of_mem_take he)) (Ig es ad m h)
theorem lZ {α:Type}(s:List α)(l r:Option Int):Dj s l r=(s.take ((r.map Int.toNat).getD s.length)).drop ((l.map Int.toNat).getD 0):=by
 cases l<;>cases r<;>simp[Dj]
theorem UX (H:Good G I B0 E)(hf:AR E F a)(t e:TypeId)(n:Nat)(x:Operand)(lo:Option Operand)(ht:P.underlying t=some (.array n e)){g g1:Bool}{b o:Nat}{l:Int}{t0:TypeId}{cs:List AV}
  (hx:ev G F x=(g,.ptr b o)) (hl:NW (lo.map (ev G F))=some (g1,some l)) (hb:E.h[b]?=some (.mem t0 cs))
  (Ar:(g&&g1&&decide (0<=l)&&decide (l<n)&&(P.info? e).isSome&&Nat.ble (o+n*P.cellsOf e) cs.length&&Nat.ble n 1000000)=true):
  Au P G I B0 E a ⟨d,.slice t x lo none none,ty,pos,after,gd⟩ true (.KV b (o+l.toNat*P.cellsOf e) (n-l.toNat) (P.cellsOf e)) E.h:=by
 simp only[Bool.and_eq_true,decide_eq_true_eq] at Ar;obtain⟨⟨⟨⟨⟨⟨hg,sy⟩,h0⟩,hn⟩,Hx⟩,hlen⟩,zI⟩:=Ar;have hlen:=Nat.le_of_ble_eq_true hlen;have zI:=Nat.le_of_ble_eq_true zI;obtain⟨t2,tR,gg,h2,h3,h4⟩:=Ah H hf hx hg;rw[h2] at hb
 injection hb with hb
 injection hb with lQ hb
 subst hb;obtain⟨k1,e1⟩:=KW H hf hl sy;obtain⟨i,hi⟩:=Option.isSome_iff_exists.1 Hx
 have SK:P.cellsOf e=i.size:=by simp[Program.cellsOf,hi]
 have hln:l.toNat<n:=by omega
 have jA:(⟨gg,o,none⟩:Addr).add (l.toNat*i.size)=⟨gg,o+l.toNat*i.size,none⟩:=by
  unfold Addr.add;split
  ·rename_i hz;rw[hz];rfl
  ·rfl
 have Cb:(Instr.sliceAt t (.pointer (some ⟨gg,o,none⟩)) (some (.int k1 l)) none none).run P E.w=.ok (.slice (some ⟨gg,o+l.toNat*i.size,none⟩) (n-l.toNat) (n-l.toNat)) E.w:=by
  have hle:l<=(n:Int):=by omega
  have BO:¬n=l.toNat:=by omega
  simp[Instr.sliceAt,Instr.sureAddr,run_underlying ht,Instr.sliceBounds,Instr.sliceBound,asIntOf,sizeOf,typeInfo,hi,h0,hle,BO,jA]
 refine Au.same H (.slice (some ⟨gg,o+l.toNat*i.size,none⟩) (n-l.toNat) (n-l.toNat)) ?_ ⟨t2,tR,gg,n-l.toNat,h2,h3,by rw[SK],Nat.le_refl _,?_,?_⟩
 ·have pd:lo.map a.eval=some (Value.int k1 l):=e1;simp only[execOp,h4,pd,Option.map_none,Sem.run_bind,Cb,Result.andThen_ok]
  first|rfl|simp
 ·unfold maxLen;omega
 ·have hm:l.toNat*P.cellsOf e+(n-l.toNat)*P.cellsOf e=n*P.cellsOf e:=by
   rw[<-Nat.add_mul];congr 1;omega
  omega
theorem WK (H:Good G I B0 E)(hf:AR E F a)(t e:TypeId)(x:Operand)(lo hi:Option Operand)(ht:P.underlying t=some (.slice e)){g g1 g2:Bool}{sz:Nat}{es:List (List AV)}{own:Option Nat}{l r:Option Int}
  (hx:ev G F x=(g,.sl sz es own)) (hl:NW (lo.map (ev G F))=some (g1,l)) (hr:NW (hi.map (ev G F))=some (g2,r)) (Hx:(P.info? e).isSome=true)
  (Ar:(g&&g1&&g2&&CK es.length l r&&(Nat.beq sz (P.cellsOf e)||es.isEmpty))=true):
  Au P G I B0 E a ⟨d,.slice t x lo hi none,ty,pos,after,gd⟩ true (.sl sz (Dj es l r) none) E.h:=by
 simp only[Bool.and_eq_true] at Ar;obtain⟨⟨⟨⟨hg,sy⟩,lL⟩,hc⟩,CD⟩:=Ar;obtain⟨⟨A,cap,h1,h2,h3,h4,h5⟩,_⟩:=Ah H hf hx hg;obtain⟨k1,e1⟩:=KW H hf hl sy;obtain⟨k2,e2⟩:=KW H hf hr lL;obtain⟨i,hi⟩:=Option.isSome_iff_exists.1 Hx
 have SK:P.cellsOf e=i.size:=by simp[Program.cellsOf,hi]
 have hlo:0<=(l.map Int.toNat).getD 0/\(l.map Int.toNat).getD 0<=(r.map Int.toNat).getD es.length/\(r.map Int.toNat).getD es.length<=es.length:=by
  cases l<;>cases r<;>simp only[CK,Bool.and_eq_true,decide_eq_true_eq,Option.map_none,Option.map_some,Option.getD_none,Option.getD_some] at hc⊢<;>omega
 have Cb:(Instr.sliceAt t (.slice A es.length cap) (l.map (Value.int k1)) (r.map (Value.int k2)) none).run P E.w=
   .ok (.slice (if cap=(l.map Int.toNat).getD 0 then A else A.map (·.add ((l.map Int.toNat).getD 0*i.size))) ((r.map Int.toNat).getD es.length-(l.map Int.toNat).getD 0) (cap-(l.map Int.toNat).getD 0)) E.w:=by
  simp only[Instr.sliceAt,Sem.run_bind,run_underlying ht,Result.andThen_ok]
  cases l with
  |none=>cases r with
   |none=>simp[Instr.slice,run_underlying ht,Instr.sliceBounds,sizeOf,typeInfo,hi]
   |some b=>
    simp only[CK,Bool.and_eq_true,decide_eq_true_eq] at hc
    have hb:0<=b/\b<=(cap:Int):=by omega
    simp[Instr.slice,run_underlying ht,Instr.sliceBounds,Instr.sliceBound,asIntOf,sizeOf,typeInfo,hi,hb]
  |some c=>cases r with
   |none=>
    simp only[CK,Bool.and_eq_true,decide_eq_true_eq] at hc;simp[Instr.slice,run_underlying ht,Instr.sliceBounds,Instr.sliceBound,asIntOf,sizeOf,typeInfo,hi,hc]
   |some b=>
    simp only[CK,Bool.and_eq_true,decide_eq_true_eq] at hc
    have hb:0<=b/\b<=(cap:Int):=by omega
    have Ha:0<=c/\c<=((b.toNat:Nat):Int):=by omega
    simp[Instr.slice,run_underlying ht,Instr.sliceBounds,Instr.sliceBound,asIntOf,sizeOf,typeInfo,hi,hb,Ha];intro BC;omega
 refine Au.same H _ (by simp only[execOp,h1,e1,e2,Option.map_none,Sem.run_bind,Cb];rfl) ?_
 rw[lZ];generalize (l.map Int.toNat).getD 0=c at *;generalize (r.map Int.toNat).getD es.length=m at *
 have hlen:((es.take m).drop c).length=m-c:=by simp;omega
 refine⟨⟨_,cap-c,by rw[hlen],by rw[hlen];omega,by omega,fun q hq=>h4 q (List.mem_of_mem_take (List.mem_of_mem_drop hq)),fun BO=> ?_⟩,trivial⟩
 have BC:c<m:=by
  rcases Nat.lt_or_ge c m with h|h
  ·exact h
  ·exact absurd (List.eq_nil_of_length_eq_zero (by rw[hlen];omega)) BO
 have RH:es≠[]:=by rintro rfl;simp at hlo;omega
 obtain⟨ad,rfl,BZ⟩:=h5 RH
 have oZ:i.size=sz:=by
  rw[<-SK];simp only[Bool.or_eq_true] at CD
  rcases CD with h|h
  ·exact(Nat.eq_of_beq_eq_true h).symm
  ·rw[List.isEmpty_iff] at h;exact absurd h RH
 rw[if_neg (by omega),oZ]
 exact⟨_,rfl,fe BZ h4 c m⟩
theorem Jr (hI:∀w w',I w->Below B0 w w'->I w')(H:Good G I B0 E)(hf:AR E F a)(t t' e:TypeId)(s x:Operand)(ht:P.underlying t=some (.slice e)){du:TypeDesc}(hu:P.underlying t'=some du)(zV:∀k,du≠.int k){g:Bool}{sz id:Nat}{es ns:List (List AV)}{i:TypeInfo}{z:Value}
  (hs:ev G F s=(g,.sl sz es (some id))) (hg:g=true) (hi:P.info? e=some i) (hz:i.zero=some z) (ZA:z.cells.size=i.size)
  (I8:FB E.h es.length (P.cellsOf e) e (some id)=true) (CD:(Nat.beq sz (P.cellsOf e)||es.isEmpty)=true) (Fe:0<P.cellsOf e)
  (Xs:(es.length+ns.length)*i.bytes<=140737488355328) (XB:1<=i.bytes)
  (Rz:∀r∈ns,r.length=i.size) {news:List Value} (Ii:Ae E ns.flatten news) (RC:∀w':World,(Builtin.lenOf (a.eval x)).run P w'=.ok ns.length w')
  (Gf:∀w':World,w'.heap=E.w.heap->(Builtin.firstCells i.size ns.length (a.eval x)).run P w'=.ok news.toArray w'):
  Au P G I B0 E a ⟨d,.call {callee:=.builtin .append,args:= #[s,x],argTypes:= #[t,t']},ty,pos,after,gd⟩ true (.sl (P.cellsOf e) (es++ns) (some id)) (E.h.set id (.grow (es.length+ns.length) (P.cellsOf e) e)):=by
 have SK:P.cellsOf e=i.size:=by simp[Program.cellsOf,hi]
 rw[SK] at I8 CD Fe⊢;have OY:=Ah H hf hs hg
 simp only[FB] at I8;split at I8
 case h_2=>cases I8
 rename_i m sz2 e2 GL;simp only[Bool.and_eq_true] at I8;obtain⟨⟨q1,q2⟩,q3⟩:=I8;have q1:=Nat.eq_of_beq_eq_true q1;have q2:=Nat.eq_of_beq_eq_true q2;have q3:=Nat.eq_of_beq_eq_true q3;subst q1;subst q2;subst q3;obtain⟨⟨A,cap,h1,h2,h3,h4,h5⟩,uF,uE⟩:=OY;obtain⟨_,sV⟩:=uE _ _ _ GL;obtain⟨_,⟨xs,Cc⟩,Ar⟩:=sV rfl
 have RH:∀r∈es,r.length=i.size:=by
  intro r hr;simp only[Bool.or_eq_true] at CD
  rcases CD with h|h
  ·rw[<-Nat.eq_of_beq_eq_true h];exact h4 r hr
  ·rw[List.isEmpty_iff] at h;subst h;cases hr
 have oU:Ae E es.flatten xs:=by
  have hl:=Bq es RH
  rcases Cc.2 with ⟨_,hn⟩|⟨g0,yR,cur,hv,lO,Pm,lH,PQ,Fx,Ig⟩
  ·have:es=[]:=List.eq_nil_of_length_eq_zero hn;subst this
   have:xs=[]:=List.eq_nil_of_length_eq_zero (by simpa using Cc.1)
   simp[this,Ae]
  ·rw[hv] at h1
   injection h1 with h1 _ _
   refine Ae.iff.2 ⟨by rw[hl];exact Cc.1,fun j c v hc wX=> ?_⟩
   have BO:es≠[]:=by rintro rfl;simp at hc
   obtain⟨ad,hA,BZ⟩:=h5 BO;rw[hA] at h1
   injection h1 with h1
   rw[Rows.iff] at BZ;obtain⟨u,p1,p2,_,p4⟩:=At.iff.1 BZ j c hc
   have Da:=Cc.cells (g:=g0) (by rw[hv];rfl) j v wX
   rw[h1] at Da;rw[Da] at p1
   injection p1 with p1
   subst p1;exact⟨p2,p4⟩
 have mV:news.length=ns.length*i.size:=by rw[Ii.length];exact Bq ns Rz
 have iU:es.length+ns.length<=maxLen:=by
  have:es.length+ns.length<=(es.length+ns.length)*i.bytes:=Nat.le_mul_of_pos_right _ XB;unfold maxLen;omega
 obtain⟨v',w',Cb,Gu,VW,TD,PM,Bu⟩:=HP (P:=P) E.w E.B t t' ty e2 du i z ht hu zV hi hz ZA Fe XB (a.eval s) es.length xs Cc (a.eval x) ns.length news mV RC Gf (HE Ii) iU Xs H.size;have S:=step_append hI H GL Cc Ar Gu VW TD PM Bu
 refine⟨v',_,.inl ?_,S,rfl,fun _=>OP (n:=es.length+ns.length) (e:=e2) (xs:=xs++news) (fun r hr=> ?_) (by simp) (by simp[uF]) (by show _=DB E.σ id v'.ownBlock id;rw[Ay]) Gu ?_ H.U (fun q y hq e=>Hi S.Cn (b:=id) (x:=.grow (es.length+ns.length) i.size e2) (by simp[uF]) (by simp) e q y hq rfl)
  (fun j y g0 hj hy Hk Ky=>S.Cn.inj j id y (.grow (es.length+ns.length) i.size e2) g0 hj (by simp[uF]) hy (by simp) Hk Ky),fun h=>by cases h⟩
 ·simp only[execOp,resolve,List.map_toArray,List.map_cons,List.map_nil,Sem.run_bind,Sem.run_pure,Result.andThen_ok,invoke,builtin,Cb]
 ·rcases List.mem_append.1 hr with h|h
  ·exact RH r h
  ·exact Rz r h
 ·rw[List.flatten_append];exact ES (Ae.mono S.le _ _ oU) (Ae.mono S.le _ _ Ii)
theorem cu (hI:∀w w',I w->Below B0 w w'->I w')(H:Good G I B0 E)(hf:AR E F a)(t e:TypeId)(s x:Operand)(ht:P.underlying t=some (.slice e)){g g':Bool}{sz EE id:Nat}{es ns:List (List AV)}{NU:Option Nat}{i:TypeInfo}{z:Value}
  (hs:ev G F s=(g,.sl sz es (some id))) (hx:ev G F x=(g',.sl EE ns NU)) (hg:g=true) (CY:g'=true) (hi:P.info? e=some i) (hz:i.zero=some z) (ZA:z.cells.size=i.size)
  (I8:FB E.h es.length (P.cellsOf e) e (some id)=true) (CD:(Nat.beq sz (P.cellsOf e)||es.isEmpty)=true) (Fv:(Nat.beq EE (P.cellsOf e)||ns.isEmpty)=true) (Fe:0<P.cellsOf e)
  (Xs:(es.length+ns.length)*i.bytes<=140737488355328) (XB:1<=i.bytes):
  Au P G I B0 E a ⟨d,.call {callee:=.builtin .append,args:= #[s,x],argTypes:= #[t,t]},ty,pos,after,gd⟩ true (.sl (P.cellsOf e) (es++ns) (some id)) (E.h.set id (.grow (es.length+ns.length) (P.cellsOf e) e)):=by
 have SK:P.cellsOf e=i.size:=by simp[Program.cellsOf,hi]
 obtain⟨⟨A',ph,k1,k2,k3,k4,k5⟩,_⟩:=Ah H hf hx CY
 have Rz:∀r∈ns,r.length=i.size:=by
  intro r hr;simp only[Bool.or_eq_true] at Fv
  rcases Fv with h|h
  ·rw[<-SK,<-Nat.eq_of_beq_eq_true h];exact k4 r hr
  ·rw[List.isEmpty_iff] at h;subst h;cases hr
 obtain⟨news,Ii,Gf⟩:∃news,Ae E ns.flatten news/\∀w':World,w'.heap=E.w.heap->(Builtin.firstCells i.size ns.length (a.eval x)).run P w'=.ok news.toArray w':=by
  by_cases BO:ns=[]
  ·subst BO
   refine⟨[],by simp[Ae],fun w' _=> ?_⟩
   rw[k1]
   cases A' with
   |none=>simp[Builtin.firstCells]
   |some ad=>simp[Builtin.firstCells,loadCells,loadCellsFrom]
  ·obtain⟨ad,hA,BZ⟩:=k5 BO;rw[Rows.iff] at BZ;obtain⟨vs,p1,p2⟩:=BZ.vW.vals
   refine⟨vs,p1,fun w' hw=> ?_⟩
   rw[k1,hA]
   exact run_firstCells_some w' i.size ns.length ad ns.length ph vs (by rw[p1.length];exact Bq ns Rz) (fun j v hv=>by
    have:=p2 j v hv
    simpa[World.cell?,hw] using this)
 exact Jr hI H hf t t e s x ht ht (fun k h=>by cases h) hs hg hi hz ZA I8 CD Fe Xs XB Rz Ii (fun w'=>by rw[k1];simp[Builtin.lenOf]) Gf
theorem Ro (E:Env):∀l:List UInt8,Ae E (l.map fun b=>AV.int .u8 (b.toNat:Int)) (l.map fun b=>Value.int .u8 (b.toNat:Int))
 |[]=>rfl
 |b::l=>⟨_,_,rfl,rfl,rfl,Ro E l⟩
theorem SF (hI:∀w w',I w->Below B0 w w'->I w')(H:Good G I B0 E)(hf:AR E F a)(t t' e:TypeId)(s x:Operand)(ht:P.underlying t=some (.slice e))(iL:P.underlying t'=some .string){g g':Bool}{sz id:Nat}{es:List (List AV)}{l:List UInt8}{i:TypeInfo}{z:Value}
  (hs:ev G F s=(g,.sl sz es (some id))) (hx:ev G F x=(g',.str l)) (hg:g=true) (CY:g'=true) (hi:P.info? e=some i) (hz:i.zero=some z) (ZA:z.cells.size=i.size)
  (I8:FB E.h es.length (P.cellsOf e) e (some id)=true) (CD:(Nat.beq sz (P.cellsOf e)||es.isEmpty)=true) (PN:P.cellsOf e=1)
  (Xs:(es.length+l.length)*i.bytes<=140737488355328) (XB:1<=i.bytes):
  Au P G I B0 E a ⟨d,.call {callee:=.builtin .append,args:= #[s,x],argTypes:= #[t,t']},ty,pos,after,gd⟩ true (.sl (P.cellsOf e) (es++l.map fun b=>[.int .u8 (b.toNat:Int)]) (some id)) (E.h.set id (.grow (es.length+l.length) (P.cellsOf e) e)):=by
 have SK:P.cellsOf e=i.size:=by simp[Program.cellsOf,hi]
 have Pl:a.eval x=.string ⟨l.toArray⟩:=Ah H hf hx CY
 have HZ:(l.map fun b=>[AV.int .u8 (b.toNat:Int)]).flatten=l.map fun b=>AV.int .u8 (b.toNat:Int):=by
  clear Xs hx Pl
  induction l with
  |nil=>rfl
  |cons b l ih=>simp[ih]
 have iW:(l.map fun b=>[AV.int .u8 (b.toNat:Int)]).length=l.length:=by simp
 rw[<-iW] at Xs⊢
 refine Jr hI H hf t t' e s x ht iL (fun k h=>by cases h) hs hg hi hz ZA I8 CD (by omega) Xs XB (fun r hr=> ?_) (news:=l.map fun b=>Value.int .u8 (b.toNat:Int)) (by rw[HZ];exact Ro E l) (fun w'=> ?_) (fun w' _=> ?_)
 ·obtain⟨b,_,rfl⟩:=List.mem_map.1 hr;simp;omega
 ·rw[Pl,iW];simp[Builtin.lenOf,ByteArray.size]
 ·rw[Pl,iW]
  have h1:((⟨l.toArray⟩:ByteArray).extract 0 l.length).data=l.toArray:=by
   have:(⟨l.toArray⟩:ByteArray).size=l.length:=by simp[ByteArray.size]
   rw[<-this,ByteArray.extract_zero_size]
  simp[Builtin.firstCells,h1]
end
end Go.Ai
