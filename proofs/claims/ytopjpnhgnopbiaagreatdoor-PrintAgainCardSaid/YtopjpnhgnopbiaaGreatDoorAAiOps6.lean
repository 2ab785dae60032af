/-
  What the operations do: cuts and appends; and all of them together.
-/
import Derived.Test.YtopjpnhgnopbiaaGreatDoorAAiOps5
set_option linter.unusedVariables false
set_option linter.unusedSimpArgs false
set_option linter.unnecessarySimpa false
namespace Go.Ai
open Go.RowKit
section
variable {G:Nat->Option (List AV)}{I:World->Prop}{B0:Nat}{E:Env}
variable {P:Program}{F:Fr}{a:Act}{d:Option Tmp}{ty:TypeId}{pos:String}{after:Array Edge}{gd:Option (Nat×Bool)}
theorem KS (H:Good G I B0 E)(hf:AR E F a){o:Option Operand}{g:Bool}{r:Option Int}(h:NS (o.map (ev G F))=some (g,r))(hg:g=true):
  ∃k:IntKind,o.map a.eval=r.map (Value.int k):=by
 cases o with
 |none=>
  simp only[Option.map_none,NS,Option.some.injEq,Prod.mk.injEq] at h
  exact⟨.i64,by simp[<-h.2]⟩
 |some x=>
  simp only[Option.map_some] at h;unfold NS at h;split at h
  ·rename_i h';cases h'
  ·rename_i g' k n h';simp only[Option.some.injEq,Prod.mk.injEq] at h h';obtain⟨rfl,rfl⟩:=h;have:=Ah H hf h' hg
   exact⟨k,by simp only[Option.map_some,Option.some.injEq];exact this⟩
  ·cases h
theorem UU (H:Good G I B0 E)(hf:AR E F a)(t:TypeId)(x:Operand)(lo hi:Option Operand)(ht:P.underlying t=some .string){g g1 g2:Bool}{s:List UInt8}{l r:Option Int}
  (hx:ev G F x=(g,.str s)) (hl:NS (lo.map (ev G F))=some (g1,l)) (hr:NS (hi.map (ev G F))=some (g2,r)) (Ar:(g&&g1&&g2&&CL s.length l r)=true):
  Au P G I B0 E a ⟨d,.slice t x lo hi none,ty,pos,after,gd⟩ true (.str (Dh s l r)) E.h:=by
 simp only[Bool.and_eq_true] at Ar;obtain⟨⟨⟨hg,sh⟩,ku⟩,hc⟩:=Ar;have h1:a.eval x=.string ⟨s.toArray⟩:=Ah H hf hx hg;obtain⟨k1,e1⟩:=KS H hf hl sh;obtain⟨k2,e2⟩:=KS H hf hr ku;refine Au.same H (.string ⟨(Dh s l r).toArray⟩) ?_ rfl;simp only[execOp,h1,e1,e2,Option.map_none,Instr.sliceAt,Sem.run_bind,run_underlying ht,Result.andThen_ok]
 have hx:∀(a b:Nat),a<=b->b<=s.length->(⟨s.toArray⟩:ByteArray).extract a b=⟨((s.take b).drop a).toArray⟩:=by
  intro a b Xr hb;rw[ByteArray.extract_mk,List.drop_take]
 cases l with
 |none=>cases r with
  |none=>
   simp[Instr.slice,run_underlying ht,Instr.sliceBounds,Dh]
  |some b=>
   simp only[CL,Bool.and_eq_true,decide_eq_true_eq] at hc
   have hb:0<=b/\b<=((⟨s.toArray⟩:ByteArray).size:Int):=⟨hc.1,by simpa[ByteArray.size_mk'] using hc.2⟩
   simp[Instr.slice,run_underlying ht,Instr.sliceBounds,Instr.sliceBound,asIntOf,Dh,hb,hx 0 b.toNat (by omega) (by omega)]
 |some c=>cases r with
  |none=>
   simp only[CL,Bool.and_eq_true,decide_eq_true_eq] at hc;have hb:0<=c/\c<=(s.length:Int):=hc
   simp[Instr.slice,run_underlying ht,Instr.sliceBounds,Instr.sliceBound,asIntOf,Dh,hb,ByteArray.size_mk',hx c.toNat s.length (by omega) (Nat.le_refl _)]
  |some b=>
   simp only[CL,Bool.and_eq_true,decide_eq_true_eq] at hc
   have hb:0<=b/\b<=((⟨s.toArray⟩:ByteArray).size:Int):=⟨by omega,by simpa[ByteArray.size_mk'] using hc.2⟩
   have HV:0<=c/\c<=b:=hc.1
   have xj:0<=c/\c<=((b.toNat:Nat):Int):=by omega
   simp[Instr.slice,run_underlying ht,Instr.sliceBounds,Instr.sliceBound,asIntOf,Dh,hb,xj,hx c.toNat b.toNat (by omega) (by omega)]
   intro BC;omega
theorem fT {es:List (List AV)}{ad:Addr}{sz:Nat}(h:Rows E es ad)(hu:∀e∈es,e.length=sz)(k m:Nat):Rows E ((es.take m).drop k) (ad.add (k*sz)):=by
 have Ic:∀(es:List (List AV)) (ad:Addr) (m:Nat),Rows E es ad->Rows E (es.take m) ad:=by
  intro es
  induction es with
  |nil=>intro ad m _;simp[Rows]
  |cons e es ih=>
   intro ad m h
   cases m with
   |zero=>simp[Rows]
   |succ m=>exact⟨h.1,ih _ m h.2⟩
 have W8:∀(es:List (List AV)) (ad:Addr) (k:Nat),(∀e∈es,e.length=sz)->Rows E es ad->Rows E (es.drop k) (ad.add (k*sz)):=by
  intro es
  induction es with
  |nil=>intro ad k _ _;simp[Rows]
  |cons e es ih=>
   intro ad k hu h
   cases k with
   |zero=>simpa[Addr.add] using h
   |succ k=>
    have:=ih (ad.add e.length) k (fun r hr=>hu r (by simp[hr])) h.2
    rw[Ep,hu e (by simp)] at this
    rw[List.drop_succ_cons,Nat.add_mul,Nat.one_mul,Nat.add_comm];exact this
 exact W8 _ _ k (fun e he=>hu e (List.mem_of_mem_take he)) (Ic es ad m h)
theorem lJ {α:Type}(s:List α)(l r:Option Int):Dh s l r=(s.take ((r.map Int.toNat).getD s.length)).drop ((l.map Int.toNat).getD 0):=by
 cases l<;>cases r<;>simp[Dh]
theorem UW (H:Good G I B0 E)(hf:AR E F a)(t e:TypeId)(n:Nat)(x:Operand)(lo:Option Operand)(ht:P.underlying t=some (.array n e)){g g1:Bool}{b o:Nat}{l:Int}{t0:TypeId}{cs:List AV}
  (hx:ev G F x=(g,.ptr b o)) (hl:NS (lo.map (ev G F))=some (g1,some l)) (hb:E.h[b]?=some (.mem t0 cs))
  (Ar:(g&&g1&&decide (0<=l)&&decide (l<n)&&(P.info? e).isSome&&Nat.ble (o+n*P.cellsOf e) cs.length&&Nat.ble n 1000000)=true):
  Au P G I B0 E a ⟨d,.slice t x lo none none,ty,pos,after,gd⟩ true (.KR b (o+l.toNat*P.cellsOf e) (n-l.toNat) (P.cellsOf e)) E.h:=by
 simp only[Bool.and_eq_true,decide_eq_true_eq] at Ar;obtain⟨⟨⟨⟨⟨⟨hg,sh⟩,h0⟩,hn⟩,Hv⟩,hlen⟩,yx⟩:=Ar;have hlen:=Nat.le_of_ble_eq_true hlen;have yx:=Nat.le_of_ble_eq_true yx;obtain⟨t2,tE,gg,h2,h3,h4⟩:=Ah H hf hx hg;rw[h2] at hb
 injection hb with hb
 injection hb with k9 hb
 subst hb;obtain⟨k1,e1⟩:=KS H hf hl sh;obtain⟨i,hi⟩:=Option.isSome_iff_exists.1 Hv
 have SI:P.cellsOf e=i.size:=by simp[Program.cellsOf,hi]
 have hln:l.toNat<n:=by omega
 have ib:(⟨gg,o,none⟩:Addr).add (l.toNat*i.size)=⟨gg,o+l.toNat*i.size,none⟩:=by
  unfold Addr.add;split
  ·rename_i hz;rw[hz];rfl
  ·rfl
 have Cb:(Instr.sliceAt t (.pointer (some ⟨gg,o,none⟩)) (some (.int k1 l)) none none).run P E.w=.ok (.slice (some ⟨gg,o+l.toNat*i.size,none⟩) (n-l.toNat) (n-l.toNat)) E.w:=by
  have hle:l<=(n:Int):=by omega
  have BM:¬n=l.toNat:=by omega
  simp[Instr.sliceAt,Instr.sureAddr,run_underlying ht,Instr.sliceBounds,Instr.sliceBound,asIntOf,sizeOf,typeInfo,hi,h0,hle,BM,ib]
 refine Au.same H (.slice (some ⟨gg,o+l.toNat*i.size,none⟩) (n-l.toNat) (n-l.toNat)) ?_ ⟨t2,tE,gg,n-l.toNat,h2,h3,by rw[SI],Nat.le_refl _,?_,?_⟩
 ·have pN:lo.map a.eval=some (Value.int k1 l):=e1;simp only[execOp,h4,pN,Option.map_none,Sem.run_bind,Cb,Result.andThen_ok]
  first|rfl|simp
 ·unfold maxLen;omega
 ·have hm:l.toNat*P.cellsOf e+(n-l.toNat)*P.cellsOf e=n*P.cellsOf e:=by
   rw[<-Nat.add_mul];congr 1;omega
  omega
theorem WH (H:Good G I B0 E)(hf:AR E F a)(t e:TypeId)(x:Operand)(lo hi:Option Operand)(ht:P.underlying t=some (.slice e)){g g1 g2:Bool}{sz:Nat}{es:List (List AV)}{own:Option Nat}{l r:Option Int}
  (hx:ev G F x=(g,.sl sz es own)) (hl:NS (lo.map (ev G F))=some (g1,l)) (hr:NS (hi.map (ev G F))=some (g2,r)) (Hv:(P.info? e).isSome=true)
  (Ar:(g&&g1&&g2&&CL es.length l r&&(Nat.beq sz (P.cellsOf e)||es.isEmpty))=true):
  Au P G I B0 E a ⟨d,.slice t x lo hi none,ty,pos,after,gd⟩ true (.sl sz (Dh es l r) none) E.h:=by
 simp only[Bool.and_eq_true] at Ar;obtain⟨⟨⟨⟨hg,sh⟩,ku⟩,hc⟩,CD⟩:=Ar;obtain⟨⟨A,cap,h1,h2,h3,h4,h5⟩,_⟩:=Ah H hf hx hg;obtain⟨k1,e1⟩:=KS H hf hl sh;obtain⟨k2,e2⟩:=KS H hf hr ku;obtain⟨i,hi⟩:=Option.isSome_iff_exists.1 Hv
 have SI:P.cellsOf e=i.size:=by simp[Program.cellsOf,hi]
 have hlo:0<=(l.map Int.toNat).getD 0/\(l.map Int.toNat).getD 0<=(r.map Int.toNat).getD es.length/\(r.map Int.toNat).getD es.length<=es.length:=by
  cases l<;>cases r<;>simp only[CL,Bool.and_eq_true,decide_eq_true_eq,Option.map_none,Option.map_some,Option.getD_none,Option.getD_some] at hc⊢<;>omega
 have Cb:(Instr.sliceAt t (.slice A es.length cap) (l.map (Value.int k1)) (r.map (Value.int k2)) none).run P E.w=
   .ok (.slice (if cap=(l.map Int.toNat).getD 0 then A else A.map (·.add ((l.map Int.toNat).getD 0*i.size))) ((r.map Int.toNat).getD es.length-(l.map Int.toNat).getD 0) (cap-(l.map Int.toNat).getD 0)) E.w:=by
  simp only[Instr.sliceAt,Sem.run_bind,run_underlying ht,Result.andThen_ok]
  cases l with
  |none=>cases r with
   |none=>simp[Instr.slice,run_underlying ht,Instr.sliceBounds,sizeOf,typeInfo,hi]
   |some b=>
    simp only[CL,Bool.and_eq_true,decide_eq_true_eq] at hc
    have hb:0<=b/\b<=(cap:Int):=by omega
    simp[Instr.slice,run_underlying ht,Instr.sliceBounds,Instr.sliceBound,asIntOf,sizeOf,typeInfo,hi,hb]
  |some c=>cases r with
   |none=>
    simp only[CL,Bool.and_eq_true,decide_eq_true_eq] at hc;simp[Instr.slice,run_underlying ht,Instr.sliceBounds,Instr.sliceBound,asIntOf,sizeOf,typeInfo,hi,hc]
   |some b=>
    simp only[CL,Bool.and_eq_true,decide_eq_true_eq] at hc
    have hb:0<=b/\b<=(cap:Int):=by omega
    have HV:0<=c/\c<=((b.toNat:Nat):Int):=by omega
    simp[Instr.slice,run_underlying ht,Instr.sliceBounds,Instr.sliceBound,asIntOf,sizeOf,typeInfo,hi,hb,HV];intro BC;omega
 refine Au.same H _ (by simp only[execOp,h1,e1,e2,Option.map_none,Sem.run_bind,Cb];rfl) ?_
 rw[lJ];generalize (l.map Int.toNat).getD 0=c at *;generalize (r.map Int.toNat).getD es.length=m at *
 have hlen:((es.take m).drop c).length=m-c:=by simp;omega
 refine⟨⟨_,cap-c,by rw[hlen],by rw[hlen];omega,by omega,fun q hq=>h4 q (List.mem_of_mem_take (List.mem_of_mem_drop hq)),fun BM=> ?_⟩,trivial⟩
 have BC:c<m:=by
  rcases Nat.lt_or_ge c m with h|h
  ·exact h
  ·exact absurd (List.eq_nil_of_length_eq_zero (by rw[hlen];omega)) BM
 have RF:es≠[]:=by rintro rfl;simp at hlo;omega
 obtain⟨ad,rfl,BZ⟩:=h5 RF
 have oK:i.size=sz:=by
  rw[<-SI];simp only[Bool.or_eq_true] at CD
  rcases CD with h|h
  ·exact(Nat.eq_of_beq_eq_true h).symm
  ·rw[List.isEmpty_iff] at h;exact absurd h RF
 rw[if_neg (by omega),oK]
 exact⟨_,rfl,fT BZ h4 c m⟩
theorem Jo (hI:∀w w',I w->Below B0 w w'->I w')(H:Good G I B0 E)(hf:AR E F a)(t t' e:TypeId)(s x:Operand)(ht:P.underlying t=some (.slice e)){du:TypeDesc}(hu:P.underlying t'=some du)(zG:∀k,du≠.int k){g:Bool}{sz id:Nat}{es ns:List (List AV)}{i:TypeInfo}{z:Value}
  (hs:ev G F s=(g,.sl sz es (some id))) (hg:g=true) (hi:P.info? e=some i) (hz:i.zero=some z) (Yz:z.cells.size=i.size)
  (Iz:E7 E.h es.length (P.cellsOf e) e (some id)=true) (CD:(Nat.beq sz (P.cellsOf e)||es.isEmpty)=true) (FZ:0<P.cellsOf e)
  (Xq:(es.length+ns.length)*i.bytes<=140737488355328) (W9:1<=i.bytes)
  (Rx:∀r∈ns,r.length=i.size) {news:List Value} (Ig:Ae E ns.flatten news) (RA:∀w':World,(Builtin.lenOf (a.eval x)).run P w'=.ok ns.length w')
  (Gc:∀w':World,w'.heap=E.w.heap->(Builtin.firstCells i.size ns.length (a.eval x)).run P w'=.ok news.toArray w'):
  Au P G I B0 E a ⟨d,.call {callee:=.builtin .append,args:= #[s,x],argTypes:= #[t,t']},ty,pos,after,gd⟩ true (.sl (P.cellsOf e) (es++ns) (some id)) (E.h.set id (.grow (es.length+ns.length) (P.cellsOf e) e)):=by
 have SI:P.cellsOf e=i.size:=by simp[Program.cellsOf,hi]
 rw[SI] at Iz CD FZ⊢;have OU:=Ah H hf hs hg
 simp only[E7] at Iz;split at Iz
 case h_2=>cases Iz
 rename_i m zq e2 GH;simp only[Bool.and_eq_true] at Iz;obtain⟨⟨q1,q2⟩,q3⟩:=Iz;have q1:=Nat.eq_of_beq_eq_true q1;have q2:=Nat.eq_of_beq_eq_true q2;have q3:=Nat.eq_of_beq_eq_true q3;subst q1;subst q2;subst q3;obtain⟨⟨A,cap,h1,h2,h3,h4,h5⟩,tl,tj⟩:=OU;obtain⟨_,sI⟩:=tj _ _ _ GH;obtain⟨_,⟨xs,Cc⟩,Ar⟩:=sI rfl
 have RF:∀r∈es,r.length=i.size:=by
  intro r hr;simp only[Bool.or_eq_true] at CD
  rcases CD with h|h
  ·rw[<-Nat.eq_of_beq_eq_true h];exact h4 r hr
  ·rw[List.isEmpty_iff] at h;subst h;cases hr
 have oF:Ae E es.flatten xs:=by
  have hl:=Bp es RF
  rcases Cc.2 with ⟨_,hn⟩|⟨g0,yC,cur,hv,ky,Ph,kp,PL,Fu,Ic⟩
  ·have:es=[]:=List.eq_nil_of_length_eq_zero hn;subst this
   have:xs=[]:=List.eq_nil_of_length_eq_zero (by simpa using Cc.1)
   simp[this,Ae]
  ·rw[hv] at h1
   injection h1 with h1 _ _
   refine Ae.iff.2 ⟨by rw[hl];exact Cc.1,fun j c v hc wG=> ?_⟩
   have BM:es≠[]:=by rintro rfl;simp at hc
   obtain⟨ad,hA,BZ⟩:=h5 BM;rw[hA] at h1
   injection h1 with h1
   rw[Rows.iff] at BZ;obtain⟨u,p1,p2,_,p4⟩:=At.iff.1 BZ j c hc
   have DY:=Cc.cells (g:=g0) (by rw[hv];rfl) j v wG
   rw[h1] at DY;rw[DY] at p1
   injection p1 with p1
   subst p1;exact⟨p2,p4⟩
 have mF:news.length=ns.length*i.size:=by rw[Ig.length];exact Bp ns Rx
 have iE:es.length+ns.length<=maxLen:=by
  have:es.length+ns.length<=(es.length+ns.length)*i.bytes:=Nat.le_mul_of_pos_right _ W9;unfold maxLen;omega
 obtain⟨v',w',Cb,Gr,VV,TC,PH,Bt⟩:=HK (P:=P) E.w E.B t t' ty e2 du i z ht hu zG hi hz Yz FZ W9 (a.eval s) es.length xs Cc (a.eval x) ns.length news mF RA Gc (G9 Ig) iE Xq H.size;have S:=step_append hI H GH Cc Ar Gr VV TC PH Bt
 refine⟨v',_,.inl ?_,S,rfl,fun _=>OM (n:=es.length+ns.length) (e:=e2) (xs:=xs++news) (fun r hr=> ?_) (by simp) (by simp[tl]) (by show _=DA E.σ id v'.ownBlock id;rw[Ay]) Gr ?_ H.U (fun q y hq e=>Hd S.Co (b:=id) (x:=.grow (es.length+ns.length) i.size e2) (by simp[tl]) (by simp) e q y hq rfl)
  (fun j y g0 hj hy Hf Ku=>S.Co.inj j id y (.grow (es.length+ns.length) i.size e2) g0 hj (by simp[tl]) hy (by simp) Hf Ku),fun h=>by cases h⟩
 ·simp only[execOp,resolve,List.map_toArray,List.map_cons,List.map_nil,Sem.run_bind,Sem.run_pure,Result.andThen_ok,invoke,builtin,Cb]
 ·rcases List.mem_append.1 hr with h|h
  ·exact RF r h
  ·exact Rx r h
 ·rw[List.flatten_append];exact EN (Ae.mono S.le _ _ oF) (Ae.mono S.le _ _ Ig)
theorem cm (hI:∀w w',I w->Below B0 w w'->I w')(H:Good G I B0 E)(hf:AR E F a)(t e:TypeId)(s x:Operand)(ht:P.underlying t=some (.slice e)){g g':Bool}{sz EB id:Nat}{es ns:List (List AV)}{NQ:Option Nat}{i:TypeInfo}{z:Value}
  (hs:ev G F s=(g,.sl sz es (some id))) (hx:ev G F x=(g',.sl EB ns NQ)) (hg:g=true) (CY:g'=true) (hi:P.info? e=some i) (hz:i.zero=some z) (Yz:z.cells.size=i.size)
  (Iz:E7 E.h es.length (P.cellsOf e) e (some id)=true) (CD:(Nat.beq sz (P.cellsOf e)||es.isEmpty)=true) (Fs:(Nat.beq EB (P.cellsOf e)||ns.isEmpty)=true) (FZ:0<P.cellsOf e)
  (Xq:(es.length+ns.length)*i.bytes<=140737488355328) (W9:1<=i.bytes):
  Au P G I B0 E a ⟨d,.call {callee:=.builtin .append,args:= #[s,x],argTypes:= #[t,t]},ty,pos,after,gd⟩ true (.sl (P.cellsOf e) (es++ns) (some id)) (E.h.set id (.grow (es.length+ns.length) (P.cellsOf e) e)):=by
 have SI:P.cellsOf e=i.size:=by simp[Program.cellsOf,hi]
 obtain⟨⟨A',pQ,k1,k2,k3,k4,k5⟩,_⟩:=Ah H hf hx CY
 have Rx:∀r∈ns,r.length=i.size:=by
  intro r hr;simp only[Bool.or_eq_true] at Fs
  rcases Fs with h|h
  ·rw[<-SI,<-Nat.eq_of_beq_eq_true h];exact k4 r hr
  ·rw[List.isEmpty_iff] at h;subst h;cases hr
 obtain⟨news,Ig,Gc⟩:∃news,Ae E ns.flatten news/\∀w':World,w'.heap=E.w.heap->(Builtin.firstCells i.size ns.length (a.eval x)).run P w'=.ok news.toArray w':=by
  by_cases BM:ns=[]
  ·subst BM
   refine⟨[],by simp[Ae],fun w' _=> ?_⟩
   rw[k1]
   cases A' with
   |none=>simp[Builtin.firstCells]
   |some ad=>simp[Builtin.firstCells,loadCells,loadCellsFrom]
  ·obtain⟨ad,hA,BZ⟩:=k5 BM;rw[Rows.iff] at BZ;obtain⟨vs,p1,p2⟩:=BZ.vH.vals
   refine⟨vs,p1,fun w' hw=> ?_⟩
   rw[k1,hA]
   exact run_firstCells_some w' i.size ns.length ad ns.length pQ vs (by rw[p1.length];exact Bp ns Rx) (fun j v hv=>by
    have:=p2 j v hv
    simpa[World.cell?,hw] using this)
 exact Jo hI H hf t t e s x ht ht (fun k h=>by cases h) hs hg hi hz Yz Iz CD FZ Xq W9 Rx Ig (fun w'=>by rw[k1];simp[Builtin.lenOf]) Gc
theorem Rm (E:Env):∀l:List UInt8,Ae E (l.map fun b=>AV.int .u8 (b.toNat:Int)) (l.map fun b=>Value.int .u8 (b.toNat:Int))
 |[]=>rfl
 |b::l=>⟨_,_,rfl,rfl,rfl,Rm E l⟩
theorem SD (hI:∀w w',I w->Below B0 w w'->I w')(H:Good G I B0 E)(hf:AR E F a)(t t' e:TypeId)(s x:Operand)(ht:P.underlying t=some (.slice e))(hH:P.underlying t'=some .string){g g':Bool}{sz id:Nat}{es:List (List AV)}{l:List UInt8}{i:TypeInfo}{z:Value}
  (hs:ev G F s=(g,.sl sz es (some id))) (hx:ev G F x=(g',.str l)) (hg:g=true) (CY:g'=true) (hi:P.info? e=some i) (hz:i.zero=some z) (Yz:z.cells.size=i.size)
  (Iz:E7 E.h es.length (P.cellsOf e) e (some id)=true) (CD:(Nat.beq sz (P.cellsOf e)||es.isEmpty)=true) (PI:P.cellsOf e=1)
  (Xq:(es.length+l.length)*i.bytes<=140737488355328) (W9:1<=i.bytes):
  Au P G I B0 E a ⟨d,.call {callee:=.builtin .append,args:= #[s,x],argTypes:= #[t,t']},ty,pos,after,gd⟩ true (.sl (P.cellsOf e) (es++l.map fun b=>[.int .u8 (b.toNat:Int)]) (some id)) (E.h.set id (.grow (es.length+l.length) (P.cellsOf e) e)):=by
 have SI:P.cellsOf e=i.size:=by simp[Program.cellsOf,hi]
 have Pg:a.eval x=.string ⟨l.toArray⟩:=Ah H hf hx CY
 have HU:(l.map fun b=>[AV.int .u8 (b.toNat:Int)]).flatten=l.map fun b=>AV.int .u8 (b.toNat:Int):=by
  clear Xq hx Pg
  induction l with
  |nil=>rfl
  |cons b l ih=>simp[ih]
 have iH:(l.map fun b=>[AV.int .u8 (b.toNat:Int)]).length=l.length:=by simp
 rw[<-iH] at Xq⊢
 refine Jo hI H hf t t' e s x ht hH (fun k h=>by cases h) hs hg hi hz Yz Iz CD (by omega) Xq W9 (fun r hr=> ?_) (news:=l.map fun b=>Value.int .u8 (b.toNat:Int)) (by rw[HU];exact Rm E l) (fun w'=> ?_) (fun w' _=> ?_)
 ·obtain⟨b,_,rfl⟩:=List.mem_map.1 hr;simp;omega
 ·rw[Pg,iH];simp[Builtin.lenOf,ByteArray.size]
 ·rw[Pg,iH]
  have h1:((⟨l.toArray⟩:ByteArray).extract 0 l.length).data=l.toArray:=by
   have:(⟨l.toArray⟩:ByteArray).size=l.length:=by simp[ByteArray.size]
   rw[<-this,ByteArray.extract_zero_size]
  simp[Builtin.firstCells,h1]
end
end Go.Ai
