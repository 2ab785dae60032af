/-
  Conversions between strings and bytes.
  Structs that are held against each other.
  Slices that the call may write into: bytes of a string, and back.
  Walks along a string's runes.
  All operations together.
-/
import Derived.Test.YtopjpnhgnopbiaaGreatDoorAAiOps8
import Derived.Laws.BytesString
import Derived.Laws.StructEq
import Derived.Laws.IdiomStrings
import Derived.Laws.MakeOwn
import Derived.Laws.RangeAny
set_option linter.unusedVariables false
set_option linter.unusedSimpArgs false
set_option linter.unnecessarySimpa false
section
namespace Go.Ai
open Go.RowKit
theorem jT {e:List AV}{b:UInt8}(h:On e=some b):e=[.int .u8 (b.toNat:Int)]:=by
 unfold On at h;split at h
 ·rename_i n
  cases hc:(decide (0<=n)&&decide (n<256)) with
  |false=>rw[hc] at h;cases h
  |true=>
   rw[hc] at h;simp only[cond_true,Option.some.injEq] at h;simp only[Bool.and_eq_true,decide_eq_true_eq] at hc;subst h
   have:((UInt8.ofNat n.toNat).toNat:Int)=n:=by
    rw[UInt8.toNat_ofNat'];omega
   rw[this]
 ·cases h
theorem j9 {e:List AV}(h:nL e=true):On e=some (j8 e):=by
 unfold nL at h;split at h
 ·rename_i c;unfold bZ at h;split at h
  ·simp only[On,h,cond_true,j8,XV]
  ·cases h
 ·cases h
theorem Vt :∀{es:List (List AV)},fU es=true->GK es=some (es.map j8)
 |[],_=>rfl
 |e::es,h=>by
  simp only[fU,List.all_cons,Bool.and_eq_true] at h;simp only[GK,j9 h.1,Vt (es:=es) h.2,List.map_cons]
theorem Kg :∀{es:List (List AV)} {l:List UInt8},GK es=some l->es=l.map fun b=>[AV.int .u8 (b.toNat:Int)]
 |[],l,h=>by simp only[GK,Option.some.injEq] at h;subst h;rfl
 |e::es,l,h=>by
  simp only[GK] at h;split at h
  ·rename_i b l' hb hl
   injection h with h
   subst h;rw[jT hb,Kg hl];rfl
  ·cases h
theorem LX :∀(l:List UInt8) (s:ByteArray),(l.map fun b=>(b.toNat:Int)).foldl (fun r n=>r.push (UInt8.ofNat n.toNat)) s=⟨s.data++l.toArray⟩
 |[],s=>by simp
 |b::l,s=>by
  rw[List.map_cons,List.foldl_cons,LX l]
  have:UInt8.ofNat ((b.toNat:Int)).toNat=b:=by simp
  rw[this];simp[ByteArray.push]
section
variable {G:Nat->Option (List AV)}{I:World->Prop}{B0:Nat}{E:Env}
variable {P:Program}{F:Fr}{a:Act}{d:Option Tmp}{ty:TypeId}{pos:String}{after:Array Edge}{gd:Option (Nat×Bool)}
theorem Yh (H:Good G I B0 E)(hf:AR E F a)(src dst:TypeId)(x:Operand){k0:IntKind}(hs:P.underlying src=some (.int k0))(hd:P.underlying dst=some .string){g:Bool}{k:IntKind}{n:Int}
  (hx:ev G F x=(g,.int k n)) (hg:g=true):Au P G I B0 E a ⟨d,.convert src dst x,ty,pos,after,gd⟩ true (.str (Utf8.encode n).data.toList) E.h:=by
 have h:a.eval x=.int k n:=Ah H hf hx hg
 refine Au.same H (.string (Utf8.encode n)) ?_ (by simp[Rel])
 simp[execOp,h,convert,run_underlying hs,run_underlying hd,Conv.intToString]
theorem UZ (H:Good G I B0 E)(hf:AR E F a)(src dst e:TypeId)(x:Operand)(hs:P.underlying src=some (.slice e))(he:P.underlying e=some (.int .u8))(hd:P.underlying dst=some .string){g:Bool}{sz:Nat}{es:List (List AV)}{own:Option Nat}{l:List UInt8}
  (hx:ev G F x=(g,.sl sz es own)) (hg:g=true) (hb:GK es=some l):Au P G I B0 E a ⟨d,.convert src dst x,ty,pos,after,gd⟩ true (.str l) E.h:=by
 have RF:=Kg hb;obtain⟨⟨A,cap,h1,h2,h3,h4,h5⟩,_⟩:=Ah H hf hx hg
 have hlen:es.length=l.length:=by rw[RF];simp
 have zH:∀v:Value,(Conv.bytesToString (a.eval x)).run P E.w=.ok v E.w->(convert src dst (a.eval x)).run P E.w=.ok v E.w:=by
  intro v hv;rw[h1] at hv⊢
  cases A<;>simpa[convert,run_underlying hs,run_underlying hd,run_underlying he] using hv
 refine Au.same H (.string ⟨l.toArray⟩) ?_ rfl
 have Cb:(Conv.bytesToString (a.eval x)).run P E.w=.ok (.string ⟨l.toArray⟩) E.w:=by
  rw[h1]
  cases A with
  |none=>
   have xX:es=[]:=by
    by_cases BM:es=[]
    ·exact BM
    ·obtain⟨ad,hA,_⟩:=h5 BM;cases hA
   have:l=[]:=List.eq_nil_of_length_eq_zero (by rw[<-hlen,xX];rfl)
   subst this;rfl
  |some ad=>
   have iG:(loadCells ad es.length).run P E.w=.ok ((l.map fun b=>(b.toNat:Int)).map (Value.int .u8)).toArray E.w:=by
    by_cases BM:es=[]
    ·have:l=[]:=List.eq_nil_of_length_eq_zero (by rw[<-hlen,BM];rfl)
     subst this;subst BM;simp[loadCells,loadCellsFrom]
    ·obtain⟨ad',hA,BZ⟩:=h5 BM
     injection hA with hA
     subst hA
     have HU:es.flatten=l.map fun b=>AV.int .u8 (b.toNat:Int):=by
      rw[RF]
      clear BZ BM h5 h4 h1 h2 hlen RF hb zH hx
      induction l with
      |nil=>rfl
      |cons b l ih=>simp[ih]
     rw[Rows.iff,HU,At.iff] at BZ
     have:=run_firstCells_some (P:=P) E.w 1 es.length ad es.length cap ((l.map fun b=>(b.toNat:Int)).map (Value.int .u8)) (by simp[hlen]) (fun j v hv=>by
      simp only[List.getElem?_map,Option.map_eq_some_iff] at hv;obtain⟨z,⟨b,uA,rfl⟩,rfl⟩:=hv
      obtain⟨u,p1,_,_,p4⟩:=BZ j (.int .u8 (b.toNat:Int)) (by simp[uA])
      simp only[Rel] at p4
      rw[p1,p4])
     simpa[Builtin.firstCells] using this
   rw[run_bytesToString E.w ad es.length cap _ iG,LX];have h0:ByteArray.empty.data=(#[]:Array UInt8):=rfl;rw[h0,Array.empty_append]
 have:=zH _ Cb;simp only[execOp,Sem.run_bind,this];rfl
end
end Go.Ai
end
section
namespace Go.Ai
open Go.RowKit
section
variable {G:Nat->Option (List AV)}{I:World->Prop}{B0:Nat}{E:Env}
variable {P:Program}{F:Fr}{a:Act}{d:Option Tmp}{ty:TypeId}{pos:String}{after:Array Edge}{gd:Option (Nat×Bool)}
theorem bS {n m:Nat}(ih:∀(t:TypeId) (x y:AV) (b:Bool) (u w:Value),WL P n t=true->iz P n t x y=some b->Rel E x u->Rel E y w->(Op.equalIn (n+m) t u w).run P E.w=.ok b E.w){xs ys:List AV}{us ws:Array Value}
  (hx:Ae E xs us.toList) (hy:Ae E ys ws.toList):∀(fs:List Field) (b:Bool),(fs.all fun f=>!(f.name== "_")&&WL P n f.type)=true->dU P (iz P n) fs xs ys=some b->(Op.eqFields (n+m) us ws fs).run P E.w=.ok b E.w
 |[],b,_,h=>by
  simp only[dU,Option.some.injEq] at h;subst h;rfl
 |f::fs,b,ho,h=>by
  simp only[List.all_cons,Bool.and_eq_true,Bool.not_eq_true'] at ho;obtain⟨⟨hn,ho1⟩,ho2⟩:=ho;simp only[dU] at h;unfold Op.eqFields
  rw[if_pos (by simpa using hn)]
  split at h
  ·rename_i p q hp hq;obtain⟨c1,r1,k1⟩:=QL (P:=P) hp hx E.w;obtain⟨c2,r2,k2⟩:=QL (P:=P) hq hy E.w
   cases he:iz P n f.type p q with
   |none=>rw[he] at h;cases h
   |some r=>
    rw[he] at h
    cases sP:dU P (iz P n) fs xs ys with
    |none=>rw[sP] at h;cases h
    |some zt=>
     rw[sP] at h;simp only[Option.some.injEq] at h;subst h;have hr:=ih f.type p q r c1 c2 ho1 he k1 k2;simp only[Sem.run_bind,r1,r2,hr,Result.andThen_ok]
     cases r with
     |true=>simpa using bS ih hx hy fs zt ho2 sP
     |false=>rfl
  ·cases h
theorem iy :∀(n m:Nat) (t:TypeId) (x y:AV) (b:Bool) (u w:Value),WL P n t=true->iz P n t x y=some b->Rel E x u->Rel E y w->(Op.equalIn (n+m) t u w).run P E.w=.ok b E.w
 |0,m,t,x,y,b,u,w,_,h,_,_=>by simp[iz] at h
 |n+1,m,t,x,y,b,u,w,ho,h,hx,hy=>by
  rw[show n+1+m=(n+m)+1 by omega]
  simp only[iz] at h;split at h
  ·rename_i k0 k p k' q hu;simp only[Rel] at hx hy;subst hx;subst hy
   cases hk:decide (k=k') with
   |false=>rw[hk] at h;cases h
   |true=>
    rw[hk] at h;simp only[cond_true,Option.some.injEq] at h;have:=of_decide_eq_true hk;subst this;subst h;simp[Op.equalIn,run_underlying hu]
  ·rename_i p q hu;simp only[Rel] at hx hy;subst hx;subst hy;simp only[Option.some.injEq] at h;subst h;simp only[Op.equalIn,Sem.run_bind,run_underlying hu,Result.andThen_ok,Sem.run_pure]
   congr 1
   rw[beq_toListBytes,ByteArray.toList_eq,ByteArray.toList_eq]
  ·rename_i p q hu;simp only[Rel] at hx hy;subst hx;subst hy;simp only[Option.some.injEq] at h;subst h;simp[Op.equalIn,run_underlying hu]
  ·rename_i fs xs ys hu;obtain⟨us,rfl,hus⟩:=hx;obtain⟨ws,rfl,hws⟩:=hy;simp only[WL,hu,Bool.and_eq_true,Bool.not_eq_true'] at ho
   have hf:P.fieldsOf t=fs:=by simp[Program.fieldsOf,hu]
   rw[run_equalIn_struct E.w (n+m) t us ws (by rw[hf];exact hu) ho.1,hf]
   exact bS (iy n m) hus hws fs.toList b (by simpa using ho.2) h
  ·cases h
theorem fz (H:Good G I B0 E)(hf:AR E F a)(t u:TypeId)(x y:Operand){g g':Bool}{xs ys:List AV}{b:Bool}(hx:ev G F x=(g,.agg xs))(hy:ev G F y=(g',.agg ys))(h:iz P 100 t (.agg xs) (.agg ys)=some b)
  (Ar:(g&&g'&& !P.eqGuardType P.depth t&&WL P 100 t)=true):
  Au P G I B0 E a ⟨d,.binOp .eql t x y u,ty,pos,after,gd⟩ true (.bool b) E.h/\Au P G I B0 E a ⟨d,.binOp .neq t x y u,ty,pos,after,gd⟩ true (.bool !b) E.h:=by
 simp only[Bool.and_eq_true,Bool.not_eq_true'] at Ar;obtain⟨⟨⟨g1,g2⟩,hm⟩,ho⟩:=Ar;have yn:=Ah H hf hx g1;have ym:=Ah H hf hy g2;have he:=iy (P:=P) (E:=E) 100 9900 t _ _ b _ _ ho h yn ym;obtain⟨us,h1,_⟩:=yn;obtain⟨ws,h2,_⟩:=ym;rw[h1,h2] at he
 have hg:=fun op=>run_eqGuard_agg (P:=P) E.w op t x y us ws hm
 constructor
 ·refine Au.same H (.bool b) ?_ rfl;simp only[execOp,h1,h2,Sem.run_bind,hg,Result.andThen_ok];rw[run_eql_struct E.w t us ws,he];rfl
 ·refine Au.same H (.bool !b) ?_ rfl;simp only[execOp,h1,h2,Sem.run_bind,hg,Result.andThen_ok];rw[run_neq_struct E.w t us ws,he];rfl
end
end Go.Ai
end
section
namespace Go.Ai
open Go.RowKit
section
variable {G:Nat->Option (List AV)}{I:World->Prop}{B0:Nat}{E:Env}
variable {P:Program}{F:Fr}{a:Act}{d:Option Tmp}{ty:TypeId}{pos:String}{after:Array Edge}{gd:Option (Nat×Bool)}
theorem UR (hI:∀w w',I w->Below B0 w w'->I w')(H:Good G I B0 E)(hf:AR E F a)(src dst e:TypeId)(x:Operand)(hs:P.underlying src=some .string)(hd:P.underlying dst=some (.slice e))(he:P.underlying e=some (.int .u8)){g:Bool}{l:List UInt8}
  (hx:ev G F x=(g,.str l)) (Ar:(g&&Nat.ble l.length 140737488355328)=true):
  Au P G I B0 E a ⟨d,.convert src dst x,ty,pos,after,gd⟩ true (.KR E.h.length 0 l.length 1) (E.h++[.mem e (l.map fun b=>.int .u8 (b.toNat:Int))]):=by
 simp only[Bool.and_eq_true] at Ar;have hv:a.eval x=.string ⟨l.toArray⟩:=Ah H hf hx Ar.1;have hle:l.length<=140737488355328:=Nat.le_of_ble_eq_true Ar.2
 have CD:(⟨l.toArray⟩:ByteArray).size=l.length:=by simp[ByteArray.size]
 have Cb:=run_bytes_of_string (P:=P) E.w src dst e ⟨l.toArray⟩ hs hd he;have qG:=grownCap_ge E.w (⟨l.toArray⟩:ByteArray).size 0 e
 have PL:=grownCap_le_maxLen E.w (⟨l.toArray⟩:ByteArray).size 0 e (by rw[CD];unfold maxLen;omega)
 generalize sq:grownCap E.w (⟨l.toArray⟩:ByteArray).size 0 e=cap at Cb qG PL
 have BZ:(bytesRow ⟨l.toArray⟩ cap).size=cap:=by
  simp only[bytesRow,Array.size_append,Array.size_map,Array.size_replicate,List.size_toArray,CD];omega
 rw[BZ] at Cb;have hB:Below E.w.heap.size E.w (E.w.drew.alloc (.cells (bytesRow ⟨l.toArray⟩ cap) e (cap,cap+1))):=((Below.refl _ _).drew).alloc (Nat.le_refl _) _;have D9:(E.w.drew.alloc (.cells (bytesRow ⟨l.toArray⟩ cap) e (cap,cap+1))).heap[E.w.heap.size]?=some (.cells (bytesRow ⟨l.toArray⟩ cap) e (cap,cap+1)):=heap_alloc_new E.w.drew _
 have S:=Lt hI H (w':=E.w.drew.alloc (.cells (bytesRow ⟨l.toArray⟩ cap) e (cap,cap+1))) (cs:=l.map fun b=>AV.int .u8 (b.toNat:Int)) (t:=e) hB D9 (by rw[BZ];simp;omega)
  (fun j hj=>by
   simp only[List.length_map] at hj;simp only[World.frozen?,D9]
   have:¬cap<=j:=by omega
   simp[this])
  (fun j y hy=>by
   simp only[List.getElem?_map,Option.map_eq_some_iff] at hy;obtain⟨b,hb,rfl⟩:=hy;have hj:j<l.length:=(List.getElem?_eq_some_iff.1 hb).1
   have:=bytesRow_at ⟨l.toArray⟩ cap j (by simpa using hj)
   refine⟨_,this,rfl,?_⟩
   have hbb:l.toArray[j]'(by simpa using hj)=b:=by
    have:=(List.getElem?_eq_some_iff.1 hb).2;simpa using this
   show Value.int .u8 ((l.toArray[j]'(by simpa using hj)).toNat:Int)=_
   rw[hbb])
 refine⟨.slice (some ⟨E.w.heap.size,0,none⟩) (⟨l.toArray⟩:ByteArray).size cap,_,.inl ?_,S,rfl,fun _=>⟨e,l.map fun b=>AV.int .u8 (b.toNat:Int),E.w.heap.size,cap,by simp,Ay _ _ _,by rw[CD],by omega,PL,by simp⟩,fun h=>by cases h⟩
 simp only[execOp,hv,Sem.run_bind,Cb];rfl
theorem Tf :∀{cs:List AV},Zo cs=true->GK (cs.map fun c=>[c])=some (cs.map XV)
 |[],_=>rfl
 |c::cs,h=>by
  simp only[Zo,List.all_cons,Bool.and_eq_true] at h;have ih:=Tf (cs:=cs) h.2;have h1:=h.1;unfold bZ at h1;split at h1
  ·rename_i n;simp only[List.map_cons,GK,On,ih,h1,cond_true,XV]
  ·cases h1
theorem kO (hI:∀w w',I w->Below B0 w w'->I w')(H:Good G I B0 E)(hf:AR E F a)(t e:TypeId)(l c:Operand)(ht:P.underlying t=some (.slice e)){i:TypeInfo}(hi:P.info? e=some i){g g':Bool}{k k':IntKind}{n m:Int}
  (hl:ev G F l=(g,.int k n)) (hc:ev G F c=(g',.int k' m)) {z:Value} (hz:i.zero=some z)
  (Ar:(g&&g'&&decide (0<=n)&&decide (n=m)&&decide ((i.bytes:Int)*m<=281474976710656)&&decide (m<=9223372036854775807)&&Nat.beq i.size 1&&Nat.beq z.cells.size 1&&z.cells.toList.all (·.oneCell'))=true):
  Au P G I B0 E a ⟨d,.makeSlice t l c,ty,pos,after,gd⟩ true (.KR E.h.length 0 n.toNat 1) (E.h++[.mem e (List.replicate n.toNat (match z.cells.toList with|[v]=>ofConst v|_=>.top))]):=by
 simp only[Bool.and_eq_true,decide_eq_true_eq] at Ar;obtain⟨⟨⟨⟨⟨⟨⟨⟨hg,CY⟩,h0⟩,rfl⟩,Xq⟩,su⟩,CD⟩,Yz⟩,PI⟩:=Ar;have CD:=Nat.eq_of_beq_eq_true CD;have Yz:=Nat.eq_of_beq_eq_true Yz;have wJ:a.eval l=.int k n:=Ah H hf hl hg;have sC:a.eval c=.int k' n:=Ah H hf hc CY
 obtain⟨v,hv⟩:∃v,z.cells.toList=[v]:=by
  have:z.cells.toList.length=1:=by simpa using Yz
  exact List.length_eq_one_iff.1 this
 have hzc:z.cells= #[v]:=by rw[<-Array.toArray_toList (xs:=z.cells),hv]
 have Cb:=run_make (P:=P) E.w t e i z ht hi hz k k' n n h0 (Int.le_refl _) Xq su;rw[CD,Nat.mul_one] at Cb
 have DY:∀j,j<n.toNat->(madeCells z.cells n.toNat)[j]?=some v:=fun j hj=>by
  simp[madeCells,hzc,hj,Nat.mod_one]
 have hB:Below E.w.heap.size E.w (E.w.alloc (.cells (madeCells z.cells n.toNat) e)):=(Below.refl _ _).alloc (Nat.le_refl _) _;have D9:(E.w.alloc (.cells (madeCells z.cells n.toNat) e)).heap[E.w.heap.size]?=some (.cells (madeCells z.cells n.toNat) e):=heap_alloc_new E.w _;rw[hv] at PI
 have wI:v.oneCell'=true:=by simpa using PI
 have S:=Lt hI H (w':=E.w.alloc (.cells (madeCells z.cells n.toNat) e)) (cs:=List.replicate n.toNat (ofConst v)) (c:=madeCells z.cells n.toNat) (t:=e) (fr:=(0,0)) hB D9 (by simp[size_madeCells])
  (fun j _=>World.frozen?_alloc_new _ _ _ _)
  (fun j y hy=>by
   simp only[List.length_replicate,List.getElem?_replicate] at hy;split at hy
   ·rename_i hj
    injection hy with hy
    subst hy;exact⟨v,DY j hj,wI,ED _ v⟩
   ·cases hy)
 rw[hv]
 refine⟨.slice (some ⟨E.w.heap.size,0,none⟩) n.toNat n.toNat,_,.inl ?_,S,rfl,fun _=>⟨e,List.replicate n.toNat (ofConst v),E.w.heap.size,n.toNat,by simp,Ay _ _ _,rfl,Nat.le_refl _,by unfold maxLen;omega,by simp⟩,fun h=>by cases h⟩
 simp only[execOp,wJ,sC,Sem.run_bind,Cb];rfl
theorem Yd (H:Good G I B0 E)(hf:AR E F a)(src dst e:TypeId)(x:Operand)(hs:P.underlying src=some (.slice e))(he:P.underlying e=some (.int .u8))(hd:P.underlying dst=some .string){g:Bool}{b off len:Nat}{t:TypeId}{cs:List AV}{l:List UInt8}
  (hx:ev G F x=(g,.KR b off len 1)) (hg:g=true) (hb:E.h[b]?=some (.mem t cs)) (hl:GK (((cs.drop off).take len).map fun c=>[c])=some l):
  Au P G I B0 E a ⟨d,.convert src dst x,ty,pos,after,gd⟩ true (.str l) E.h:=by
 obtain⟨t',Gh,gg,cap,h1,h2,h3,h4,h5,h6⟩:=Ah H hf hx hg;rw[hb] at h1
 injection h1 with h1
 injection h1 with h1 Ll
 subst h1;subst Ll;have RF:=Kg hl
 have Fu:(cs.drop off).take len=l.map fun b=>AV.int .u8 (b.toNat:Int):=by
  have:=congrArg (List.map fun r=>r.headD AV.top) RF
  simpa[List.map_map,Function.comp_def] using this
 have hlen:len=l.length:=by
  have:=congrArg List.length Fu;simp at this;omega
 have JN:=Ug H hb h2 (o:=off);refine Au.same H (.string ⟨l.toArray⟩) ?_ rfl
 have iG:(loadCells ⟨gg,off,none⟩ len).run P E.w=.ok ((l.map fun b=>(b.toNat:Int)).map (Value.int .u8)).toArray E.w:=by
  have:=run_firstCells_some (P:=P) E.w 1 len ⟨gg,off,none⟩ len cap ((l.map fun b=>(b.toNat:Int)).map (Value.int .u8)) (by simp[hlen]) (fun j v hv=>by
   simp only[List.getElem?_map,Option.map_eq_some_iff] at hv;obtain⟨z,⟨bb,uA,rfl⟩,rfl⟩:=hv
   have KX:j<len:=by rw[hlen];exact(List.getElem?_eq_some_iff.1 uA).1
   have dN:(cs.drop off)[j]?=some (.int .u8 (bb.toNat:Int)):=by
    have:=congrArg (·[j]?) Fu;simpa[List.getElem?_take,KX,uA] using this
   obtain⟨u,p1,_,p4⟩:=JN j _ dN;simp only[Rel] at p4
   rw[p1,p4])
  simpa[Builtin.firstCells] using this
 have Cb:(Conv.bytesToString (a.eval x)).run P E.w=.ok (.string ⟨l.toArray⟩) E.w:=by
  rw[h3,run_bytesToString E.w _ len cap _ iG,LX];have h0:ByteArray.empty.data=(#[]:Array UInt8):=rfl;rw[h0,Array.empty_append]
 have:(convert src dst (a.eval x)).run P E.w=.ok (.string ⟨l.toArray⟩) E.w:=by
  rw[h3] at Cb⊢;simpa[convert,run_underlying hs,run_underlying hd,run_underlying he] using Cb
 simp only[execOp,Sem.run_bind,this];rfl
theorem Yg (H:Good G I B0 E)(hf:AR E F a)(x:Operand)(t:TypeId){e:TypeId}(ht:P.underlying t=some (.slice e)){g:Bool}{b off len sz:Nat}(hx:ev G F x=(g,.KR b off len sz))(hg:g=true):
  Au P G I B0 E a ⟨d,.call {callee:=.builtin .len,args:= #[x],argTypes:= #[t]},ty,pos,after,gd⟩ true (.int .i64 len) E.h:=by
 obtain⟨t',Gh,gg,cap,h1,h2,h3,h4,h5,h6⟩:=Ah H hf hx hg;refine Au.same H (.int .i64 len) ?_ rfl;simp[execOp,resolve,invoke,builtin,h3,Builtin.len_,run_underlying ht,goInt]
end
end Go.Ai
end
section
namespace Go.Ai
open Go.RowKit
section
variable {G:Nat->Option (List AV)}{I:World->Prop}{B0:Nat}{E:Env}
variable {P:Program}{F:Fr}{a:Act}{d:Option Tmp}{ty:TypeId}{pos:String}{after:Array Edge}{gd:Option (Nat×Bool)}
theorem fx (hI:∀w w',I w->Below B0 w w'->I w')(H:Good G I B0 E)(hf:AR E F a)(t:TypeId)(x:Operand)(ht:P.underlying t=some .string){g:Bool}{s:List UInt8}
  (hx:ev G F x=(g,.str s)) (Ar:g=true):
  Au P G I B0 E a ⟨d,.range t x,ty,pos,after,gd⟩ true (.Wr E.h.length) (E.h++[.iter s 0]):=by
 have hv:a.eval x=.string ⟨s.toArray⟩:=Ah H hf hx Ar;have Cb:=run_range_string (P:=P) E.w t ⟨s.toArray⟩ ht;have hB:Below E.w.heap.size E.w (E.w.iter ⟨s.toArray⟩ 0):=(Below.refl _ _).alloc (Nat.le_refl _) _;have S:=step_iter hI H (w':=E.w.iter ⟨s.toArray⟩ 0) (s:=s) (p:=0) hB (World.iter_heap _ _ _)
 refine⟨.pointer (some ⟨E.w.heap.size,0,none⟩),_,.inl ?_,S,rfl,fun _=>⟨s,0,E.w.heap.size,by simp,Ay _ _ _,rfl⟩,fun h=>by cases h⟩
 simp only[execOp,hv,Sem.run_bind,Cb];rfl
theorem Vp (w:World)(g:Nat)(s:ByteArray)(p:Nat)(ty:TypeId)(hg:w.heap[g]?=some (.stringIter s p))(h:p<s.size):
  (Instr.next (.pointer (some ⟨g,0,none⟩)) true ty).run P w=
   .ok (.tuple #[.bool true,.int .i64 p,.int .i32 (Utf8.decode s p).1]) {w with heap:=w.heap.setIfInBounds g (.stringIter s (p+(Utf8.decode s p).2))}:=by
 simp only[Instr.next,getObj,setObj,Sem.run_bind,Sem.run,hg,Result.andThen,h,if_true];simp[goInt]
theorem Ry (w:World)(g:Nat)(s:ByteArray)(p:Nat)(ty:TypeId)(hg:w.heap[g]?=some (.stringIter s p))(h:¬p<s.size):
  (Instr.next (.pointer (some ⟨g,0,none⟩)) true ty).run P w=.ok (.tuple #[.bool false]) w:=by
 simp[Instr.next,getObj,Sem.run,hg,h]
theorem kN (hI:∀w w',I w->Below B0 w w'->I w')(H:Good G I B0 E)(hf:AR E F a)(it:Operand){g:Bool}{b p:Nat}{s:List UInt8}
  (hx:ev G F it=(g,.Wr b)) (Ar:g=true) (hb:E.h[b]?=some (.iter s p)) (hp:p<s.length):
  Au P G I B0 E a ⟨d,.next it true,ty,pos,after,gd⟩ true (.tup [.bool true,.int .i64 p,.int .i32 (Utf8.decode ⟨s.toArray⟩ p).1]) (E.h.set b (.iter s (p+(Utf8.decode ⟨s.toArray⟩ p).2))):=by
 obtain⟨s',p',gg,h1,h2,hv⟩:=Ah H hf hx Ar;rw[hb] at h1
 injection h1 with h1
 injection h1 with h1 Ll
 subst h1;subst Ll;obtain⟨gg',k1,k2,k3⟩:=H.Ld b _ hb;rw[h2] at k1
 injection k1 with k1
 subst k1;have BC:=(Array.getElem?_eq_some_iff.1 k3).1
 have Cb:=Vp (P:=P) E.w gg ⟨s.toArray⟩ p ty k3 (by simpa[ByteArray.size] using hp)
 have S:=cB hI H (w':={E.w with heap:=E.w.heap.setIfInBounds gg (.stringIter ⟨s.toArray⟩ (p+(Utf8.decode ⟨s.toArray⟩ p).2))}) (p':=p+(Utf8.decode ⟨s.toArray⟩ p).2) hb h2 k3
  ⟨rfl,rfl,rfl,by simp,fun k hk BM=>by
   have:gg≠k:=fun e=>BM (by rw[e])
   show(E.w.heap.setIfInBounds gg _)[k]?=_
   rw[Array.getElem?_setIfInBounds_ne this]⟩ (by simp) (by
   show(E.w.heap.setIfInBounds gg _)[gg]?=_
   rw[Array.getElem?_setIfInBounds_self_of_lt BC])
 refine⟨.tuple #[.bool true,.int .i64 p,.int .i32 (Utf8.decode ⟨s.toArray⟩ p).1],_,.inl ?_,S,rfl,fun _=>⟨_,rfl,_,_,rfl,rfl,_,_,rfl,rfl,_,_,rfl,rfl,rfl⟩,fun h=>by cases h⟩
 simp only[execOp,hv,Sem.run_bind,Cb];rfl
theorem UX (H:Good G I B0 E)(hf:AR E F a)(it:Operand){g:Bool}{b p:Nat}{s:List UInt8}
  (hx:ev G F it=(g,.Wr b)) (Ar:g=true) (hb:E.h[b]?=some (.iter s p)) (hp:¬p<s.length):
  Au P G I B0 E a ⟨d,.next it true,ty,pos,after,gd⟩ true (.tup [.bool false]) E.h:=by
 obtain⟨s',p',gg,h1,h2,hv⟩:=Ah H hf hx Ar;rw[hb] at h1
 injection h1 with h1
 injection h1 with h1 Ll
 subst h1;subst Ll;obtain⟨gg',k1,k2,k3⟩:=H.Ld b _ hb;rw[h2] at k1
 injection k1 with k1
 subst k1
 have Cb:=Ry (P:=P) E.w gg ⟨s.toArray⟩ p ty k3 (by simpa[ByteArray.size] using hp)
 refine Au.same H (.tuple #[.bool false]) ?_ ⟨_,rfl,_,_,rfl,rfl,rfl⟩;simp only[execOp,hv,Sem.run_bind,Cb];rfl
theorem cj (H:Good G I B0 E)(hf:AR E F a)(x:Operand)(xt t:TypeId)(ok:Bool){u:TypeDesc}(hu:P.underlying t=some u)(hn:∀l,u≠.interface l){g:Bool}{s:TypeId}{v:AV}(hx:ev G F x=(g,.iface s v))(Ar:(g&&Nat.beq s t)=true):
  Au P G I B0 E a ⟨d,.typeAssert x xt t ok,ty,pos,after,gd⟩ true (match ok with|true=>.tup [v,.bool true]|false=>v) E.h:=by
 rw[Bool.and_eq_true] at Ar;have hs:=Nat.eq_of_beq_eq_true Ar.2;subst hs;obtain⟨y,hv,hr⟩:=Ah H hf hx Ar.1
 have Cb:(Instr.typeAssert (.iface s y) xt s ok).run P E.w=.ok (if ok then .tuple #[y,.bool true] else y) E.w:=by
  cases u<;>first|exact absurd rfl (hn _)|simp[Instr.typeAssert,run_underlying hu]
 cases ok with
 |true=>
  refine Au.same H (.tuple #[y,.bool true]) ?_ ⟨#[y,.bool true],rfl,y,[.bool true],rfl,hr,.bool true,[],rfl,rfl,rfl⟩;simp only[execOp,hv,Sem.run_bind,Cb];rfl
 |false=>
  refine Au.same H y ?_ hr;simp only[execOp,hv,Sem.run_bind,Cb];rfl
end
end Go.Ai
end
section
namespace Go.Ai
open Go.RowKit
section
variable {I:World->Prop}{B0:Nat}{E:Env}
theorem A6 {ob vp g g':Bool}{v v':AV}{h h':Hp}(e:(some (ob,(g,v),h):K3)=some (vp,(g',v'),h')):ob=vp/\g=g'/\v=v'/\h=h':=by
 simp only[Option.some.injEq,Prod.mk.injEq] at e;exact⟨e.1,e.2.1.1,e.2.1.2,e.2.2⟩
section
variable (C:Bm)(hI:∀w w',I w->Below B0 w w'->I w')(H:Good C.G I B0 E){F:Fr}{a:Act}(hf:AR E F a){dr ob g:Bool}{v:AV}{h':Hp}{d:Option Tmp}{ty:TypeId}{pos:String}{after:Array Edge}{gd:Option (Nat×Bool)}
include hI H hf
theorem TV {x:Operand}{op:Op}(Bo:∀ρ,(execOp ρ ⟨d,op,ty,pos,after,gd⟩)=pure (.value (ρ x)))(h:HY C dr F E.h ty x=some (ob,(g,v),h')):Au C.P C.G I B0 E a ⟨d,op,ty,pos,after,gd⟩ g v h':=by
 unfold HY at h;split at h
 ·rename_i u
  have hr:(execOp a.eval ⟨d,op,ty,pos,after,gd⟩).run C.P E.w=.ok (.value u) E.w:=by rw[Bo];rfl
  split at h
  ·rename_i hn;have:=WR hn;subst this;split at h
   ·obtain⟨_,rfl,rfl,rfl⟩:=A6 h;exact WI hI H _ _ hr
   ·obtain⟨_,rfl,rfl,rfl⟩:=A6 h;exact Au.same H _ hr (ED E (.slice none 0 0))
  ·obtain⟨_,rfl,rfl,rfl⟩:=A6 h;exact Au.same H _ hr (ED E u)
 ·simp only[Option.some.injEq,Prod.mk.injEq] at h;obtain⟨_,h2,rfl⟩:=h;have k:=Gf H hf x;rw[h2] at k
  exact⟨a.eval x,E,.inl (by rw[Bo];rfl),Step.refl H,rfl,k.1,k.2⟩
theorem PQ {t:TypeId}{len:Nat}{parts:Array (Nat×Operand)}(h:C7 C dr F E.h t len parts=some (ob,(g,v),h'))(Ar:ob=true):
  Au C.P C.G I B0 E a ⟨d,.buildSlice t len parts,ty,pos,after,gd⟩ g v h':=by
 unfold C7 at h;split at h
 ·rename_i e ht
  cases hb:(Nat.beq parts.size len&&(parts.toList.zipIdx.all fun p=>Nat.beq p.1.1 p.2)&&(parts.toList.all fun p=>Nat.beq (flat (ev C.G F p.2).2).length (C.P.cellsOf e))&&
    Nat.ble (len*C.P.cellsOf e) 16777216&&Nat.ble 1 (C.P.cellsOf e)&&((C.P.info? e).bind (·.zero)).isSome) with
  |false=>rw[hb] at h;cases h
  |true=>
   rw[hb] at h;simp only[cond_true] at h;simp only[Bool.and_eq_true] at hb;obtain⟨⟨⟨⟨⟨b1,b2⟩,b3⟩,b4⟩,b5⟩,b6⟩:=hb;have b1:=Nat.eq_of_beq_eq_true b1;have zi:=Uy (G:=C.G) (F:=F) b3;have b4:=Nat.le_of_ble_eq_true b4;have b5:=Nat.le_of_ble_eq_true b5;split at h
   ·obtain⟨rfl,rfl,rfl,rfl⟩:=A6 h;exact NY hI H hf t e len _ parts ht rfl b5 b6 b4 b1 b2 zi Ar
   ·obtain⟨rfl,rfl,rfl,rfl⟩:=A6 h;exact SC hI H hf t e len _ parts ht rfl b5 b6 b4 b1 b2 zi Ar
 ·cases h
theorem XM {s x:Operand}{t t':TypeId}(h:Mc C F E.h s x t t'=some (ob,(g,v),h'))(Ar:ob=true):
  Au C.P C.G I B0 E a ⟨d,.call {callee:=.builtin .append,args:= #[s,x],argTypes:= #[t,t']},ty,pos,after,gd⟩ g v h':=by
 unfold Mc at h;split at h
 ·rename_i e g1 sz es id g2 EB ns NQ ht hs hx;split at h
  ·rename_i i hi;split at h
   ·rename_i z hz;obtain⟨rfl,rfl,rfl,rfl⟩:=A6 h;simp only[Bool.and_eq_true,decide_eq_true_eq] at Ar;obtain⟨⟨⟨⟨⟨⟨⟨⟨⟨b1,b2⟩,b3⟩,b4⟩,b5⟩,b6⟩,b7⟩,b8⟩,b9⟩,lR⟩:=Ar;have b3:=Nat.eq_of_beq_eq_true b3;subst b3;exact cm hI H hf t e s x ht hs hx b1 b2 hi hz (Nat.eq_of_beq_eq_true lR) b4 b5 b6 (Nat.le_of_ble_eq_true b7) b8 (Nat.le_of_ble_eq_true b9)
   ·cases h
  ·cases h
 ·cases h
theorem VA {s x:Operand}{t t':TypeId}(h:Kc C F E.h s x t t'=some (ob,(g,v),h'))(Ar:ob=true):
  Au C.P C.G I B0 E a ⟨d,.call {callee:=.builtin .append,args:= #[s,x],argTypes:= #[t,t']},ty,pos,after,gd⟩ g v h':=by
 unfold Kc at h;split at h
 ·rename_i e g1 sz es id g2 l ht hH hs hx;split at h
  ·rename_i i hi;split at h
   ·rename_i z hz;obtain⟨rfl,rfl,rfl,rfl⟩:=A6 h;simp only[Bool.and_eq_true,decide_eq_true_eq] at Ar;obtain⟨⟨⟨⟨⟨⟨⟨b1,b2⟩,b4⟩,b5⟩,b6⟩,b8⟩,b9⟩,lR⟩:=Ar;exact SD hI H hf t t' e s x ht hH hs hx b1 b2 hi hz (Nat.eq_of_beq_eq_true lR) b4 b5 (Nat.eq_of_beq_eq_true b6) b8 (Nat.le_of_ble_eq_true b9)
   ·cases h
  ·cases h
 ·cases h
theorem TU {o:Oper}(h:evalOp C dr F E.h o=some (ob,(g,v),h'))(Ar:ob=true):Au C.P C.G I B0 E a o g v h':=by
 obtain⟨d,op,ty,pos,after,gd⟩:=o;unfold evalOp at h
 cases op<;>simp only at h
 case move x=>exact TV C hI H hf (fun _=>rfl) h
 case assign x=>exact TV C hI H hf (fun _=>rfl) h
 case pick c x y=>
  unfold RV at h;split at h
  ·rename_i gc c' hc;rw[jK] at h;obtain⟨rfl,rfl,rfl,rfl⟩:=A6 h;subst Ar;exact kM H hf c x y hc
  ·cases h
 case alloc t=>
  unfold VB at h;split at h
  ·rename_i cs more hz;obtain⟨rfl,rfl,rfl,rfl⟩:=A6 h;exact gC hI H t hz
  ·cases h
 case range t x=>
  unfold U8 at h;split at h
  ·rename_i g1 s ht hx;obtain⟨rfl,rfl,rfl,rfl⟩:=A6 h;exact fx hI H hf t x ht hx Ar
  ·cases h
 case typeAssert x xt t ok=>
  unfold Mb at h;split at h
  ·cases h
  ·rename_i u hn hu;split at h
   ·rename_i g1 s v hx;obtain⟨rfl,rfl,rfl,rfl⟩:=A6 h
    exact cj H hf x xt t ok hu (fun l hl=>hn l hl) hx Ar
   ·cases h
  ·cases h
 case next it isString=>
  unfold Zb at h;split at h
  ·rename_i g1 b hx;split at h
   ·rename_i s p hb;split at h
    ·rename_i BC;obtain⟨rfl,rfl,rfl,rfl⟩:=A6 h;exact kN hI H hf it hx Ar hb (Nat.le_of_ble_eq_true BC)
    ·rename_i BC;obtain⟨rfl,rfl,rfl,rfl⟩:=A6 h
     exact UX H hf it hx Ar hb (fun hp=>by
      have:Nat.blt p s.length=true:=Nat.ble_eq_true_of_le hp
      rw[BC] at this;cases this)
   ·cases h
  ·cases h
 case makeSlice t l c=>
  unfold U9 at h;split at h
  ·rename_i e ht;split at h
   ·rename_i i g1 k n g2 k2 m hi hl hc;split at h
    ·rename_i z hz;obtain⟨rfl,rfl,rfl,rfl⟩:=A6 h;exact kO hI H hf t e l c ht hi hl hc hz Ar
    ·cases h
   ·cases h
  ·cases h
 case box t x=>
  obtain⟨rfl,rfl,rfl,rfl⟩:=A6 h;exact nh hI H hf t x Ar
 case build t parts=>
  unfold Kb at h;split at h
  ·rename_i fs z more ht hz;split at h
   ·rename_i cs hc;obtain⟨rfl,rfl,rfl,rfl⟩:=A6 h;simp only[Bool.and_eq_true] at Ar;exact gB hI H hf t parts ht hz Ar.1 Ar.2 hc
   ·cases h
  ·rename_i m e z more ht hz;split at h
   ·rename_i cs hc;obtain⟨rfl,rfl,rfl,rfl⟩:=A6 h;simp only[Bool.and_eq_true] at Ar;exact Ua hI H hf t parts ht hz Ar.1 Ar.2 hc
   ·cases h
  ·cases h
 case buildSlice t len parts=>exact PQ C hI H hf h Ar
 case load t x=>
  unfold JD at h;split at h
  ·rename_i g1 cs hx;split at h
   ·rename_i u hr;obtain⟨rfl,rfl,rfl,rfl⟩:=A6 h;exact Ye H hf t x hx Ar hr
   ·cases h
  ·rename_i g1 b o hx;split at h
   ·rename_i cs hb;split at h
    ·rename_i u hr;obtain⟨rfl,rfl,rfl,rfl⟩:=A6 h;exact WK H hf t x hx Ar hb hr
    ·cases h
   ·cases h
  ·cases h
 case store t x y=>
  unfold Pl at h;split at h
  ·rename_i g1 b o hx;split at h
   ·rename_i cs i hb hi;obtain⟨rfl,rfl,rfl,rfl⟩:=A6 h;simp only[Bool.and_eq_true] at Ar;obtain⟨⟨⟨⟨h1,h2⟩,h3⟩,h4⟩,h5⟩:=Ar
    exact fw hI H hf t x y hx (g':=(ev C.G F y).1) (v:=(ev C.G F y).2) rfl hb hi (by rw[h1,h2,h3];rfl) (by rw[h4,h5];rfl)
   ·cases h
  ·cases h
 case nilCheck x=>
  unfold Ez at h;split at h
  ·rename_i g1 b o hx;obtain⟨rfl,rfl,rfl,rfl⟩:=A6 h;exact PA H hf x hx Ar
  ·rename_i g1 cs hx;obtain⟨rfl,rfl,rfl,rfl⟩:=A6 h;exact Qh H hf x hx Ar
  ·cases h
 case binOp op t x y u=>
  unfold XL at h;split at h
  ·rename_i r hr;obtain⟨rfl,rfl,rfl,rfl⟩:=A6 h;exact ni H hf op t u x y hr Ar
  ·split at h
   ·rename_i bb hc hn;obtain⟨rfl,rfl,rfl,rfl⟩:=A6 h;exact(gA H hf t u x y hc Ar).1
   ·rename_i bb hc hn;obtain⟨rfl,rfl,rfl,rfl⟩:=A6 h;exact(gA H hf t u x y hc Ar).2
   ·unfold XK at h;split at h
    ·rename_i g1 xs g2 ys hx hy _ _ _;split at h
     ·rename_i b he;obtain⟨rfl,rfl,rfl,rfl⟩:=A6 h;exact(fz H hf t u x y hx hy he Ar).1
     ·cases h
    ·rename_i g1 xs g2 ys hx hy _ _ _;split at h
     ·rename_i b he;obtain⟨rfl,rfl,rfl,rfl⟩:=A6 h;exact(fz H hf t u x y hx hy he Ar).2
     ·cases h
    ·cases h
 case unOp op t x=>
  split at h
  ·rename_i r hr;obtain⟨rfl,rfl,rfl,rfl⟩:=A6 h;exact ra H hf op t x hr Ar
  ·cases h
 case convert src dst x=>
  unfold Ii at h;split at h
  ·rename_i t g1 b o hs hd hx;split at h
   ·rename_i t0 cs i hb hi;obtain⟨rfl,rfl,rfl,rfl⟩:=A6 h;exact UQ H hf src dst t x hs hd hx hb hi Ar
   ·cases h
  ·rename_i t g1 b o hs hd hx;split at h
   ·rename_i t0 cs i hb hi;obtain⟨rfl,rfl,rfl,rfl⟩:=A6 h;exact Qi H hf src dst t x hs hd hx hb hi Ar
   ·cases h
  ·rename_i k0 g1 k n hs hd hx;obtain⟨rfl,rfl,rfl,rfl⟩:=A6 h;exact Yh H hf src dst x hs hd hx Ar
  ·rename_i e g1 sz es own hs hd hx;split at h
   ·rename_i he;obtain⟨rfl,rfl,rfl,rfl⟩:=A6 h;simp only[Bool.and_eq_true] at Ar;exact UZ H hf src dst e x hs he hd hx Ar.1 (Vt Ar.2)
   ·cases h
  ·rename_i e g1 b off len sz hs hd hx;split at h
   ·rename_i t cs he hb;obtain⟨rfl,rfl,rfl,rfl⟩:=A6 h;simp only[Bool.and_eq_true] at Ar;obtain⟨⟨h0,h1⟩,h2⟩:=Ar;have h1:=Nat.eq_of_beq_eq_true h1;subst h1;exact Yd H hf src dst e x hs he hd hx h0 hb (Tf h2)
   ·cases h
  ·rename_i e g1 l hs hd hx;split at h
   ·rename_i he;obtain⟨rfl,rfl,rfl,rfl⟩:=A6 h;exact UR hI H hf src dst e x hs hd he hx Ar
   ·cases h
  ·split at h
   ·rename_i r hr;obtain⟨rfl,rfl,rfl,rfl⟩:=A6 h;exact Yj H hf src dst x hr Ar
   ·cases h
 case makeFunc f first cap=>
  obtain⟨rfl,rfl,rfl,rfl⟩:=A6 h
  exact WJ H hf f first cap Ar
 case slice t x lo hi mx=>
  split at h
  ·rename_i q hq;rw[<-hq] at h
   clear hq
   unfold JC at h;split at h
   ·rename_i g1 l g2 r g3 s hl hr ht hx;obtain⟨rfl,rfl,rfl,rfl⟩:=A6 h;exact UU H hf t x lo hi ht hx hl hr Ar
   ·rename_i g1 l g2 r e g3 sz es own hl hr ht hx;obtain⟨rfl,rfl,rfl,rfl⟩:=A6 h;simp only[Bool.and_eq_true] at Ar
    exact WH H hf t e x lo hi ht hx hl hr Ar.2 (by simp only[Bool.and_eq_true];exact Ar.1)
   ·cases h
  ·unfold KA at h;split at h
   ·rename_i g1 l n e g2 b o hl ht hx yv;split at h
    ·rename_i t0 cs hb;obtain⟨rfl,rfl,rfl,rfl⟩:=A6 h;exact UW H hf t e n x lo ht hx hl hb Ar
    ·cases h
   ·cases h
 case fieldAddr s x f=>
  unfold EH at h;split at h
  ·rename_i fs hs;split at h
   ·rename_i fd ZE
    cases hc:Nat.beq (C.P.cellsOf fd.type) 0 with
    |true=>rw[hc] at h;cases h
    |false=>
     rw[hc] at h;simp only[cond_false] at h;split at h
     ·rename_i g1 b o hx;obtain⟨rfl,rfl,rfl,rfl⟩:=A6 h;exact NX H hf s x f hs ZE hc hx Ar
     ·rename_i g1 cs hx;obtain⟨rfl,rfl,rfl,rfl⟩:=A6 h;exact PC H hf s x f hs ZE hc hx Ar
     ·cases h
   ·cases h
  ·cases h
 case field s x f=>
  unfold Ma at h;split at h
  ·rename_i fs hs;split at h
   ·rename_i fd g1 cs ZE hx;split at h
    ·rename_i u hr;obtain⟨rfl,rfl,rfl,rfl⟩:=A6 h;exact fy H hf s x f hs ZE hx Ar hr
    ·cases h
   ·cases h
  ·cases h
 case indexAddr t x i=>
  unfold EG at h;split at h
  ·rename_i e g1 sz es own g2 k n ht hx hi;obtain⟨rfl,rfl,rfl,rfl⟩:=A6 h;exact PB H hf t x i ht hx hi Ar
  ·rename_i e g1 b off len sz g2 k n ht hx hi;obtain⟨rfl,rfl,rfl,rfl⟩:=A6 h;exact NW H hf t x i ht hx hi Ar
  ·rename_i m e g1 cs g2 k n ht hx hi;obtain⟨rfl,rfl,rfl,rfl⟩:=A6 h;exact Kn H hf t x i ht hx hi Ar
  ·rename_i m e g1 b o g2 k n ht hx hi;obtain⟨rfl,rfl,rfl,rfl⟩:=A6 h;exact Jn H hf t x i ht hx hi Ar
  ·cases h
 case index t x i=>
  unfold MZ at h;split at h
  ·rename_i g1 s g2 k n ht hx hi;obtain⟨rfl,rfl,rfl,rfl⟩:=A6 h;exact UY H hf t x i ht hx hi Ar
  ·cases h
 case extract t ix=>
  unfold Ih at h;split at h
  ·rename_i g1 vs hx;split at h
   ·rename_i u hu;obtain⟨rfl,rfl,rfl,rfl⟩:=A6 h;exact Yi H hf t ix hx Ar hu
   ·cases h
  ·cases h
 case call c=>
  obtain⟨callee,args,ts⟩:=c
  cases callee<;>simp only at h
  case builtin b=>
   unfold HE at h;split at h
   ·rename_i x t ha VU
    have ic:args= #[x]:=by rw[<-Array.toArray_toList (xs:=args),ha]
    have hH:ts= #[t]:=by rw[<-Array.toArray_toList (xs:=ts),VU]
    subst ic;subst hH;unfold TW at h;split at h
    ·rename_i g1 s ht hx;obtain⟨rfl,rfl,rfl,rfl⟩:=A6 h;exact Yf H hf x t ht hx Ar
    ·rename_i e g1 sz es own ht hx;obtain⟨rfl,rfl,rfl,rfl⟩:=A6 h;exact cg H hf x t ht hx Ar
    ·rename_i e g1 b off len sz ht hx;obtain⟨rfl,rfl,rfl,rfl⟩:=A6 h;exact Yg H hf x t ht hx Ar
    ·cases h
   ·rename_i x y ha
    have ic:args= #[x,y]:=by rw[<-Array.toArray_toList (xs:=args),ha]
    subst ic;unfold bR at h;split at h
    ·rename_i g1 k m g2 k' n hx hy;obtain⟨rfl,rfl,rfl,rfl⟩:=A6 h;exact ng H hf x y ts hx hy Ar
    ·cases h
   ·rename_i x y ha
    have ic:args= #[x,y]:=by rw[<-Array.toArray_toList (xs:=args),ha]
    subst ic;unfold bQ at h;split at h
    ·rename_i g1 k m g2 k' n hx hy;obtain⟨rfl,rfl,rfl,rfl⟩:=A6 h;exact nf H hf x y ts hx hy Ar
    ·cases h
   ·rename_i s x t t' ha VU
    have ic:args= #[s,x]:=by rw[<-Array.toArray_toList (xs:=args),ha]
    have hH:ts= #[t,t']:=by rw[<-Array.toArray_toList (xs:=ts),VU]
    subst ic;subst hH;split at h
    ·exact VA C hI H hf h Ar
    ·exact XM C hI H hf h Ar
   ·cases h
  all_goals cases h
 all_goals cases h
end
end
end Go.Ai
end
