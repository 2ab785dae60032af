/-
  What the operations do: arithmetic, reads, addresses, slices.
-/
import Derived.Test.YtopjpnhgnopbiaaGreatDoorAAiOps1
set_option linter.unusedVariables false
set_option linter.unusedSimpArgs false
set_option linter.unnecessarySimpa false
namespace Go.Ai
open Go.RowKit
section
variable {G:Nat->Option (List AV)}{I:World->Prop}{B0:Nat}{E:Env}
variable {P:Program}{F:Fr}{a:Act}{d:Option Tmp}{ty:TypeId}{pos:String}{after:Array Edge}{gd:Option (Nat×Bool)}
theorem Ug (H:Good G I B0 E){b o g:Nat}{t0:TypeId}{cs:List AV}(hb:E.h[b]?=some (.mem t0 cs))(hg:E.σ b=some g):pd E (cs.drop o) ⟨g,o,none⟩:=by
 intro j x hj;obtain⟨g',c,fr,h1,h2,h3,h4,h5,h6⟩:=H.Ld b _ hb;rw[hg] at h1
 injection h1 with h1
 subst h1;rw[List.getElem?_drop] at hj;obtain⟨v,k1,k2,k3⟩:=h6 (o+j) x hj;refine⟨v,?_,k2,k3⟩;rw[Addr.add_lit];simp[World.cell?,h3,k1]
theorem Ye (H:Good G I B0 E)(hf:AR E F a)(t:TypeId)(x:Operand){g:Bool}{cs:List AV}{v:AV}(hx:ev G F x=(g,.ro cs))(hg:g=true)(hr:rd P t cs=some v):
  Au P G I B0 E a ⟨d,.load t x,ty,pos,after,gd⟩ true v E.h:=by
 obtain⟨ad,h1,h2⟩:=Ah H hf hx hg;obtain⟨c,k1,k2⟩:=Vw hr h2.vH;refine Au.same H c ?_ k2;simp[execOp,h1,Instr.loadAt,Instr.sureAddr,k1]
theorem WK (H:Good G I B0 E)(hf:AR E F a)(t:TypeId)(x:Operand){g:Bool}{b o:Nat}{t0:TypeId}{cs:List AV}{v:AV}(hx:ev G F x=(g,.ptr b o))(hg:g=true)
  (hb:E.h[b]?=some (.mem t0 cs)) (hr:rd P t (cs.drop o)=some v):
  Au P G I B0 E a ⟨d,.load t x,ty,pos,after,gd⟩ true v E.h:=by
 obtain⟨t2,tE,gg,h2,h3,h4⟩:=Ah H hf hx hg;rw[h2] at hb
 injection hb with hb
 injection hb with k9 hb
 subst hb;obtain⟨c,k1,k2⟩:=Vw hr (Ug H h2 h3);refine Au.same H c ?_ k2;simp[execOp,h4,Instr.loadAt,Instr.sureAddr,k1]
theorem PA (H:Good G I B0 E)(hf:AR E F a)(x:Operand){g:Bool}{b o:Nat}(hx:ev G F x=(g,.ptr b o))(hg:g=true):
  Au P G I B0 E a ⟨d,.nilCheck x,ty,pos,after,gd⟩ true (.ptr b o) E.h:=by
 have h:=Ah H hf hx hg;obtain⟨_,cs,gg,_,_,h4⟩:=id h;refine Au.same H (a.eval x) ?_ h;simp[execOp,h4]
theorem Qh (H:Good G I B0 E)(hf:AR E F a)(x:Operand){g:Bool}{cs:List AV}(hx:ev G F x=(g,.ro cs))(hg:g=true):
  Au P G I B0 E a ⟨d,.nilCheck x,ty,pos,after,gd⟩ true (.ro cs) E.h:=by
 have h:=Ah H hf hx hg;obtain⟨ad,h1,_⟩:=h;refine Au.same H (a.eval x) ?_ (Ah H hf hx hg);simp[execOp,h1]
theorem pV {op:BinOp}{t:TypeId}{x y:AV}{ob:Bool}{v:AV}{u w:Value}(px py:Operand)(h:lO P op t x y=some (ob,v))(Ar:ob=true)(hx:Rel E x u)(hy:Rel E y w):
    ∃c,(do eqGuard op t px py u w;binOp op t u w:Sem Value).run P E.w=.ok c E.w/\Rel E v c:=by
  unfold lO at h;split at h
  all_goals first
    | (cases h;done)
    | (rename_i k p k' q
       simp only[Rel] at hx hy;subst hx;subst hy
       injection h with h
       injection h with h1 h2
       subst h2;rw[<-h1] at Ar
       first
         | (have hq:0<=q:=by simpa using Ar
            have yq:¬q<0:=by omega
            (refine⟨_,?_,rfl⟩;simp[go_sem,Op.shift,yq];done))
         | (have hk:k=k':=by simpa using Ar
            subst hk
            (refine⟨_,?_,rfl⟩;simp[go_sem];done))
         | (have hk:k=k'/\¬q=0:=by simpa using Ar
            obtain⟨hk,hq⟩:=hk;subst hk
            (refine⟨_,?_,rfl⟩;simp[go_sem,hq];done)))
    | (rename_i p q
       simp only[Rel] at hx hy;subst hx;subst hy
       injection h with h
       injection h with h1 h2
       subst h2;rw[<-h1] at Ar
       first
         | (refine⟨_,?_,rfl⟩;simp[go_sem];done)
         | (have hq:p.length+q.length<=9223372036854775807:=by simpa using Ar
            refine⟨.string ⟨(p++q).toArray⟩,?_,rfl⟩
            have yq:¬(9223372036854775807<p.length+q.length):=by omega
            have e:=ByteArray.mk_append_mk p q;simp[binOp,Op.stringOp,eqGuard_add,ByteArray.size_mk',e]
            omega))
theorem ni (H:Good G I B0 E)(hf:AR E F a)(op:BinOp)(t u:TypeId)(x y:Operand){r:Bool×AV}(h:lO P op t (ev G F x).2 (ev G F y).2=some r)
  (Ar:((ev G F x).1&&(ev G F y).1&&r.1)=true):Au P G I B0 E a ⟨d,.binOp op t x y u,ty,pos,after,gd⟩ true r.2 E.h:=by
 simp only[Bool.and_eq_true] at Ar;obtain⟨c,h1,h2⟩:=pV (E:=E) x y (ob:=r.1) (v:=r.2) h Ar.2 ((Gf H hf x).1 Ar.1.1) ((Gf H hf y).1 Ar.1.2);refine Au.same H c ?_ h2;simp only[execOp];rw[Sem.run_bind,h1];rfl
theorem ra (H:Good G I B0 E)(hf:AR E F a)(op:UnOp)(t:TypeId)(x:Operand){r:Bool×AV}(h:uM op (ev G F x).2=some r)
  (Ar:((ev G F x).1&&r.1)=true):Au P G I B0 E a ⟨d,.unOp op t x,ty,pos,after,gd⟩ true r.2 E.h:=by
 simp only[Bool.and_eq_true] at Ar;have hx:=(Gf H hf x).1 Ar.1;unfold uM at h;split at h
 ·rename_i k n he;rw[he] at hx;simp only[Rel] at hx
  injection h with h
  subst h;refine Au.same H (.int k (k.wrap (0-n))) ?_ rfl;simp[execOp,hx,Op.unary,Op.intArith]
 ·rename_i b he;rw[he] at hx;simp only[Rel] at hx
  injection h with h
  subst h;refine Au.same H (.bool !b) ?_ rfl;simp[execOp,hx,Op.unary]
 ·cases h
theorem Yj (H:Good G I B0 E)(hf:AR E F a)(src dst:TypeId)(x:Operand){r:Bool×AV}(h:jI P src dst (ev G F x).2=some r)
  (Ar:((ev G F x).1&&r.1)=true):Au P G I B0 E a ⟨d,.convert src dst x,ty,pos,after,gd⟩ true r.2 E.h:=by
 simp only[Bool.and_eq_true] at Ar;have hx:=(Gf H hf x).1 Ar.1;unfold jI at h;split at h
 ·rename_i ds k k' n h1 h2 he;rw[he] at hx;simp only[Rel] at hx
  injection h with h
  subst h;refine Au.same H (.int k (k.wrap n)) ?_ rfl;simp[execOp,hx,convert,run_underlying h1,run_underlying h2,Conv.intToInt]
 ·rename_i s h1 h2 he;rw[he] at hx;simp only[Rel] at hx
  injection h with h
  subst h;refine Au.same H (.string ⟨s.toArray⟩) ?_ rfl;simp[execOp,hx,convert,run_underlying h1,run_underlying h2]
 ·cases h
theorem WJ (H:Good G I B0 E)(hf:AR E F a)(f:Fn)(first cap:Array Operand)(Ar:((Nw G F first.toList).1&&(Nw G F cap.toList).1)=true):
  Au P G I B0 E a ⟨d,.makeFunc f first cap,ty,pos,after,gd⟩ true (.fn f (Nw G F first.toList).2 (Nw G F cap.toList).2) E.h:=by
 simp only[Bool.and_eq_true] at Ar
 refine Au.same H (.func f (first.map a.eval) (cap.map a.eval)) ?_ ⟨_,_,rfl,?_,?_⟩
 ·simp[execOp,Instr.makeFunc]
 ·simpa using U7 H hf _ Ar.1
 ·simpa using U7 H hf _ Ar.2
theorem NX (H:Good G I B0 E)(hf:AR E F a)(s:TypeId)(x:Operand)(f:Nat){fs:Array Field}{fd:Field}(hs:P.underlying s=some (.struct fs))(ZE:fs[f]?=some fd)
  (CD:Nat.beq (P.cellsOf fd.type) 0=false) {g:Bool} {b o:Nat} (hx:ev G F x=(g,.ptr b o)) (hg:g=true):
  Au P G I B0 E a ⟨d,.fieldAddr s x f,ty,pos,after,gd⟩ true (.ptr b (o+fd.offset)) E.h:=by
 obtain⟨t0,cs,gg,h2,h3,h4⟩:=Ah H hf hx hg
 have BM:P.cellsOf fd.type≠0:=fun e=>by rw[e] at CD;simp at CD
 obtain⟨i,hi,sf⟩:∃i,P.info? fd.type=some i/\i.size≠0:=by
  unfold Program.cellsOf at BM
  cases hi:P.info? fd.type with
  |none=>simp[hi] at BM
  |some i=>exact⟨i,rfl,by simpa[hi] using BM⟩
 refine Au.same H (.pointer (some ⟨gg,o+fd.offset,none⟩)) ?_ ⟨t0,cs,gg,h2,h3,rfl⟩;simp[execOp,h4,Instr.fieldAt,run_underlying hs,ZE,Instr.sureAddr,fieldPlace,sizeOf,typeInfo,hi,sf,Addr.add_lit]
theorem PC (H:Good G I B0 E)(hf:AR E F a)(s:TypeId)(x:Operand)(f:Nat){fs:Array Field}{fd:Field}(hs:P.underlying s=some (.struct fs))(ZE:fs[f]?=some fd)
  (CD:Nat.beq (P.cellsOf fd.type) 0=false) {g:Bool} {cs:List AV} (hx:ev G F x=(g,.ro cs)) (hg:g=true):
  Au P G I B0 E a ⟨d,.fieldAddr s x f,ty,pos,after,gd⟩ true (.ro (cs.drop fd.offset)) E.h:=by
 obtain⟨ad,h1,h2⟩:=Ah H hf hx hg
 have BM:P.cellsOf fd.type≠0:=fun e=>by rw[e] at CD;simp at CD
 obtain⟨i,hi,sf⟩:∃i,P.info? fd.type=some i/\i.size≠0:=by
  unfold Program.cellsOf at BM
  cases hi:P.info? fd.type with
  |none=>simp[hi] at BM
  |some i=>exact⟨i,rfl,by simpa[hi] using BM⟩
 refine Au.same H (.pointer (some (ad.add fd.offset))) ?_ ⟨_,rfl,?_⟩
 ·simp[execOp,h1,Instr.fieldAt,run_underlying hs,ZE,Instr.sureAddr,fieldPlace,sizeOf,typeInfo,hi,sf]
 ·refine At.iff.2 fun j x hj=> ?_
  rw[List.getElem?_drop] at hj;obtain⟨v,k1,k2,k3,k4⟩:=At.iff.1 h2 (fd.offset+j) x hj
  exact⟨v,by rw[Ep];exact k1,k2,by rw[Kl,Po,show ad.off+fd.offset+j=ad.off+(fd.offset+j) by omega];exact k3,k4⟩
theorem QL {P:Program}{t:TypeId}{cs:List AV}{v:AV}{vs:Array Value}{off:Nat}(h:rd P t (cs.drop off)=some v)(hr:Ae E cs vs.toList)(w:World):
  ∃c,(part t vs off).run P w=.ok c w/\Rel E v c:=by
 obtain⟨hl,hr⟩:=Ae.iff.1 hr;unfold rd at h;split at h
 ·rename_i dd i hu hi;unfold part;rw[Sem.run_bind,NG P t hu w,Result.andThen_ok]
  cases hb:GF P t with
  |true=>
   rw[hb] at h;simp only at h
   cases hle:Nat.ble i.size (cs.drop off).length with
   |false=>rw[hle] at h;cases h
   |true=>
    rw[hle] at h;simp only[cond_true,Option.some.injEq] at h;subst h;have wi:i.size<=(cs.drop off).length:=Nat.le_of_ble_eq_true hle;rw[List.length_drop] at wi
    refine⟨.agg (vs.extract off (off+i.size)),by simp[sizeOf,typeInfo,hi],_,rfl,Ae.iff.2 ⟨?_,fun j c u hc hu=> ?_⟩⟩
    ·simp only[Array.toList_extract,List.length_take,List.length_drop,List.extract_eq_take_drop];omega
    ·simp only[Array.toList_extract,List.extract_eq_take_drop] at hu;rw[List.getElem?_take] at hc hu;split at hc
     ·rename_i hj
      rw[if_pos (by omega),List.getElem?_drop] at hu
      rw[List.getElem?_drop] at hc;exact hr _ c u hc hu
     ·cases hc
  |false=>
   rw[hb] at h;simp only at h
   cases hd:cs.drop off with
   |nil=>rw[hd] at h;simp at h
   |cons c r=>
    rw[hd] at h;simp only[Option.some.injEq] at h;subst h
    have hc:cs[off]?=some c:=by
     have:=List.getElem?_drop (xs:=cs) (i:=off) (j:=0);rw[hd] at this;simpa using this.symm
    have BC:off<vs.toList.length:=by
     rw[hl];exact(List.getElem?_eq_some_iff.1 hc).1
    have hv:vs[off]?=some (vs[off]'(by simpa using BC)):=Array.getElem?_eq_getElem _
    refine⟨vs[off]'(by simpa using BC),?_,(hr off c _ hc (by simp)).2⟩
    simp only[hv];rfl
 ·cases h
theorem fy (H:Good G I B0 E)(hf:AR E F a)(s:TypeId)(x:Operand)(f:Nat){fs:Array Field}{fd:Field}(hs:P.underlying s=some (.struct fs))(ZE:fs[f]?=some fd)
  {g:Bool} {cs:List AV} {v:AV} (hx:ev G F x=(g,.agg cs)) (hg:g=true) (hr:rd P fd.type (cs.drop fd.offset)=some v):
  Au P G I B0 E a ⟨d,.field s x f,ty,pos,after,gd⟩ true v E.h:=by
 obtain⟨vs,h1,h2⟩:=Ah H hf hx hg;obtain⟨c,k1,k2⟩:=QL (P:=P) hr h2 E.w;refine Au.same H c ?_ k2;simp[execOp,h1,Instr.field,run_underlying hs,ZE,asAgg,k1]
theorem Di {t:TypeId}{n:Nat}(h:P.cellsOf t=n)(hn:0<n):∃i,P.info? t=some i/\i.size=n:=by
 unfold Program.cellsOf at h
 cases hi:P.info? t with
 |none=>rw[hi] at h;simp at h;omega
 |some i=>exact⟨i,rfl,by rw[hi] at h;simpa using h⟩
theorem Vs {es:List (List AV)}{ad:Addr}{sz:Nat}(h:Rows E es ad)(hu:∀e∈es,e.length=sz){i:Nat}{e:List AV}(hi:es[i]?=some e):At E e (ad.add (i*sz)):=by
 induction es generalizing i ad with
 |nil=>simp at hi
 |cons x es ih=>
  obtain⟨h1,h2⟩:=h
  cases i with
  |zero=>
   simp only[List.getElem?_cons_zero,Option.some.injEq] at hi;subst hi;simpa[Addr.add] using h1
  |succ i=>
   have:=ih h2 (fun e he=>hu e (by simp[he])) (by simpa using hi)
   rw[Ep,hu x (by simp)] at this
   rwa [Nat.add_mul,Nat.one_mul,Nat.add_comm]
theorem PB (H:Good G I B0 E)(hf:AR E F a)(t:TypeId)(x i:Operand){e:TypeId}(ht:P.underlying t=some (.slice e)){g g':Bool}{sz:Nat}{es:List (List AV)}{own:Option Nat}{k:IntKind}{n:Int}
  (hx:ev G F x=(g,.sl sz es own)) (hi:ev G F i=(g',.int k n)) (Ar:(g&&g'&&Dk n es.length&&Nat.beq sz (P.cellsOf e)&&Nat.ble 1 sz)=true):
  Au P G I B0 E a ⟨d,.indexAddr t x i,ty,pos,after,gd⟩ true (.ro (CH es n)) E.h:=by
 simp only[Bool.and_eq_true,Dk,decide_eq_true_eq] at Ar;obtain⟨⟨⟨⟨hg,CY⟩,SF,JZ⟩,CD⟩,FZ⟩:=Ar;obtain⟨⟨A,cap,h1,h2,h3,h4,h5⟩,_⟩:=Ah H hf hx hg;have h6:a.eval i=.int k n:=Ah H hf hi CY
 have BM:es≠[]:=by rintro rfl;simp at JZ;omega
 obtain⟨ad,hA,BZ⟩:=h5 BM;subst hA;have Fs:P.cellsOf e=sz:=(Nat.eq_of_beq_eq_true CD).symm
 have Ie:0<sz:=Nat.lt_of_lt_of_le Nat.one_pos (by have:=Nat.le_of_ble_eq_true FZ;omega)
 obtain⟨ii,Nk,iI⟩:=Di Fs Ie
 have BC:n.toNat<es.length:=by omega
 have FN:es[n.toNat]?=some (CH es n):=by
  unfold CH;rw[List.getElem?_eq_getElem BC,List.getD_eq_getElem?_getD,List.getElem?_eq_getElem BC];rfl
 refine Au.same H (.pointer (some (ad.add (n.toNat*sz)))) ?_ ⟨_,rfl,Vs BZ h4 FN⟩;have hc:0<=n/\n<(es.length:Int):=⟨SF,JZ⟩;simp[execOp,h1,h6,Instr.indexAt,run_underlying ht,asIntOf,hc,sizeOf,typeInfo,Nk,iI]
theorem UY (H:Good G I B0 E)(hf:AR E F a)(t:TypeId)(x i:Operand)(ht:P.underlying t=some .string){g g':Bool}{s:List UInt8}{k:IntKind}{n:Int}
  (hx:ev G F x=(g,.str s)) (hi:ev G F i=(g',.int k n)) (Ar:(g&&g'&&Dk n s.length)=true):
  Au P G I B0 E a ⟨d,.index t x i,ty,pos,after,gd⟩ true (.int .u8 ((s.getD n.toNat 0).toNat:Int)) E.h:=by
 simp only[Bool.and_eq_true,Dk,decide_eq_true_eq] at Ar;obtain⟨⟨hg,CY⟩,SF,JZ⟩:=Ar;have h1:a.eval x=.string ⟨s.toArray⟩:=Ah H hf hx hg;have h2:a.eval i=.int k n:=Ah H hf hi CY
 have BC:n.toNat<s.length:=by omega
 have FN:(⟨s.toArray⟩:ByteArray)[n.toNat]?=some (s.getD n.toNat 0):=by
  rw[ByteArray.getElem?_lt' _ _ (by simpa[ByteArray.size] using BC),List.getD_eq_getElem?_getD,List.getElem?_eq_getElem BC]
  rfl
 refine Au.same H (.int .u8 ((s.getD n.toNat 0).toNat:Int)) ?_ rfl;simp[execOp,h1,h2,Instr.index,run_underlying ht,asIntOf,SF,FN]
theorem Yi (H:Good G I B0 E)(hf:AR E F a)(t:Operand)(ix:Nat){g:Bool}{vs:List AV}{v:AV}(hx:ev G F t=(g,.tup vs))(hg:g=true)(hv:vs[ix]?=some v):
  Au P G I B0 E a ⟨d,.extract t ix,ty,pos,after,gd⟩ true v E.h:=by
 obtain⟨cs,h1,h2⟩:=Ah H hf hx hg
 have key:∀(vs:List AV) (cs:List Value),BT E vs cs->∀(ix:Nat) v,vs[ix]?=some v->∃c,cs[ix]?=some c/\Rel E v c:=by
  intro vs
  induction vs with
  |nil=>intro cs _ ix v hv;simp at hv
  |cons x xs ih=>
   rintro cs ⟨u,r,rfl,hu,hr⟩ ix v hv
   cases ix with
   |zero=>simp only[List.getElem?_cons_zero,Option.some.injEq] at hv;subst hv;exact⟨u,rfl,hu⟩
   |succ ix=>exact ih r hr ix v (by simpa using hv)
 obtain⟨c,k1,k2⟩:=key vs cs.toList h2 ix v hv;refine Au.same H c ?_ k2
 have vx:cs[ix]?=some c:=by simpa using k1
 simp[execOp,h1,Instr.extract,vx]
theorem Yf (H:Good G I B0 E)(hf:AR E F a)(x:Operand)(t:TypeId)(ht:P.underlying t=some .string){g:Bool}{s:List UInt8}(hx:ev G F x=(g,.str s))(hg:g=true):
  Au P G I B0 E a ⟨d,.call {callee:=.builtin .len,args:= #[x],argTypes:= #[t]},ty,pos,after,gd⟩ true (.int .i64 s.length) E.h:=by
 have h1:a.eval x=.string ⟨s.toArray⟩:=Ah H hf hx hg;refine Au.same H (.int .i64 s.length) ?_ rfl;simp[execOp,resolve,invoke,builtin,h1,run_len_string,ht,goInt,ByteArray.size]
theorem cg (H:Good G I B0 E)(hf:AR E F a)(x:Operand)(t:TypeId){e:TypeId}(ht:P.underlying t=some (.slice e)){g:Bool}{sz:Nat}{es:List (List AV)}{own:Option Nat}(hx:ev G F x=(g,.sl sz es own))(hg:g=true):
  Au P G I B0 E a ⟨d,.call {callee:=.builtin .len,args:= #[x],argTypes:= #[t]},ty,pos,after,gd⟩ true (.int .i64 es.length) E.h:=by
 obtain⟨⟨A,cap,h1,_⟩,_⟩:=Ah H hf hx hg;refine Au.same H (.int .i64 es.length) ?_ rfl;simp[execOp,resolve,invoke,builtin,h1,Builtin.len_,run_underlying ht,goInt]
theorem ng (H:Good G I B0 E)(hf:AR E F a)(x y:Operand)(ts:Array TypeId){g g':Bool}{k k':IntKind}{m n:Int}(hx:ev G F x=(g,.int k m))(hy:ev G F y=(g',.int k' n))
  (Ar:(g&&g'&&decide (k=k'))=true):
  Au P G I B0 E a ⟨d,.call {callee:=.builtin .max,args:= #[x,y],argTypes:=ts},ty,pos,after,gd⟩ true (.int k (max m n)) E.h:=by
 simp only[Bool.and_eq_true,decide_eq_true_eq] at Ar;have h1:a.eval x=.int k m:=Ah H hf hx Ar.1.1;have h2:a.eval y=.int k' n:=Ah H hf hy Ar.1.2;refine Au.same H (.int k (max m n)) ?_ rfl
 have:(if n>m then n else m)=max m n:=by split<;>omega
 simp only[execOp,resolve,List.map_toArray,List.map_cons,List.map_nil,h1,h2,Sem.run_bind,Sem.run_pure,Result.andThen_ok,invoke,builtin,run_max_int2,this]
theorem nf (H:Good G I B0 E)(hf:AR E F a)(x y:Operand)(ts:Array TypeId){g g':Bool}{k k':IntKind}{m n:Int}(hx:ev G F x=(g,.int k m))(hy:ev G F y=(g',.int k' n))
  (Ar:(g&&g'&&decide (k=k'))=true):
  Au P G I B0 E a ⟨d,.call {callee:=.builtin .min,args:= #[x,y],argTypes:=ts},ty,pos,after,gd⟩ true (.int k (min m n)) E.h:=by
 simp only[Bool.and_eq_true,decide_eq_true_eq] at Ar;have h1:a.eval x=.int k m:=Ah H hf hx Ar.1.1;have h2:a.eval y=.int k' n:=Ah H hf hy Ar.1.2;refine Au.same H (.int k (min m n)) ?_ rfl
 have:(if n<m then n else m)=min m n:=by split<;>omega
 simp only[execOp,resolve,List.map_toArray,List.map_cons,List.map_nil,h1,h2,Sem.run_bind,Sem.run_pure,Result.andThen_ok,invoke,builtin,run_min_int2,this]
end
end Go.Ai
