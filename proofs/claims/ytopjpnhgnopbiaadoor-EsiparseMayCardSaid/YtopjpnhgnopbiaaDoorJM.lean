/-
  esitree.Each: its iterator hands on a tree's nodes.
  esitree.Each: what its iterator answers for: a tree's nodes in order, as many as the rounds let.
  EsiparseMay: its calls under contract, in whatever world.
  EsiparseMay: the law's walk.
-/
import Derived.Test.YtopjpnhgnopbiaaDoorJG
import Derived.Test.YtopjpnhgnopbiaaDoorJR
import Derived.OwnWalkIn
import Derived.TacticsInMore
import Derived.WalkKit
import Derived.ProofKit
import Derived.Test.YtopjpnhgnopbiaaDoorJH
import Derived.Test.YtopjpnhgnopbiaaDoorJW
import Derived.Test.YtopjpnhgnopbiaaDoorJT
import Derived.RangeFuncBox
set_option linter.unusedVariables false
set_option linter.unusedSimpArgs false
set_option linter.unnecessarySimpa false
section
namespace Go.Proofs.YtopjpnhgnopbiaaDoor
open Go.Ai Go Go.RowKit
set_option maxRecDepth 100000
attribute [local go_sem] Oper.semAt_some
theorem each_call (v:Value)(w:World)(k p t al s:Value)(hv:v=.agg #[k,p,t,al,s]):CallsIn Fence.wide 0 Tryd.prog 12 #[v] w fun e w'=>e=.returned (.func (.func 20) #[] #[.pointer (some ⟨w.heap.size,0,none⟩)])∧w'=w.alloc (.cells #[k,p,t,al,s] 28):=by
 subst hv;refine callsIn_of_wp Tryd.func12 rfl trivial ?_ rfl;simp only[Tryd.ntmps12,List.size_toArray,List.length_cons,List.length_nil,Nat.reduceAdd,Nat.reduceSub,Array.replicate_succ,Array.replicate_zero,List.push_toArray,List.append_toArray,List.nil_append,List.cons_append]
 gi_wp2
 go_ret
 exact⟨rfl,rfl⟩
end Go.Proofs.YtopjpnhgnopbiaaDoor
end
section
namespace Go.Proofs.YtopjpnhgnopbiaaDoor
open Go.Ai Go Go.RowKit
set_option maxRecDepth 100000
attribute [local go_sem] Oper.semAt_some
def Stmt (T:VT):Prop:=∀(S:Nat→Prop) (W:World) (Bt:Nat),Five W ⟨Bt,0,none⟩ T.val→S Bt→Bt<W.heap.size→T.In S W→SeqX Tryd.prog 20 #[.pointer (some ⟨Bt,0,none⟩)] S T.flat W
theorem core (v:Value)(us:List VT)(ih:∀t∈us,Stmt t):Stmt (.mk v us):=by
 intro S W Bt hfive hSB hlt ⟨k,p,t,al,A,cap,hv,o0,o1,o2,o3,hle,hcap,hin⟩ l J Jx hJ hJx hS hY h0;obtain rfl:v=.agg #[k,p,t,al,.slice A us.length cap]:=hv;obtain⟨W1,hW1⟩:∃W1,W1=W.alloc (Obj.cells #[Value.func (Fn.yield l) #[] #[]] 60):=⟨_,rfl⟩
 have hk1:Kept (fun _=>True) W W1:=by rw[hW1];exact(Kept.refl _ _).alloc _
 have hs1:W1.heap.size=W.heap.size+1:=by rw[hW1];simp
 have hcell:∀i,i<5→W1.cell? ⟨Bt,i,none⟩=(fives (.agg #[k,p,t,al,.slice A us.length cap]))[i]? :=fun i hi=>by
  rw[hk1.cell (a:=⟨Bt,i,none⟩) hlt trivial];have:=hfive i hi
  rwa [Addr.add_lit,Nat.zero_add] at this
 have c0:W1.cell? ⟨Bt,0,none⟩=some k:=hcell 0 (by omega)
 have c1:W1.cell? ⟨Bt,1,none⟩=some p:=hcell 1 (by omega)
 have c2:W1.cell? ⟨Bt,2,none⟩=some t:=hcell 2 (by omega)
 have c3:W1.cell? ⟨Bt,3,none⟩=some al:=hcell 3 (by omega)
 have c4:W1.cell? ⟨Bt,4,none⟩=some (.slice A us.length cap):=hcell 4 (by omega)
 have hJ1:J [] W1:=hJ _ _ _ h0 (Nat.le_refl _) (hk1.mono fun _ _ _=>trivial)
 obtain⟨fn,tmps,assign,body,hy,hR0⟩:=hY [] (.agg #[k,p,t,al,.slice A us.length cap]) W1 hJ1 (by omega) (by simp[VT.flat])
 have hR:=hR0.mono (R':=fun e W2=>(e=.returned (.bool true)∧J [.agg #[k,p,t,al,.slice A us.length cap]] W2∧Kept S W1 W2∧W2.cell? ⟨Bt,4,none⟩=some (.slice A us.length cap))∨(e=.returned (.bool false)∧Jx [.agg #[k,p,t,al,.slice A us.length cap]] W2∧Kept S W1 W2)) (by
  rintro e W2 ⟨hk,⟨rfl,hj⟩|⟨rfl,hx⟩⟩
  ·exact .inl ⟨rfl,hj,hk,(hk.cell (a:=⟨Bt,4,none⟩) (by show Bt<_;omega) hSB).trans c4⟩
  ·exact .inr ⟨rfl,hx,hk⟩)
 clear hR0 hcell
 have hyl:W1.cell? ⟨W.heap.size,0,none⟩=some (.func (.yield l) #[] #[]):=by
  have:=World.alloc_heap_new W (Obj.cells #[Value.func (Fn.yield l) #[] #[]] 60);rw[←hW1] at this;simp[World.cell?,this]
 refine callsIn_of_wp_marks Tryd.func20 rfl trivial ?_;simp only[Tryd.ntmps20,List.size_toArray,List.length_cons,List.length_nil,Nat.reduceAdd,Nat.reduceSub,Array.replicate_succ,Array.replicate_zero,List.push_toArray,List.append_toArray,List.nil_append,List.cons_append];subst hW1
 clear hk1
 gi_wp2_with ((try refine⟨rfl,?_⟩);refine hR.mono ?_;clear hR;rintro e W2 (⟨rfl,hJ2,hK2,c4'⟩|⟨rfl,hx2,hK2⟩))
 rotate_left
 ·refine leaves_marks (b:=W.heap.size) [] W2 (by have:=hK2.size;omega) trivial fun w' hw=> ?_
  refine⟨_,results_none rfl _ _ _,⟨_,rfl⟩,.inr ⟨_,?_,hJx _ _ _ hx2 (by have:=hK2.size;omega) hw⟩⟩
  simp[VT.flat]
 have hU0:Kept S W (W.alloc (Obj.cells #[Value.func (Fn.yield l) #[] #[]] 60)):=(Kept.refl _ _).alloc _;obtain⟨W1,hW1⟩:∃W1,W1=W.alloc (Obj.cells #[Value.func (Fn.yield l) #[] #[]] 60):=⟨_,rfl⟩;rw[←hW1] at hK2 hyl hs1 hU0
 clear c0 c1 c2 c3 c4 c4' hJ1 hy hW1
 refine wpIn_loop (fun a w'=>∃(i:Nat) (ds:List Deferred) (u3 u4 u5 u6 u7 u8 u9 u10 u14 u15 u16 u17 u18 u19 u20 u21 u22 u23 u24:Value),i≤us.length∧a=(⟨#[Value.func (Fn.yield l) #[] #[],Value.pointer (some {block:=Bt,off:=0}),
     Value.pointer (some {block:=W.heap.size,off:=0}),u3,u4,u5,u6,u7,u8,u9,u10,Value.slice A us.length cap,Value.int IntKind.i64 us.length,
     Value.int IntKind.i64 i,u14,u15,u16,u17,u18,u19,u20,u21,u22,u23,u24],ds⟩:Act)∧J (.agg #[k,p,t,al,.slice A us.length cap]::VT.flats (us.take i)) w'∧Kept S W1 w'∧Marks W.heap.size w' ds)
  (fun a _=>us.length-(intOf (a.tmps.getD 13 undef)).toNat) ?h0 ?round
 case h0=>
  exact⟨0,[],_,_,_,_,_,_,_,_,_,_,_,_,_,_,_,_,_,_,_,Nat.zero_le _,rfl,by simpa[VT.flats] using hJ2,hK2,trivial⟩
 case round=>
  rintro a w' ⟨i,ds,u3,u4,u5,u6,u7,u8,u9,u10,u14,u15,u16,u17,u18,u19,u20,u21,u22,u23,u24,hi,rfl,hj,hkw,hm⟩
  by_cases hil:i<us.length
  ·obtain⟨a,rfl,hins⟩:=hin (by rintro rfl;simp at hil)
   have hT:us[i]?=some us[i]:=List.getElem?_eq_getElem hil
   have hkW:Kept S W w':=hU0.trans (hkw.mono fun _ _ h=>h)
   obtain⟨q1,q2,q3,q4⟩:=ins_get (hins.keep hkW) hT;have hih:=ih us[i] (List.mem_of_getElem? hT);generalize us[i]=kid at hT q1 q4 hih;obtain⟨kv,ks⟩:=kid;have q4':=q4;obtain⟨x0,x1,x2,x3,B,kc,rfl,z0,z1,z2,z3,_,_,_⟩:=q4';obtain⟨bb,oo,ea,d0,d1,d2,d3,d4⟩:=five_agg q1
   have hyl':w'.cell? ⟨W.heap.size,0,none⟩=some (.func (.yield l) #[] #[]):=(hkw.cell (a:=⟨W.heap.size,0,none⟩) (by show W.heap.size<_;omega) (hS _ (Nat.le_refl _))).trans hyl
   have hin':=hin
   have s0:∀(a:Addr) (m:Mode) (W:World),Sem.run Tryd.prog (store a x0 m) W=stored Tryd.prog W a x0 m:=fun a m W=>run_store Tryd.prog W a x0 m (by simpa[Value.oneCell'] using z0)
   have s1:∀(a:Addr) (m:Mode) (W:World),Sem.run Tryd.prog (store a x1 m) W=stored Tryd.prog W a x1 m:=fun a m W=>run_store Tryd.prog W a x1 m (by simpa[Value.oneCell'] using z1)
   have s2:∀(a:Addr) (m:Mode) (W:World),Sem.run Tryd.prog (store a x2 m) W=stored Tryd.prog W a x2 m:=fun a m W=>run_store Tryd.prog W a x2 m (by simpa[Value.oneCell'] using z2)
   have s3:∀(a:Addr) (m:Mode) (W:World),Sem.run Tryd.prog (store a x3 m) W=stored Tryd.prog W a x3 m:=fun a m W=>run_store Tryd.prog W a x3 m (by simpa[Value.oneCell'] using z3)
   clear q1 hin
   gi_wp2
   refine⟨trivial,rfl,?_⟩;refine(each_call _ _ _ _ _ _ _ rfl).mono ?_
   rintro e w2 ⟨rfl,hw2⟩
   gi_wp2
   have hk2:Kept (fun _=>True) w' w2:=by rw[hw2];exact((Kept.refl _ _).alloc _).alloc _
   have hz2:w2.heap.size=w'.heap.size+2:=by rw[hw2];simp
   have hwW:W.heap.size+1≤w'.heap.size:=by have:=hkw.size;omega
   have hfv:Five w2 ⟨w'.heap.size+1,0,none⟩ (.agg #[x0,x1,x2,x3,.slice B ks.length kc]):=by
    intro j hj;have hn:=World.alloc_heap_new (w'.alloc (Obj.cells #[x0,x1,x2,x3,Value.slice B ks.length kc] 28)) (Obj.cells #[x0,x1,x2,x3,Value.slice B ks.length kc] 28);rw[←hw2,World.size_alloc] at hn;rw[Addr.add_lit,Nat.zero_add];simp[World.cell?,hn,fives]
   rw[←hw2]
   clear hw2 s0 s1 s2 s3 d0 d1 d2 d3 d4 ea
   obtain⟨hfl1,rr,hfl2⟩:=flats_take hT
   refine wp_rangeSeq (S:=S) (T:=(VT.mk (.agg #[x0,x1,x2,x3,.slice B ks.length kc]) ks).flat) (gf:=20) (lb:= #[.pointer (some ⟨w'.heap.size+1,0,none⟩)]) rfl (enters_of Tryd.func20 (by kernel_rfl) rfl) (fun k hk=>hS k (by omega)) ?seq
    (fun xs w=>J (.agg #[k,p,t,al,.slice (some a) us.length cap]::VT.flats (us.take i)++xs) w) (fun c xs w=>c=.ret∧Jx (.agg #[k,p,t,al,.slice (some a) us.length cap]::VT.flats (us.take i)++xs) w)
    (fun s=>(hJ _).le (by omega)) (fun c s X Y h hs hk=>⟨h.1,(hJx _).le (b':=w2.heap.size) (by omega) X Y h.2 hs hk⟩) ?j0 ?rnd ?done ?stop
   case j0=>
    have:=hJ _ _ _ hj (by omega) (hk2.mono fun _ _ _=>trivial)
    simpa using this
   case seq=>
    intro W3 hk3 hz3;have hk23:=hk2.trans hk3
    refine hih _ W3 (w'.heap.size+1) (fun j hj=> ?_) ⟨hS _ (by omega),by omega⟩ (by omega) ?_
    ·rw[Addr.add_lit,hk3.cell (a:=⟨w'.heap.size+1,0+j,none⟩) (by show w'.heap.size+1<_;omega) trivial,←Addr.add_lit]
     exact hfv j hj
    ·exact((q4.sub (S':=fun k=>S k∧k<w'.heap.size) fun k hk hs=>⟨hs,hk⟩).keep (hk23.mono fun _ _ _=>trivial)).sub fun k _ hs=>⟨hs.1,by omega⟩
   case rnd=>
    intro l2 pre x X hIX hkX hsX hpre;obtain⟨y0,y1,y2,y3,B',n',c',rfl,e0,e1,e2,e3⟩:=flat_agg q4 x (pre_mem hpre)
    have s0:∀(a:Addr) (m:Mode) (W:World),Sem.run Tryd.prog (store a y0 m) W=stored Tryd.prog W a y0 m:=fun a m W=>run_store Tryd.prog W a y0 m e0
    have s1:∀(a:Addr) (m:Mode) (W:World),Sem.run Tryd.prog (store a y1 m) W=stored Tryd.prog W a y1 m:=fun a m W=>run_store Tryd.prog W a y1 m e1
    have s2:∀(a:Addr) (m:Mode) (W:World),Sem.run Tryd.prog (store a y2 m) W=stored Tryd.prog W a y2 m:=fun a m W=>run_store Tryd.prog W a y2 m e2
    have s3:∀(a:Addr) (m:Mode) (W:World),Sem.run Tryd.prog (store a y3 m) W=stored Tryd.prog W a y3 m:=fun a m W=>run_store Tryd.prog W a y3 m e3
    have hylq:=Hid.out (show Hid _ from hyl')
    clear hyl' hyl
    simp only[Array.zip_eq_zipWith,List.zipWith_toArray,List.zipWith_cons_cons,List.zipWith_nil_left,List.zipWith_nil_right,List.foldl_toArray,List.foldl_cons,List.foldl_nil,List.setIfInBounds_toArray,List.set_cons_succ,List.set_cons_zero]
    gi_wp2
    have hkA:Kept (fun _=>True) X (X.alloc (Obj.cells #[y0,y1,y2,y3,Value.slice B' n' c'] 28)):=(Kept.refl _ _).alloc _
    refine⟨hkA.mono fun _ _ _=>trivial,fun X2 hk3=> ?_⟩
    have hzA:(X.alloc (Obj.cells #[y0,y1,y2,y3,Value.slice B' n' c'] 28)).heap.size=X.heap.size+1:=by simp
    have hn:=World.alloc_heap_new X (Obj.cells #[y0,y1,y2,y3,Value.slice B' n' c'] 28)
    have hn2:=(hk3.block X.heap.size (by omega) (by omega)).trans hn
    have d0:X2.cell? ⟨X.heap.size,0,none⟩=some y0:=by simp[World.cell?,hn2]
    have d1:X2.cell? ⟨X.heap.size,1,none⟩=some y1:=by simp[World.cell?,hn2]
    have d2:X2.cell? ⟨X.heap.size,2,none⟩=some y2:=by simp[World.cell?,hn2]
    have d3:X2.cell? ⟨X.heap.size,3,none⟩=some y3:=by simp[World.cell?,hn2]
    have d4:X2.cell? ⟨X.heap.size,4,none⟩=some (Value.slice B' n' c'):=by simp[World.cell?,hn2]
    have hz2':=hkX.size
    have hyl2:X2.cell? ⟨W.heap.size,0,none⟩=some (.func (.yield l) #[] #[]):=by
     rw[hk3.cell (a:=⟨W.heap.size,0,none⟩) (by show W.heap.size<_;omega) (by show W.heap.size≠_;omega),hkA.cell (a:=⟨W.heap.size,0,none⟩) (by show W.heap.size<_;omega) trivial,hkX.cell (a:=⟨W.heap.size,0,none⟩) (by show W.heap.size<_;omega) (hS _ (Nat.le_refl _)),hk2.cell (a:=⟨W.heap.size,0,none⟩) (by show W.heap.size<_;omega) trivial]
     exact hylq
    have hJX2:=hJ _ X X2 hIX (by omega) ((hkA.mono fun _ _ _=>trivial).trans (hk3.mono fun k _ hk=>by have hk:k<W.heap.size:=hk;omega))
    obtain⟨fn2,tmps2,assign2,body2,hy2,hR0⟩:=hY _ (.agg #[y0,y1,y2,y3,.slice B' n' c']) X2 hJX2 (by have:=hk3.size;omega) (by
     obtain⟨r1,hr1⟩:=hpre;refine⟨r1++rr,?_⟩;show _=_::VT.flats us;rw[hfl2,←hr1]
     simp only[List.append_assoc,List.cons_append])
    have hR:=hR0
    clear hR0 hn hn2 hY hih ih hin' hins
    gi_wp2_with ((try refine⟨rfl,?_⟩);refine hR.mono ?_;clear hR;rintro e W2 ⟨hKr,(⟨rfl,hJ2⟩|⟨rfl,hx2⟩)⟩)
    ·exact⟨hKr,by simpa only[List.append_assoc] using hJ2⟩
    ·exact⟨hKr,rfl,by simpa only[List.append_assoc] using hx2⟩
   case done=>
    intro D X hD hIX hkX hdef
    have hwr:wrap64 ((i:Int)+1)=((i+1:Nat):Int):=by
     have:(i:Int)+1≤9223372036854775807:=by unfold maxLen at hcap;omega
     unfold wrap64;omega
    gi_wp2
    rw[hwr]
    have hkq:Kept S w' X:=(hk2.mono fun _ _ _=>trivial).trans hkX
    refine⟨⟨i+1,_,_,_,_,_,_,_,_,_,_,_,_,_,_,_,_,_,_,_,_,hil,rfl,?_,hkw.trans hkq,⟨D,rfl,by omega,hdef,fun d' hd' he=> ?_⟩,hm.kept (b0:=0) hkq hS⟩,?_⟩
    ·have:=hIX;simp only[List.cons_append,hfl1] at this;exact this
    ·obtain⟨D',h1,h2⟩:=hm.lt d' hd';rw[h1] at he
     injection he with he
     omega
    ·have key:∀(n i:Nat),i<n→n-(intOf (Value.int .i64 ((i+1:Nat):Int))).toNat<n-(intOf (Value.int .i64 ((i:Nat):Int))).toNat:=fun n i h=>by
      simp only[intOf,Int.toNat_natCast];omega
     exact key us.length i hil
   case stop=>
    rintro D c pre X hD hpre ⟨rfl,hx⟩ hkX hdef
    gi_wp2
    have hkq:Kept S w' X:=(hk2.mono fun _ _ _=>trivial).trans hkX
    have hzX:=hkX.size
    refine leaves_marks (b:=W.heap.size) _ X (by omega) ⟨⟨D,rfl,by omega,hdef,fun d' hd' he=> ?_⟩,hm.kept (b0:=0) hkq hS⟩ fun w3 hw=> ?_
    ·obtain⟨D',h1,h2⟩:=hm.lt d' hd';rw[h1] at he
     injection he with he
     omega
    ·refine⟨_,results_none rfl _ _ _,⟨_,rfl⟩,.inr ⟨_,?_,hJx _ _ _ hx (by omega) hw⟩⟩
     obtain⟨r1,hr1⟩:=hpre;refine⟨r1++rr,?_⟩;show _=_::VT.flats us;rw[hfl2,←hr1];simp only[List.append_assoc,List.cons_append]
  ·obtain rfl:i=us.length:=by omega
   gi_wp2
   have hww:W.heap.size≤w'.heap.size:=by have:=hkw.size;omega
   refine leaves_marks (b:=W.heap.size) ds w' hww hm fun w2 hw=> ?_
   refine⟨_,results_none rfl _ _ _,⟨_,rfl⟩,.inl (hJ _ _ _ (by simpa[VT.flat] using hj) hww hw)⟩
mutual
theorem each_seq :∀T:VT,Stmt T
 |.mk v us=>core v us (each_all us)
theorem each_all :∀us:List VT,∀t∈us,Stmt t
 |[],t,h=>by cases h
 |u::r,t,h=>(List.mem_cons.1 h).elim (fun e=>e▸each_seq u) (fun h=>each_all r t h)
end
end Go.Proofs.YtopjpnhgnopbiaaDoor
end
section
namespace Go.Proofs.YtopjpnhgnopbiaaDoor
open Go.Ai Go Go.RowKit Go.Ai.Sp
set_option maxRecDepth 100000
section
variable {I:World→Prop}{B0:Nat}
theorem awake_call (S:Sound cfg3 I B0){W:World}(hI:I W)(hB:B0≤W.heap.size):
  CallsIn Fence.wide 0 Tryd.prog 9 #[] W fun e w'=>e=.returned (.bool true)∧Below W.heap.size W w':=by
 refine callsIn_wide.2 ((call_at (args:=[]) S c9 (by kernel_rfl) (by kernel_rfl) (vs:=[]) (v:=.bool true) rfl rfl ⟨rfl,rfl,rfl⟩ hI hB (fun g cs h=>by cases h) rfl).mono ?_)
 rintro e w' ⟨c,rfl,hb,hc⟩
 cases hc;exact⟨rfl,hb⟩
theorem check_call (S:Sound cfg3 I B0){nd:Nd}{n:Value}{W:World}(hI:I W)(hB:B0≤W.heap.size)(hf:nd.tfit)(hs:nd.size<1000000)(hr:Rel (Go.Ai.start W) (.agg (encN nd)) n):
  CallsIn Fence.wide 0 Tryd.prog 13 #[n] W fun e w'=>e=.returned (.int .i64 nd.page)∧Below W.heap.size W w':=by
 refine callsIn_wide.2 ((call_at (args:=[n]) S (Tr.c13 (nd.size+1)) (by kernel_rfl) (by kernel_rfl) (vs:=[.agg (encN nd)]) (v:=.int .i64 nd.page) (by simp[pureV.pureVs,pureV,pure_encN]) rfl ⟨nd,by omega,hf,by omega,rfl,rfl,rfl⟩ hI hB (fun g cs h=>by cases h) ⟨n,[],rfl,hr,rfl⟩).mono ?_)
 rintro e w' ⟨c,rfl,hb,hc⟩
 cases hc;exact⟨rfl,hb⟩
theorem same_call (S:Sound cfg3 I B0){nd:Nd}{n m:Value}{W:World}(hI:I W)(hB:B0≤W.heap.size)(hf:nd.fit)(hr:Rel (Go.Ai.start W) (.agg (encN nd)) n)(hm:Rel (Go.Ai.start W) (.agg (encN nd)) m):
  CallsIn Fence.wide 0 Tryd.prog 10 #[n,m] W fun e w'=>e=.returned (.bool true)∧Below W.heap.size W w':=by
 refine callsIn_wide.2 ((call_at (args:=[n,m]) S (Tr.c10 (nd.size+1)) (by kernel_rfl) (by kernel_rfl) (vs:=[.agg (encN nd),.agg (encN nd)]) (v:=.bool true) (by simp[pureV.pureVs,pureV,pure_encN]) rfl ⟨nd,nd,by omega,hf,hf,rfl,by rw[Nd.same_refl],rfl⟩ hI hB (fun g cs h=>by cases h) ⟨n,_,rfl,hr,m,_,rfl,hm,rfl⟩).mono ?_)
 rintro e w' ⟨c,rfl,hb,hc⟩
 cases hc;exact⟨rfl,hb⟩
theorem func_nil (f:Fn)(a b:Array Value)(w:World):Sem.run Tryd.prog (binOp BinOp.eql 39 (Value.func f a b) Value.nilFunc) w=.ok (.bool false) w:=by
 have hu:=Tryd.underlying39
 have he:∀n,(Op.equalIn (n+1) 39 (Value.func f a b) Value.nilFunc).run Tryd.prog w=.ok false w:=fun n=>by
  simp[Op.equalIn,run_underlying hu]
 have he':(Op.equalIn Op.maxDepth 39 (Value.func f a b) Value.nilFunc).run Tryd.prog w=.ok false w:=by
  obtain⟨m,hm⟩:∃m,Op.maxDepth=m+1:=⟨_,rfl⟩;rw[hm];exact he m
 simp[binOp,Op.equal,he']
theorem parse_call (S:Sound cfg3 I B0){s:List UInt8}{W:World}(hI:I W)(hB:B0≤W.heap.size):
  CallsIn Fence.wide 0 Tryd.prog 8 #[.string ⟨s.toArray⟩] W fun e w'=>∃n,e=.returned (.tuple #[n,.int .i64 (parseA s),.int .i64 (parseE s)])∧Below W.heap.size W w'∧Rel (Go.Ai.start w') (.agg (encN (parseN s))) n:=by
 refine callsIn_wide.2 ((call_at (args:=[.string ⟨s.toArray⟩]) S c8p (by kernel_rfl) (by kernel_rfl) (vs:=[.str s]) (v:=.tup [.agg (encN (parseN s)),.int .i64 (parseA s),.int .i64 (parseE s)]) rfl (by simp[pureV,pureV.pureVs,pure_encN]) ⟨s,rfl,by rw[←encN_eq];exact⟨rfl,rfl⟩⟩ hI hB (fun g cs h=>by cases h) ⟨_,[],rfl,rfl,rfl⟩).mono ?_)
 rintro e w' ⟨c,rfl,hb,⟨a,rfl,n,r1,e1,q1,v2,r2,e2,q2,v3,r3,e3,q3,e4⟩⟩
 cases q2;cases q3
 obtain rfl:a= #[n,.int .i64 (parseA s),.int .i64 (parseE s)]:=by
  apply Array.toList_inj.1;rw[e1,e2,e3,e4]
 exact⟨n,rfl,hb,q1⟩
theorem parse_cases (s:List UInt8):(parseM s=.ok (parseN s)∧parseE s=0)∨(parseE s≠0∧parseN s=nd0∧0≤parseA s∧parseA s≤s.length):=by
 by_cases he:parseE s=0
 ·left;obtain⟨n',l,p,hn,hm,hl,hp⟩:=parse_has he;refine⟨?_,he⟩;unfold parseN;rw[hm];rfl
 ·right
  cases hm:parseM s with
  |ok n=>exact absurd (by unfold parseE;rw[hm];rfl) he
  |error x=>
   obtain⟨p,e⟩:=x;have hb:=bad_place hm
   have h1:parseN s=nd0:=by unfold parseN;rw[hm];rfl
   have h2:parseA s=p:=by unfold parseA;rw[hm];rfl
   exact⟨he,h1,by rw[h2];exact hb.1,by rw[h2];exact hb.2⟩
mutual
theorem pls_flat :∀n:Nd,plsN n=n.flat.map Nd.pl
 |.mk k p t al ks=>by simp only[plsN,Nd.flat,List.map_cons,Nd.pl,pls_flats ks]
theorem pls_flats :∀l:List Nd,plsL l=(Nd.flats l).map Nd.pl
 |[]=>rfl
 |n::r=>by simp only[plsL,Nd.flats,List.map_append,pls_flat n,pls_flats r]
end
def atBefore (n:Nd):Nat→Int
 |0=> -1
 |i+1=>((n.flat.map Nd.pl)[i]?).getD (-1)
theorem places_at {m:Int}:∀(l:List Int) (a:Int) (i:Nat) (x:Int),placesOk m a l→l[i]?=some x→¬(x<(if i=0 then a else(l[i-1]?).getD a))∧¬(x=(if i=0 then a else(l[i-1]?).getD a)∧x≠0)∧¬(m<x)
 |[],a,i,x,_,h=>by simp at h
 |y::l,a,0,x,⟨h1,h2,h3,h4⟩,h=>by
  simp at h;subst h;exact⟨h1,h2,h3⟩
 |y::l,a,i+1,x,⟨h1,h2,h3,h4⟩,h=>by
  have h:l[i]?=some x:=by simpa using h
  have:=places_at l y i x h4 h
  rw[if_neg (by omega)]
  cases i with
  |zero=>simpa using this
  |succ i=>
   rw[if_neg (by omega)] at this
   have hlt:i<l.length:=by have:=(List.getElem?_eq_some_iff.1 h).1;omega
   simp only[Nat.add_sub_cancel,List.getElem?_cons_succ] at this⊢;rw[List.getElem?_eq_getElem hlt] at this⊢;exact this
end
end Go.Proofs.YtopjpnhgnopbiaaDoor
end
section
namespace Go.Proofs.YtopjpnhgnopbiaaDoor
open Go.Ai Go Go.RowKit Go.Ai.Sp
set_option maxRecDepth 100000
attribute [local go_sem] Oper.semAt_some
def Blk1 (X:World)(b:Nat)(c:Array Value)(t:TypeId):Prop:=X.heap[b]?=some (.cells c t)
theorem Blk1.cell {X:World}{b:Nat}{c:Array Value}{t:TypeId}(h:Blk1 X b c t)(i:Nat)(hi:i<c.size):X.cell? ⟨b,i,none⟩=some c[i]∧X.frozen? ⟨b,i,none⟩=false:=by
 constructor<;>simp[World.cell?,World.frozen?,show X.heap[b]?=_ from h,hi]
theorem fin5 {W w:World}{ds:List Deferred}{tmps:Array Value}{x:Value}(hb:Below W.heap.size W w)(hr:Blk1 w (W.heap.size+1) #[x] 4)(hm:Marks (W.heap.size+2) w ds)(htm:tmps.getD 2 undef=.pointer (some ⟨W.heap.size+1,0,none⟩)):
  LeavesInM Fence.wide 0 Tryd.prog Tryd.f5 tmps (fun e W'=>e=.returned (.bool true)∧Below W.heap.size W W') ds .returning (w.setCell ⟨W.heap.size+1,0,none⟩ (.bool true)):=by
 have hlt:W.heap.size+1<w.heap.size:=(Array.getElem?_eq_some_iff.1 hr).1
 have hk:Kept (fun k=>k≠W.heap.size+1) w (w.setCell ⟨W.heap.size+1,0,none⟩ (.bool true)):=(Kept.refl _ _).setCell _ _ (.inl fun h=>h rfl)
 have hz:=hk.size
 refine leaves_marks (b:=W.heap.size+2) ds _ (by omega) (hm.kept (b0:=0) hk (fun k hk=>by omega)) fun w' hw=> ?_
 have hc:w'.cell? ⟨W.heap.size+1,0,none⟩=some (.bool true):=by
  rw[hw.cell (a:=⟨W.heap.size+1,0,none⟩) (by show W.heap.size+1<_;omega) (by show W.heap.size+1<_;omega)]
  exact World.cell?_setCell_same' _ _ _ (by rw[(hr.cell 0 (Nat.zero_lt_one)).1];rfl)
 exact⟨_,res_cell rfl _ _ _ _ .bool htm (by kernel_rfl) rfl hc,rfl,(hb.setCell (p:=⟨W.heap.size+1,0,none⟩) (by show W.heap.size≤W.heap.size+1;omega) _).trans (hw.below (by omega) (fun k hk=>by show k<_;omega))⟩
theorem rel_nd0 (X:World):Rel (Go.Ai.start X) (.agg (encN nd0)) (.agg #[.int .i64 0,.int .i64 0,.string ⟨#[]⟩,.slice none 0 0,.slice none 0 0]):=
 ⟨_,rfl,_,_,rfl,rfl,rfl,_,_,rfl,rfl,rfl,_,_,rfl,rfl,rfl,
  _,_,rfl,rfl,⟨⟨none,0,rfl,Nat.le_refl _,Nat.zero_le _,fun e he=>(by cases he),fun h=>absurd rfl h⟩,trivial⟩,
  _,_,rfl,rfl,⟨⟨none,0,rfl,Nat.le_refl _,Nat.zero_le _,fun e he=>(by cases he),fun h=>absurd rfl h⟩,trivial⟩,rfl⟩
theorem fit_nd0 :nd0.fit:=by
 rw[Nd.fit_eq]
 exact⟨Nat.zero_le _,Nat.zero_le _,fun a h=>(by cases h),Nat.zero_le _,trivial⟩
theorem rel_node {X:World}{nd:Nd}{n:Value}(h:Rel (Go.Ai.start X) (.agg (encN nd)) n):isNodeV n:=by
 obtain⟨T,rfl,hin,_⟩:=vt_of (S:=fun _=>True) (fun _ _=>trivial) nd n h
 exact in_node hin
set_option maxHeartbeats 4000000 in
theorem may_calls {I:World→Prop}{B0:Nat}(S:Sound cfg3 I B0){s:List UInt8}(hsl:s.length≤maxLen){W:World}(hI:I W)(hB:B0≤W.heap.size):
  CallsIn Fence.wide 0 Tryd.prog 5 #[.string ⟨s.toArray⟩] W fun e w'=>e=.returned (.bool true)∧Below W.heap.size W w':=by
 refine callsIn_of_wp_marks Tryd.func5 rfl trivial ?_;simp only[Tryd.ntmps5,List.size_toArray,List.length_cons,List.length_nil,Nat.reduceAdd,Nat.reduceSub,Array.replicate_succ,Array.replicate_zero,List.push_toArray,List.append_toArray,List.nil_append,List.cons_append];obtain⟨W1,hW1⟩:∃W1,W1=((W.alloc (Obj.cells #[.string ⟨s.toArray⟩] 9)).alloc (Obj.cells #[.bool false] 4)):=⟨_,rfl⟩
 have hb1:Below W.heap.size W W1:=by rw[hW1];exact((Below.refl _ _).alloc (Nat.le_refl _) _).alloc (by simp) _
 have hz1:W1.heap.size=W.heap.size+2:=by rw[hW1];simp
 have hs1:Blk1 W1 W.heap.size #[.string ⟨s.toArray⟩] 9:=by
  rw[hW1];exact(Below.heap_alloc _ _ _ (by simp)).trans (World.alloc_heap_new W _)
 have hr1:Blk1 W1 (W.heap.size+1) #[.bool false] 4:=by
  rw[hW1];have:=World.alloc_heap_new (W.alloc (Obj.cells #[.string ⟨s.toArray⟩] 9)) (Obj.cells #[.bool false] 4)
  rwa [World.size_alloc] at this
 have hIW:∀X,Below W.heap.size W X→I X:=fun X hX=>S.hI _ _ hI (hX.mono hB)
 have hlen:(ByteArray.size ⟨s.toArray⟩)=s.length:=by simp[ByteArray.size]
 by_cases hl:s.length>6000
 ·gi_wp2
  refine⟨trivial,rfl,?_⟩;rw[←hW1]
  refine(awake_call S (hIW _ hb1) (by omega)).mono ?_
  rintro e w3 ⟨rfl,hb3⟩
  have hr3:Blk1 w3 (W.heap.size+1) #[.bool false] 4:=(hb3.block _ (by omega)).trans hr1
  obtain⟨q0,q0'⟩:=hr3.cell 0 (by simp)
  simp only[List.getElem_toArray,List.getElem_cons_zero] at q0
  clear hW1
  gi_wp2
  exact fin5 (hb1.trans (hb3.mono (by omega))) hr3 trivial rfl
 ·gi_wp2
  refine⟨trivial,rfl,?_⟩;rw[←hW1]
  refine(parse_call S (hIW _ hb1) (by omega)).mono ?_
  rintro e w2 ⟨n,rfl,hb2,hrn⟩
  clear hW1
  have hbb2:Below W.heap.size W w2:=hb1.trans (hb2.mono (by omega))
  have hz2:=hb2.size
  have hr2:Blk1 w2 (W.heap.size+1) #[.bool false] 4:=(hb2.block _ (by omega)).trans hr1
  have hs2:Blk1 w2 W.heap.size #[.string ⟨s.toArray⟩] 9:=(hb2.block _ (by omega)).trans hs1
  obtain⟨x0,x1,x2,x3,B,bn,bc,rfl,e0,e1,e2,e3⟩:=rel_node hrn
  have s0:∀(a:Addr) (m:Mode) (W:World),Sem.run Tryd.prog (store a x0 m) W=stored Tryd.prog W a x0 m:=fun a m W=>run_store Tryd.prog W a x0 m e0
  have s1:∀(a:Addr) (m:Mode) (W:World),Sem.run Tryd.prog (store a x1 m) W=stored Tryd.prog W a x1 m:=fun a m W=>run_store Tryd.prog W a x1 m e1
  have s2:∀(a:Addr) (m:Mode) (W:World),Sem.run Tryd.prog (store a x2 m) W=stored Tryd.prog W a x2 m:=fun a m W=>run_store Tryd.prog W a x2 m e2
  have s3:∀(a:Addr) (m:Mode) (W:World),Sem.run Tryd.prog (store a x3 m) W=stored Tryd.prog W a x3 m:=fun a m W=>run_store Tryd.prog W a x3 m e3
  obtain⟨W3,hW3⟩:∃W3,W3=w2.alloc (Obj.cells #[x0,x1,x2,x3,.slice B bn bc] 28):=⟨_,rfl⟩
  have hk23:Kept (fun _=>True) w2 W3:=by rw[hW3];exact(Kept.refl _ _).alloc _
  have hz3:W3.heap.size=w2.heap.size+1:=by rw[hW3];simp
  have hn3:Blk1 W3 w2.heap.size #[x0,x1,x2,x3,.slice B bn bc] 28:=by rw[hW3];exact World.alloc_heap_new _ _
  have hr3:Blk1 W3 (W.heap.size+1) #[.bool false] 4:=(hk23.block _ (by omega) trivial).trans hr2
  have hs3:Blk1 W3 W.heap.size #[.string ⟨s.toArray⟩] 9:=(hk23.block _ (by omega) trivial).trans hs2
  have hb23:Below w2.heap.size w2 W3:=hk23.below (Nat.le_refl _) fun _ _=>trivial
  have hbb3:Below W.heap.size W W3:=hbb2.trans (hb23.mono (by omega))
  have hrn3:=rel_later (by simp[pureV,pure_encN]) hb23 hrn
  rcases parse_cases s with ⟨hok,he⟩|⟨he,hn0,ha0,ha1⟩
  ·rw[he];obtain⟨w4,hw4⟩:∃w4,w4=W3.alloc (Obj.cells #[Value.int IntKind.i64 (-1)] 3):=⟨_,rfl⟩
   have hk34:Kept (fun _=>True) W3 w4:=by rw[hw4];exact(Kept.refl _ _).alloc _
   have hz4:w4.heap.size=w2.heap.size+2:=by rw[hw4,World.size_alloc,hz3]
   have hn4:Blk1 w4 w2.heap.size #[x0,x1,x2,x3,.slice B bn bc] 28:=(hk34.block _ (by omega) trivial).trans hn3
   have hr4:Blk1 w4 (W.heap.size+1) #[.bool false] 4:=(hk34.block _ (by omega) trivial).trans hr3
   have hs4:Blk1 w4 W.heap.size #[.string ⟨s.toArray⟩] 9:=(hk34.block _ (by omega) trivial).trans hs3
   have hi4:Blk1 w4 (w2.heap.size+1) #[Value.int IntKind.i64 (-1)] 3:=by
    rw[hw4,←hz3];exact World.alloc_heap_new _ _
   gi_wp2
   refine⟨trivial,rfl,?_⟩;rw[←hW3,←hw4];refine(each_call _ _ _ _ _ _ _ rfl).mono ?_
   rintro e w5 ⟨rfl,hw5⟩
   have fnil:=func_nil (.func 20) #[] #[Value.pointer (some {block:=w2.heap.size+2,off:=0})] w5
   have hz5:w5.heap.size=w2.heap.size+3:=by rw[hw5,World.size_alloc,hz4]
   have hk45:Kept (fun _=>True) w4 w5:=by rw[hw5];exact(Kept.refl _ _).alloc _
   have hbx5:Blk1 w5 (w2.heap.size+2) #[x0,x1,x2,x3,.slice B bn bc] 28:=by
    rw[hw5,←hz4];exact World.alloc_heap_new _ _
   have hn5:Blk1 w5 w2.heap.size #[x0,x1,x2,x3,.slice B bn bc] 28:=(hk45.block _ (by omega) trivial).trans hn4
   have hr5:Blk1 w5 (W.heap.size+1) #[.bool false] 4:=(hk45.block _ (by omega) trivial).trans hr4
   have hs5:Blk1 w5 W.heap.size #[.string ⟨s.toArray⟩] 9:=(hk45.block _ (by omega) trivial).trans hs4
   have hi5:Blk1 w5 (w2.heap.size+1) #[Value.int IntKind.i64 (-1)] 3:=(hk45.block _ (by omega) trivial).trans hi4
   have hk25:Kept (fun _=>True) w2 w5:=hk23.trans (hk34.trans hk45)
   clear hw4 hw5 hW3 s0 s1 s2 s3
   rw[hz4]
   gi_wp2
   clear fnil
   obtain⟨T,hTv,hTin,hmt⟩:=vt_of (S:=fun k=>k<w2.heap.size) (fun _ h=>h) (parseN s) _ hrn
   have hall:=mt_flat hmt;have hpl:=may_places hok;rw[pls_flat] at hpl
   refine wp_rangeSeq (S:=fun k=>k≠w2.heap.size+1∧k≠W.heap.size+1) (T:=T.flat) (gf:=20) (lb:= #[.pointer (some ⟨w2.heap.size+2,0,none⟩)]) rfl (enters_of Tryd.func20 (by kernel_rfl) rfl) (fun k hk=>⟨by omega,by omega⟩) ?seq
    (fun xs X=>Blk1 X (w2.heap.size+1) #[.int .i64 (atBefore (parseN s) xs.length)] 3∧Blk1 X (W.heap.size+1) #[.bool false] 4)
    (fun c xs X=>False)
    (fun s=>Abide.and (Abide.obj (by omega)) (Abide.obj (by omega))) (fun c s _ _ h _ _=>h) ?j0 ?rnd ?done ?stop
   case j0=>exact⟨hi5,hr5⟩
   case seq=>
    intro W6 hk6 hz6
    refine each_seq T _ W6 (w2.heap.size+2) (fun j hj=> ?_) ⟨⟨by omega,by omega⟩,by omega⟩ (by omega) ?_
    ·rw[Addr.add_lit,Nat.zero_add,hk6.cell (a:=⟨w2.heap.size+2,j,none⟩) (by show w2.heap.size+2<_;omega) trivial,hTv]
     rw[(hbx5.cell j hj).1];exact(List.getElem?_eq_getElem (l:=[x0,x1,x2,x3,.slice B bn bc]) hj).symm
    ·exact((VT.In.ne hr2 hTin).keep ((hk25.trans hk6).mono fun _ _ _=>trivial)).sub fun k _ hs=>⟨⟨by have hs:k<w2.heap.size:=hs.1;omega,hs.2⟩,by have hs:k<w2.heap.size:=hs.1;omega⟩
   case rnd=>
    intro l2 pre x X ⟨hiX,hrX⟩ hkX hsX hpre;have hget:=prefix_get hpre
    have hlt:pre.length<(parseN s).flat.length:=by rw[(all2_get hall).1];exact(List.getElem?_eq_some_iff.1 hget).1
    have hge:(parseN s).flat[pre.length]?=some (parseN s).flat[pre.length]:=List.getElem?_eq_getElem hlt;generalize (parseN s).flat[pre.length]=ni at hge;have hrx:=(all2_get hall).2 pre.length ni x hge hget
    have hpg:((parseN s).flat.map Nd.pl)[pre.length]?=some ni.pl:=by rw[List.getElem?_map,hge];rfl
    have hpa:=places_at _ _ pre.length ni.pl hpl hpg
    have hbef:(if pre.length=0 then(-1:Int) else(((parseN s).flat.map Nd.pl)[pre.length-1]?).getD (-1))=atBefore (parseN s) pre.length:=by
     cases pre.length with
     |zero=>rfl
     |succ i=>rw[if_neg (by omega)];rfl
    rw[hbef] at hpa
    have hnext:atBefore (parseN s) (pre.length+1)=ni.pl:=by simp only[atBefore,hpg,Option.getD_some]
    generalize atBefore (parseN s) pre.length=pa at hiX hpa;generalize hpn:ni.pl=pn at hpa hnext;obtain⟨y0,y1,y2,y3,B',n',c',rfl,f0,f1,f2,f3⟩:=flat_agg hTin x (pre_mem hpre)
    obtain rfl:y1=.int .i64 pn:=by
     obtain⟨k,p,t,al,ks⟩:=ni;obtain⟨a,ha,v0,r0,k0,_,_,v1,r1,k1,_,q1,_⟩:=hrx
     injection ha with ha
     subst ha;simp only at k0
     injection k0 with k0 k0'
     rw[k1] at k0'
     injection k0' with k0' _
     rw[k0',←hpn];exact q1
    have s0:∀(a:Addr) (m:Mode) (W:World),Sem.run Tryd.prog (store a y0 m) W=stored Tryd.prog W a y0 m:=fun a m W=>run_store Tryd.prog W a y0 m f0
    have s2:∀(a:Addr) (m:Mode) (W:World),Sem.run Tryd.prog (store a y2 m) W=stored Tryd.prog W a y2 m:=fun a m W=>run_store Tryd.prog W a y2 m f2
    have s3:∀(a:Addr) (m:Mode) (W:World),Sem.run Tryd.prog (store a y3 m) W=stored Tryd.prog W a y3 m:=fun a m W=>run_store Tryd.prog W a y3 m f3
    simp only[Array.zip_eq_zipWith,List.zipWith_toArray,List.zipWith_cons_cons,List.zipWith_nil_left,List.zipWith_nil_right,List.foldl_toArray,List.foldl_cons,List.foldl_nil,List.setIfInBounds_toArray,List.set_cons_succ,List.set_cons_zero]
    gi_wp2
    clear s0 s2 s3
    have hkA:Kept (fun _=>True) X (X.alloc (Obj.cells #[y0,.int .i64 pn,y2,y3,Value.slice B' n' c'] 28)):=(Kept.refl _ _).alloc _
    refine⟨hkA.mono fun _ _ _=>trivial,fun X2 hk3=> ?_⟩
    have hzA:(X.alloc (Obj.cells #[y0,.int .i64 pn,y2,y3,Value.slice B' n' c'] 28)).heap.size=X.heap.size+1:=by simp
    have hn:=World.alloc_heap_new X (Obj.cells #[y0,.int .i64 pn,y2,y3,Value.slice B' n' c'] 28)
    have hx2:Blk1 X2 X.heap.size #[y0,.int .i64 pn,y2,y3,Value.slice B' n' c'] 28:=(hk3.block X.heap.size (by omega) (by omega)).trans hn
    have hsX2:=hk3.size
    have old:∀(b:Nat) c ty,b<w5.heap.size→Blk1 X b c ty→Blk1 X2 b c ty:=fun b c ty hb h=>(hk3.block b (by omega) (by omega)).trans ((hkA.block b (by omega) trivial).trans h)
    have hi2:=old _ _ _ (by omega) hiX
    have hr2':=old _ _ _ (by omega) hrX
    have hs2':=old _ _ _ (by omega) ((hkX.block W.heap.size (by omega) ⟨by omega,by omega⟩).trans hs5)
    obtain⟨qi,qi'⟩:=hi2.cell 0 (by simp)
    have qs:=(hs2'.cell 0 (by simp)).1
    have qx:=(hx2.cell 1 (by simp)).1
    simp only[List.getElem_toArray,List.getElem_cons_zero,List.getElem_cons_succ] at qi qs qx;have hset:Blk1 (X2.setCell ⟨w2.heap.size+1,0,none⟩ (.int .i64 pn)) (w2.heap.size+1) #[.int .i64 pn] 3:=Boxed.set (t:=3) _ hi2
    have hset2:Blk1 (X2.setCell ⟨w2.heap.size+1,0,none⟩ (.int .i64 pn)) (W.heap.size+1) #[.bool false] 4:=(Below.heap_setCell _ _ _ _ (by show W.heap.size+1≠w2.heap.size+1;omega)).trans hr2'
    have hset3:Kept (fun k=>k≠w2.heap.size+1∧k≠W.heap.size+1) X2 (X2.setCell ⟨w2.heap.size+1,0,none⟩ (.int .i64 pn)):=(Kept.refl _ _).setCell _ _ (.inl fun h=>h.1 rfl)
    have hpl1:∀v:Value,(pre++[v]).length=pre.length+1:=fun v=>by simp
    obtain⟨g1,g2,g3⟩:=hpa
    clear hk3 hkA hn old hsl hpl hall hrx hpg hge hbef hiX hrX hkX hsX
    have d1:decide (pn<pa)=false:=by simpa using g1
    have d3:decide ((s.length:Int)<pn)=false:=by simpa using g3
    by_cases hpe:pn=pa
    ·obtain rfl:pn=0:=Classical.byContradiction fun h=>g2 ⟨hpe,h⟩
     subst hpe
     gi_wp2
     exact⟨hset3,by rw[hpl1,hnext];exact hset,hset2⟩
    ·have d2:(pn==pa)=false:=by simpa using hpe
     gi_wp2
     exact⟨hset3,by rw[hpl1,hnext];exact hset,hset2⟩
   case done=>
    rintro D X hD ⟨hiX,hrX⟩ hkX hdef
    have hzX:=hkX.size
    have hnX:Blk1 X w2.heap.size #[x0,x1,x2,x3,.slice B bn bc] 28:=(hkX.block _ (by omega) ⟨by omega,by omega⟩).trans hn5
    have n0:=(hnX.cell 0 (by simp)).1
    have n1:=(hnX.cell 1 (by simp)).1
    have n2:=(hnX.cell 2 (by simp)).1
    have n3:=(hnX.cell 3 (by simp)).1
    have n4:=(hnX.cell 4 (by simp)).1
    simp only[List.getElem_toArray,List.getElem_cons_zero,List.getElem_cons_succ] at n0 n1 n2 n3 n4
    have hb2X:Below w2.heap.size w2 X:=by
     have h1:Kept (fun k=>k≠w2.heap.size+1∧k≠W.heap.size+1) w2 X:=(hk25.mono fun _ _ _=>trivial).trans hkX
     refine⟨h1.os,h1.tape,h1.output,h1.size,fun k hk=> ?_⟩
     by_cases hk2:k=W.heap.size+1
     ·subst hk2;exact hrX.trans hr2.symm
     ·exact h1.block k hk ⟨by omega,hk2⟩
    have hbX:Below W.heap.size W X:=hbb2.trans (hb2X.mono (by omega))
    have hrn':=rel_later (by simp[pureV,pure_encN]) hb2X hrn
    have hsm:=parse_small hok;have hpage:=may_page hok
    gi_wp2
    refine⟨trivial,rfl,?_⟩
    refine(check_call S (hIW _ hbX) (by omega) (smN_tfit (M:=2*s.length+1) (by unfold tlim;omega) _ hsm.2.1) (by omega) hrn').mono ?_
    rintro e X3 ⟨rfl,hb3⟩
    rw[hpage]
    clear n0 n1 n2 n3 n4
    have hDX:=(Array.getElem?_eq_some_iff.1 hdef).1
    have hbX3:Below W.heap.size W X3:=hbX.trans (hb3.mono (by omega))
    have hd3:=(hb3.block D hDX).trans hdef;have hz3X:=hb3.size
    have hr3X:Blk1 X3 (W.heap.size+1) #[.bool false] 4:=(hb3.block _ (by omega)).trans hrX
    gi_wp2
    refine⟨trivial,rfl,?_⟩
    refine(awake_call S (hIW _ hbX3) (by omega)).mono ?_
    rintro e X4 ⟨rfl,hb4⟩
    have hr4':Blk1 X4 (W.heap.size+1) #[.bool false] 4:=(hb4.block _ (by omega)).trans hr3X
    have hd4:=(hb4.block D (by omega)).trans hd3
    obtain⟨qr4,qr4'⟩:=hr4'.cell 0 (by simp)
    simp only[List.getElem_toArray,List.getElem_cons_zero] at qr4
    gi_wp2
    exact fin5 (hbX3.trans (hb4.mono (by omega))) hr4' ⟨⟨D,rfl,by omega,hd4,fun d' h=>by cases h⟩,trivial⟩ rfl
   case stop=>
    rintro D c pre X hD hpre hf hkX hdef
    exact hf.elim
  ·have hne:(parseE s !=0)=true:=by simpa using he
   gi_wp2
   refine⟨trivial,rfl,?_⟩;rw[←hW3]
   clear hW3
   rw[hn0] at hrn3
   refine(same_call S (hIW _ hbb3) (by omega) fit_nd0 hrn3 (rel_nd0 _)).mono ?_
   rintro e w4 ⟨rfl,hb4⟩
   have hr4:Blk1 w4 (W.heap.size+1) #[.bool false] 4:=(hb4.block _ (by omega)).trans hr3
   have hs4:Blk1 w4 W.heap.size #[.string ⟨s.toArray⟩] 9:=(hb4.block _ (by omega)).trans hs3
   have q1:=(hs4.cell 0 (by simp)).1
   simp only[List.getElem_toArray,List.getElem_cons_zero] at q1;have hz4:=hb4.size
   clear s0 s1 s2 s3
   have g0:(parseA s≥0):=ha0;have g1:(parseA s≤(s.length:Int)):=ha1
   gi_wp2
   refine⟨trivial,rfl,?_⟩
   have hbb4:Below W.heap.size W w4:=hbb3.trans (hb4.mono (by omega))
   refine(awake_call S (hIW _ hbb4) (by omega)).mono ?_
   rintro e X4 ⟨rfl,hb5⟩
   have hr4':Blk1 X4 (W.heap.size+1) #[.bool false] 4:=(hb5.block _ (by omega)).trans hr4
   obtain⟨qr4,qr4'⟩:=hr4'.cell 0 (by simp)
   simp only[List.getElem_toArray,List.getElem_cons_zero] at qr4
   clear q1
   gi_wp2
   exact fin5 (hbb4.trans (hb5.mono (by omega))) hr4' trivial rfl
end Go.Proofs.YtopjpnhgnopbiaaDoor
end
