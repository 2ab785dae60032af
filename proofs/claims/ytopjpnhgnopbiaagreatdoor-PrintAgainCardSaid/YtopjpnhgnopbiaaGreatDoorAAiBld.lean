/-
  strings.Builder's String, in the call's own memory.
-/
import Derived.Test.YtopjpnhgnopbiaaGreatDoorAAiTop
import Derived.Shelf.Strings.Builder1
set_option linter.unusedVariables false
set_option linter.unusedSimpArgs false
set_option linter.unnecessarySimpa false
namespace Go.Ai
open Go.RowKit Go.Shelf
section
variable {G:Nat->Option (List AV)}{I:World->Prop}{B0:Nat}{E:Env}
theorem NA (hI:∀w w',I w->Below B0 w w'->I w')(H:Good G I B0 E){w':World}{L n sz:Nat}{e:TypeId}(hL:E.h[L]?=some (.grow n sz e))
  (VV:w'.os=E.w.os) (TC:w'.tape=E.w.tape) (PH:w'.output=E.w.output) (bD:E.w.heap.size<=w'.heap.size) (DY:∀a v,E.w.cell? a=some v->w'.cell? a=some v)
  (GH:∀k,k<E.w.heap.size->E.σ L≠some k->w'.heap[k]?=E.w.heap[k]?) (oV:∀(k:Nat) (es:Array MapEntry) (c:Nat),E.w.heap[k]?=some (Obj.map es c)->w'.heap[k]?=some (Obj.map es c)):Step G I B0 E {E with w:=w',h:=E.h.set L .dead}:=by
 have hLl:L<E.h.length:=(List.getElem?_eq_some_iff.1 hL).1
 have hB:∀k,E.σ L=some k->E.B<=k:=fun k hk=>(H.lt hL (by simp) hk).1
 have SK:Below E.B E.w w':=⟨VV,TC,PH,bD,fun k hk=>GH k (Nat.lt_of_lt_of_le hk H.size) fun h=>by have:=hB k h;omega⟩
 have BM:∀(id:Nat) x g',id≠L->E.h[id]?=some x->x≠.dead->E.σ id=some g'->E.σ L≠some g':=fun id x g' hid hx hd hs h=>hid (H.inj id L x _ g' hx hL hd (by simp) hs h)
 have Lq:Le E {E with w:=w',h:=E.h.set L .dead}:=by
  refine⟨rfl,fun a v h s=>⟨DY a v h,s.1,fun id x hx hs=> ?_⟩,by simp,fun id t cs h=> ?_,fun id m EB e' hi h=> ?_,fun id s p h=> ?_,fun id n1 t1 H6 kc ke ksz rows hi h=> ?_,fun r es clock h=> ?_⟩
  rotate_left 4
  ·rcases AG h with ⟨rfl,h1,_⟩|⟨hid,h1⟩
   ·cases h1
   ·exact⟨n1,rows,h1,Nat.le_refl _,fun _=>⟨rfl,rfl,fun k m hk hz=>Jf.of (fun BC=>GH k BC (BM id _ k hid h1 (by simp) hk)) hz,Cu fun _ _ _ h=>h.kept rfl rfl (fun q y hq BC=>GH q BC (fun e=>Hd H hL (by simp) e q y hq rfl))⟩⟩
  ·exact oV r es clock h
  ·rcases AG hx with ⟨rfl,rfl,_⟩|⟨_,KW⟩
   ·exact .inl rfl
   ·exact s.2 id x KW hs
  ·have hid:id≠L:=by rintro rfl;rw[hL] at h;cases h
   exact⟨cs,by rw[List.getElem?_set_ne (fun e=>hid e.symm)];exact h,rfl,rfl⟩
  ·rcases AG h with ⟨rfl,h1,_⟩|⟨hid,h1⟩
   ·cases h1
   ·refine⟨m,h1,Nat.le_refl _,fun _=>⟨rfl,fun v xs hv Ar=>⟨hv.1,?_⟩⟩⟩
    rcases hv.2 with h2|⟨g,cap,cur,h2,h3,h4,h5⟩
    ·exact .inl h2
    ·have hσ:E.σ id=some g:=by rw[<-Ar,h2];rfl
     exact .inr ⟨g,cap,cur,h2,h3,(GH g (Array.getElem?_eq_some_iff.1 h4).1 (BM id _ g hid h1 (by simp) hσ)).trans h4,h5⟩
  ·have hid:id≠L:=by rintro rfl;rw[hL] at h;cases h
   exact⟨p,by rw[List.getElem?_set_ne (fun e=>hid e.symm)];exact h,rfl⟩
 refine⟨Lq,⟨fun id y hy=> ?_,fun i j x y g' hi hj hx hy D8 Fo=> ?_,fun k gs hk=>At.mono Lq _ _ (H.Fc k gs hk),H.U,VR H bD hL (by simp),Nat.le_trans H.size bD,H.B0,hI _ _ H.I (SK.mono H.B0)⟩,rfl,SK,Qc hL (by simp) (fun g hg hs=>GH g hg hs) (fun _ _ h=>by cases h)⟩
 ·rcases AG hy with ⟨rfl,rfl,_⟩|⟨hid,Fq⟩
  ·trivial
  ·have h:=H.Ld id y Fq
   cases y with
   |mem t es=>
    obtain⟨g',c',Mw,h1,h2,h3,h4,h5,h6⟩:=h
    have hb:w'.heap[g']?=E.w.heap[g']? :=GH g' (Array.getElem?_eq_some_iff.1 h3).1 (BM id _ g' hid Fq (by simp) h1)
    refine⟨g',c',Mw,h1,h2,hb.trans h3,h4,fun j hj=>(World.frozen?_of_block (a:=⟨g',j,none⟩) hb).trans (h5 j hj),fun j z hz=> ?_⟩
    obtain⟨v,k1,k2,k3⟩:=h6 j z hz;exact⟨v,k1,k2,Rel.mono Lq _ _ k3⟩
   |grow n sz e=>
    intro g' CY;exact⟨(h g' CY).1,Nat.lt_of_lt_of_le (h g' CY).2 bD⟩
   |dead=>trivial
   |iter s p=>
    obtain⟨g',h1,h2,h3⟩:=h
    exact⟨g',h1,h2,(GH g' (Array.getElem?_eq_some_iff.1 h3).1 (BM id _ g' hid Fq (by simp) h1)).trans h3⟩
   |Bi n1 t1 H6 kc ke ksz rows=>exact Ea.Bi Lq rfl rfl (fun k hk BC=>GH k BC (BM id _ k hid Fq (by simp) hk)) (fun _ _ _ h=>h.kept rfl rfl (fun q y hq BC=>GH q BC (fun e=>Hd H hL (by simp) e q y hq rfl))) h
 ·rcases AG hi with ⟨rfl,rfl,_⟩|⟨Nk,Ja⟩
  ·exact absurd rfl hx
  ·rcases AG hj with ⟨rfl,rfl,_⟩|⟨dJ,JO⟩
   ·exact absurd rfl hy
   ·exact H.inj i j x y g' Ja JO hx hy D8 Fo
end
section
open Go.Proofs
variable {P:Program}{ρ:Ren}
set_option maxHeartbeats 2000000 in
set_option maxRecDepth 100000 in
theorem jU (L:Lays.n169 P ρ)(X:Builder.Extra P ρ)(b g cap:Nat)(cur:Array Value)(l:List UInt8)(w:World)(h0:l≠[])(sq:l.length<=cap)(hm:cap<=maxLen)
  (bL:w.cell? ⟨b,1,none⟩=some (.slice (some ⟨g,0,none⟩) l.length cap)) (hg:w.heap[g]?=some (.cells cur (ρ.t 5) (0,0))) (Fu:l.length<=cur.size)
  (DY:∀j x,l[j]?=some x->w.cell? ((⟨g,0,none⟩:Addr).add j)=some (.int .u8 x.toNat)):
  Calls P (ρ.f 169) #[.pointer (some ⟨b,0,none⟩)] w fun e w'=>e=.returned (.string ⟨l.toArray⟩)/\w'=w.drew.freeze ⟨g,0,none⟩ l.length:=by
 have dI:l.length≠0:=by simpa using h0
 have c1:w.drew.cell? ⟨b,1,none⟩=some (.slice (some ⟨g,0,none⟩) l.length cap):=bL
 have xo:(Builtin.unsafeSliceData_ #[(ρ.t 37)] (ρ.t 127) #[.slice (some ⟨g,0,none⟩) l.length cap]).run P w.drew=.ok (.pointer (some ⟨g,0,none⟩)) w.drew:=
  Lib.run_unsafeSliceData_row _ _ _ _ _ _ (by omega)
 have xn:(Builtin.unsafeString_ #[(ρ.t 127),(ρ.t 3)] (ρ.t 9) #[.pointer (some ⟨g,0,none⟩),.int .i64 l.length]).run P w.drew=.ok (.string ⟨l.toArray⟩) (w.drew.freeze ⟨g,0,none⟩ l.length):=
  Lib.run_unsafeString_row w.drew (ρ.t 127) (ρ.t 3) (ρ.t 9) (ρ.t 5) L.t127 X.cellsByte g cur.size (by have CY:w.drew.heap[g]?=some (.cells cur (ρ.t 5) (0,0)):=hg;simp[World.shape?,CY]) l h0 Fu (by unfold maxLen at hm;omega) DY
 clear hm sq dI DY bL Fu
 have mixed:=L.mixed;have t72:=L.t72;have a72:=L.a72;have z72:=L.z72;have v72:=L.v72;have uN:=run_underlying L.t72;have t70:=L.t70;have a70:=L.a70;have z70:=L.z70;have v70:=L.v70;have uO:=run_underlying L.t70;have t37:=L.t37;have a37:=L.a37;have z37:=L.z37;have v37:=L.v37;have uP:=run_underlying L.t37;have t127:=L.t127;have a127:=L.a127;have z127:=L.z127;have v127:=L.v127;have ml:=run_underlying L.t127;have t3:=L.t3;have a3:=L.a3;have z3:=L.z3;have v3:=L.v3;have u3:=run_underlying L.t3;have t9:=L.t9;have a9:=L.a9;have z9:=L.z9;have v9:=L.v9;have u9:=run_underlying L.t9;have t5:=X.t5;have a5:=X.a5;have z5:=X.z5;have v5:=X.v5;have u5:=run_underlying X.t5
 go_enter L.f169,Body.n169_ntmps ρ
 go_wp2
 go_region_o
 all_goals (go_wp2;go_ret;exact⟨rfl,rfl⟩)
theorem N6 (L:Lays.n169 P ρ)(X:Builder.Extra P ρ)(W:World)(q:Option Addr):(Builtin.unsafeString_ #[(ρ.t 127),(ρ.t 3)] (ρ.t 9) #[.pointer q,.int .i64 0]).run P W=.ok (.string .empty) W:=
 Lib.run_unsafeString_none W _ _ _ q
set_option maxHeartbeats 2000000 in
set_option maxRecDepth 100000 in
theorem jV (L:Lays.n169 P ρ)(X:Builder.Extra P ρ)(b:Nat)(w:World)(bL:w.cell? ⟨b,1,none⟩=some (.slice none 0 0)):
  Calls P (ρ.f 169) #[.pointer (some ⟨b,0,none⟩)] w fun e w'=>e=.returned (.string ⟨#[]⟩)/\w'=w.drew:=by
 have xn:=N6 L X;have c1:w.drew.cell? ⟨b,1,none⟩=some (.slice none 0 0):=bL;have xo:(Builtin.unsafeSliceData_ #[(ρ.t 37)] (ρ.t 127) #[.slice none 0 0]).run P w.drew=.ok (.pointer none) w.drew:=rfl;have mixed:=L.mixed;have t72:=L.t72;have a72:=L.a72;have z72:=L.z72;have v72:=L.v72;have uN:=run_underlying L.t72;have t70:=L.t70;have a70:=L.a70;have z70:=L.z70;have v70:=L.v70;have uO:=run_underlying L.t70;have t37:=L.t37;have a37:=L.a37;have z37:=L.z37;have v37:=L.v37;have uP:=run_underlying L.t37;have t127:=L.t127;have a127:=L.a127;have z127:=L.z127;have v127:=L.v127;have ml:=run_underlying L.t127;have t3:=L.t3;have a3:=L.a3;have z3:=L.z3;have v3:=L.v3;have u3:=run_underlying L.t3;have t9:=L.t9;have a9:=L.a9;have z9:=L.z9;have v9:=L.v9;have u9:=run_underlying L.t9;have t5:=X.t5;have a5:=X.a5;have z5:=X.z5;have v5:=X.v5;have u5:=run_underlying X.t5
 go_enter L.f169,Body.n169_ntmps ρ
 go_wp2
 go_region_o
 all_goals (go_wp2;go_ret;exact⟨rfl,rfl⟩)
set_option maxHeartbeats 2000000 in
set_option maxRecDepth 100000 in
theorem dc (L:Lays.n169 P ρ)(X:Builder.Extra P ρ)(b g cap:Nat)(w:World)(mL:cap≠0)(bL:w.cell? ⟨b,1,none⟩=some (.slice (some ⟨g,0,none⟩) 0 cap)):
  Calls P (ρ.f 169) #[.pointer (some ⟨b,0,none⟩)] w fun e w'=>e=.returned (.string ⟨#[]⟩)/\w'=w.drew:=by
 have xn:=N6 L X;have c1:w.drew.cell? ⟨b,1,none⟩=some (.slice (some ⟨g,0,none⟩) 0 cap):=bL
 have xo:(Builtin.unsafeSliceData_ #[(ρ.t 37)] (ρ.t 127) #[.slice (some ⟨g,0,none⟩) 0 cap]).run P w.drew=.ok (.pointer (some ⟨g,0,none⟩)) w.drew:=
  Lib.run_unsafeSliceData_row _ _ _ _ _ _ mL
 clear mL
 have mixed:=L.mixed;have t72:=L.t72;have a72:=L.a72;have z72:=L.z72;have v72:=L.v72;have uN:=run_underlying L.t72;have t70:=L.t70;have a70:=L.a70;have z70:=L.z70;have v70:=L.v70;have uO:=run_underlying L.t70;have t37:=L.t37;have a37:=L.a37;have z37:=L.z37;have v37:=L.v37;have uP:=run_underlying L.t37;have t127:=L.t127;have a127:=L.a127;have z127:=L.z127;have v127:=L.v127;have ml:=run_underlying L.t127;have t3:=L.t3;have a3:=L.a3;have z3:=L.z3;have v3:=L.v3;have u3:=run_underlying L.t3;have t9:=L.t9;have a9:=L.a9;have z9:=L.z9;have v9:=L.v9;have u9:=run_underlying L.t9;have t5:=X.t5;have a5:=X.a5;have z5:=X.z5;have v5:=X.v5;have u5:=run_underlying X.t5
 go_enter L.f169,Body.n169_ntmps ρ
 go_wp2
 go_region_o
 all_goals (go_wp2;go_ret;exact⟨rfl,rfl⟩)
set_option maxHeartbeats 2000000 in
set_option maxRecDepth 100000 in
theorem XX (L:Lays.n169 P ρ)(X:Builder.Extra P ρ)(b g:Nat)(cur:Array Value)(w:World)(hb:b<w.heap.size)(bL:w.cell? ⟨b,1,none⟩=some (.slice (some ⟨g,0,none⟩) 0 0))
  (hg:w.heap[g]?=some (.cells cur (ρ.t 5) (0,0))):
  Calls P (ρ.f 169) #[.pointer (some ⟨b,0,none⟩)] w fun e w'=>e=.returned (.string ⟨#[]⟩)/\Below w.heap.size w w':=by
 have xn:=N6 L X;have c1:w.drew.cell? ⟨b,1,none⟩=some (.slice (some ⟨g,0,none⟩) 0 0):=bL
 have xo:(Builtin.unsafeSliceData_ #[(ρ.t 37)] (ρ.t 127) #[.slice (some ⟨g,0,none⟩) 0 0]).run P w.drew=.ok (.pointer (some ⟨w.drew.heap.size,0,none⟩)) (w.drew.alloc (.view ⟨g,0,none⟩ (ρ.t 5))):=
  Lib.run_unsafeSliceData_zero w.drew _ _ (ρ.t 5) L.t127 ⟨g,0,none⟩ 0 ((ρ.t 5),cur.size) (by have CY:w.drew.heap[g]?=some (.cells cur (ρ.t 5) (0,0)):=hg;simp[World.shape?,CY])
 have c2:(w.drew.alloc (.view ⟨g,0,none⟩ (ρ.t 5))).cell? ⟨b,1,none⟩=some (.slice (some ⟨g,0,none⟩) 0 0):=by
  have:(w.drew.alloc (.view ⟨g,0,none⟩ (ρ.t 5))).heap[b]?=w.drew.heap[b]? :=Lib.alloc_old w.drew _ b hb;simpa[World.cell?,this] using c1
 have c3:(w.alloc (.view ⟨g,0,none⟩ (ρ.t 5))).drew.cell? ⟨b,1,none⟩=some (.slice (some ⟨g,0,none⟩) 0 0):=c2;have c0:w.cell? ⟨b,1,none⟩=some (.slice (some ⟨g,0,none⟩) 0 0):=c1;have mixed:=L.mixed;have t72:=L.t72;have a72:=L.a72;have z72:=L.z72;have v72:=L.v72;have uN:=run_underlying L.t72;have t70:=L.t70;have a70:=L.a70;have z70:=L.z70;have v70:=L.v70;have uO:=run_underlying L.t70;have t37:=L.t37;have a37:=L.a37;have z37:=L.z37;have v37:=L.v37;have uP:=run_underlying L.t37;have t127:=L.t127;have a127:=L.a127;have z127:=L.z127;have v127:=L.v127;have ml:=run_underlying L.t127;have t3:=L.t3;have a3:=L.a3;have z3:=L.z3;have v3:=L.v3;have u3:=run_underlying L.t3;have t9:=L.t9;have a9:=L.a9;have z9:=L.z9;have v9:=L.v9;have u9:=run_underlying L.t9;have t5:=X.t5;have a5:=X.a5;have z5:=X.z5;have v5:=X.v5;have u5:=run_underlying X.t5
 go_enter L.f169,Body.n169_ntmps ρ
 go_wp2
 go_region_o
 all_goals (go_wp2;go_ret;exact⟨rfl,(Below.drew (Below.refl _ w)).alloc (Nat.le_refl _) _⟩)
end
theorem MR (w:World)(p:Addr)(n:Nat){k:Nat}(hk:k≠p.block):(w.freeze p n).heap[k]?=w.heap[k]? :=by
 unfold World.freeze;split
 ·rfl
 ·simp[Array.getElem?_modify,Ne.symm hk]
theorem XB (w:World)(p:Addr)(n:Nat)(a:Addr):(w.freeze p n).cell? a=w.cell? a:=by
 unfold World.freeze;split
 ·rfl
 ·unfold World.cell?;simp only[Array.getElem?_modify]
  by_cases h:p.block=a.block
  ·rw[if_pos h]
   cases w.heap[a.block]? with
   |none=>rfl
   |some o=>cases o<;>rfl
  ·rw[if_neg h]
def MD (e:TypeId):List AV->Hp->Option (AV×Hp)
 |[.ptr b 0],h=>match h[b]? with
  |some (.mem _ [_,.sl 1 es (some L)])=>
   match GK es,E7 h es.length 1 e (some L) with
   |some l,true=>some (.str l,h.set L .dead)
   |_,_=>none
  |_=>none
 |_,_=>none
section
open Go.Proofs
variable {P:Program}{ρ:Ren}{G:Nat->Option (List AV)}{I:World->Prop}{B0:Nat}
theorem YY (hI:∀w w',I w->Below B0 w w'->I w')(Ls:Lays.n169 P ρ)(X:Builder.Extra P ρ){vs:List AV}{h:Hp}{v:AV}{h':Hp}(hg:MD (ρ.t 5) vs h=some (v,h')){E:Env}{args:List Value}(hE:E.h=h)
  (H:Good G I B0 E) (hr:BT E vs args):Calls P (ρ.f 169) args.toArray E.w (Gj G I B0 E v h'):=by
 subst hE;unfold MD at hg;split at hg
 case h_2=>cases hg
 rename_i b;split at hg
 case h_2=>cases hg
 rename_i t0 a0 es L hb;split at hg
 case h_2=>cases hg
 rename_i l Xq Iz;simp only[Option.some.injEq,Prod.mk.injEq] at hg;obtain⟨rfl,rfl⟩:=hg;have RF:=Kg Xq;obtain⟨_,_,rfl,⟨_,cs,g,_,hσ,rfl⟩,rfl⟩:=hr
 simp only[E7] at Iz;split at Iz
 case h_2=>cases Iz
 rename_i m zq e2 hL;simp only[Bool.and_eq_true] at Iz;obtain⟨⟨q1,q2⟩,q3⟩:=Iz;have q1:=Nat.eq_of_beq_eq_true q1;have q2:=Nat.eq_of_beq_eq_true q2;have q3:=Nat.eq_of_beq_eq_true q3;subst q1;subst q2;subst q3
 obtain⟨g',c,fr,h1,h2,h3,h4,h5,h6⟩:=H.Ld b _ hb;rw[hσ] at h1
 injection h1 with h1
 subst h1;obtain⟨v1,k1,_,k3⟩:=h6 1 _ rfl
 have DY:E.w.cell? ⟨g,1,none⟩=some v1:=by simp[World.cell?,h3,k1]
 obtain⟨⟨A,cap,r1,r2,r3,r4,r5⟩,_,r7⟩:=k3;obtain⟨_,r8⟩:=r7 _ _ _ hL;obtain⟨_,⟨xs,Cc⟩,Ar⟩:=r8 rfl
 have hlen:es.length=l.length:=by rw[RF];simp
 have hgl:g<E.w.heap.size:=(Array.getElem?_eq_some_iff.1 h3).1
 have drew:∀B,Below B E.w E.w.drew:=fun B=>(Below.refl B E.w).drew
 have fin:∀w',Step G I B0 E {E with w:=w',h:=E.h.set L .dead}->Gj G I B0 E (.str l) (E.h.set L .dead) (.returned (.string ⟨l.toArray⟩)) w':=fun w' S=>
  ⟨_,{E with w:=w',h:=E.h.set L .dead},rfl,rfl,S,rfl,rfl⟩
 have same:Step G I B0 E {E with w:=E.w.drew,h:=E.h.set L .dead}:=
  NA hI H hL rfl rfl rfl (Nat.le_refl _) (fun a v hv=>hv) (fun k _ _=>rfl) (fun _ _ _ h=>h)
 rcases Cc.2 with ⟨hv,hn⟩|⟨g2,Zp,cur,hv,ky,Ph,kp,PL,Fu,Ic⟩
 ·
  have dI:l=[]:=List.eq_nil_of_length_eq_zero (by omega)
  subst dI;rw[hv] at DY
  refine(jV Ls X g E.w DY).mono fun e w' hp=> ?_
  obtain⟨rfl,rfl⟩:=hp;exact fin _ same
 ·rw[hv,hlen] at DY;rw[hv] at Ar
  by_cases dI:l=[]
  ·subst dI
   by_cases mL:Zp=0
   ·subst mL
    refine(XX Ls X g g2 cur E.w hgl DY Ph).mono fun e w' hp=> ?_
    obtain⟨rfl,SK⟩:=hp
    exact fin _ (NA hI H hL SK.os SK.tape SK.output SK.size (fun a v hv=>(SK.cell (World.block_lt_of_cell? _ _ hv)).trans hv) (fun k hk _=>SK.block k hk) (fun k _ _ h=>(SK.block k (Array.getElem?_eq_some_iff.1 h).1).trans h))
   ·refine(dc Ls X g g2 Zp E.w mL DY).mono fun e w' hp=> ?_
    obtain⟨rfl,rfl⟩:=hp;exact fin _ same
  ·have BM:es≠[]:=by rintro rfl;exact dI (List.eq_nil_of_length_eq_zero (by simpa using hlen.symm))
   obtain⟨ad,hA,BZ⟩:=r5 BM;rw[hv] at r1
   injection r1 with r1 _ _
   rw[hA] at r1
   injection r1 with r1
   subst r1
   have Gc:∀j x,l[j]?=some x->E.w.cell? ((⟨g2,0,none⟩:Addr).add j)=some (.int .u8 x.toNat):=by
    intro j x hj;rw[Rows.iff] at BZ
    have HU:es.flatten=l.map fun b=>AV.int .u8 (b.toNat:Int):=by
     rw[RF]
     clear hj RF Xq hlen DY dI fin hL Ic Cc hv BM BZ
     induction l with
     |nil=>rfl
     |cons b l ih=>simp[ih]
    rw[HU] at BZ
    obtain⟨u,p1,_,_,p4⟩:=At.iff.1 BZ j (.int .u8 (x.toNat:Int)) (by simp[hj])
    simp only[Rel] at p4;rw[p1,p4]
   refine(jU Ls X g g2 Zp cur l E.w dI (by omega) PL DY Ph (by rw[Fu];omega) Gc).mono fun e w' hp=> ?_
   obtain⟨rfl,rfl⟩:=hp;have wA:E.σ L=some g2:=Ar.symm
   refine fin _ (NA hI H hL ?_ ?_ ?_ ?_ (fun a v hv=> ?_) (fun k hk BM=> ?_) (fun k es c h=> ?_))
   ·unfold World.freeze;split<;>rfl
   ·unfold World.freeze;split<;>rfl
   ·unfold World.freeze;split<;>rfl
   ·unfold World.freeze;split<;>simp
   ·exact(XB _ _ _ _).trans hv
   ·exact MR _ _ _ (fun e=>BM (by rw[wA,e]))
   ·exact(MR _ _ _ (fun e=>by
     have e:k=g2:=by first|exact e|exact e.symm
     rw[e] at h;rw[h] at Ph
     cases Ph)).trans h
end
end Go.Ai
