/-
  More fuel changes no answer of the evaluator. No statement about the program is made here.
-/
import Derived.Test.YtopjpnhgnopbiaaGreatDoorAiCtr
set_option linter.unusedVariables false
set_option linter.unusedSimpArgs false
set_option linter.unnecessarySimpa false
namespace Go.Ai
open Go.RowKit
section
variable {C:Bm}
theorem OK {cl Pr:FuncId->List AV->Hp->Except (List Nat) (AV×Hp)}(hc:∀k l h r,cl k l h=.ok r->Pr k l h=.ok r){draw:Bool}{o:Oper}{F:Fr}{h:Hp}{r:(Bool×AV)×Hp}
  (hx:BF C cl draw o F h=.ok r):BF C Pr draw o F h=.ok r:=by
 unfold BF at hx;split at hx
 ·rename_i x args ts Bo;split at hx
  ·rename_i k first cap vs IE iK
   split at hx
   ·rename_i v hid hl;simp only[BF,Bo,IE,iK,hid,hl];exact hx
   ·cases hx
   ·rename_i hid
    cases DU:cl k (first++vs++cap) h with
    |error e=>rw[DU] at hx;cases hx
    |ok p=>
     rw[DU] at hx;simp only[BF,Bo,IE,iK,hid,hc _ _ _ _ DU];exact hx
  ·cases hx
 ·rename_i x args ts Bo;simp only[BF,Bo];exact hx
 ·rename_i Bo iR;unfold BF;split
  ·rename_i x args ts Np;exact(Bo x args ts Np).elim
  ·rename_i x args ts Np;exact(iR x args ts Np).elim
  ·exact hx
theorem Mb {cl Pr:Bool->FuncId->List AV->Hp->Except (List Nat) (AV×Hp)}(hc:∀d k l h r,cl d k l h=.ok r->Pr d k l h=.ok r){ops:Array Oper}{draw:Bool}:∀(os:List Oper) {i:Nat} {F:Fr} {h:Hp} {r:Fr×Hp},
  DJ C cl ops draw i os F h=.ok r->DJ C Pr ops draw i os F h=.ok r
 |[],i,F,h,r,hx=>hx
 |o::os,i,F,h,r,hx=>by
  simp only[DJ] at hx⊢
  cases hs:AW C (cl (BB C ops draw i)) ops (BB C ops draw i) o F h with
  |error e=>rw[hs] at hx;cases hx
  |ok p=>
   obtain⟨e,h'⟩:=p;rw[hs] at hx
   have:AW C (Pr (BB C ops draw i)) ops (BB C ops draw i) o F h=.ok (e,h'):=by
    unfold AW at hs
    cases hg:guardOf ops F o with
    |none=>rw[hg] at hs;cases hs
    |some b=>
     rw[hg] at hs
     cases b with
     |false=>simp only[AW,hg];exact hs
     |true=>
      cases G8:FO C.P (BB C ops draw i) ops o F h with
      |some r=>rw[G8] at hs;simp only[AW,hg,G8];exact hs
      |none=>rw[G8] at hs;simp only[AW,hg,G8];exact OK (hc _) hs
   rw[this];simp only at hx⊢
   cases hm:Ep C ops draw i F h h' with
   |false=>rw[hm] at hx;cases hx
   |true=>rw[hm] at hx;exact Mb hc os hx
theorem LK {cl Pr:Bool->FuncId->List AV->Hp->Except (List Nat) (AV×Hp)}(hc:∀d k l h r,cl d k l h=.ok r->Pr d k l h=.ok r){ops:Array Oper}{o:Oper}{F:Fr}{h:Hp}{r:(Bool×AV)×Hp}
  (hs:EZ C cl ops o F h=.ok r):EZ C Pr ops o F h=.ok r:=by
 unfold EZ AW at hs⊢
 cases hg:guardOf ops F o with
 |none=>rw[hg] at hs;cases hs
 |some b=>
  rw[hg] at hs
  cases b with
  |false=>exact hs
  |true=>
   simp only at hs⊢
   cases G8:FO C.P (Jh o) ops o F h with
   |some r=>rw[G8] at hs;exact hs
   |none=>rw[G8] at hs;exact OK (hc _) hs
theorem Sm {cl Pr:Bool->FuncId->List AV->Hp->Except (List Nat) (AV×Hp)}(hc:∀d k l h r,cl d k l h=.ok r->Pr d k l h=.ok r){ops:Array Oper}:∀(os:List Oper) {F:Fr} {h:Hp} {r:Fr×Hp},
  O8 C cl ops os F h=.ok r->O8 C Pr ops os F h=.ok r
 |[],F,h,r,hx=>hx
 |o::os,F,h,r,hx=>by
  simp only[O8] at hx⊢
  cases hs:EZ C cl ops o F h with
  |error e=>rw[hs] at hx;cases hx
  |ok p=>
   rw[hs] at hx;rw[LK hc hs];exact Sm hc os hx
theorem OD {cl Pr:Bool->FuncId->List AV->Hp->Except (List Nat) (AV×Hp)}(hc:∀d k l h r,cl d k l h=.ok r->Pr d k l h=.ok r){ops:Array Oper}{Post:Fr->Hp->Prop}:∀(n:Nat) (l:List Nat) {F:Fr} {h:Hp},
  PV C cl ops Post n l F h->PV C Pr ops Post n l F h
 |0,_,_,_,hx=>hx
 |n+1,[],F,h,hx=>hx
 |n+1,k::l,F,h,hx=>by
  rcases hx with ⟨i,o,e,h1,h2,h3,h4,h5⟩|hx
  ·exact .inl ⟨i,o,e,h1,h2,h3,LK hc h4,OD hc n _ h5⟩
  ·refine .inr fun i hi hu=> ?_
   obtain⟨o,e,h1,k1,k2,k3,k4⟩:=hx i hi hu;exact⟨o,e,h1,k1,LK hc k2,k3,OD hc n _ k4⟩
theorem Zf {cl Pr:Bool->FuncId->List AV->Hp->Except (List Nat) (AV×Hp)}(hc:∀d k l h r,cl d k l h=.ok r->Pr d k l h=.ok r){ops:Array Oper}{F:Fr}{h:Hp}{r:Fr×Hp}
  (hx:KC C cl ops F h=.ok r):KC C Pr ops F h=.ok r:=by
 unfold KC at hx⊢
 cases hr:O8 C cl ops ops.toList F h with
 |error e=>rw[hr] at hx;cases hx
 |ok p=>
  obtain⟨G,h'⟩:=p;rw[hr] at hx;rw[Sm hc _ hr];simp only at hx⊢;split at hx
  ·rename_i hd;have iQ:=@of_decide_eq_true _ (Classical.propDecidable _) hd;rw[@decide_eq_true _ (Classical.propDecidable _) (OD hc _ _ iQ)];exact hx
  ·cases hx
theorem Sl {cl Pr:FuncId->List AV->Hp->Except (List Nat) (AV×Hp)}(hc:∀k l h r,cl k l h=.ok r->Pr k l h=.ok r):∀(l:List AV) {h h':Hp},O7 C cl l h=some h'->O7 C Pr l h=some h'
 |[],h,h',hx=>hx
 |v::l,h,h',hx=>by
  cases v with
  |fn f first cap=>
   cases f with
   |func k=>
    simp only[O7] at hx;split at hx
    ·rename_i v1 h1 hg DU;simp only[O7,hg,hc _ _ _ _ DU];exact Sl hc l hx
    ·cases hx
   |_=>simp[O7] at hx
  |_=>simp[O7] at hx
theorem KB {cl Pr:FuncId->List AV->Hp->Except (List Nat) (AV×Hp)}(hc:∀k l h r,cl k l h=.ok r->Pr k l h=.ok r){k:FuncId}{fn:Func}{F:Fr}{h:Hp}{r:AV×Hp}(hx:finish C cl k fn F h=some r):finish C Pr k fn F h=some r:=by
 unfold finish at hx⊢;split at hx
 ·rename_i hd;exact hx
 ·rename_i hd;split at hx
  ·rename_i b l hl;split at hx
   ·rename_i h2 hr;rw[Sl hc _ hr];exact hx
   ·cases hx
  ·cases hx
theorem TP :∀n,(∀f c F h r,exec C f n c F h=.ok r->exec C f (n+1) c F h=.ok r)/\(∀f c cur F h r,ER C f n c cur F h=.ok r->ER C f (n+1) c cur F h=.ok r)/\
    (∀draw k vs h r,call C draw n k vs h=.ok r->call C draw (n+1) k vs h=.ok r)
  | 0=>⟨fun f c F h r hx=>by simp[exec] at hx,fun f c cur F h r hx=>by simp[ER] at hx,fun draw k vs h r hx=>by simp[call] at hx⟩
  | n+1=>by
    obtain⟨eI,yz,sF⟩:=TP n
    refine⟨fun f c F h r hx=> ?_,fun f c cur F h r hx=> ?_,fun draw k vs h r hx=> ?_⟩
    · cases c with
      | seq a b=>
        rw[exec] at hx⊢
        cases ha:exec C f n a F h with
        | error e=>rw[ha] at hx;cases hx
        | ok p=>
          obtain⟨x,F1,h1⟩:=p;rw[ha] at hx;rw[eI _ _ _ _ _ ha]
          cases x with
          | normal=>exact eI _ _ _ _ _ hx
          | _=>exact hx
      | cond y a b=>
        rw[exec] at hx;split at hx
        · rename_i hy;simp only[exec,hy];exact eI _ _ _ _ _ hx
        · rename_i hy;simp only[exec,hy];exact eI _ _ _ _ _ hx
        · cases hx
      | block id a=>
        rw[exec] at hx⊢
        cases ha:exec C f n a F h with
        | error e=>rw[ha] at hx;cases hx
        | ok p=>
          obtain⟨x,F1,h1⟩:=p;rw[ha] at hx;rw[eI _ _ _ _ _ ha];exact hx
      | loop a=>
        rw[exec] at hx⊢
        cases ha:exec C f n a F h with
        | error e=>rw[ha] at hx;cases hx
        | ok p=>
          obtain⟨x,F1,h1⟩:=p;rw[ha] at hx;rw[eI _ _ _ _ _ ha]
          cases x with
          | normal=>
            simp only at hx⊢
            cases ht:C.Fy f with
            | true=>rw[ht] at hx;exact eI _ _ _ _ _ hx
            | false=>rw[ht] at hx;exact eI _ _ _ _ _ hx
          | _=>exact hx
      | scope a=>
        rw[exec] at hx⊢;exact yz _ _ _ _ _ _ hx
      | region id ops draw=>
        rw[exec] at hx⊢
        cases CG:draw&&C.Ho f id with
        | true=>
          rw[CG] at hx;simp only at hx⊢
          cases ha:KC C (fun d=>call C d n) ops ((C.live f id).map fun s=>(s,lk F s)) h with
          | error e=>rw[ha] at hx;cases hx
          | ok p=>
            obtain⟨F1,h1⟩:=p;rw[ha] at hx
            rw[Zf (fun d k l h r hk=>sF d k l h r hk) ha]
            exact hx
        | false=>
        rw[CG] at hx;simp only at hx⊢;split at hx
        · cases hx
        cases ha:DJ C (fun d=>call C d n) ops draw 0 ops.toList (JZ (GD ops draw) h.length ((C.live f id).map fun s=>(s,lk F s))) (R7 (GD ops draw) h) with
        | error e=>rw[ha] at hx;cases hx
        | ok p=>
          obtain⟨F1,h1⟩:=p;rw[ha] at hx
          rw[Mb (fun d k l h r hk=>sF d k l h r hk) _ ha]
          exact hx
      | _=>simpa only[exec] using hx
    · rw[ER] at hx⊢
      cases ha:exec C f n cur F h with
      | error e=>rw[ha] at hx;cases hx
      | ok p=>
        obtain⟨x,F1,h1⟩:=p;rw[ha] at hx;rw[eI _ _ _ _ _ ha]
        cases x with
        | goto l=>
          simp only at hx⊢
          cases hf:findLabel c l with
          | none=>rw[hf] at hx;exact hx
          | some rest=>rw[hf] at hx;exact yz _ _ _ _ _ _ hx
        | _=>exact hx
    · rw[call] at hx⊢
      cases Bk:C.ok k with
      | false=>rw[Bk] at hx;cases hx
      | true=>
        rw[Bk] at hx;simp only[Bool.not_true,cond_false] at hx⊢;split at hx
        · exact hx
        · split at hx
          · exact hx
          · split at hx
            · cases hx
            · rename_i fn hf;split at hx
              · cases hx
              · rename_i c hb;split at hx
                · rename_i hh
                  cases draw with
                  | true=>cases hx
                  | false=>
                    simp only[cond_false] at hx⊢
                    cases mU:C.pre k with
                    | some m1=>
                      rw[mU] at hx;simp only at hx⊢;generalize PA m1 h=m0 at hx⊢
                      cases lF:MG m0 h with
                      | false=>rw[lF] at hx;cases hx
                      | true=>
                        rw[lF] at hx;simp only at hx⊢
                        cases ha:exec C k n c (DM C k (AQ m0 [] vs)) ((h.take m0).map (AO m0 [])) with
                        | error e=>rw[ha] at hx;cases hx
                        | ok p=>
                          rw[ha] at hx;rw[eI _ _ _ _ _ ha];obtain⟨x,F1,h1⟩:=p
                          cases x<;>simp only at hx⊢
                          all_goals first
                            | (cases im:finish C (call C false n) k fn F1 h1 with
                               | none=>rw[im] at hx;cases hx
                               | some u=>
                                 rw[im] at hx
                                 rw[KB (fun k l h r hk=>sF false k l h r hk) im]
                                 exact hx)
                            | cases hx
                    | none=>
                    rw[mU] at hx;simp only at hx⊢
                    cases ha:exec C k n c (DM C k vs) h with
                    | error e=>rw[ha] at hx;cases hx
                    | ok p=>
                      rw[ha] at hx;rw[eI _ _ _ _ _ ha];obtain⟨x,F1,h1⟩:=p
                      cases x<;>simp only at hx⊢
                      all_goals first
                        | (cases im:finish C (call C false n) k fn F1 h1 with
                           | none=>rw[im] at hx;cases hx
                           | some u=>
                             rw[im] at hx
                             rw[KB (fun k l h r hk=>sF false k l h r hk) im]
                             exact hx)
                        | cases hx
                · rename_i hh
                  cases ha:exec C k n c (DM C k (AQ 0 [] vs)) [] with
                  | error e=>rw[ha] at hx;cases hx
                  | ok p=>
                    rw[ha] at hx;rw[eI _ _ _ _ _ ha];obtain⟨x,F1,h1⟩:=p
                    cases x<;>simp only at hx⊢
                    all_goals first
                      | (cases im:finish C (call C false n) k fn F1 h1 with
                         | none=>rw[im] at hx;cases hx
                         | some u=>
                           rw[im] at hx
                           rw[KB (fun k l h r hk=>sF false k l h r hk) im]
                           exact hx)
                      | cases hx
theorem dj {draw:Bool}{n:Nat}{k:FuncId}{vs:List AV}{h:Hp}{r:AV×Hp}(hx:call C draw n k vs h=.ok r):∀m,n<=m->call C draw m k vs h=.ok r:=by
 intro m hm
 induction m with
 |zero=>
  obtain rfl:n=0:=by omega
  exact hx
 |succ m ih=>
  by_cases h1:n<=m
  ·exact(TP m).2.2 _ _ _ _ _ (ih h1)
  ·obtain rfl:n=m+1:=by omega
   exact hx
theorem dk {n:Nat}{k:FuncId}(hx:isTrue (call C false n k [] [])=true):∃h',K8 C false k [] [] (.bool true) h':=by
 unfold isTrue at hx;split at hx
 ·rename_i h' hc
  exact⟨h',n,fun m hm=>dj hc m hm⟩
 ·cases hx
theorem jZ {n:Nat}{k:FuncId}{fn:Func}(hp:BN C k fn)(hx:isTrue (call C false n k [] [])=true):CQ C k (fun vs h K=>vs.isEmpty=true/\K (.bool true) h):=by
 intro l h K ht;obtain⟨ha,hk⟩:=ht;obtain⟨h1,h2,h3,h4,h5,h6⟩:=hp
 have hl:l=[]:=by
  have:B8 C k l=AQ 0 [] l:=by simp[B8,h2,h6]
  rw[this] at ha
  cases l with
  |nil=>rfl
  |cons a r=>simp[AQ] at ha
 subst hl;obtain⟨h',n0,hc⟩:=dk hx
 refine⟨_,h,⟨n0+1,fun m hm=> ?_⟩,hk⟩
 have:=hc m (by omega)
 obtain⟨m,rfl⟩:∃j,m=j+1:=⟨m-1,by omega⟩
 rw[call] at this⊢;simp only[Bool.and_eq_true] at h1;simp only[h1.1,h2,h3,h4,GP h5,h6,Bool.not_true,cond_false] at this⊢
 cases he:exec C k m (AB fn) (DM C k (AQ 0 [] [])) [] with
 |error e=>rw[he] at this;cases this
 |ok p=>
  obtain⟨x,F1,Lp⟩:=p;rw[he] at this
  cases x with
  |ret=>
   simp only at this⊢
   cases hu:finish C (call C false m) k fn F1 Lp with
   |none=>rw[hu] at this;cases this
   |some u=>
    obtain⟨u,yN⟩:=u;rw[hu] at this
    injection this with this
    injection this with this _
    simp only[this]
  |normal=>
   simp only at this⊢
   cases hu:finish C (call C false m) k fn F1 Lp with
   |none=>rw[hu] at this;cases this
   |some u=>
    obtain⟨u,yN⟩:=u;rw[hu] at this
    injection this with this
    injection this with this _
    simp only[this]
  |_=>cases this
end
theorem Ak {p q:Prop}(H:p)(e:q=p):q:=e.mpr H
end Go.Ai
