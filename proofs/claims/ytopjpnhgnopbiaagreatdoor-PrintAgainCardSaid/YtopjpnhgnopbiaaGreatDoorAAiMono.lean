/-
  More fuel changes no answer of the evaluator. No statement about the program is made here.
-/
import Derived.Test.YtopjpnhgnopbiaaGreatDoorAAiCtr
set_option linter.unusedVariables false
set_option linter.unusedSimpArgs false
set_option linter.unnecessarySimpa false
namespace Go.Ai
open Go.RowKit
section
variable {C:Bm}
theorem OH {cl Pn:FuncId->List AV->Hp->Except (List Nat) (AV×Hp)}(hc:∀k l h r,cl k l h=.ok r->Pn k l h=.ok r){draw:Bool}{o:Oper}{F:Fr}{h:Hp}{r:(Bool×AV)×Hp}
  (hx:BF C cl draw o F h=.ok r):BF C Pn draw o F h=.ok r:=by
 unfold BF at hx;split at hx
 ·rename_i x args ts Bo;split at hx
  ·rename_i k first cap vs IC hC
   split at hx
   ·rename_i v hid hl;simp only[BF,Bo,IC,hC,hid,hl];exact hx
   ·cases hx
   ·rename_i hid
    cases DS:cl k (first++vs++cap) h with
    |error e=>rw[DS] at hx;cases hx
    |ok p=>
     rw[DS] at hx;simp only[BF,Bo,IC,hC,hid,hc _ _ _ _ DS];exact hx
  ·cases hx
 ·rename_i x args ts Bo;simp only[BF,Bo];exact hx
 ·rename_i Bo iB;unfold BF;split
  ·rename_i x args ts Nj;exact(Bo x args ts Nj).elim
  ·rename_i x args ts Nj;exact(iB x args ts Nj).elim
  ·exact hx
theorem MW {cl Pn:Bool->FuncId->List AV->Hp->Except (List Nat) (AV×Hp)}(hc:∀d k l h r,cl d k l h=.ok r->Pn d k l h=.ok r){ops:Array Oper}{draw:Bool}:∀(os:List Oper) {i:Nat} {F:Fr} {h:Hp} {r:Fr×Hp},
  DI C cl ops draw i os F h=.ok r->DI C Pn ops draw i os F h=.ok r
 |[],i,F,h,r,hx=>hx
 |o::os,i,F,h,r,hx=>by
  simp only[DI] at hx⊢
  cases hs:AW C (cl (BB C ops draw i)) ops (BB C ops draw i) o F h with
  |error e=>rw[hs] at hx;cases hx
  |ok p=>
   obtain⟨e,h'⟩:=p;rw[hs] at hx
   have:AW C (Pn (BB C ops draw i)) ops (BB C ops draw i) o F h=.ok (e,h'):=by
    unfold AW at hs
    cases hg:guardOf ops F o with
    |none=>rw[hg] at hs;cases hs
    |some b=>
     rw[hg] at hs
     cases b with
     |false=>simp only[AW,hg];exact hs
     |true=>
      cases Gx:FL C.P (BB C ops draw i) ops o F h with
      |some r=>rw[Gx] at hs;simp only[AW,hg,Gx];exact hs
      |none=>rw[Gx] at hs;simp only[AW,hg,Gx];exact OH (hc _) hs
   rw[this];simp only at hx⊢
   cases hm:Ek C ops draw i F h h' with
   |false=>rw[hm] at hx;cases hx
   |true=>rw[hm] at hx;exact MW hc os hx
theorem LG {cl Pn:Bool->FuncId->List AV->Hp->Except (List Nat) (AV×Hp)}(hc:∀d k l h r,cl d k l h=.ok r->Pn d k l h=.ok r){ops:Array Oper}{o:Oper}{F:Fr}{h:Hp}{r:(Bool×AV)×Hp}
  (hs:EW C cl ops o F h=.ok r):EW C Pn ops o F h=.ok r:=by
 unfold EW AW at hs⊢
 cases hg:guardOf ops F o with
 |none=>rw[hg] at hs;cases hs
 |some b=>
  rw[hg] at hs
  cases b with
  |false=>exact hs
  |true=>
   simp only at hs⊢
   cases Gx:FL C.P (Je o) ops o F h with
   |some r=>rw[Gx] at hs;exact hs
   |none=>rw[Gx] at hs;exact OH (hc _) hs
theorem Sk {cl Pn:Bool->FuncId->List AV->Hp->Except (List Nat) (AV×Hp)}(hc:∀d k l h r,cl d k l h=.ok r->Pn d k l h=.ok r){ops:Array Oper}:∀(os:List Oper) {F:Fr} {h:Hp} {r:Fr×Hp},
  Oy C cl ops os F h=.ok r->Oy C Pn ops os F h=.ok r
 |[],F,h,r,hx=>hx
 |o::os,F,h,r,hx=>by
  simp only[Oy] at hx⊢
  cases hs:EW C cl ops o F h with
  |error e=>rw[hs] at hx;cases hx
  |ok p=>
   rw[hs] at hx;rw[LG hc hs];exact Sk hc os hx
theorem N9 {cl Pn:Bool->FuncId->List AV->Hp->Except (List Nat) (AV×Hp)}(hc:∀d k l h r,cl d k l h=.ok r->Pn d k l h=.ok r){ops:Array Oper}{Post:Fr->Hp->Prop}:∀(n:Nat) (l:List Nat) {F:Fr} {h:Hp},
  PR C cl ops Post n l F h->PR C Pn ops Post n l F h
 |0,_,_,_,hx=>hx
 |n+1,[],F,h,hx=>hx
 |n+1,k::l,F,h,hx=>by
  rcases hx with ⟨i,o,e,h1,h2,h3,h4,h5⟩|hx
  ·exact .inl ⟨i,o,e,h1,h2,h3,LG hc h4,N9 hc n _ h5⟩
  ·refine .inr fun i hi hu=> ?_
   obtain⟨o,e,h1,k1,k2,k3,k4⟩:=hx i hi hu;exact⟨o,e,h1,k1,LG hc k2,k3,N9 hc n _ k4⟩
theorem ZZ {cl Pn:Bool->FuncId->List AV->Hp->Except (List Nat) (AV×Hp)}(hc:∀d k l h r,cl d k l h=.ok r->Pn d k l h=.ok r){ops:Array Oper}{F:Fr}{h:Hp}{r:Fr×Hp}
  (hx:J9 C cl ops F h=.ok r):J9 C Pn ops F h=.ok r:=by
 unfold J9 at hx⊢
 cases hr:Oy C cl ops ops.toList F h with
 |error e=>rw[hr] at hx;cases hx
 |ok p=>
  obtain⟨G,h'⟩:=p;rw[hr] at hx;rw[Sk hc _ hr];simp only at hx⊢;split at hx
  ·rename_i hd;have iA:=@of_decide_eq_true _ (Classical.propDecidable _) hd;rw[@decide_eq_true _ (Classical.propDecidable _) (N9 hc _ _ iA)];exact hx
  ·cases hx
theorem Sj {cl Pn:FuncId->List AV->Hp->Except (List Nat) (AV×Hp)}(hc:∀k l h r,cl k l h=.ok r->Pn k l h=.ok r):∀(l:List AV) {h h':Hp},Ox C cl l h=some h'->Ox C Pn l h=some h'
 |[],h,h',hx=>hx
 |v::l,h,h',hx=>by
  cases v with
  |fn f first cap=>
   cases f with
   |func k=>
    simp only[Ox] at hx;split at hx
    ·rename_i v1 h1 hg DS;simp only[Ox,hg,hc _ _ _ _ DS];exact Sj hc l hx
    ·cases hx
   |_=>simp[Ox] at hx
  |_=>simp[Ox] at hx
theorem J8 {cl Pn:FuncId->List AV->Hp->Except (List Nat) (AV×Hp)}(hc:∀k l h r,cl k l h=.ok r->Pn k l h=.ok r){k:FuncId}{fn:Func}{F:Fr}{h:Hp}{r:AV×Hp}(hx:finish C cl k fn F h=some r):finish C Pn k fn F h=some r:=by
 unfold finish at hx⊢;split at hx
 ·rename_i hd;exact hx
 ·rename_i hd;split at hx
  ·rename_i b l hl;split at hx
   ·rename_i h2 hr;rw[Sj hc _ hr];exact hx
   ·cases hx
  ·cases hx
theorem TO :∀n,(∀f c F h r,exec C f n c F h=.ok r->exec C f (n+1) c F h=.ok r)/\(∀f c cur F h r,EM C f n c cur F h=.ok r->EM C f (n+1) c cur F h=.ok r)/\
    (∀draw k vs h r,call C draw n k vs h=.ok r->call C draw (n+1) k vs h=.ok r)
  | 0=>⟨fun f c F h r hx=>by simp[exec] at hx,fun f c cur F h r hx=>by simp[EM] at hx,fun draw k vs h r hx=>by simp[call] at hx⟩
  | n+1=>by
    obtain⟨eB,yg,rp⟩:=TO n
    refine⟨fun f c F h r hx=> ?_,fun f c cur F h r hx=> ?_,fun draw k vs h r hx=> ?_⟩
    · cases c with
      | seq a b=>
        rw[exec] at hx⊢
        cases ha:exec C f n a F h with
        | error e=>rw[ha] at hx;cases hx
        | ok p=>
          obtain⟨x,F1,h1⟩:=p;rw[ha] at hx;rw[eB _ _ _ _ _ ha]
          cases x with
          | normal=>exact eB _ _ _ _ _ hx
          | _=>exact hx
      | cond y a b=>
        rw[exec] at hx;split at hx
        · rename_i hy;simp only[exec,hy];exact eB _ _ _ _ _ hx
        · rename_i hy;simp only[exec,hy];exact eB _ _ _ _ _ hx
        · cases hx
      | block id a=>
        rw[exec] at hx⊢
        cases ha:exec C f n a F h with
        | error e=>rw[ha] at hx;cases hx
        | ok p=>
          obtain⟨x,F1,h1⟩:=p;rw[ha] at hx;rw[eB _ _ _ _ _ ha];exact hx
      | loop a=>
        rw[exec] at hx⊢
        cases ha:exec C f n a F h with
        | error e=>rw[ha] at hx;cases hx
        | ok p=>
          obtain⟨x,F1,h1⟩:=p;rw[ha] at hx;rw[eB _ _ _ _ _ ha]
          cases x with
          | normal=>
            simp only at hx⊢
            cases ht:C.Fv f with
            | true=>rw[ht] at hx;exact eB _ _ _ _ _ hx
            | false=>rw[ht] at hx;exact eB _ _ _ _ _ hx
          | _=>exact hx
      | scope a=>
        rw[exec] at hx⊢;exact yg _ _ _ _ _ _ hx
      | region id ops draw=>
        rw[exec] at hx⊢
        cases CG:draw&&C.Hk f id with
        | true=>
          rw[CG] at hx;simp only at hx⊢
          cases ha:J9 C (fun d=>call C d n) ops ((C.live f id).map fun s=>(s,lk F s)) h with
          | error e=>rw[ha] at hx;cases hx
          | ok p=>
            obtain⟨F1,h1⟩:=p;rw[ha] at hx
            rw[ZZ (fun d k l h r hk=>rp d k l h r hk) ha]
            exact hx
        | false=>
        rw[CG] at hx;simp only at hx⊢;split at hx
        · cases hx
        cases ha:DI C (fun d=>call C d n) ops draw 0 ops.toList (JW (GA ops draw) h.length ((C.live f id).map fun s=>(s,lk F s))) (Rz (GA ops draw) h) with
        | error e=>rw[ha] at hx;cases hx
        | ok p=>
          obtain⟨F1,h1⟩:=p;rw[ha] at hx
          rw[MW (fun d k l h r hk=>rp d k l h r hk) _ ha]
          exact hx
      | _=>simpa only[exec] using hx
    · rw[EM] at hx⊢
      cases ha:exec C f n cur F h with
      | error e=>rw[ha] at hx;cases hx
      | ok p=>
        obtain⟨x,F1,h1⟩:=p;rw[ha] at hx;rw[eB _ _ _ _ _ ha]
        cases x with
        | goto l=>
          simp only at hx⊢
          cases hf:findLabel c l with
          | none=>rw[hf] at hx;exact hx
          | some rest=>rw[hf] at hx;exact yg _ _ _ _ _ _ hx
        | _=>exact hx
    · rw[call] at hx⊢
      cases Bk:C.ok k with
      | false=>rw[Bk] at hx;cases hx
      | true=>
        rw[Bk] at hx;simp only[Bool.not_true,cond_false] at hx⊢;split at hx
        · exact hx
        · split at hx
          · exact hx
          · split at hx
            · cases hx
            · rename_i fn hf;split at hx
              · cases hx
              · rename_i c hb;split at hx
                · rename_i hh
                  cases draw with
                  | true=>cases hx
                  | false=>
                    simp only[cond_false] at hx⊢
                    cases mE:C.pre k with
                    | some m1=>
                      rw[mE] at hx;simp only at hx⊢;generalize O6 m1 h=m0 at hx⊢
                      cases kn:MB m0 h with
                      | false=>rw[kn] at hx;cases hx
                      | true=>
                        rw[kn] at hx;simp only at hx⊢
                        cases ha:exec C k n c (DL C k (AQ m0 [] vs)) ((h.take m0).map (AN m0 [])) with
                        | error e=>rw[ha] at hx;cases hx
                        | ok p=>
                          rw[ha] at hx;rw[eB _ _ _ _ _ ha];obtain⟨x,F1,h1⟩:=p
                          cases x<;>simp only at hx⊢
                          all_goals first
                            | (cases iT:finish C (call C false n) k fn F1 h1 with
                               | none=>rw[iT] at hx;cases hx
                               | some u=>
                                 rw[iT] at hx
                                 rw[J8 (fun k l h r hk=>rp false k l h r hk) iT]
                                 exact hx)
                            | cases hx
                    | none=>
                    rw[mE] at hx;simp only at hx⊢
                    cases ha:exec C k n c (DL C k vs) h with
                    | error e=>rw[ha] at hx;cases hx
                    | ok p=>
                      rw[ha] at hx;rw[eB _ _ _ _ _ ha];obtain⟨x,F1,h1⟩:=p
                      cases x<;>simp only at hx⊢
                      all_goals first
                        | (cases iT:finish C (call C false n) k fn F1 h1 with
                           | none=>rw[iT] at hx;cases hx
                           | some u=>
                             rw[iT] at hx
                             rw[J8 (fun k l h r hk=>rp false k l h r hk) iT]
                             exact hx)
                        | cases hx
                · rename_i hh
                  cases ha:exec C k n c (DL C k (AQ 0 [] vs)) [] with
                  | error e=>rw[ha] at hx;cases hx
                  | ok p=>
                    rw[ha] at hx;rw[eB _ _ _ _ _ ha];obtain⟨x,F1,h1⟩:=p
                    cases x<;>simp only at hx⊢
                    all_goals first
                      | (cases iT:finish C (call C false n) k fn F1 h1 with
                         | none=>rw[iT] at hx;cases hx
                         | some u=>
                           rw[iT] at hx
                           rw[J8 (fun k l h r hk=>rp false k l h r hk) iT]
                           exact hx)
                      | cases hx
theorem da {draw:Bool}{n:Nat}{k:FuncId}{vs:List AV}{h:Hp}{r:AV×Hp}(hx:call C draw n k vs h=.ok r):∀m,n<=m->call C draw m k vs h=.ok r:=by
 intro m hm
 induction m with
 |zero=>
  obtain rfl:n=0:=by omega
  exact hx
 |succ m ih=>
  by_cases h1:n<=m
  ·exact(TO m).2.2 _ _ _ _ _ (ih h1)
  ·obtain rfl:n=m+1:=by omega
   exact hx
theorem db {n:Nat}{k:FuncId}(hx:isTrue (call C false n k [] [])=true):∃h',K4 C false k [] [] (.bool true) h':=by
 unfold isTrue at hx;split at hx
 ·rename_i h' hc
  exact⟨h',n,fun m hm=>da hc m hm⟩
 ·cases hx
theorem jL {n:Nat}{k:FuncId}{fn:Func}(hp:BL C k fn)(hx:isTrue (call C false n k [] [])=true):CR C k (fun vs h K=>vs.isEmpty=true/\K (.bool true) h):=by
 intro l h K ht;obtain⟨ha,hk⟩:=ht;obtain⟨h1,h2,h3,h4,h5,h6⟩:=hp
 have hl:l=[]:=by
  have:B8 C k l=AQ 0 [] l:=by simp[B8,h2,h6]
  rw[this] at ha
  cases l with
  |nil=>rfl
  |cons a r=>simp[AQ] at ha
 subst hl;obtain⟨h',n0,hc⟩:=db hx
 refine⟨_,h,⟨n0+1,fun m hm=> ?_⟩,hk⟩
 have:=hc m (by omega)
 obtain⟨m,rfl⟩:∃j,m=j+1:=⟨m-1,by omega⟩
 rw[call] at this⊢;simp only[Bool.and_eq_true] at h1;simp only[h1.1,h2,h3,h4,GL h5,h6,Bool.not_true,cond_false] at this⊢
 cases he:exec C k m (AB fn) (DL C k (AQ 0 [] [])) [] with
 |error e=>rw[he] at this;cases this
 |ok p=>
  obtain⟨x,F1,Ll⟩:=p;rw[he] at this
  cases x with
  |ret=>
   simp only at this⊢
   cases hu:finish C (call C false m) k fn F1 Ll with
   |none=>rw[hu] at this;cases this
   |some u=>
    obtain⟨u,xy⟩:=u;rw[hu] at this
    injection this with this
    injection this with this _
    simp only[this]
  |normal=>
   simp only at this⊢
   cases hu:finish C (call C false m) k fn F1 Ll with
   |none=>rw[hu] at this;cases this
   |some u=>
    obtain⟨u,xy⟩:=u;rw[hu] at this
    injection this with this
    injection this with this _
    simp only[this]
  |_=>cases this
end
theorem Aj {p q:Prop}(H:p)(e:q=p):q:=e.mpr H
end Go.Ai
