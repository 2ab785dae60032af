/-
  More fuel changes no answer of the evaluator. No statement about the program is made here.
-/
import Derived.Test.YtopjpnhgnopbiaaGreatDoorLAiCtr
set_option linter.unusedVariables false
set_option linter.unusedSimpArgs false
set_option linter.unnecessarySimpa false
namespace Go.Ai
open Go.RowKit
section
variable {C:Bh}
theorem Mg {cl Ny:FuncId->List AV->Hp->Except (List Nat) (AV×Hp)}(hc:∀k l h r,cl k l h=.ok r->Ny k l h=.ok r){draw:Bool}{o:Oper}{F:Fr}{h:Hp}{r:(Bool×AV)×Hp}
  (hx:BB C cl draw o F h=.ok r):BB C Ny draw o F h=.ok r:=by
 unfold BB at hx;split at hx
 ·rename_i x args ts Bc;split at hx
  ·rename_i k first cap vs HB dK
   split at hx
   ·rename_i v hid hl;simp only[BB,Bc,HB,dK,hid,hl];exact hx
   ·cases hx
   ·rename_i hid
    cases Da:cl k (first++vs++cap) h with
    |error e=>rw[Da] at hx;cases hx
    |ok p=>
     rw[Da] at hx;simp only[BB,Bc,HB,dK,hid,hc _ _ _ _ Da];exact hx
  ·cases hx
 ·rename_i x args ts Bc;simp only[BB,Bc];exact hx
 ·rename_i Bc dR;unfold BB;split
  ·rename_i x args ts MK;exact(Bc x args ts MK).elim
  ·rename_i x args ts MK;exact(dR x args ts MK).elim
  ·exact hx
theorem LC {cl Ny:Bool->FuncId->List AV->Hp->Except (List Nat) (AV×Hp)}(hc:∀d k l h r,cl d k l h=.ok r->Ny d k l h=.ok r){ops:Array Oper}{draw:Bool}:∀(os:List Oper) {i:Nat} {F:Fr} {h:Hp} {r:Fr×Hp},
  C9 C cl ops draw i os F h=.ok r->C9 C Ny ops draw i os F h=.ok r
 |[],i,F,h,r,hx=>hx
 |o::os,i,F,h,r,hx=>by
  simp only[C9] at hx⊢
  cases hs:AW C (cl (A6 C ops draw i)) ops (A6 C ops draw i) o F h with
  |error e=>rw[hs] at hx;cases hx
  |ok p=>
   obtain⟨e,h'⟩:=p;rw[hs] at hx
   have:AW C (Ny (A6 C ops draw i)) ops (A6 C ops draw i) o F h=.ok (e,h'):=by
    unfold AW at hs
    cases hg:guardOf ops F o with
    |none=>rw[hg] at hs;cases hs
    |some b=>
     rw[hg] at hs
     cases b with
     |false=>simp only[AW,hg];exact hs
     |true=>
      cases F8:Ef C.P (A6 C ops draw i) ops o F h with
      |some r=>rw[F8] at hs;simp only[AW,hg,F8];exact hs
      |none=>rw[F8] at hs;simp only[AW,hg,F8];exact Mg (hc _) hs
   rw[this];simp only at hx⊢
   cases hm:EI C ops draw i F h h' with
   |false=>rw[hm] at hx;cases hx
   |true=>rw[hm] at hx;exact LC hc os hx
theorem J6 {cl Ny:Bool->FuncId->List AV->Hp->Except (List Nat) (AV×Hp)}(hc:∀d k l h r,cl d k l h=.ok r->Ny d k l h=.ok r){ops:Array Oper}{o:Oper}{F:Fr}{h:Hp}{r:(Bool×AV)×Hp}
  (hs:D6 C cl ops o F h=.ok r):D6 C Ny ops o F h=.ok r:=by
 unfold D6 AW at hs⊢
 cases hg:guardOf ops F o with
 |none=>rw[hg] at hs;cases hs
 |some b=>
  rw[hg] at hs
  cases b with
  |false=>exact hs
  |true=>
   simp only at hs⊢
   cases F8:Ef C.P (IV o) ops o F h with
   |some r=>rw[F8] at hs;exact hs
   |none=>rw[F8] at hs;exact Mg (hc _) hs
theorem Qg {cl Ny:Bool->FuncId->List AV->Hp->Except (List Nat) (AV×Hp)}(hc:∀d k l h r,cl d k l h=.ok r->Ny d k l h=.ok r){ops:Array Oper}:∀(os:List Oper) {F:Fr} {h:Hp} {r:Fr×Hp},
  NM C cl ops os F h=.ok r->NM C Ny ops os F h=.ok r
 |[],F,h,r,hx=>hx
 |o::os,F,h,r,hx=>by
  simp only[NM] at hx⊢
  cases hs:D6 C cl ops o F h with
  |error e=>rw[hs] at hx;cases hx
  |ok p=>
   rw[hs] at hx;rw[J6 hc hs];exact Qg hc os hx
theorem MZ {cl Ny:Bool->FuncId->List AV->Hp->Except (List Nat) (AV×Hp)}(hc:∀d k l h r,cl d k l h=.ok r->Ny d k l h=.ok r){ops:Array Oper}{Post:Fr->Hp->Prop}:∀(n:Nat) (l:List Nat) {F:Fr} {h:Hp},
  Nf C cl ops Post n l F h->Nf C Ny ops Post n l F h
 |0,_,_,_,hx=>hx
 |n+1,[],F,h,hx=>hx
 |n+1,k::l,F,h,hx=>by
  rcases hx with ⟨i,o,e,h1,h2,h3,h4,h5⟩|hx
  ·exact .inl ⟨i,o,e,h1,h2,h3,J6 hc h4,MZ hc n _ h5⟩
  ·refine .inr fun i hi hu=> ?_
   obtain⟨o,e,h1,k1,k2,k3,k4⟩:=hx i hi hu;exact⟨o,e,h1,k1,J6 hc k2,k3,MZ hc n _ k4⟩
theorem W6 {cl Ny:Bool->FuncId->List AV->Hp->Except (List Nat) (AV×Hp)}(hc:∀d k l h r,cl d k l h=.ok r->Ny d k l h=.ok r){ops:Array Oper}{F:Fr}{h:Hp}{r:Fr×Hp}
  (hx:Iv C cl ops F h=.ok r):Iv C Ny ops F h=.ok r:=by
 unfold Iv at hx⊢
 cases hr:NM C cl ops ops.toList F h with
 |error e=>rw[hr] at hx;cases hx
 |ok p=>
  obtain⟨G,h'⟩:=p;rw[hr] at hx;rw[Qg hc _ hr];simp only at hx⊢;split at hx
  ·rename_i hd;have dQ:=@of_decide_eq_true _ (Classical.propDecidable _) hd;rw[@decide_eq_true _ (Classical.propDecidable _) (MZ hc _ _ dQ)];exact hx
  ·cases hx
theorem Qf {cl Ny:FuncId->List AV->Hp->Except (List Nat) (AV×Hp)}(hc:∀k l h r,cl k l h=.ok r->Ny k l h=.ok r):∀(l:List AV) {h h':Hp},NL C cl l h=some h'->NL C Ny l h=some h'
 |[],h,h',hx=>hx
 |v::l,h,h',hx=>by
  cases v with
  |fn f first cap=>
   cases f with
   |func k=>
    simp only[NL] at hx;split at hx
    ·rename_i v1 h1 hg Da;simp only[NL,hg,hc _ _ _ _ Da];exact Qf hc l hx
    ·cases hx
   |_=>simp[NL] at hx
  |_=>simp[NL] at hx
theorem It {cl Ny:FuncId->List AV->Hp->Except (List Nat) (AV×Hp)}(hc:∀k l h r,cl k l h=.ok r->Ny k l h=.ok r){k:FuncId}{fn:Func}{F:Fr}{h:Hp}{r:AV×Hp}(hx:finish C cl k fn F h=some r):finish C Ny k fn F h=some r:=by
 unfold finish at hx⊢;split at hx
 ·rename_i hd;exact hx
 ·rename_i hd;split at hx
  ·rename_i b l hl;split at hx
   ·rename_i h2 hr;rw[Qf hc _ hr];exact hx
   ·cases hx
  ·cases hx
theorem Q8 :∀n,(∀f c F h r,exec C f n c F h=.ok r->exec C f (n+1) c F h=.ok r)/\(∀f c cur F h r,Dt C f n c cur F h=.ok r->Dt C f (n+1) c cur F h=.ok r)/\
    (∀draw k vs h r,call C draw n k vs h=.ok r->call C draw (n+1) k vs h=.ok r)
  | 0=>⟨fun f c F h r hx=>by simp[exec] at hx,fun f c cur F h r hx=>by simp[Dt] at hx,fun draw k vs h r hx=>by simp[call] at hx⟩
  | n+1=>by
    obtain⟨aD,u6,nn⟩:=Q8 n
    refine⟨fun f c F h r hx=> ?_,fun f c cur F h r hx=> ?_,fun draw k vs h r hx=> ?_⟩
    · cases c with
      | seq a b=>
        rw[exec] at hx⊢
        cases ha:exec C f n a F h with
        | error e=>rw[ha] at hx;cases hx
        | ok p=>
          obtain⟨x,F1,h1⟩:=p;rw[ha] at hx;rw[aD _ _ _ _ _ ha]
          cases x with
          | normal=>exact aD _ _ _ _ _ hx
          | _=>exact hx
      | cond y a b=>
        rw[exec] at hx;split at hx
        · rename_i hy;simp only[exec,hy];exact aD _ _ _ _ _ hx
        · rename_i hy;simp only[exec,hy];exact aD _ _ _ _ _ hx
        · cases hx
      | block id a=>
        rw[exec] at hx⊢
        cases ha:exec C f n a F h with
        | error e=>rw[ha] at hx;cases hx
        | ok p=>
          obtain⟨x,F1,h1⟩:=p;rw[ha] at hx;rw[aD _ _ _ _ _ ha];exact hx
      | loop a=>
        rw[exec] at hx⊢
        cases ha:exec C f n a F h with
        | error e=>rw[ha] at hx;cases hx
        | ok p=>
          obtain⟨x,F1,h1⟩:=p;rw[ha] at hx;rw[aD _ _ _ _ _ ha]
          cases x with
          | normal=>
            simp only at hx⊢
            cases ht:C.FD f with
            | true=>rw[ht] at hx;exact aD _ _ _ _ _ hx
            | false=>rw[ht] at hx;exact aD _ _ _ _ _ hx
          | _=>exact hx
      | scope a=>
        rw[exec] at hx⊢;exact u6 _ _ _ _ _ _ hx
      | region id ops draw=>
        rw[exec] at hx⊢
        cases CE:draw&&C.Gt f id with
        | true=>
          rw[CE] at hx;simp only at hx⊢
          cases ha:Iv C (fun d=>call C d n) ops ((C.live f id).map fun s=>(s,lk F s)) h with
          | error e=>rw[ha] at hx;cases hx
          | ok p=>
            obtain⟨F1,h1⟩:=p;rw[ha] at hx
            rw[W6 (fun d k l h r hk=>nn d k l h r hk) ha]
            exact hx
        | false=>
        rw[CE] at hx;simp only at hx⊢;split at hx
        · cases hx
        cases ha:C9 C (fun d=>call C d n) ops draw 0 ops.toList (IM (FJ ops draw) h.length ((C.live f id).map fun s=>(s,lk F s))) (P6 (FJ ops draw) h) with
        | error e=>rw[ha] at hx;cases hx
        | ok p=>
          obtain⟨F1,h1⟩:=p;rw[ha] at hx
          rw[LC (fun d k l h r hk=>nn d k l h r hk) _ ha]
          exact hx
      | _=>simpa only[exec] using hx
    · rw[Dt] at hx⊢
      cases ha:exec C f n cur F h with
      | error e=>rw[ha] at hx;cases hx
      | ok p=>
        obtain⟨x,F1,h1⟩:=p;rw[ha] at hx;rw[aD _ _ _ _ _ ha]
        cases x with
        | goto l=>
          simp only at hx⊢
          cases hf:findLabel c l with
          | none=>rw[hf] at hx;exact hx
          | some rest=>rw[hf] at hx;exact u6 _ _ _ _ _ _ hx
        | _=>exact hx
    · rw[call] at hx⊢
      cases BF:C.ok k with
      | false=>rw[BF] at hx;cases hx
      | true=>
        rw[BF] at hx;simp only[Bool.not_true,cond_false] at hx⊢;split at hx
        · exact hx
        · split at hx
          · exact hx
          · split at hx
            · cases hx
            · rename_i fn hf;split at hx
              · cases hx
              · rename_i c hb;split at hx
                · rename_i hh
                  cases draw with
                  | true=>cases hx
                  | false=>
                    simp only[cond_false] at hx⊢
                    cases jM:C.pre k with
                    | some m1=>
                      rw[jM] at hx;simp only at hx⊢;generalize Hn m1 h=m0 at hx⊢
                      cases gl:HO m0 h with
                      | false=>rw[gl] at hx;cases hx
                      | true=>
                        rw[gl] at hx;simp only at hx⊢
                        cases ha:exec C k n c (DE C k (AQ m0 [] vs)) ((h.take m0).map (AN m0 [])) with
                        | error e=>rw[ha] at hx;cases hx
                        | ok p=>
                          rw[ha] at hx;rw[aD _ _ _ _ _ ha];obtain⟨x,F1,h1⟩:=p
                          cases x<;>simp only at hx⊢
                          all_goals first
                            | (cases dn:finish C (call C false n) k fn F1 h1 with
                               | none=>rw[dn] at hx;cases hx
                               | some u=>
                                 rw[dn] at hx
                                 rw[It (fun k l h r hk=>nn false k l h r hk) dn]
                                 exact hx)
                            | cases hx
                    | none=>
                    rw[jM] at hx;simp only at hx⊢
                    cases ha:exec C k n c (DE C k vs) h with
                    | error e=>rw[ha] at hx;cases hx
                    | ok p=>
                      rw[ha] at hx;rw[aD _ _ _ _ _ ha];obtain⟨x,F1,h1⟩:=p
                      cases x<;>simp only at hx⊢
                      all_goals first
                        | (cases dn:finish C (call C false n) k fn F1 h1 with
                           | none=>rw[dn] at hx;cases hx
                           | some u=>
                             rw[dn] at hx
                             rw[It (fun k l h r hk=>nn false k l h r hk) dn]
                             exact hx)
                        | cases hx
                · rename_i hh
                  cases ha:exec C k n c (DE C k (AQ 0 [] vs)) [] with
                  | error e=>rw[ha] at hx;cases hx
                  | ok p=>
                    rw[ha] at hx;rw[aD _ _ _ _ _ ha];obtain⟨x,F1,h1⟩:=p
                    cases x<;>simp only at hx⊢
                    all_goals first
                      | (cases dn:finish C (call C false n) k fn F1 h1 with
                         | none=>rw[dn] at hx;cases hx
                         | some u=>
                           rw[dn] at hx
                           rw[It (fun k l h r hk=>nn false k l h r hk) dn]
                           exact hx)
                      | cases hx
theorem Zo {draw:Bool}{n:Nat}{k:FuncId}{vs:List AV}{h:Hp}{r:AV×Hp}(hx:call C draw n k vs h=.ok r):∀m,n<=m->call C draw m k vs h=.ok r:=by
 intro m hm
 induction m with
 |zero=>
  obtain rfl:n=0:=by omega
  exact hx
 |succ m ih=>
  by_cases h1:n<=m
  ·exact(Q8 m).2.2 _ _ _ _ _ (ih h1)
  ·obtain rfl:n=m+1:=by omega
   exact hx
theorem Zp {n:Nat}{k:FuncId}(hx:isTrue (call C false n k [] [])=true):∃h',Jp C false k [] [] (.bool true) h':=by
 unfold isTrue at hx;split at hx
 ·rename_i h' hc
  exact⟨h',n,fun m hm=>Zo hc m hm⟩
 ·cases hx
theorem ea {n:Nat}{k:FuncId}{fn:Func}(hp:BD C k fn)(hx:isTrue (call C false n k [] [])=true):CO C k (fun vs h K=>vs.isEmpty=true/\K (.bool true) h):=by
 intro l h K ht;obtain⟨ha,hk⟩:=ht;obtain⟨h1,h2,h3,h4,h5,h6⟩:=hp
 have hl:l=[]:=by
  have:B7 C k l=AQ 0 [] l:=by simp[B7,h2,h6]
  rw[this] at ha
  cases l with
  |nil=>rfl
  |cons a r=>simp[AQ] at ha
 subst hl;obtain⟨h',n0,hc⟩:=Zp hx
 refine⟨_,h,⟨n0+1,fun m hm=> ?_⟩,hk⟩
 have:=hc m (by omega)
 obtain⟨m,rfl⟩:∃j,m=j+1:=⟨m-1,by omega⟩
 rw[call] at this⊢;simp only[Bool.and_eq_true] at h1;simp only[h1.1,h2,h3,h4,Ed h5,h6,Bool.not_true,cond_false] at this⊢
 cases he:exec C k m (AD fn) (DE C k (AQ 0 [] [])) [] with
 |error e=>rw[he] at this;cases this
 |ok p=>
  obtain⟨x,F1,LY⟩:=p;rw[he] at this
  cases x with
  |ret=>
   simp only at this⊢
   cases hu:finish C (call C false m) k fn F1 LY with
   |none=>rw[hu] at this;cases this
   |some u=>
    obtain⟨u,yN⟩:=u;rw[hu] at this
    injection this with this
    injection this with this _
    simp only[this]
  |normal=>
   simp only at this⊢
   cases hu:finish C (call C false m) k fn F1 LY with
   |none=>rw[hu] at this;cases this
   |some u=>
    obtain⟨u,yN⟩:=u;rw[hu] at this
    injection this with this
    injection this with this _
    simp only[this]
  |_=>cases this
end
theorem AL {p q:Prop}(H:p)(e:q=p):q:=e.mpr H
end Go.Ai
