/-
  More fuel changes no answer of the evaluator. No statement about the program is made here.
-/
import Derived.Test.YtopjpnhgnopbiaaGreatDoorTAiCtr
set_option linter.unusedVariables false
set_option linter.unusedSimpArgs false
set_option linter.unnecessarySimpa false
namespace Go.Ai
open Go.RowKit
section
variable {C:Bh}
theorem Mb {cl Ns:FuncId->List AV->Hp->Except (List Nat) (AV×Hp)}(hc:∀k l h r,cl k l h=.ok r->Ns k l h=.ok r){draw:Bool}{o:Oper}{F:Fr}{h:Hp}{r:(Bool×AV)×Hp}
  (hx:BA C cl draw o F h=.ok r):BA C Ns draw o F h=.ok r:=by
 unfold BA at hx;split at hx
 ·rename_i x args ts Bc;split at hx
  ·rename_i k first cap vs HA dE
   split at hx
   ·rename_i v hid hl;simp only[BA,Bc,HA,dE,hid,hl];exact hx
   ·cases hx
   ·rename_i hid
    cases DZ:cl k (first++vs++cap) h with
    |error e=>rw[DZ] at hx;cases hx
    |ok p=>
     rw[DZ] at hx;simp only[BA,Bc,HA,dE,hid,hc _ _ _ _ DZ];exact hx
  ·cases hx
 ·rename_i x args ts Bc;simp only[BA,Bc];exact hx
 ·rename_i Bc dK;unfold BA;split
  ·rename_i x args ts MF;exact(Bc x args ts MF).elim
  ·rename_i x args ts MF;exact(dK x args ts MF).elim
  ·exact hx
theorem K6 {cl Ns:Bool->FuncId->List AV->Hp->Except (List Nat) (AV×Hp)}(hc:∀d k l h r,cl d k l h=.ok r->Ns d k l h=.ok r){ops:Array Oper}{draw:Bool}:∀(os:List Oper) {i:Nat} {F:Fr} {h:Hp} {r:Fr×Hp},
  C9 C cl ops draw i os F h=.ok r->C9 C Ns ops draw i os F h=.ok r
 |[],i,F,h,r,hx=>hx
 |o::os,i,F,h,r,hx=>by
  simp only[C9] at hx⊢
  cases hs:AW C (cl (A6 C ops draw i)) ops (A6 C ops draw i) o F h with
  |error e=>rw[hs] at hx;cases hx
  |ok p=>
   obtain⟨e,h'⟩:=p;rw[hs] at hx
   have:AW C (Ns (A6 C ops draw i)) ops (A6 C ops draw i) o F h=.ok (e,h'):=by
    unfold AW at hs
    cases hg:guardOf ops F o with
    |none=>rw[hg] at hs;cases hs
    |some b=>
     rw[hg] at hs
     cases b with
     |false=>simp only[AW,hg];exact hs
     |true=>
      cases F6:Ef C.P (A6 C ops draw i) ops o F h with
      |some r=>rw[F6] at hs;simp only[AW,hg,F6];exact hs
      |none=>rw[F6] at hs;simp only[AW,hg,F6];exact Mb (hc _) hs
   rw[this];simp only at hx⊢
   cases hm:EH C ops draw i F h h' with
   |false=>rw[hm] at hx;cases hx
   |true=>rw[hm] at hx;exact K6 hc os hx
theorem Jy {cl Ns:Bool->FuncId->List AV->Hp->Except (List Nat) (AV×Hp)}(hc:∀d k l h r,cl d k l h=.ok r->Ns d k l h=.ok r){ops:Array Oper}{o:Oper}{F:Fr}{h:Hp}{r:(Bool×AV)×Hp}
  (hs:Dz C cl ops o F h=.ok r):Dz C Ns ops o F h=.ok r:=by
 unfold Dz AW at hs⊢
 cases hg:guardOf ops F o with
 |none=>rw[hg] at hs;cases hs
 |some b=>
  rw[hg] at hs
  cases b with
  |false=>exact hs
  |true=>
   simp only at hs⊢
   cases F6:Ef C.P (IS o) ops o F h with
   |some r=>rw[F6] at hs;exact hs
   |none=>rw[F6] at hs;exact Mb (hc _) hs
theorem Qb {cl Ns:Bool->FuncId->List AV->Hp->Except (List Nat) (AV×Hp)}(hc:∀d k l h r,cl d k l h=.ok r->Ns d k l h=.ok r){ops:Array Oper}:∀(os:List Oper) {F:Fr} {h:Hp} {r:Fr×Hp},
  NG C cl ops os F h=.ok r->NG C Ns ops os F h=.ok r
 |[],F,h,r,hx=>hx
 |o::os,F,h,r,hx=>by
  simp only[NG] at hx⊢
  cases hs:Dz C cl ops o F h with
  |error e=>rw[hs] at hx;cases hx
  |ok p=>
   rw[hs] at hx;rw[Jy hc hs];exact Qb hc os hx
theorem MU {cl Ns:Bool->FuncId->List AV->Hp->Except (List Nat) (AV×Hp)}(hc:∀d k l h r,cl d k l h=.ok r->Ns d k l h=.ok r){ops:Array Oper}{Post:Fr->Hp->Prop}:∀(n:Nat) (l:List Nat) {F:Fr} {h:Hp},
  NX C cl ops Post n l F h->NX C Ns ops Post n l F h
 |0,_,_,_,hx=>hx
 |n+1,[],F,h,hx=>hx
 |n+1,k::l,F,h,hx=>by
  rcases hx with ⟨i,o,e,h1,h2,h3,h4,h5⟩|hx
  ·exact .inl ⟨i,o,e,h1,h2,h3,Jy hc h4,MU hc n _ h5⟩
  ·refine .inr fun i hi hu=> ?_
   obtain⟨o,e,h1,k1,k2,k3,k4⟩:=hx i hi hu;exact⟨o,e,h1,k1,Jy hc k2,k3,MU hc n _ k4⟩
theorem Wv {cl Ns:Bool->FuncId->List AV->Hp->Except (List Nat) (AV×Hp)}(hc:∀d k l h r,cl d k l h=.ok r->Ns d k l h=.ok r){ops:Array Oper}{F:Fr}{h:Hp}{r:Fr×Hp}
  (hx:Is C cl ops F h=.ok r):Is C Ns ops F h=.ok r:=by
 unfold Is at hx⊢
 cases hr:NG C cl ops ops.toList F h with
 |error e=>rw[hr] at hx;cases hx
 |ok p=>
  obtain⟨G,h'⟩:=p;rw[hr] at hx;rw[Qb hc _ hr];simp only at hx⊢;split at hx
  ·rename_i hd;have dJ:=@of_decide_eq_true _ (Classical.propDecidable _) hd;rw[@decide_eq_true _ (Classical.propDecidable _) (MU hc _ _ dJ)];exact hx
  ·cases hx
theorem Qa {cl Ns:FuncId->List AV->Hp->Except (List Nat) (AV×Hp)}(hc:∀k l h r,cl k l h=.ok r->Ns k l h=.ok r):∀(l:List AV) {h h':Hp},NF C cl l h=some h'->NF C Ns l h=some h'
 |[],h,h',hx=>hx
 |v::l,h,h',hx=>by
  cases v with
  |fn f first cap=>
   cases f with
   |func k=>
    simp only[NF] at hx;split at hx
    ·rename_i v1 h1 hg DZ;simp only[NF,hg,hc _ _ _ _ DZ];exact Qa hc l hx
    ·cases hx
   |_=>simp[NF] at hx
  |_=>simp[NF] at hx
theorem Iq {cl Ns:FuncId->List AV->Hp->Except (List Nat) (AV×Hp)}(hc:∀k l h r,cl k l h=.ok r->Ns k l h=.ok r){k:FuncId}{fn:Func}{F:Fr}{h:Hp}{r:AV×Hp}(hx:finish C cl k fn F h=some r):finish C Ns k fn F h=some r:=by
 unfold finish at hx⊢;split at hx
 ·rename_i hd;exact hx
 ·rename_i hd;split at hx
  ·rename_i b l hl;split at hx
   ·rename_i h2 hr;rw[Qa hc _ hr];exact hx
   ·cases hx
  ·cases hx
theorem Qx :∀n,(∀f c F h r,exec C f n c F h=.ok r->exec C f (n+1) c F h=.ok r)/\(∀f c cur F h r,Ds C f n c cur F h=.ok r->Ds C f (n+1) c cur F h=.ok r)/\
    (∀draw k vs h r,call C draw n k vs h=.ok r->call C draw (n+1) k vs h=.ok r)
  | 0=>⟨fun f c F h r hx=>by simp[exec] at hx,fun f c cur F h r hx=>by simp[Ds] at hx,fun draw k vs h r hx=>by simp[call] at hx⟩
  | n+1=>by
    obtain⟨Z7,ui,nU⟩:=Qx n
    refine⟨fun f c F h r hx=> ?_,fun f c cur F h r hx=> ?_,fun draw k vs h r hx=> ?_⟩
    · cases c with
      | seq a b=>
        rw[exec] at hx⊢
        cases ha:exec C f n a F h with
        | error e=>rw[ha] at hx;cases hx
        | ok p=>
          obtain⟨x,F1,h1⟩:=p;rw[ha] at hx;rw[Z7 _ _ _ _ _ ha]
          cases x with
          | normal=>exact Z7 _ _ _ _ _ hx
          | _=>exact hx
      | cond y a b=>
        rw[exec] at hx;split at hx
        · rename_i hy;simp only[exec,hy];exact Z7 _ _ _ _ _ hx
        · rename_i hy;simp only[exec,hy];exact Z7 _ _ _ _ _ hx
        · cases hx
      | block id a=>
        rw[exec] at hx⊢
        cases ha:exec C f n a F h with
        | error e=>rw[ha] at hx;cases hx
        | ok p=>
          obtain⟨x,F1,h1⟩:=p;rw[ha] at hx;rw[Z7 _ _ _ _ _ ha];exact hx
      | loop a=>
        rw[exec] at hx⊢
        cases ha:exec C f n a F h with
        | error e=>rw[ha] at hx;cases hx
        | ok p=>
          obtain⟨x,F1,h1⟩:=p;rw[ha] at hx;rw[Z7 _ _ _ _ _ ha]
          cases x with
          | normal=>
            simp only at hx⊢
            cases ht:C.FB f with
            | true=>rw[ht] at hx;exact Z7 _ _ _ _ _ hx
            | false=>rw[ht] at hx;exact Z7 _ _ _ _ _ hx
          | _=>exact hx
      | scope a=>
        rw[exec] at hx⊢;exact ui _ _ _ _ _ _ hx
      | region id ops draw=>
        rw[exec] at hx⊢
        cases CE:draw&&C.Gq f id with
        | true=>
          rw[CE] at hx;simp only at hx⊢
          cases ha:Is C (fun d=>call C d n) ops ((C.live f id).map fun s=>(s,lk F s)) h with
          | error e=>rw[ha] at hx;cases hx
          | ok p=>
            obtain⟨F1,h1⟩:=p;rw[ha] at hx
            rw[Wv (fun d k l h r hk=>nU d k l h r hk) ha]
            exact hx
        | false=>
        rw[CE] at hx;simp only at hx⊢;split at hx
        · cases hx
        cases ha:C9 C (fun d=>call C d n) ops draw 0 ops.toList (IK (FH ops draw) h.length ((C.live f id).map fun s=>(s,lk F s))) (Pv (FH ops draw) h) with
        | error e=>rw[ha] at hx;cases hx
        | ok p=>
          obtain⟨F1,h1⟩:=p;rw[ha] at hx
          rw[K6 (fun d k l h r hk=>nU d k l h r hk) _ ha]
          exact hx
      | _=>simpa only[exec] using hx
    · rw[Ds] at hx⊢
      cases ha:exec C f n cur F h with
      | error e=>rw[ha] at hx;cases hx
      | ok p=>
        obtain⟨x,F1,h1⟩:=p;rw[ha] at hx;rw[Z7 _ _ _ _ _ ha]
        cases x with
        | goto l=>
          simp only at hx⊢
          cases hf:findLabel c l with
          | none=>rw[hf] at hx;exact hx
          | some rest=>rw[hf] at hx;exact ui _ _ _ _ _ _ hx
        | _=>exact hx
    · rw[call] at hx⊢
      cases BD:C.ok k with
      | false=>rw[BD] at hx;cases hx
      | true=>
        rw[BD] at hx;simp only[Bool.not_true,cond_false] at hx⊢;split at hx
        · exact hx
        · split at hx
          · exact hx
          · split at hx
            · cases hx
            · rename_i fn hf;split at hx
              · cases hx
              · rename_i c hb;split at hx
                · rename_i hh
                  cases draw with
                  | true=>cases hx
                  | false=>
                    simp only[cond_false] at hx⊢
                    cases jC:C.pre k with
                    | some m1=>
                      rw[jC] at hx;simp only at hx⊢;generalize Hm m1 h=m0 at hx⊢
                      cases gX:HN m0 h with
                      | false=>rw[gX] at hx;cases hx
                      | true=>
                        rw[gX] at hx;simp only at hx⊢
                        cases ha:exec C k n c (DD C k (AP m0 [] vs)) ((h.take m0).map (AL m0 [])) with
                        | error e=>rw[ha] at hx;cases hx
                        | ok p=>
                          rw[ha] at hx;rw[Z7 _ _ _ _ _ ha];obtain⟨x,F1,h1⟩:=p
                          cases x<;>simp only at hx⊢
                          all_goals first
                            | (cases df:finish C (call C false n) k fn F1 h1 with
                               | none=>rw[df] at hx;cases hx
                               | some u=>
                                 rw[df] at hx
                                 rw[Iq (fun k l h r hk=>nU false k l h r hk) df]
                                 exact hx)
                            | cases hx
                    | none=>
                    rw[jC] at hx;simp only at hx⊢
                    cases ha:exec C k n c (DD C k vs) h with
                    | error e=>rw[ha] at hx;cases hx
                    | ok p=>
                      rw[ha] at hx;rw[Z7 _ _ _ _ _ ha];obtain⟨x,F1,h1⟩:=p
                      cases x<;>simp only at hx⊢
                      all_goals first
                        | (cases df:finish C (call C false n) k fn F1 h1 with
                           | none=>rw[df] at hx;cases hx
                           | some u=>
                             rw[df] at hx
                             rw[Iq (fun k l h r hk=>nU false k l h r hk) df]
                             exact hx)
                        | cases hx
                · rename_i hh
                  cases ha:exec C k n c (DD C k (AP 0 [] vs)) [] with
                  | error e=>rw[ha] at hx;cases hx
                  | ok p=>
                    rw[ha] at hx;rw[Z7 _ _ _ _ _ ha];obtain⟨x,F1,h1⟩:=p
                    cases x<;>simp only at hx⊢
                    all_goals first
                      | (cases df:finish C (call C false n) k fn F1 h1 with
                         | none=>rw[df] at hx;cases hx
                         | some u=>
                           rw[df] at hx
                           rw[Iq (fun k l h r hk=>nU false k l h r hk) df]
                           exact hx)
                      | cases hx
theorem Zl {draw:Bool}{n:Nat}{k:FuncId}{vs:List AV}{h:Hp}{r:AV×Hp}(hx:call C draw n k vs h=.ok r):∀m,n<=m->call C draw m k vs h=.ok r:=by
 intro m hm
 induction m with
 |zero=>
  obtain rfl:n=0:=by omega
  exact hx
 |succ m ih=>
  by_cases h1:n<=m
  ·exact(Qx m).2.2 _ _ _ _ _ (ih h1)
  ·obtain rfl:n=m+1:=by omega
   exact hx
theorem Zm {n:Nat}{k:FuncId}(hx:isTrue (call C false n k [] [])=true):∃h',Jn C false k [] [] (.bool true) h':=by
 unfold isTrue at hx;split at hx
 ·rename_i h' hc
  exact⟨h',n,fun m hm=>Zl hc m hm⟩
 ·cases hx
theorem eU {n:Nat}{k:FuncId}{fn:Func}(hp:BE C k fn)(hx:isTrue (call C false n k [] [])=true):CP C k (fun vs h K=>vs.isEmpty=true/\K (.bool true) h):=by
 intro l h K ht;obtain⟨ha,hk⟩:=ht;obtain⟨h1,h2,h3,h4,h5,h6⟩:=hp
 have hl:l=[]:=by
  have:B7 C k l=AP 0 [] l:=by simp[B7,h2,h6]
  rw[this] at ha
  cases l with
  |nil=>rfl
  |cons a r=>simp[AP] at ha
 subst hl;obtain⟨h',n0,hc⟩:=Zm hx
 refine⟨_,h,⟨n0+1,fun m hm=> ?_⟩,hk⟩
 have:=hc m (by omega)
 obtain⟨m,rfl⟩:∃j,m=j+1:=⟨m-1,by omega⟩
 rw[call] at this⊢;simp only[Bool.and_eq_true] at h1;simp only[h1.1,h2,h3,h4,Ed h5,h6,Bool.not_true,cond_false] at this⊢
 cases he:exec C k m (AD fn) (DD C k (AP 0 [] [])) [] with
 |error e=>rw[he] at this;cases this
 |ok p=>
  obtain⟨x,F1,LU⟩:=p;rw[he] at this
  cases x with
  |ret=>
   simp only at this⊢
   cases hu:finish C (call C false m) k fn F1 LU with
   |none=>rw[hu] at this;cases this
   |some u=>
    obtain⟨u,xw⟩:=u;rw[hu] at this
    injection this with this
    injection this with this _
    simp only[this]
  |normal=>
   simp only at this⊢
   cases hu:finish C (call C false m) k fn F1 LU with
   |none=>rw[hu] at this;cases this
   |some u=>
    obtain⟨u,xw⟩:=u;rw[hu] at this
    injection this with this
    injection this with this _
    simp only[this]
  |_=>cases this
end
theorem AM {p q:Prop}(H:p)(e:q=p):q:=e.mpr H
end Go.Ai
