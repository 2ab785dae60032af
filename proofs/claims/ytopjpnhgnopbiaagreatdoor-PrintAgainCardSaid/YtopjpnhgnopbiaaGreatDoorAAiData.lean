/-
  Data as a row reads it, as abstract values.
-/
import Derived.Test.YtopjpnhgnopbiaaGreatDoorAAiBld
import Derived.Lib.LaidTab
set_option linter.unusedVariables false
set_option linter.unusedSimpArgs false
set_option linter.unnecessarySimpa false
namespace Go.Ai
open Go.RowKit
def chain (P:Program):List Field->Nat->Nat->Bool
 |[],a,b=>Nat.beq a b
 |f::fs,a,b=>Nat.beq f.offset a&&chain P fs (a+P.cellsOf f.type) b
def IJ {H:Type}(P:Program):Nat->TypeId->DataW H->Option (List AV)
 |0,_,_=>none
 |n+1,t,d=>
  match P.underlying t,d with
  |some .bool,.lit (.bool b)=>some [.bool b]
  |some (.int _),.lit (.int k i)=>some [.int k i]
  |some .string,.lit (.string l)=>some [.str l]
  |some (.pointer _),.nil=>some [.Gb]
  |some (.slice e),.nil=>some [.sl (P.cellsOf e) [] none]
  |some (.slice e),.slice yA _=>(yA.mapM (IJ P n e)).map fun es=>[.sl (P.cellsOf e) es none]
  |some (.struct fs),.agg parts=>
   bif chain P fs.toList 0 (P.cellsOf t)&&Nat.beq parts.length fs.size then((fs.toList.zip parts).mapM fun x=>IJ P n x.1.type x.2).map List.flatten else none
  |some (.array m e),.agg parts=>
   bif Nat.beq (m*P.cellsOf e) (P.cellsOf t)&&Nat.beq parts.length m then(parts.mapM (IJ P n e)).map List.flatten else none
  |some (.interface _),.nil=>some [.JX]
  |_,_=>none
theorem Na {α β:Type}{f:α->Option β}:∀{l:List α} {r:List β},l.mapM f=some r->∀(i:Nat) (b:β),r[i]?=some b->∃a,l[i]?=some a/\f a=some b:=by
 intro l r h i b hb;have hl:=Lib.mapM_length h
 have hi:i<l.length:=by rw[<-hl];exact(List.getElem?_eq_some_iff.1 hb).1
 obtain⟨b',h1,h2⟩:=Lib.mapM_at h i _ (List.getElem?_eq_getElem hi);rw[hb] at h1
 injection h1 with h1
 subst h1;exact⟨_,List.getElem?_eq_getElem hi,h2⟩
theorem Lv (w:World)(b o:Nat):EI (start w) b o:=⟨⟨fun h=>h,fun _ _ _ h=>(by cases h)⟩,fun id x hx=>by simp[start] at hx⟩
theorem Ol {w:World}{base:Nat}{a:Addr}{n:Nat}{cs:List Value}(h:w.cells? base a n=some cs):cs.length=n/\∀j v,cs[j]?=some v->w.cell? (a.add j)=some v:=by
 unfold World.cells? at h;split at h
 ·refine⟨by simpa using Lib.mapM_length h,fun j v hj=> ?_⟩
  obtain⟨i,h1,h2⟩:=Na h j v hj
  have BC:j<n:=by
   have:=(List.getElem?_eq_some_iff.1 h1).1;simpa using this
  rw[List.getElem?_range BC] at h1
  injection h1 with h1
  subst h1;exact h2
 ·cases h
section
variable {H:Type}{enc:TypeId×Value->H}{P:Program}{w:World}
theorem Xf {base:Nat}{a:Addr}{n:Nat}{cs:List Value}{xs:List AV}(h:w.cells? base a n=some cs)(hr:Ae (start w) xs cs):At (start w) xs a:=by
 obtain⟨h1,h2⟩:=Ol h;rw[Ae.iff] at hr;rw[At.iff];intro j c hj
 have KX:j<cs.length:=by rw[hr.1];exact(List.getElem?_eq_some_iff.1 hj).1
 obtain⟨q1,q2⟩:=hr.2 j c _ hj (List.getElem?_eq_getElem KX);exact⟨_,h2 j _ (List.getElem?_eq_getElem KX),q1,Lv w _ _,q2⟩
theorem Lz {E:Env}{sz:Nat}:∀(es:List (List AV)) (a:Addr),(∀(i:Nat) e,es[i]?=some e->e.length=sz/\At E e (a.add (i*sz)))->Rows E es a
 |[],_,_=>trivial
 |e::es,a,h=>by
  obtain⟨h1,h2⟩:=h 0 e rfl
  refine⟨by simpa[Addr.add] using h2,Lz (sz:=sz) es _ fun i e' hi=> ?_⟩
  obtain⟨k1,k2⟩:=h (i+1) e' (by simpa using hi)
  refine⟨k1,?_⟩
  rw[Ep,h1,show sz+i*sz=(i+1)*sz by rw[Nat.add_mul];omega]
  exact k2
theorem Ky :∀(fs:List Field) (a b:Nat) (cs:List Value),chain P fs a b=true->b<=cs.length->(fs.map fun f=>(cs.drop f.offset).take (P.cellsOf f.type)).flatten=(cs.take b).drop a
 |[],a,b,cs,h,_=>by
  have:=Nat.eq_of_beq_eq_true h;subst this;simp
 |f::fs,a,b,cs,h,hb=>by
  simp only[chain,Bool.and_eq_true] at h;have ho:=Nat.eq_of_beq_eq_true h.1
  have hle:∀(fs:List Field) (a:Nat),chain P fs a b=true->a<=b:=by
   intro fs
   induction fs with
   |nil=>intro a h;exact Nat.le_of_eq (Nat.eq_of_beq_eq_true h)
   |cons f fs ih=>
    intro a h;simp only[chain,Bool.and_eq_true] at h;have:=ih _ h.2;omega
  have h2:=hle fs _ h.2;rw[List.map_cons,List.flatten_cons,Ky fs _ b cs h.2 hb,ho];apply List.ext_getElem?;intro j;rw[List.getElem?_append]
  have hlen:((cs.drop a).take (P.cellsOf f.type)).length=P.cellsOf f.type:=by simp;omega
  rw[hlen]
  by_cases hj:j<P.cellsOf f.type
  ·rw[if_pos hj,List.getElem?_take,if_pos hj,List.getElem?_drop,List.getElem?_drop,List.getElem?_take,if_pos (by omega)]
  ·rw[if_neg hj,List.getElem?_drop,List.getElem?_drop,List.getElem?_take,List.getElem?_take]
   congr 1
   ·simp only[eq_iff_iff];omega
   ·congr 1;omega
theorem Ev {E:Env}{x:AV}{v:Value}(h1:v.oneCell'=true)(h2:Rel E x v):Ae E [x] [v]:=⟨v,[],rfl,h1,h2,rfl⟩
theorem chunks {α:Type}(cs:List α)(sz:Nat):∀m:Nat,((List.range m).map fun i=>(cs.drop (i*sz)).take sz).flatten=cs.take (m*sz)
 |0=>by simp
 |m+1=>by
  rw[List.range_succ,List.map_append,List.flatten_append,chunks cs sz m,Nat.add_mul,Nat.one_mul,List.take_add];simp
theorem Wa {α β γ:Type}{f:β->Option γ}:∀{ys:List (β×α)} {r:List γ},(ys.map (·.1)).mapM f=some r->r.length=ys.length/\∀(i:Nat) (y:β×α),ys[i]?=some y->∃c,r[i]?=some c/\f y.1=some c:=by
 intro ys r h
 refine⟨by simpa using Lib.mapM_length h,fun i y hy=> ?_⟩
 obtain⟨b,h1,h2⟩:=Lib.mapM_at h i y.1 (by simp[hy])
 exact⟨b,h1,h2⟩
theorem Va :∀(fuel n:Nat) (t:TypeId) (cs:List Value) (d:DataW H) (ps:List MemPlace) (xs:List AV) {base:Nat} {sp:Nat->Bool} {held:Bool},
  DataW.trod enc P w base sp held fuel t cs=some (d,ps)->IJ P n t d=some xs->Ae (start w) xs cs:=by
 intro fuel
 induction fuel with
 |zero=>intro n t cs d ps xs base sp held h;simp[DataW.trod] at h
 |succ fuel ih=>
  intro n t cs d ps xs base sp held h hx
  cases n with
  |zero=>simp[IJ] at hx
  |succ n=>
   simp only[IJ] at hx;split at hx
   ·rename_i b hu
    injection hx with hx
    subst hx;obtain⟨b',rfl,h2⟩:=DataW.trod_bool hu h;simp only[Prod.mk.injEq,DataW.lit.injEq,Lit.bool.injEq] at h2;obtain⟨rfl,-⟩:=h2;exact Ev rfl rfl
   ·rename_i k0 k i hu
    injection hx with hx
    subst hx;obtain⟨z,rfl,h2,_⟩:=DataW.trod_int hu h;simp only[Prod.mk.injEq,DataW.lit.injEq,Lit.int.injEq] at h2;obtain⟨⟨rfl,rfl⟩,-⟩:=h2;exact Ev rfl rfl
   ·rename_i l hu
    injection hx with hx
    subst hx;obtain⟨s,rfl,h2,_⟩:=DataW.trod_string hu h;simp only[Prod.mk.injEq,DataW.lit.injEq,Lit.string.injEq] at h2;obtain⟨rfl,-⟩:=h2;exact Ev rfl rfl
   ·rename_i e hu
    injection hx with hx
    subst hx
    rcases DataW.trod_pointer hu h with ⟨rfl,-⟩|⟨a,Gh,y,m,_,_,h2,_⟩
    ·exact Ev rfl rfl
    ·simp at h2
   ·rename_i e hu
    injection hx with hx
    subst hx
    rcases DataW.trod_slice hu h with ⟨rfl,-⟩|⟨a,len,cap,yA,yZ,m,_,_,h2,_⟩
    ·exact Ev rfl ⟨⟨none,0,rfl,Nat.le_refl _,by simp[maxLen],by simp,fun h=>absurd rfl h⟩,trivial⟩
    ·simp at h2
   ·rename_i e yA sp' hu
    rcases DataW.trod_slice hu h with ⟨_,h2⟩|⟨a,len,cap,elems,yZ,m,hm,rfl,h2,hba,yz,PL,xY,Gc⟩
    ·simp at h2
    ·simp only[Prod.mk.injEq,DataW.slice.injEq] at h2;obtain⟨⟨rfl,-⟩,-⟩:=h2;cases hm
     cases dF:(elems.map (·.1)).mapM (IJ P n e) with
     |none=>rw[dF] at hx;cases hx
     |some es=>
      rw[dF] at hx;simp only[Option.map_some,Option.some.injEq] at hx;subst hx;obtain⟨hl,o7⟩:=Wa dF
      have key:∀(i:Nat) r,es[i]?=some r->r.length=P.cellsOf e/\At (start w) r (a.add (i*P.cellsOf e)):=by
       intro i r hr
       have ZB:i<elems.length:=by rw[<-hl];exact(List.getElem?_eq_some_iff.1 hr).1
       obtain⟨c,kx,qL⟩:=o7 i _ (List.getElem?_eq_getElem ZB);rw[hr] at kx
       injection kx with kx
       subst kx
       have JN:=Gc.1 i (by omega)
       rw[List.getElem?_eq_getElem ZB] at JN
       cases Fu:w.cells? base (a.add (i*P.cellsOf e)) (P.cellsOf e) with
       |none=>rw[Fu] at JN;cases JN
       |some Gh=>
        rw[Fu] at JN;simp only[Option.bind_some] at JN;have TE:=ih n e Gh _ _ r JN qL
        exact⟨by rw[<-TE.length];exact(Ol Fu).1,Xf Fu TE⟩
      refine Ev rfl ⟨⟨some a,cap,by rw[hl,xY],by rw[hl,xY];exact yz,PL,fun r hr=> ?_,fun _=>⟨a,rfl,Lz (sz:=P.cellsOf e) es a key⟩⟩,trivial⟩
      obtain⟨i,hi⟩:=List.getElem?_of_mem hr;exact(key i r hi).1
   ·rename_i fs parts hu;obtain⟨ys,m,hm,h2,DS,eC,Gc⟩:=DataW.trod_struct hu h;cases hm;simp only[Prod.mk.injEq,DataW.agg.injEq] at h2;obtain⟨rfl,-⟩:=h2
    cases hc:(chain P fs.toList 0 (P.cellsOf t)&&Nat.beq (ys.map (·.1)).length fs.size) with
    |false=>rw[hc] at hx;cases hx
    |true=>
     rw[hc] at hx;simp only[cond_true] at hx;simp only[Bool.and_eq_true] at hc
     cases dF:(fs.toList.zip (ys.map (·.1))).mapM fun x=>IJ P n x.1.type x.2 with
     |none=>rw[dF] at hx;cases hx
     |some yU=>
      rw[dF] at hx;simp only[Option.map_some,Option.some.injEq] at hx;subst hx
      have HU:=Ky (P:=P) fs.toList 0 (P.cellsOf t) cs hc.1 (by omega)
      rw[List.take_of_length_le (by omega),List.drop_zero] at HU
      rw[<-HU]
      have wE:yU.length=fs.size:=by
       rw[Lib.mapM_length dF];simp[eC]
      refine GQ _ _ (by simp[wE]) fun k x v hk hv=> ?_
      obtain⟨p,yr,hp2⟩:=Na dF k x hk;rw[List.getElem?_zip_eq_some] at yr;obtain⟨q1,q2⟩:=yr
      have hf:fs[k]?=some p.1:=by simpa using q1
      have hr:=Gc k p.1 hf;simp only[List.getElem?_map,Option.map_eq_some_iff] at q2 hv;obtain⟨y,ru,wD⟩:=q2;obtain⟨f',Jb,Uu⟩:=hv
      have:f'=p.1:=by
       have:fs[k]?=some f':=by simpa using Jb
       rw[hf] at this
       injection this with this
       exact this.symm
      subst this;rw[ru] at hr;rw[<-Uu]
      exact ih n _ _ y.1 y.2 x hr (by rw[wD];exact hp2)
   ·rename_i m e parts hu;simp only[DataW.trod,hu] at h;split at h
    case isFalse=>cases h
    rename_i DS
    cases Ur:(List.range m).mapM (fun i=>DataW.trod enc P w base sp held fuel e ((cs.drop (i*P.cellsOf e)).take (P.cellsOf e))) with
    |none=>rw[Ur] at h;cases h
    |some ys=>
     rw[Ur] at h;simp only[Option.map_some,Option.some.injEq,Prod.mk.injEq,DataW.agg.injEq] at h;obtain⟨rfl,-⟩:=h
     cases hc:(Nat.beq (m*P.cellsOf e) (P.cellsOf t)&&Nat.beq (ys.map (·.1)).length m) with
     |false=>rw[hc] at hx;cases hx
     |true=>
      rw[hc] at hx;simp only[cond_true] at hx;simp only[Bool.and_eq_true] at hc;have CD:=Nat.eq_of_beq_eq_true hc.1
      cases dF:(ys.map (·.1)).mapM (IJ P n e) with
      |none=>rw[dF] at hx;cases hx
      |some yU=>
       rw[dF] at hx;simp only[Option.map_some,Option.some.injEq] at hx;subst hx;obtain⟨hl,o7⟩:=Wa dF
       have eC:ys.length=m:=by simpa using Lib.mapM_length Ur
       have ZJ:cs=((List.range m).map fun i=>(cs.drop (i*P.cellsOf e)).take (P.cellsOf e)).flatten:=by
        rw[chunks,List.take_of_length_le (by omega)]
       rw[ZJ]
       refine GQ _ _ (by simp[hl,eC]) fun k x v hk hv=> ?_
       have mH:k<m:=by rw[<-eC,<-hl];exact(List.getElem?_eq_some_iff.1 hk).1
       obtain⟨y,ru,wD⟩:=Lib.mapM_at Ur k k (by simp[mH])
       obtain⟨c,kx,qL⟩:=o7 k y ru;rw[hk] at kx
       injection kx with kx
       subst kx
       have:v=(cs.drop (k*P.cellsOf e)).take (P.cellsOf e):=by
        simp[List.getElem?_range mH] at hv;exact hv.symm
       rw[this];exact ih n _ _ y.1 y.2 x wD qL
   ·rename_i m hu
    injection hx with hx
    subst hx;simp only[DataW.trod,hu] at h
    split at h<;>simp_all
    ·exact Ev rfl rfl
    all_goals (split at h<;>simp_all)
   ·cases hx
theorem ga {laid:List (String×DataW Unit)}:∀{ps:List MemPlace},DataW.LaidVars P w laid ps->∀(i:Nat) (name:String) (d:DataW Unit) (g n:Nat) (t:TypeId) (xs:List AV),laid[i]?=some (name,d)->
  P.globalNamed name=some g->(P.globals[g]?).map (·.type)=some t->IJ P n t d=some xs->At (start w) xs ⟨g,0,none⟩:=by
 induction laid with
 |nil=>intro ps _ i name d g n t xs hi;simp at hi
 |cons x laid ih=>
  intro ps h i name d g n t xs hi hg ht hx;obtain⟨nm,dd⟩:=x;obtain⟨g',t',cs,fuel,p,q,h1,h2,h3,h4,h5,_⟩:=h
  cases i with
  |zero=>
   simp only[List.getElem?_cons_zero,Option.some.injEq,Prod.mk.injEq] at hi;obtain⟨rfl,rfl⟩:=hi;rw[hg] at h1
   injection h1 with h1
   subst h1;rw[ht] at h2
   injection h2 with h2
   subst h2;have hr:=Va fuel n t cs.toList dd p xs h4 hx;unfold World.var? at h3;rw[hg] at h3;simp only[Option.bind_some] at h3;rw[Ae.iff] at hr;rw[At.iff];intro j c hj
   have KX:j<cs.toList.length:=by rw[hr.1];exact(List.getElem?_eq_some_iff.1 hj).1
   obtain⟨q1,q2⟩:=hr.2 j c _ hj (List.getElem?_eq_getElem KX);refine⟨_,?_,q1,Lv w _ _,q2⟩;rw[Addr.add_lit,Nat.zero_add];split at h3
   ·rename_i Gh tt fr hb
    injection h3 with h3
    subst h3
    have tv:j<Gh.size:=by simpa using KX
    show World.cell? w _=_;simp[World.cell?,hb,tv]
   ·cases h3
  |succ i=>exact ih h5 i name d g n t xs (by simpa using hi) hg ht hx
end
end Go.Ai
