/-
  The document's answer in plain terms, and that it is the program's. No statement about the program is made here.
-/
import Derived.Test.YtopjpnhgnopbiaaGreatDoorTJT
import Derived.Test.YtopjpnhgnopbiaaGreatDoorTJA
set_option linter.unusedVariables false
set_option linter.unusedSimpArgs false
set_option linter.unnecessarySimpa false
section
namespace Go.Ai.Sp
open Go.Ai Go.RowKit
structure Rs where
 l:List Ex.Tok
 pl:Int
 e:Int
def DV (p x:Int)(s:Rs):Rs:=⟨s.l,(fE p x s.pl s.e).1,(fE p x s.pl s.e).2⟩
def Ga (s:List UInt8):Int:=bif Ex.Bk s then((C6 s).kind:Int) else 0
def Ml (k:Int):List UInt8:=
 bif k==3 then [115,114,99] else bif k==4 then [110,97,109,101] else bif k==6 then [116,101,120,116] else bif k==11 then [116,101,115,116] else []
def EP (k:Int)(x y:List UInt8):Bool:=
 bif k==3 then(((x==[115,114,99])||(x==[97,108,116]))&& !(y==[]))||((x==[111,110,101,114,114,111,114])&&(y==[99,111,110,116,105,110,117,101])) else
 bif k==4 then((x==[110,97,109,101])&& !(y==[]))||((x==[102,101,116,99,104,97,98,108,101])&&((y==[121,101,115])||(y==[110,111]))) else
 bif k==6 then x==[116,101,120,116] else
 bif k==11 then(x==[116,101,115,116])&& !(y==[]) else false
def Gf (k:Int)(l:List Ex.A8):Bool:=(Ml k==[])||l.any fun a=>a.name==Ml k
def EC (k fr:Int)(l:List Ex.A8)(s:Int×Int):Int×Int:=
 l.foldl (fun s a=>bif !EP k a.name a.value then fE a.at' 12 s.1 s.2 else s) (bif !Gf k l then fE fr 12 s.1 s.2 else s)
def HR (k i l:Int):Bool:=
 bif i==7 then(k==8&&l==0)||(k==9&&l==8) else bif i==10 then(k==11&&(l==0||l==11))||(k==12&&l==11) else !(k==8)&&(!(k==9)&&(!(k==11)&& !(k==12)))
def Dy (t:Ex.Tok)(k:Int):Bool:=(t.kind==6&&k==14)||(t.kind==4&&Ga t.name==k)
def Jb (t:Ex.Tok)(k l:Int):Bool:=!Dy t k||((k==7&& !(l==9))||(k==10&&l==0))
def Cc (t:Ex.Tok):Int:=bif t.kind==5 then 14 else Ga t.name
def CD (k:Int):Bool:=k==3||k==6
def FA (t:Ex.Tok)(i l:Int)(deep:Nat)(s:Rs):Rs:=
 let k:=Cc t
 let s1:=bif (CD k !=(t.kind==3))|| !HR k i l then DV t.fr 13 s else s
 let s2:=bif decide (16<deep) then DV t.fr 3 s1 else s1
 bif k==14 then s2 else⟨s2.l,(EC k t.fr t.attrs (s2.pl,s2.e)).1,(EC k t.fr t.attrs (s2.pl,s2.e)).2⟩
def Ff (t:Ex.Tok):Nd:=.mk (Cc t) t.fr [] (t.attrs.map XQ) []
def CL (s:List UInt8):Int:=bif (BZ s).isEmpty then -1 else((s.length-(BZ s).length:Nat):Int)
def Bu (long:Int):Nat->Nd->Int->Nat->Rs->Nd×Rs
 |0,n,_,_,s=>(n,s)
 |f+1,n,last,d,s=>
  bif s.e==0 then
   (match s.l with
   |[]=>(n,bif n.kind==1 then s else DV long 14 s)
   |t::r=>
    let s1:Rs:=⟨r,s.pl,s.e⟩
    bif t.kind==4||t.kind==6 then(n,bif Jb t n.kind last then DV t.fr 13 s1 else s1)
    else bif t.kind==7 then Bu long f (.mk n.kind n.pl t.text n.attrs n.kids) last d s1
    else bif t.kind==1 then
     (bif !(n.kind==7)&& !(n.kind==10) then Bu long f (EJ n (.mk 2 t.fr t.text [] [])) last d s1
     else bif (BZ t.text).isEmpty then Bu long f n last d s1 else Bu long f n last d (DV ((t.fr:Int)+CL t.text) 13 s1))
    else
     let s2:=FA t n.kind last (d+1) s1
     let ks:=bif CD (Cc t)|| !(s2.e==0) then(Ff t,s2) else Bu long f (Ff t) 0 (d+1) s2
     Bu long f (EJ n ks.1) ks.1.kind d ks.2)
  else(n,s)
def DN (long:Int)(f:Nat)(t:Ex.Tok)(i last:Int)(deep:Nat)(s:Rs):Nd×Rs:=
 bif CD (Cc t)|| !((FA t i last deep s).e==0) then(Ff t,FA t i last deep s) else Bu long f (Ff t) 0 deep (FA t i last deep s)
def jq (s:List UInt8):Except (Int×Int) Nd:=
 if 65536<s.length then .error (65536,3) else
 match Ex.lexM s with
 |.error (p,e)=>.error ((p:Nat),e)
 |.ok l=>
  let R:=Bu s.length (l.length+1) (.mk 1 0 [] [] []) 0 0 ⟨l,0,0⟩
  bif R.2.e==0 then .ok R.1 else .error (R.2.pl,R.2.e)
theorem HY {long:Int}{s:Rs}(h:(s.e==0)=false):∀(f:Nat) (n:Nd) (last:Int) (d:Nat),Bu long f n last d s=(n,s)
 |0,_,_,_=>rfl
 |f+1,n,last,d=>by rw[Bu,h];rfl
theorem Ql {long:Int}:∀(f:Nat) (n:Nd) (last:Int) (d:Nat) (s:Rs),(Bu long f n last d s).1.kind=n.kind
 |0,_,_,_,_=>rfl
 |f+1,n,last,d,s=>by
  have ih:=Ql (long:=long) f;rw[Bu]
  cases s.e==0 with
  |false=>rfl
  |true=>
   simp only[cond_true]
   cases s.l with
   |nil=>rfl
   |cons t r=>
    simp only
    cases t.kind==4||t.kind==6 with
    |true=>rfl
    |false=>
     simp only[cond_false]
     cases t.kind==7 with
     |true=>simp only[cond_true];rw[ih];rfl
     |false=>
      simp only[cond_false]
      cases t.kind==1 with
      |true=>
       simp only[cond_true]
       cases !(n.kind==7)&& !(n.kind==10) with
       |true=>simp only[cond_true];rw[ih];rfl
       |false=>simp only[cond_false];cases (BZ t.text).isEmpty<;>(simp only[cond_true,cond_false];rw[ih])
      |false=>simp only[cond_false];rw[ih];rfl
theorem MS (t:Ex.Tok)(i l:Int)(d:Nat)(s:Rs):(FA t i l d s).l=s.l:=by
 unfold FA;simp only
 cases (CD (Cc t) !=(t.kind==3))|| !HR (Cc t) i l<;>cases decide (16<d)<;>cases Cc t==14<;>rfl
theorem PS {long:Int}:∀(f:Nat) (n:Nd) (last:Int) (d:Nat) (s:Rs),∃p,s.l=p++(Bu long f n last d s).2.l
 |0,_,_,_,s=>⟨[],rfl⟩
 |f+1,n,last,d,s=>by
  have ih:=PS (long:=long) f
  have via:∀{t:Ex.Tok} {r:List Ex.Tok} {q:Rs} (n:Nd) (last:Int) (d:Nat),s.l=t::r->(∃p,r=p++q.l)->∃p,s.l=p++(Bu long f n last d q).2.l:=by
   intro t r q n last d h1 ⟨p0,h2⟩;obtain⟨p,hp⟩:=ih n last d q
   exact⟨t::(p0++p),by rw[h1,h2,hp];simp⟩
  rw[Bu]
  cases s.e==0 with
  |false=>exact⟨[],rfl⟩
  |true=>
   simp only[cond_true]
   cases hl:s.l with
   |nil=>
    refine⟨[],?_⟩;cases n.kind==1
    ·exact hl.symm
    ·exact hl.symm
   |cons t r=>
    simp only;rw[<-hl]
    cases t.kind==4||t.kind==6 with
    |true=>
     refine⟨[t],?_⟩;rw[hl]
     cases Jb t n.kind last<;>rfl
    |false=>
     simp only[cond_false]
     cases t.kind==7 with
     |true=>exact via _ _ _ hl ⟨[],rfl⟩
     |false=>
      simp only[cond_false]
      cases t.kind==1 with
      |true=>
       simp only[cond_true]
       cases !(n.kind==7)&& !(n.kind==10) with
       |true=>exact via _ _ _ hl ⟨[],rfl⟩
       |false=>
        simp only[cond_false]
        cases (BZ t.text).isEmpty with
        |true=>exact via _ _ _ hl ⟨[],rfl⟩
        |false=>exact via _ _ _ hl ⟨[],rfl⟩
      |false=>
       simp only[cond_false];refine via _ _ _ hl ?_
       cases CD (Cc t)|| !((FA t n.kind last (d+1) ⟨r,s.pl,s.e⟩).e==0) with
       |true=>exact⟨[],by rw[cond_true,MS];rfl⟩
       |false=>
        simp only[cond_false];obtain⟨p,hp⟩:=ih (Ff t) 0 (d+1) (FA t n.kind last (d+1) ⟨r,s.pl,s.e⟩);rw[MS] at hp;exact⟨p,hp⟩
theorem RI {long:Int}{f:Nat}{t:Ex.Tok}{i la:Int}{d:Nat}{s:Rs}:∃p,s.l=p++(DN long f t i la d s).2.l:=by
 unfold DN
 cases CD (Cc t)|| !((FA t i la d s).e==0) with
 |true=>exact⟨[],by rw[cond_true,MS];rfl⟩
 |false=>
  rw[cond_false];obtain⟨p,hp⟩:=PS (long:=long) f (Ff t) 0 d (FA t i la d s);rw[MS] at hp;exact⟨p,hp⟩
theorem KF {s:List UInt8}(h:Ex.Bk s=true):Ga s=(C6 s).kind:=by unfold Ga;rw[h];rfl
theorem MQ (s:List UInt8):C6 s=⟨3,[[115,114,99],[97,108,116],[111,110,101,114,114,111,114]],1⟩\/C6 s=⟨4,[[110,97,109,101],[102,101,116,99,104,97,98,108,101]],1⟩\/C6 s=⟨5,[],0⟩\/C6 s=⟨6,[[116,101,120,116]],1⟩\/C6 s=⟨7,[],0⟩\/C6 s=⟨8,[],0⟩\/C6 s=⟨9,[],0⟩\/C6 s=⟨10,[],0⟩\/C6 s=⟨11,[[116,101,115,116]],1⟩\/C6 s=⟨12,[],0⟩\/C6 s=⟨13,[],0⟩:=by
 unfold C6
 cases s==[105,110,99,108,117,100,101] with
 |true=>exact .inl rfl
 |false=>
 cases s==[105,110,108,105,110,101] with
 |true=>exact .inr (.inl rfl)
 |false=>
 cases s==[114,101,109,111,118,101] with
 |true=>exact .inr (.inr (.inl rfl))
 |false=>
 cases s==[99,111,109,109,101,110,116] with
 |true=>exact .inr (.inr (.inr (.inl rfl)))
 |false=>
 cases s==[116,114,121] with
 |true=>exact .inr (.inr (.inr (.inr (.inl rfl))))
 |false=>
 cases s==[97,116,116,101,109,112,116] with
 |true=>exact .inr (.inr (.inr (.inr (.inr (.inl rfl)))))
 |false=>
 cases s==[101,120,99,101,112,116] with
 |true=>exact .inr (.inr (.inr (.inr (.inr (.inr (.inl rfl))))))
 |false=>
 cases s==[99,104,111,111,115,101] with
 |true=>exact .inr (.inr (.inr (.inr (.inr (.inr (.inr (.inl rfl)))))))
 |false=>
 cases s==[119,104,101,110] with
 |true=>exact .inr (.inr (.inr (.inr (.inr (.inr (.inr (.inr (.inl rfl))))))))
 |false=>
 cases s==[111,116,104,101,114,119,105,115,101] with
 |true=>exact .inr (.inr (.inr (.inr (.inr (.inr (.inr (.inr (.inr (.inl rfl)))))))))
 |false=>exact .inr (.inr (.inr (.inr (.inr (.inr (.inr (.inr (.inr (.inr rfl)))))))))
theorem PI {α β:Type}{f g:β->α->β}(h:∀b a,f b a=g b a):∀(l:List α) (b:β),l.foldl f b=l.foldl g b
 |[],_=>rfl
 |a::l,b=>by rw[List.foldl_cons,List.foldl_cons,h];exact PI h l _
theorem Yq (s x y:List UInt8):EP (C6 s).kind x y=((C6 s).names.any (·==x)&&Jo x y):=by
 have sw:∀a b:List UInt8,(a==b)=(b==a):=fun a b=>Bool.eq_iff_iff.2 ⟨fun h=>beq_iff_eq.2 (beq_iff_eq.1 h).symm,fun h=>beq_iff_eq.2 (beq_iff_eq.1 h).symm⟩
 have ne:∀{w v:List UInt8},(x==w)=true->w≠v->(x==v)=false:=by
  intro w v h1 h2;obtain rfl:=eq_of_beq h1;exact beq_eq_false_iff_ne.2 h2
 have t1:∀w:List UInt8,w≠[111,110,101,114,114,111,114]->w≠[102,101,116,99,104,97,98,108,101]->w≠[116,101,120,116]->((x==w)&&Jo x y)=((x==w)&& !(y==[])):=by
  intro w h1 h2 h3
  cases hx:x==w with
  |false=>rfl
  |true=>unfold Jo;rw[ne hx h1,ne hx h2,ne hx h3];rfl
 have t2:((x==[111,110,101,114,114,111,114])&&Jo x y)=((x==[111,110,101,114,114,111,114])&&(y==[99,111,110,116,105,110,117,101])):=by
  cases hx:x==[111,110,101,114,114,111,114] with
  |false=>rfl
  |true=>unfold Jo;rw[hx];rfl
 have t3:((x==[102,101,116,99,104,97,98,108,101])&&Jo x y)=((x==[102,101,116,99,104,97,98,108,101])&&((y==[121,101,115])||(y==[110,111]))):=by
  cases hx:x==[102,101,116,99,104,97,98,108,101] with
  |false=>rfl
  |true=>unfold Jo;rw[ne hx (v:=[111,110,101,114,114,111,114]) (by decide),hx];rfl
 have t4:((x==[116,101,120,116])&&Jo x y)=(x==[116,101,120,116]):=by
  cases hx:x==[116,101,120,116] with
  |false=>rfl
  |true=>unfold Jo;rw[ne hx (v:=[111,110,101,114,114,111,114]) (by decide),ne hx (v:=[102,101,116,99,104,97,98,108,101]) (by decide),hx];rfl
 have a1:=t1 [115,114,99] (by decide) (by decide) (by decide)
 have a2:=t1 [97,108,116] (by decide) (by decide) (by decide)
 have a3:=t1 [110,97,109,101] (by decide) (by decide) (by decide)
 have a4:=t1 [116,101,115,116] (by decide) (by decide) (by decide)
 rcases MQ s with h|h|h|h|h|h|h|h|h|h|h<;>rw[h]<;>simp only[List.any_cons,List.any_nil,Bool.or_false,Bool.false_and,sw [115,114,99] x,sw [97,108,116] x,sw [111,110,101,114,114,111,114] x,sw [110,97,109,101] x,sw [102,101,116,99,104,97,98,108,101] x,sw [116,101,120,116] x,sw [116,101,115,116] x,Bool.and_or_distrib_right,a1,a2,a3,a4,t2,t3,t4]<;>unfold EP
 ·show((((x==[115,114,99])||(x==[97,108,116]))&& !(y==[]))||((x==[111,110,101,114,114,111,114])&&(y==[99,111,110,116,105,110,117,101])))=_;rw[Bool.and_or_distrib_right,Bool.or_assoc]
 ·rfl
 ·rfl
 ·rfl
 ·rfl
 ·rfl
 ·rfl
 ·rfl
 ·rfl
 ·rfl
 ·rfl
theorem XE (s:List UInt8)(fr:Int)(l:List Ex.A8)(q:Int×Int):EC (C6 s).kind fr l q=A7 (C6 s) fr l q:=by
 unfold EC A7
 have h1:(bif !Gf (C6 s).kind l then fE fr 12 q.1 q.2 else q)=((C6 s).names.take (C6 s).JZ).foldl (fun s nm=>bif !(l.any fun a=>a.name==nm) then fE fr 12 s.1 s.2 else s) q:=by
  unfold Gf
  rcases MQ s with h|h|h|h|h|h|h|h|h|h|h<;>rw[h]<;>rfl
 rw[h1]
 refine PI (fun b a=> ?_) l _
 rw[Yq,Bool.not_and]
def VZ (t:Ex.Tok):Prop:=(t.kind=1\/t.kind=2\/t.kind=3\/t.kind=4\/t.kind=5\/t.kind=6\/t.kind=7)/\((t.kind=2\/t.kind=3\/t.kind=4)->Ex.Bk t.name=true)/\(t.to=t.fr+t.text.length)/\(t.kind=5->t.attrs=[])
theorem TD {hid:Bool}{l:List Ex.Tok}(h:Ex.VG hid l):∀t∈l,((t.kind=2\/t.kind=3\/t.kind=4)->Ex.Bk t.name=true)/\(t.kind=5->t.attrs=[]):=by
 induction h with
 |nil=>intro t ht;cases ht
 |text k1 _ _ _ _ _ _ ih=>
  intro t ht
  rcases List.mem_cons.1 ht with rfl|ht
  ·exact⟨fun h=>by omega,fun h=>by omega⟩
  ·exact ih t ht
 |tag k1 k2 _ _ ih=>
  intro t ht
  rcases List.mem_cons.1 ht with rfl|ht
  ·exact⟨fun _=>k2,fun h=>by rcases k1 with k|k<;>omega⟩
  ·exact ih t ht
 |own k1 k2 _ a1 _ a3 c1 _ _ _ _ ih=>
  intro t ht
  rcases List.mem_cons.1 ht with rfl|ht
  ·exact⟨fun _=>by rcases k2 with k|k<;>rw[k]<;>decide,fun h=>by omega⟩
  ·rcases List.mem_cons.1 ht with rfl|ht
   ·exact⟨fun h=>by omega,fun h=>a3⟩
   ·exact ih t ht
 |close k1 _ k3 _ ih=>
  intro t ht
  rcases List.mem_cons.1 ht with rfl|ht
  ·exact⟨fun _=>k3,fun h=>by omega⟩
  ·exact ih t ht
 |kh k1 _ k3 _ ih=>
  intro t ht
  rcases List.mem_cons.1 ht with rfl|ht
  ·exact⟨fun h=>by omega,fun _=>k3⟩
  ·exact ih t ht
 |shown k1 _ k3 _ _ ih=>
  intro t ht
  rcases List.mem_cons.1 ht with rfl|ht
  ·exact⟨fun h=>by omega,fun _=>k3⟩
  ·exact ih t ht
theorem XM {s:List UInt8}:∀(r:List Ex.Tok) (a:Nat) (prev:Option Ex.Tok) (hid:Bool),Ex.WG s a prev hid r->∀t∈r,t.to=t.fr+t.text.length
 |[],_,_,_,_,t,ht=>by cases ht
 |u::r,a,prev,hid,h,t,ht=>by
  unfold Ex.WG at h;obtain⟨h1,h2,h3,h4,_,_,_,_,_,_,h5⟩:=h
  rcases List.mem_cons.1 ht with rfl|ht
  ·rw[<-h4];unfold Ex.cut;simp only[List.length_take,List.length_drop];omega
  ·exact XM r _ _ _ h5 t ht
theorem UK {s:List UInt8}{l:List Ex.Tok}(h:Ex.lexM s=.ok l):∀t∈l,VZ t:=fun t ht=>
 ⟨XN (Ex.JJ h) t ht,(TD (Ex.JJ h) t ht).1,XM l 0 none false (Ex.Hn h) t ht,(TD (Ex.JJ h) t ht).2⟩
theorem tz (p x pl:Int):fE p x pl 0=(p,x):=rfl
theorem lF {p x pl e:Int}(h:e≠0):fE p x pl e=(pl,e):=by
 unfold fE;rw[beq_eq_false_iff_ne.2 h];rfl
def KV (q:Int×Int):Prop:=q.2=0->q.1=0
theorem Hg {p x:Int}{q:Int×Int}(hx:x≠0):KV (fE p x q.1 q.2)/\((fE p x q.1 q.2).2≠0):=by
 by_cases h:q.2=0
 ·rw[h,tz]
  exact⟨fun e=>absurd e hx,hx⟩
 ·rw[lF h]
  exact⟨fun e=>absurd e h,h⟩
theorem VS {k fr:Int}{l:List Ex.A8}{q:Int×Int}(h:KV q):KV (EC k fr l q)/\((EC k fr l q).2=0->q.2=0):=by
 unfold EC
 have h1:KV (bif !Gf k l then fE fr 12 q.1 q.2 else q)/\((bif !Gf k l then fE fr 12 q.1 q.2 else q).2=0->q.2=0):=by
  cases Gf k l with
  |true=>exact⟨h,id⟩
  |false=>exact⟨(Hg (by decide)).1,fun e=>absurd e (Hg (by decide)).2⟩
 generalize (bif !Gf k l then fE fr 12 q.1 q.2 else q)=q1 at h1
 have g:∀(l:List Ex.A8) (q1:Int×Int),KV q1->KV (l.foldl (fun s a=>bif !EP k a.name a.value then fE a.at' 12 s.1 s.2 else s) q1)/\
   ((l.foldl (fun s a=>bif !EP k a.name a.value then fE a.at' 12 s.1 s.2 else s) q1).2=0->q1.2=0):=by
  intro l
  induction l with
  |nil=>intro q1 h;exact⟨h,id⟩
  |cons a l ih=>
   intro q1 h;rw[List.foldl_cons]
   have h2:KV (bif !EP k a.name a.value then fE a.at' 12 q1.1 q1.2 else q1)/\((bif !EP k a.name a.value then fE a.at' 12 q1.1 q1.2 else q1).2=0->q1.2=0):=by
    cases EP k a.name a.value with
    |true=>exact⟨h,id⟩
    |false=>exact⟨(Hg (by decide)).1,fun e=>absurd e (Hg (by decide)).2⟩
   obtain⟨i1,i2⟩:=ih _ h2.1
   exact⟨i1,fun e=>h2.2 (i2 e)⟩
 obtain⟨g1,g2⟩:=g l q1 h1.1
 exact⟨g1,fun e=>h1.2 (g2 e)⟩
theorem eu {k fr:Int}{l:List Ex.A8}{q:Int×Int}(h:q.2≠0):(EC k fr l q).2≠0:=by
 unfold EC
 have cm:∀(x:Int) (q:Int×Int),q.2≠0->(fE x 12 q.1 q.2).2≠0:=fun x q h=>by rw[lF h];exact h
 have h1:(bif !Gf k l then fE fr 12 q.1 q.2 else q).2≠0:=by
  cases Gf k l with
  |true=>exact h
  |false=>exact cm _ _ h
 generalize (bif !Gf k l then fE fr 12 q.1 q.2 else q)=q1 at h1
 have g:∀(l:List Ex.A8) (q1:Int×Int),q1.2≠0->(l.foldl (fun s a=>bif !EP k a.name a.value then fE a.at' 12 s.1 s.2 else s) q1).2≠0:=by
  intro l
  induction l with
  |nil=>intro q1 h;exact h
  |cons a l ih=>
   intro q1 h;rw[List.foldl_cons];refine ih _ ?_
   cases EP k a.name a.value with
   |true=>exact h
   |false=>exact cm _ _ h
 exact g l q1 h1
theorem Zo {t:Ex.Tok}{i la:Int}{d:Nat}{s:Rs}(h:(FA t i la d s).e=0):d<=16:=by
 apply Decidable.byContradiction;intro hd
 have hd:decide (16<d)=true:=decide_eq_true (by omega)
 revert h;unfold FA;simp only;generalize (bif (CD (Cc t) !=(t.kind==3))|| !HR (Cc t) i la then DV t.fr 13 s else s)=s1;rw[hd,cond_true]
 have h2:(DV t.fr 3 s1).e≠0:=(Hg (q:=(s1.pl,s1.e)) (by decide)).2
 cases Cc t==14 with
 |true=>exact h2
 |false=>exact eu (q:=((DV t.fr 3 s1).pl,(DV t.fr 3 s1).e)) h2
theorem lQ {t:Ex.Tok}{i la:Int}{d:Nat}{r:List Ex.Tok}(h:(FA t i la d ⟨r,0,0⟩).e=0):FA t i la d ⟨r,0,0⟩=⟨r,0,0⟩/\HR (Cc t) i la=true:=by
 have hl:=MS t i la d ⟨r,0,0⟩
 have key:(FA t i la d ⟨r,0,0⟩).pl=0/\HR (Cc t) i la=true:=by
  unfold FA at h⊢;simp only at h⊢;generalize GI:(bif (CD (Cc t) !=(t.kind==3))|| !HR (Cc t) i la then DV t.fr 13 ⟨r,0,0⟩ else(⟨r,0,0⟩:Rs))=s1 at h⊢
  have z1:KV (s1.pl,s1.e)/\(s1.e=0->HR (Cc t) i la=true):=by
   rw[<-GI]
   cases hm:HR (Cc t) i la with
   |true=>
    cases CD (Cc t) !=(t.kind==3) with
    |true=>exact⟨fun e=>absurd e (show((13:Int)≠0) by decide),fun _=>rfl⟩
    |false=>exact⟨fun _=>rfl,fun _=>rfl⟩
   |false=>
    have e:((CD (Cc t) !=(t.kind==3))|| !false)=true:=by simp
    rw[e]
    exact⟨fun e=>absurd e (show((13:Int)≠0) by decide),fun e=>absurd e (show((13:Int)≠0) by decide)⟩
  generalize JL:(bif decide (16<d) then DV t.fr 3 s1 else s1)=s2 at h⊢
  have z2:KV (s2.pl,s2.e)/\(s2.e=0->s1.e=0):=by
   rw[<-JL]
   cases decide (16<d) with
   |true=>exact⟨(Hg (q:=(s1.pl,s1.e)) (by decide)).1,fun e=>absurd e (Hg (q:=(s1.pl,s1.e)) (by decide)).2⟩
   |false=>exact⟨z1.1,id⟩
  cases hk:Cc t==14 with
  |true=>
   simp only[hk] at h;simp only[cond_true] at h⊢;exact⟨z2.1 h,z1.2 (z2.2 h)⟩
  |false=>
   simp only[hk] at h;simp only[cond_false] at h⊢;obtain⟨z3,z4⟩:=VS (k:=Cc t) (fr:=t.fr) (l:=t.attrs) z2.1;exact⟨z3 h,z1.2 (z2.2 (z4 h))⟩
 refine⟨?_,key.2⟩;obtain⟨k1,k2⟩:=key
 cases hb:FA t i la d ⟨r,0,0⟩ with
 |mk l' fP e'=>
  rw[hb] at h k1 hl;simp only at h k1 hl;rw[h,k1,hl]
def gI (n:Nd)(last:Int):Prop:=((n.kind=7\/n.kind=10)->DB n.kids=last)/\(n.kind=10->last=0\/last=11\/last=12)
theorem T9 {n:Nd}{last k:Int}(h:gI n last):Du n.kind (DB n.kids) k=HR k n.kind last:=by
 unfold Du HR
 by_cases h7:n.kind=7
 ·rw[h.1 (.inl h7),h7];rfl
 ·by_cases Pt:n.kind=10
  ·rw[h.1 (.inr Pt),Pt]
   rcases h.2 Pt with e|e|e<;>rw[e]<;>(cases k==11<;>cases k==12<;>rfl)
  ·rw[beq_eq_false_iff_ne.2 h7,beq_eq_false_iff_ne.2 Pt];simp only[cond_false]
   cases k==8<;>cases k==9<;>cases k==11<;>cases k==12<;>rfl
theorem ZO (l:List Nd)(n:Nd):DB (l++[n])=n.kind:=by
 unfold DB;simp
theorem Xi {n k:Nd}{last:Int}(h:gI n last)(hm:HR k.kind n.kind last=true):gI (EJ n k) k.kind:=by
 refine⟨fun _=>by rw[Cn,ZO],fun Pt=> ?_⟩
 rw[Qm] at Pt;rw[Pt] at hm;unfold HR at hm
 simp only[show((10:Int)==7)=false from rfl,show((10:Int)==10)=true from rfl,cond_true,cond_false,Bool.or_eq_true,Bool.and_eq_true,beq_iff_eq] at hm
 omega
theorem cC {n:Nd}{last:Int}{t:List UInt8}(h:gI n last):gI (.mk n.kind n.pl t n.attrs n.kids) last:=h
theorem gH {n k:Nd}{last:Int}(h7:n.kind≠7)(Pt:n.kind≠10):gI (EJ n k) last:=⟨fun h=>by
 rcases h with h|h
 ·exact absurd h h7
 ·exact absurd h Pt,fun h=>absurd h Pt⟩
theorem KE {s:List UInt8}:3<=(C6 s).kind/\(C6 s).kind<=13:=by
 rcases MQ s with h|h|h|h|h|h|h|h|h|h|h<;>rw[h]<;>decide
theorem Uu (x:El):FR x=CD x.kind:=rfl
theorem GS {t:Ex.Tok}{l:List Ex.Tok}{s s':Ps}(h:CS t s=s')(he:s'.e=0):Bi (t::l) s=Bi l s':=by
 rw[Bi,h,he];rfl
theorem Lk {t:Ex.Tok}{l:List Ex.Tok}{s s':Ps}(h:CS t s=s')(he:s'.e≠0):Bi (t::l) s=s':=by
 rw[Bi,h,beq_eq_false_iff_ne.2 he];rfl
theorem eL {long:Int}{s:Ps}(h:s.e≠0):Iv long s=.error (s.pl,s.e):=by
 unfold Iv;rw[beq_eq_false_iff_ne.2 h];rfl
theorem bD {t:Ex.Tok}{n:Nd}{stk:List Nd}{last:Int}{r:List Ex.Tok}(hg:VZ t)(hk:t.kind=2\/t.kind=3\/t.kind=5)(ho:gI n last):
  CS t ⟨n::stk,0,0⟩=⟨bif CD (Cc t) then EJ n (Ff t)::stk else Ff t::n::stk,(FA t n.kind last (stk.length+1) ⟨r,0,0⟩).pl,(FA t n.kind last (stk.length+1) ⟨r,0,0⟩).e⟩:=by
 have e1:(t.kind==1)=false:=beq_eq_false_iff_ne.2 (by omega)
 have e7:(t.kind==7)=false:=beq_eq_false_iff_ne.2 (by omega)
 unfold CS;rw[e1,e7];simp only[cond_false]
 by_cases h5:t.kind=5
 ·have kk:Cc t=14:=by unfold Cc;rw[h5];rfl
  rw[h5]
  simp only[show(((5:Int)==2)||((5:Int)==3))=false from rfl,show((5:Int)==5)=true from rfl,cond_true,cond_false]
  unfold HX FA Ff
  simp only[kk,h5,hg.2.2.2 h5,T9 ho,show CD 14=false from rfl,show((5:Int)==3)=false from rfl,show((14:Int)==14)=true from rfl,cond_true,cond_false,List.map_nil,show(false !=false)=false from rfl,Bool.false_or]
  cases HR 14 n.kind last<;>cases decide (16<stk.length+1)<;>rfl
 ·have hn:t.kind=2\/t.kind=3:=by omega
  have yF:((t.kind==2)||(t.kind==3))=true:=by rcases hn with h|h<;>rw[h]<;>rfl
  have kk:Cc t=(C6 t.name).kind:=by
   unfold Cc;rw[beq_eq_false_iff_ne.2 h5]
   exact KF (hg.2.1 (by omega))
  have pg:(((C6 t.name).kind:Int)==14)=false:=by
   have:=(KE (s:=t.name)).2
   exact beq_eq_false_iff_ne.2 (by omega)
  rw[yF];simp only[cond_true];unfold GA Nt FA Ff;simp only[kk,pg,cond_false,T9 ho,Uu,XE]
  cases CD ((C6 t.name).kind:Int)<;>cases t.kind==3<;>cases HR ((C6 t.name).kind:Int) n.kind last<;>cases decide (16<stk.length+1)<;>rfl
theorem eo {t:Ex.Tok}{n:Nd}{last:Int}(hg:VZ t)(hk:t.kind=4\/t.kind=6)(ho:gI n last):Hx t n=Jb t n.kind last/\(Jb t n.kind last=false->n.kind≠1):=by
 have key:∃k:Int,Ja t=k/\Dy t n.kind=(n.kind==k)/\k≠1:=by
  rcases hk with h|h
  ·refine⟨(C6 t.name).kind,by unfold Ja;rw[h];rfl,?_,?_⟩
   ·unfold Dy
    rw[h,KF (hg.2.1 (by omega))]
    simp only[show((4:Int)==6)=false from rfl,show((4:Int)==4)=true from rfl,Bool.false_and,Bool.false_or,Bool.true_and]
    exact Bool.eq_iff_iff.2 ⟨fun h=>beq_iff_eq.2 (beq_iff_eq.1 h).symm,fun h=>beq_iff_eq.2 (beq_iff_eq.1 h).symm⟩
   ·have:=(KE (s:=t.name)).1;omega
  ·refine⟨14,by unfold Ja;rw[h];rfl,?_,by decide⟩
   unfold Dy;rw[h];simp
 obtain⟨k,e1,e2,e3⟩:=key;unfold Hx Jb;rw[e1,e2]
 cases hn:n.kind==k with
 |false=>exact⟨rfl,fun h=>by cases h⟩
 |true=>
  have hn:=eq_of_beq hn
  refine⟨?_,fun _=>by rw[hn];exact e3⟩
  rw[<-hn];simp only[Bool.not_true,Bool.false_or]
  by_cases h7:n.kind=7
  ·rw[ho.1 (.inl h7)]
  ·by_cases Pt:n.kind=10
   ·rw[ho.1 (.inr Pt)]
   ·rw[beq_eq_false_iff_ne.2 h7,beq_eq_false_iff_ne.2 Pt];rfl
def fN (long:Int)(n:Nd)(stk:List Nd)(l:List Ex.Tok)(R:Nd×Rs):Prop:=
 (R.2.e=0->R.2.pl=0/\((stk=[]/\Bi l ⟨n::stk,0,0⟩=⟨[R.1],0,0⟩)\/∃m q,stk=m::q/\Bi l ⟨n::stk,0,0⟩=Bi R.2.l ⟨EJ m R.1::q,0,0⟩))/\
 (R.2.e≠0->Iv long (Bi l ⟨n::stk,0,0⟩)=.error (R.2.pl,R.2.e))
theorem K1 {long:Int}{n n':Nd}{stk:List Nd}{l l':List Ex.Tok}{R:Nd×Rs}(h:Bi l ⟨n::stk,0,0⟩=Bi l' ⟨n'::stk,0,0⟩)(g:fN long n' stk l' R):fN long n stk l R:=by
 unfold fN at g⊢;rw[h];exact g
theorem Ip {long:Int}{n k:Nd}{stk:List Nd}{l:List Ex.Tok}{s:Rs}(he:s.e≠0)(h:Iv long (Bi l ⟨n::stk,0,0⟩)=.error (s.pl,s.e)):fN long n stk l (k,s):=
 ⟨fun e=>absurd e he,fun _=>h⟩
theorem Uh {long:Int}:∀(f:Nat) (n:Nd) (last:Int) (stk:List Nd) (l:List Ex.Tok),l.length<f->(∀t∈l,VZ t)->gI n last->(n.kind=1↔stk=[])->fN long n stk l (Bu long f n last stk.length ⟨l,0,0⟩)
 |0,_,_,_,_,h,_,_,_=>absurd h (Nat.not_lt_zero _)
 |f+1,n,last,stk,[],h,hg,ho,hp=>by
  rw[Bu]
  simp only[show((0:Int)==0)=true from rfl,cond_true]
  by_cases h1:n.kind=1
  ·rw[h1,hp.1 h1]
   exact⟨fun _=>⟨rfl,.inl ⟨rfl,rfl⟩⟩,fun e=>absurd rfl e⟩
  ·rw[beq_eq_false_iff_ne.2 h1]
   refine Ip (s:=DV long 14 ⟨[],0,0⟩) (show(14:Int)≠0 by decide) ?_
   cases stk with
   |nil=>exact absurd (hp.2 rfl) h1
   |cons m q=>rfl
 |f+1,n,last,stk,t::r,h,hg,ho,hp=>by
  have hr:r.length<f:=by simp only[List.length_cons] at h;omega
  have gt:=hg t (by simp)
  have gr:∀u∈r,VZ u:=fun u hu=>hg u (by simp[hu])
  have ih:=Uh (long:=long) f;rw[Bu]
  simp only[show((0:Int)==0)=true from rfl,cond_true]
  by_cases aB:t.kind=4\/t.kind=6
  ·have eJ:((t.kind==4)||(t.kind==6))=true:=by rcases aB with h|h<;>rw[h]<;>rfl
   obtain⟨b1,b2⟩:=eo gt aB ho
   have hs:CS t ⟨n::stk,0,0⟩=Et t ⟨n::stk,0,0⟩:=by
    unfold CS
    rcases aB with h|h<;>rw[h]<;>rfl
   rw[eJ];simp only[cond_true]
   cases hb:Jb t n.kind last with
   |true=>
    refine Ip (s:=DV t.fr 13 ⟨r,0,0⟩) (show(13:Int)≠0 by decide) ?_
    have e:Et t ⟨n::stk,0,0⟩=Ir t.fr 13 ⟨n::stk,0,0⟩:=by
     unfold Et;simp only;rw[b1,hb];rfl
    rw[Lk (hs.trans e) (show(13:Int)≠0 by decide)]
    rfl
   |false=>
    cases stk with
    |nil=>exact absurd (hp.2 rfl) (b2 hb)
    |cons m q=>
     have e:Et t ⟨n::m::q,0,0⟩=⟨EJ m n::q,0,0⟩:=by
      unfold Et;simp only;rw[b1,hb];rfl
     exact⟨fun _=>⟨rfl,.inr ⟨m,q,rfl,GS (hs.trans e) rfl⟩⟩,fun e=>absurd rfl e⟩
  ·have eJ:((t.kind==4)||(t.kind==6))=false:=by rw[beq_eq_false_iff_ne.2 (by omega),beq_eq_false_iff_ne.2 (by omega)];rfl
   rw[eJ];simp only[cond_false]
   by_cases h7:t.kind=7
   ·rw[h7]
    simp only[show((7:Int)==7)=true from rfl,cond_true]
    have hs:CS t ⟨n::stk,0,0⟩=⟨.mk n.kind n.pl t.text n.attrs n.kids::stk,0,0⟩:=by
     unfold CS;rw[h7];rfl
    exact K1 (GS hs rfl) (ih _ last stk r hr gr (cC ho) hp)
   ·rw[beq_eq_false_iff_ne.2 h7];simp only[cond_false]
    by_cases h1:t.kind=1
    ·rw[h1]
     simp only[show((1:Int)==1)=true from rfl,cond_true]
     have hs:CS t ⟨n::stk,0,0⟩=FX t ⟨n::stk,0,0⟩:=by
      unfold CS;rw[h1];rfl
     unfold FX at hs;simp only at hs
     cases hk:(n.kind==7)||(n.kind==10) with
     |false=>
      have Jg:(!(n.kind==7)&& !(n.kind==10))=true:=by rw[<-Bool.not_or,hk];rfl
      rw[hk,cond_false] at hs;rw[Jg,cond_true];simp only[Bool.or_eq_false_iff,beq_eq_false_iff_ne] at hk;exact K1 (GS hs rfl) (ih _ last stk r hr gr (gH hk.1 hk.2) hp)
     |true=>
      have Jg:(!(n.kind==7)&& !(n.kind==10))=false:=by rw[<-Bool.not_or,hk];rfl
      rw[hk,cond_true] at hs;rw[Jg,cond_false]
      cases hb:(BZ t.text).isEmpty with
      |true=>
       rw[hb,cond_true] at hs;exact K1 (GS hs rfl) (ih _ last stk r hr gr ho hp)
      |false=>
       rw[hb,cond_false] at hs;rw[cond_false,HY rfl]
       refine Ip (show(13:Int)≠0 by decide) ?_
       rw[Lk hs (show(13:Int)≠0 by decide)]
       have hle:(BZ t.text).length<=t.text.length:=(List.dropWhile_suffix _).length_le;have ht:=gt.2.2.1
       have e:(t.to:Int)-(BZ t.text).length=(t.fr:Int)+CL t.text:=by
        unfold CL;rw[hb,cond_false];omega
       rw[e];rfl
    ·rw[beq_eq_false_iff_ne.2 h1];simp only[cond_false]
     have hk:t.kind=2\/t.kind=3\/t.kind=5:=by have:=gt.1;omega
     have hs:=bD (stk:=stk) (r:=r) gt hk ho
     by_cases he:(FA t n.kind last (stk.length+1) ⟨r,0,0⟩).e=0
     ·obtain⟨q1,q2⟩:=lQ he;rw[q1] at hs⊢
      simp only[show((0:Int)==0)=true from rfl,Bool.not_true,Bool.or_false]
      cases VI:CD (Cc t) with
      |true=>
       rw[VI,cond_true] at hs;rw[cond_true];exact K1 (GS hs rfl) (ih _ _ stk r hr gr (Xi ho q2) hp)
      |false=>
       rw[VI,cond_false] at hs;rw[cond_false]
       have k1:Cc t≠1:=by
        unfold Cc
        cases xD:t.kind==5 with
        |true=>exact show(14:Int)≠1 by decide
        |false=>
         rw[cond_false,KF (gt.2.1 (by have:=beq_eq_false_iff_ne.1 xD;omega))]
         have:=(KE (s:=t.name)).1;omega
       have g1:=ih (Ff t) 0 (n::stk) r hr gr ⟨fun _=>rfl,fun _=>.inl rfl⟩ ⟨fun h=>absurd h k1,fun h=>by cases h⟩
       rw[List.length_cons] at g1;have sr:=Ql (long:=long) f (Ff t) 0 (stk.length+1) ⟨r,0,0⟩;obtain⟨p,gT⟩:=PS (long:=long) f (Ff t) 0 (stk.length+1) ⟨r,0,0⟩;generalize Bu long f (Ff t) 0 (stk.length+1) ⟨r,0,0⟩=R1 at g1 sr gT;obtain⟨k,l1,yt,e1⟩:=R1;simp only at sr gT⊢
       by_cases Z8:e1=0
       ·obtain⟨fS,hh⟩:=g1.1 Z8;simp only at fS;subst Z8 fS
        have sc:Bi r ⟨Ff t::n::stk,0,0⟩=Bi l1 ⟨EJ n k::stk,0,0⟩:=by
         rcases hh with ⟨h0,_⟩|⟨m,q,h0,h1⟩
         ·cases h0
         ·injection h0 with yA xz
          subst yA xz;exact h1
        have hlen:l1.length<f:=by
         have:r.length=p.length+l1.length:=by rw[gT,List.length_append]
         omega
        refine K1 ((GS hs rfl).trans sc) (ih (EJ n k) k.kind stk l1 hlen (fun u hu=>gr u (by rw[gT];simp[hu])) (Xi ho ?_) hp)
        rw[sr];exact q2
       ·rw[HY (beq_eq_false_iff_ne.2 Z8)];refine Ip Z8 ?_;rw[GS hs rfl];exact g1.2 Z8
     ·have e0:((FA t n.kind last (stk.length+1) ⟨r,0,0⟩).e==0)=false:=beq_eq_false_iff_ne.2 he;rw[e0];simp only[Bool.not_false,Bool.or_true,cond_true];rw[HY e0];refine Ip he ?_;rw[Lk hs he];exact eL he
theorem bX (s:List UInt8):jq s=Bz s:=by
 unfold jq Bz;split
 ·rfl
 ·cases hl:Ex.lexM s with
  |error x=>rfl
  |ok l=>
   have g:=Uh (long:=s.length) (l.length+1) (.mk 1 0 [] [] []) 0 [] l (by omega) (UK hl) ⟨fun _=>rfl,fun _=>.inl rfl⟩ ⟨fun _=>rfl,fun _=>rfl⟩
   have hp:Vs s.length l=Iv s.length (Bi l ⟨[.mk 1 0 [] [] []],0,0⟩):=rfl;simp only;rw[hp];rw[List.length_nil] at g;generalize Bu s.length (l.length+1) (.mk 1 0 [] [] []) 0 0 ⟨l,0,0⟩=R at g
   by_cases he:R.2.e=0
   ·rcases(g.1 he).2 with ⟨_,h2⟩|⟨m,q,h,_⟩
    ·rw[he,h2];rfl
    ·cases h
   ·rw[beq_eq_false_iff_ne.2 he,g.2 he];rfl
end Go.Ai.Sp
end
section
namespace Go.Ai.Sp
open Go.Ai Go.RowKit Go.Ai.Ex
def hR (g:List (List AV))(a long pl e:Int):Hp:=[.grow 0 3 80,.grow 0 5 26,.mem 26 [.int .i64 0,.int .i64 0,.str [],.sl 3 [] (some 0),.sl 5 [] (some 1)],
 .grow 0 6 95,.mem 59 [.sl 6 g none,.int .i64 a,.int .i64 long,.int .i64 pl,.int .i64 e]]
def okB (r:Hp):Bool:=r.all fun b=>!HS b
def FQ (l:List Tok)(lo:Int)(r:Hp):Ci:=fun vs h K=>∃(p x a pl e:Int),vs=[.ptr 4 0,.int .i64 p,.int .i64 x]/\h=hR (l.map AJ) a lo pl e++r/\K (.tup []) (hR (l.map AJ) a lo (fE p x pl e).1 (fE p x pl e).2++r)
def WN :Ci:=fun vs h K=>∃s:List UInt8,vs=[.str s]/\K (.int .i64 (Ga s)) h
def WH :Ci:=fun vs h K=>∃k:Int,vs=[.int .i64 k]/\K (.str (Ml k)) h
def XY :Ci:=fun vs h K=>∃(k p:Int) (x y:List UInt8),vs=[.int .i64 k,.agg [.str x,.str y,.int .i64 p]]/\K (.bool (EP k x y)) h
def ib :Ci:=fun vs h K=>∃k i l:Int,vs=[.int .i64 k,.int .i64 i,.int .i64 l]/\K (.bool (HR k i l)) h
def Gk :Ci:=fun vs h K=>∃(t:Tok) (k:Int),vs=[.agg (Ex.encT t),.int .i64 k]/\K (.bool (Dy t k)) h
def Hk :Ci:=fun vs h K=>∃s:List UInt8,s.length<=limE/\vs=[.str s]/\K (.int .i64 (CL s)) h
def YU (l:List Tok)(lo:Int)(r:Hp):Ci:=fun vs h K=>∃(k a pl e:Int) (t:Tok),t.attrs.length<=limE/\vs=[.ptr 4 0,.int .i64 k,.agg (Ex.encT t)]/\h=hR (l.map AJ) a lo pl e++r/\
 K (.tup []) (hR (l.map AJ) a lo (EC k t.fr t.attrs (pl,e)).1 (EC k t.fr t.attrs (pl,e)).2++r)
def hT (l:List Tok)(long:Int)(s:Rs):Hp:=hR (l.map AJ) ((l.length-s.l.length:Nat):Int) long s.pl s.e
structure Iy (l:List Tok) (s:Rs):Prop where
 ml:∃p,l=p++s.l
 len:l.length<=limE
 tok:∀t∈l,VZ t/\t.attrs.length<=limE/\t.text.length<=limE/\t.to<=limE/\(t.kind=7->t.attrs=[])
abbrev Mk (n:Nd):List AV:=[.int .i64 n.kind,.int .i64 n.pl,.str n.text,.sl 3 (n.attrs.map Go.Ai.Ao) none,.sl 5 (Ac n.kids) none]
abbrev Ie (n:Nd)(o:Option Nat)(w:Nat):List AV:=[.int .i64 n.kind,.int .i64 n.pl,.str n.text,.sl 3 (n.attrs.map Go.Ai.Ao) o,.sl 5 (Ac n.kids) (some w)]
def Ew (N:Nat)(l:List Tok)(lo:Int)(r:Hp):Ci:=fun vs h K=>∃(t:Tok) (i la:Int) (d u:Nat) (s:Rs),s.l.length<N/\s.l.length<u/\Iy l s/\t∈l/\(t.kind=2\/t.kind=3\/t.kind=5)/\d<=17/\
 vs=[.ptr 4 0,.agg (Ex.encT t),.int .i64 i,.int .i64 la,.int .i64 d]/\h=hT l lo s++r/\∀(k:Nd) (s':Rs),DN lo u t i la d s=(k,s')->K (.agg (Mk k)) (hT l lo s'++r)
def Wp (N:Nat)(l:List Tok)(lo:Int):Ci:=fun vs h K=>∃(u:Nat) (s:Rs),s.l.length<N/\s.l.length<u/\Iy l s/\
 vs=[.ptr 4 0,.agg (Ie (.mk 1 0 [] [] []) (some 5) 6),.int .i64 0]/\h=hT l lo s++[.grow 0 3 80,.grow 0 5 26]/\
 ∀(n:Nd) (s':Rs),Bu lo u (.mk 1 0 [] [] []) 0 0 s=(n,s')->K (.agg (Ie n (some 5) 6)) (hT l lo s'++[.grow 0 3 80,.grow (Ac n.kids).length 5 26])
abbrev hC (t:Tok)(m:Nat):Hp:=[.mem 95 (Ex.encT t),.grow 0 3 80,.grow 0 5 26,.mem 26 [.int .i64 0,.int .i64 0,.str [],.sl 3 [] (some 6),.sl 5 [] (some 7)],.grow 0 3 80,.grow m 5 26]
def SZ (N:Nat)(l:List Tok)(lo:Int)(r:Hp):Ci:=fun vs h K=>∃(n:Nd) (t:Tok) (d u:Nat) (s:Rs),n.kids=[]/\s.l.length<N/\s.l.length<u/\Iy l s/\d<=16/\
 vs=[.ptr 4 0,.agg (Ie n none 10),.int .i64 d]/\h=hT l lo s++(hC t 0++r)/\
 ∀(n':Nd) (s':Rs),Bu lo u n 0 d s=(n',s')->K (.agg (Ie n' none 10)) (hT l lo s'++(hC t (Ac n'.kids).length++r))
def pJ (n:Nd)(z1 z2:Nat):Prop:=(z1=3\/n.attrs=[])/\(z2=5\/n.kids=[])
abbrev cE (n:Nd)(z1 z2:Nat):List AV:=[.int .i64 n.kind,.int .i64 n.pl,.str n.text,.sl z1 (n.attrs.map Go.Ai.Ao) none,.sl z2 (Ac n.kids) none]
def iZ :Ci:=fun vs h K=>∃s:List UInt8,s.length<=limE/\vs=[.str s]/\∀z1 z2:Nat,pJ (Bb s) z1 z2->K (.tup [.agg (cE (Bb s) z1 z2),.int .i64 (G8 s),.int .i64 (G7 s)]) h
def bJ :Ci:=fun vs h K=>∃(l:List Go.Ai.A8) (z:Nat),l.length<=limE/\(z=3\/l=[])/\vs=[.sl 3 (l.map Go.Ai.Ao) none,.sl z (l.map Go.Ai.Ao) none]/\K (.bool true) h
def Rh (N:Nat):Ci:=fun vs h K=>∃(n:Nd) (z1 z2 M:Nat),n.size<N/\bG M n/\M<=limE/\pJ n z1 z2/\vs=[.agg (Mk n),.agg (cE n z1 z2)]/\K (.bool true) h
def jX :Ci:=fun vs h K=>∃s:List UInt8,vs=[.str s]/\K (.bool true) h
end Go.Ai.Sp
end
