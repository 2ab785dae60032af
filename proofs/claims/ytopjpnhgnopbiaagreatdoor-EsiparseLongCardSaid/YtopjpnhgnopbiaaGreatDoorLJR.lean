/-
  The document's answer in plain terms, and that it is the program's. No statement about the program is made here.
-/
import Derived.Test.YtopjpnhgnopbiaaGreatDoorLJT
import Derived.Test.YtopjpnhgnopbiaaGreatDoorLJA
set_option linter.unusedVariables false
set_option linter.unusedSimpArgs false
set_option linter.unnecessarySimpa false
section
namespace Go.Ai.Sp
open Go.Ai Go.RowKit
structure Rs where
 l:List Ex.Tok
 pl:Int
 e:Int
def DW (p x:Int)(s:Rs):Rs:=⟨s.l,(fE p x s.pl s.e).1,(fE p x s.pl s.e).2⟩
def Gc (s:List UInt8):Int:=bif Ex.Bk s then((C7 s).kind:Int) else 0
def Mq (k:Int):List UInt8:=
 bif k==3 then [115,114,99] else bif k==4 then [110,97,109,101] else bif k==6 then [116,101,120,116] else bif k==11 then [116,101,115,116] else []
def EP (k:Int)(x y:List UInt8):Bool:=
 bif k==3 then(((x==[115,114,99])||(x==[97,108,116]))&& !(y==[]))||((x==[111,110,101,114,114,111,114])&&(y==[99,111,110,116,105,110,117,101])) else
 bif k==4 then((x==[110,97,109,101])&& !(y==[]))||((x==[102,101,116,99,104,97,98,108,101])&&((y==[121,101,115])||(y==[110,111]))) else
 bif k==6 then x==[116,101,120,116] else
 bif k==11 then(x==[116,101,115,116])&& !(y==[]) else false
def Gh (k:Int)(l:List Ex.A9):Bool:=(Mq k==[])||l.any fun a=>a.name==Mq k
def ED (k fr:Int)(l:List Ex.A9)(s:Int×Int):Int×Int:=
 l.foldl (fun s a=>bif !EP k a.name a.value then fE a.at' 12 s.1 s.2 else s) (bif !Gh k l then fE fr 12 s.1 s.2 else s)
def HS (k i l:Int):Bool:=
 bif i==7 then(k==8&&l==0)||(k==9&&l==8) else bif i==10 then(k==11&&(l==0||l==11))||(k==12&&l==11) else !(k==8)&&(!(k==9)&&(!(k==11)&& !(k==12)))
def Dz (t:Ex.Tok)(k:Int):Bool:=(t.kind==6&&k==14)||(t.kind==4&&Gc t.name==k)
def Jd (t:Ex.Tok)(k l:Int):Bool:=!Dz t k||((k==7&& !(l==9))||(k==10&&l==0))
def Cc (t:Ex.Tok):Int:=bif t.kind==5 then 14 else Gc t.name
def CD (k:Int):Bool:=k==3||k==6
def FC (t:Ex.Tok)(i l:Int)(deep:Nat)(s:Rs):Rs:=
 let k:=Cc t
 let s1:=bif (CD k !=(t.kind==3))|| !HS k i l then DW t.fr 13 s else s
 let s2:=bif decide (16<deep) then DW t.fr 3 s1 else s1
 bif k==14 then s2 else⟨s2.l,(ED k t.fr t.attrs (s2.pl,s2.e)).1,(ED k t.fr t.attrs (s2.pl,s2.e)).2⟩
def Fh (t:Ex.Tok):Nd:=.mk (Cc t) t.fr [] (t.attrs.map XV) []
def CL (s:List UInt8):Int:=bif (Ba s).isEmpty then -1 else((s.length-(Ba s).length:Nat):Int)
def Bv (long:Int):Nat->Nd->Int->Nat->Rs->Nd×Rs
 |0,n,_,_,s=>(n,s)
 |f+1,n,last,d,s=>
  bif s.e==0 then
   (match s.l with
   |[]=>(n,bif n.kind==1 then s else DW long 14 s)
   |t::r=>
    let s1:Rs:=⟨r,s.pl,s.e⟩
    bif t.kind==4||t.kind==6 then(n,bif Jd t n.kind last then DW t.fr 13 s1 else s1)
    else bif t.kind==7 then Bv long f (.mk n.kind n.pl t.text n.attrs n.kids) last d s1
    else bif t.kind==1 then
     (bif !(n.kind==7)&& !(n.kind==10) then Bv long f (EK n (.mk 2 t.fr t.text [] [])) last d s1
     else bif (Ba t.text).isEmpty then Bv long f n last d s1 else Bv long f n last d (DW ((t.fr:Int)+CL t.text) 13 s1))
    else
     let s2:=FC t n.kind last (d+1) s1
     let ks:=bif CD (Cc t)|| !(s2.e==0) then(Fh t,s2) else Bv long f (Fh t) 0 (d+1) s2
     Bv long f (EK n ks.1) ks.1.kind d ks.2)
  else(n,s)
def DP (long:Int)(f:Nat)(t:Ex.Tok)(i last:Int)(deep:Nat)(s:Rs):Nd×Rs:=
 bif CD (Cc t)|| !((FC t i last deep s).e==0) then(Fh t,FC t i last deep s) else Bv long f (Fh t) 0 deep (FC t i last deep s)
def j0 (s:List UInt8):Except (Int×Int) Nd:=
 if 65536<s.length then .error (65536,3) else
 match Ex.lexM s with
 |.error (p,e)=>.error ((p:Nat),e)
 |.ok l=>
  let R:=Bv s.length (l.length+1) (.mk 1 0 [] [] []) 0 0 ⟨l,0,0⟩
  bif R.2.e==0 then .ok R.1 else .error (R.2.pl,R.2.e)
theorem HZ {long:Int}{s:Rs}(h:(s.e==0)=false):∀(f:Nat) (n:Nd) (last:Int) (d:Nat),Bv long f n last d s=(n,s)
 |0,_,_,_=>rfl
 |f+1,n,last,d=>by rw[Bv,h];rfl
theorem Qq {long:Int}:∀(f:Nat) (n:Nd) (last:Int) (d:Nat) (s:Rs),(Bv long f n last d s).1.kind=n.kind
 |0,_,_,_,_=>rfl
 |f+1,n,last,d,s=>by
  have ih:=Qq (long:=long) f;rw[Bv]
  cases s.e==0 with
  |false=>rfl
  |true=>
   simp only[cond_true]
   cases s.l with
   |nil=>rfl
   |cons t r=>
    simp only
    cases t.kind==4||t.kind==6 with
    |true=>rfl
    |false=>
     simp only[cond_false]
     cases t.kind==7 with
     |true=>simp only[cond_true];rw[ih];rfl
     |false=>
      simp only[cond_false]
      cases t.kind==1 with
      |true=>
       simp only[cond_true]
       cases !(n.kind==7)&& !(n.kind==10) with
       |true=>simp only[cond_true];rw[ih];rfl
       |false=>simp only[cond_false];cases (Ba t.text).isEmpty<;>(simp only[cond_true,cond_false];rw[ih])
      |false=>simp only[cond_false];rw[ih];rfl
theorem MX (t:Ex.Tok)(i l:Int)(d:Nat)(s:Rs):(FC t i l d s).l=s.l:=by
 unfold FC;simp only
 cases (CD (Cc t) !=(t.kind==3))|| !HS (Cc t) i l<;>cases decide (16<d)<;>cases Cc t==14<;>rfl
theorem PY {long:Int}:∀(f:Nat) (n:Nd) (last:Int) (d:Nat) (s:Rs),∃p,s.l=p++(Bv long f n last d s).2.l
 |0,_,_,_,s=>⟨[],rfl⟩
 |f+1,n,last,d,s=>by
  have ih:=PY (long:=long) f
  have via:∀{t:Ex.Tok} {r:List Ex.Tok} {q:Rs} (n:Nd) (last:Int) (d:Nat),s.l=t::r->(∃p,r=p++q.l)->∃p,s.l=p++(Bv long f n last d q).2.l:=by
   intro t r q n last d h1 ⟨p0,h2⟩;obtain⟨p,hp⟩:=ih n last d q
   exact⟨t::(p0++p),by rw[h1,h2,hp];simp⟩
  rw[Bv]
  cases s.e==0 with
  |false=>exact⟨[],rfl⟩
  |true=>
   simp only[cond_true]
   cases hl:s.l with
   |nil=>
    refine⟨[],?_⟩;cases n.kind==1
    ·exact hl.symm
    ·exact hl.symm
   |cons t r=>
    simp only;rw[<-hl]
    cases t.kind==4||t.kind==6 with
    |true=>
     refine⟨[t],?_⟩;rw[hl]
     cases Jd t n.kind last<;>rfl
    |false=>
     simp only[cond_false]
     cases t.kind==7 with
     |true=>exact via _ _ _ hl ⟨[],rfl⟩
     |false=>
      simp only[cond_false]
      cases t.kind==1 with
      |true=>
       simp only[cond_true]
       cases !(n.kind==7)&& !(n.kind==10) with
       |true=>exact via _ _ _ hl ⟨[],rfl⟩
       |false=>
        simp only[cond_false]
        cases (Ba t.text).isEmpty with
        |true=>exact via _ _ _ hl ⟨[],rfl⟩
        |false=>exact via _ _ _ hl ⟨[],rfl⟩
      |false=>
       simp only[cond_false];refine via _ _ _ hl ?_
       cases CD (Cc t)|| !((FC t n.kind last (d+1) ⟨r,s.pl,s.e⟩).e==0) with
       |true=>exact⟨[],by rw[cond_true,MX];rfl⟩
       |false=>
        simp only[cond_false];obtain⟨p,hp⟩:=ih (Fh t) 0 (d+1) (FC t n.kind last (d+1) ⟨r,s.pl,s.e⟩);rw[MX] at hp;exact⟨p,hp⟩
theorem RO {long:Int}{f:Nat}{t:Ex.Tok}{i la:Int}{d:Nat}{s:Rs}:∃p,s.l=p++(DP long f t i la d s).2.l:=by
 unfold DP
 cases CD (Cc t)|| !((FC t i la d s).e==0) with
 |true=>exact⟨[],by rw[cond_true,MX];rfl⟩
 |false=>
  rw[cond_false];obtain⟨p,hp⟩:=PY (long:=long) f (Fh t) 0 d (FC t i la d s);rw[MX] at hp;exact⟨p,hp⟩
theorem KI {s:List UInt8}(h:Ex.Bk s=true):Gc s=(C7 s).kind:=by unfold Gc;rw[h];rfl
theorem MV (s:List UInt8):C7 s=⟨3,[[115,114,99],[97,108,116],[111,110,101,114,114,111,114]],1⟩\/C7 s=⟨4,[[110,97,109,101],[102,101,116,99,104,97,98,108,101]],1⟩\/C7 s=⟨5,[],0⟩\/C7 s=⟨6,[[116,101,120,116]],1⟩\/C7 s=⟨7,[],0⟩\/C7 s=⟨8,[],0⟩\/C7 s=⟨9,[],0⟩\/C7 s=⟨10,[],0⟩\/C7 s=⟨11,[[116,101,115,116]],1⟩\/C7 s=⟨12,[],0⟩\/C7 s=⟨13,[],0⟩:=by
 unfold C7
 cases s==[105,110,99,108,117,100,101] with
 |true=>exact .inl rfl
 |false=>
 cases s==[105,110,108,105,110,101] with
 |true=>exact .inr (.inl rfl)
 |false=>
 cases s==[114,101,109,111,118,101] with
 |true=>exact .inr (.inr (.inl rfl))
 |false=>
 cases s==[99,111,109,109,101,110,116] with
 |true=>exact .inr (.inr (.inr (.inl rfl)))
 |false=>
 cases s==[116,114,121] with
 |true=>exact .inr (.inr (.inr (.inr (.inl rfl))))
 |false=>
 cases s==[97,116,116,101,109,112,116] with
 |true=>exact .inr (.inr (.inr (.inr (.inr (.inl rfl)))))
 |false=>
 cases s==[101,120,99,101,112,116] with
 |true=>exact .inr (.inr (.inr (.inr (.inr (.inr (.inl rfl))))))
 |false=>
 cases s==[99,104,111,111,115,101] with
 |true=>exact .inr (.inr (.inr (.inr (.inr (.inr (.inr (.inl rfl)))))))
 |false=>
 cases s==[119,104,101,110] with
 |true=>exact .inr (.inr (.inr (.inr (.inr (.inr (.inr (.inr (.inl rfl))))))))
 |false=>
 cases s==[111,116,104,101,114,119,105,115,101] with
 |true=>exact .inr (.inr (.inr (.inr (.inr (.inr (.inr (.inr (.inr (.inl rfl)))))))))
 |false=>exact .inr (.inr (.inr (.inr (.inr (.inr (.inr (.inr (.inr (.inr rfl)))))))))
theorem PO {α β:Type}{f g:β->α->β}(h:∀b a,f b a=g b a):∀(l:List α) (b:β),l.foldl f b=l.foldl g b
 |[],_=>rfl
 |a::l,b=>by rw[List.foldl_cons,List.foldl_cons,h];exact PO h l _
theorem Yt (s x y:List UInt8):EP (C7 s).kind x y=((C7 s).names.any (·==x)&&Jq x y):=by
 have sw:∀a b:List UInt8,(a==b)=(b==a):=fun a b=>Bool.eq_iff_iff.2 ⟨fun h=>beq_iff_eq.2 (beq_iff_eq.1 h).symm,fun h=>beq_iff_eq.2 (beq_iff_eq.1 h).symm⟩
 have ne:∀{w v:List UInt8},(x==w)=true->w≠v->(x==v)=false:=by
  intro w v h1 h2;obtain rfl:=eq_of_beq h1;exact beq_eq_false_iff_ne.2 h2
 have t1:∀w:List UInt8,w≠[111,110,101,114,114,111,114]->w≠[102,101,116,99,104,97,98,108,101]->w≠[116,101,120,116]->((x==w)&&Jq x y)=((x==w)&& !(y==[])):=by
  intro w h1 h2 h3
  cases hx:x==w with
  |false=>rfl
  |true=>unfold Jq;rw[ne hx h1,ne hx h2,ne hx h3];rfl
 have t2:((x==[111,110,101,114,114,111,114])&&Jq x y)=((x==[111,110,101,114,114,111,114])&&(y==[99,111,110,116,105,110,117,101])):=by
  cases hx:x==[111,110,101,114,114,111,114] with
  |false=>rfl
  |true=>unfold Jq;rw[hx];rfl
 have t3:((x==[102,101,116,99,104,97,98,108,101])&&Jq x y)=((x==[102,101,116,99,104,97,98,108,101])&&((y==[121,101,115])||(y==[110,111]))):=by
  cases hx:x==[102,101,116,99,104,97,98,108,101] with
  |false=>rfl
  |true=>unfold Jq;rw[ne hx (v:=[111,110,101,114,114,111,114]) (by decide),hx];rfl
 have t4:((x==[116,101,120,116])&&Jq x y)=(x==[116,101,120,116]):=by
  cases hx:x==[116,101,120,116] with
  |false=>rfl
  |true=>unfold Jq;rw[ne hx (v:=[111,110,101,114,114,111,114]) (by decide),ne hx (v:=[102,101,116,99,104,97,98,108,101]) (by decide),hx];rfl
 have a1:=t1 [115,114,99] (by decide) (by decide) (by decide)
 have a2:=t1 [97,108,116] (by decide) (by decide) (by decide)
 have a3:=t1 [110,97,109,101] (by decide) (by decide) (by decide)
 have a4:=t1 [116,101,115,116] (by decide) (by decide) (by decide)
 rcases MV s with h|h|h|h|h|h|h|h|h|h|h<;>rw[h]<;>simp only[List.any_cons,List.any_nil,Bool.or_false,Bool.false_and,sw [115,114,99] x,sw [97,108,116] x,sw [111,110,101,114,114,111,114] x,sw [110,97,109,101] x,sw [102,101,116,99,104,97,98,108,101] x,sw [116,101,120,116] x,sw [116,101,115,116] x,Bool.and_or_distrib_right,a1,a2,a3,a4,t2,t3,t4]<;>unfold EP
 ·show((((x==[115,114,99])||(x==[97,108,116]))&& !(y==[]))||((x==[111,110,101,114,114,111,114])&&(y==[99,111,110,116,105,110,117,101])))=_;rw[Bool.and_or_distrib_right,Bool.or_assoc]
 ·rfl
 ·rfl
 ·rfl
 ·rfl
 ·rfl
 ·rfl
 ·rfl
 ·rfl
 ·rfl
 ·rfl
theorem XJ (s:List UInt8)(fr:Int)(l:List Ex.A9)(q:Int×Int):ED (C7 s).kind fr l q=A8 (C7 s) fr l q:=by
 unfold ED A8
 have h1:(bif !Gh (C7 s).kind l then fE fr 12 q.1 q.2 else q)=((C7 s).names.take (C7 s).Jb).foldl (fun s nm=>bif !(l.any fun a=>a.name==nm) then fE fr 12 s.1 s.2 else s) q:=by
  unfold Gh
  rcases MV s with h|h|h|h|h|h|h|h|h|h|h<;>rw[h]<;>rfl
 rw[h1]
 refine PO (fun b a=> ?_) l _
 rw[Yt,Bool.not_and]
def Vg (t:Ex.Tok):Prop:=(t.kind=1\/t.kind=2\/t.kind=3\/t.kind=4\/t.kind=5\/t.kind=6\/t.kind=7)/\((t.kind=2\/t.kind=3\/t.kind=4)->Ex.Bk t.name=true)/\(t.to=t.fr+t.text.length)/\(t.kind=5->t.attrs=[])
theorem TJ {hid:Bool}{l:List Ex.Tok}(h:Ex.VG hid l):∀t∈l,((t.kind=2\/t.kind=3\/t.kind=4)->Ex.Bk t.name=true)/\(t.kind=5->t.attrs=[]):=by
 induction h with
 |nil=>intro t ht;cases ht
 |text k1 _ _ _ _ _ _ ih=>
  intro t ht
  rcases List.mem_cons.1 ht with rfl|ht
  ·exact⟨fun h=>by omega,fun h=>by omega⟩
  ·exact ih t ht
 |tag k1 k2 _ _ ih=>
  intro t ht
  rcases List.mem_cons.1 ht with rfl|ht
  ·exact⟨fun _=>k2,fun h=>by rcases k1 with k|k<;>omega⟩
  ·exact ih t ht
 |own k1 k2 _ a1 _ a3 c1 _ _ _ _ ih=>
  intro t ht
  rcases List.mem_cons.1 ht with rfl|ht
  ·exact⟨fun _=>by rcases k2 with k|k<;>rw[k]<;>decide,fun h=>by omega⟩
  ·rcases List.mem_cons.1 ht with rfl|ht
   ·exact⟨fun h=>by omega,fun h=>a3⟩
   ·exact ih t ht
 |close k1 _ k3 _ ih=>
  intro t ht
  rcases List.mem_cons.1 ht with rfl|ht
  ·exact⟨fun _=>k3,fun h=>by omega⟩
  ·exact ih t ht
 |kv k1 _ k3 _ ih=>
  intro t ht
  rcases List.mem_cons.1 ht with rfl|ht
  ·exact⟨fun h=>by omega,fun _=>k3⟩
  ·exact ih t ht
 |shown k1 _ k3 _ _ ih=>
  intro t ht
  rcases List.mem_cons.1 ht with rfl|ht
  ·exact⟨fun h=>by omega,fun _=>k3⟩
  ·exact ih t ht
theorem XQ {s:List UInt8}:∀(r:List Ex.Tok) (a:Nat) (prev:Option Ex.Tok) (hid:Bool),Ex.WG s a prev hid r->∀t∈r,t.to=t.fr+t.text.length
 |[],_,_,_,_,t,ht=>by cases ht
 |u::r,a,prev,hid,h,t,ht=>by
  unfold Ex.WG at h;obtain⟨h1,h2,h3,h4,_,_,_,_,_,_,h5⟩:=h
  rcases List.mem_cons.1 ht with rfl|ht
  ·rw[<-h4];unfold Ex.cut;simp only[List.length_take,List.length_drop];omega
  ·exact XQ r _ _ _ h5 t ht
theorem UP {s:List UInt8}{l:List Ex.Tok}(h:Ex.lexM s=.ok l):∀t∈l,Vg t:=fun t ht=>
 ⟨XR (Ex.JM h) t ht,(TJ (Ex.JM h) t ht).1,XQ l 0 none false (Ex.Hq h) t ht,(TJ (Ex.JM h) t ht).2⟩
theorem uM (p x pl:Int):fE p x pl 0=(p,x):=rfl
theorem lQ {p x pl e:Int}(h:e≠0):fE p x pl e=(pl,e):=by
 unfold fE;rw[beq_eq_false_iff_ne.2 h];rfl
def KY (q:Int×Int):Prop:=q.2=0->q.1=0
theorem Hh {p x:Int}{q:Int×Int}(hx:x≠0):KY (fE p x q.1 q.2)/\((fE p x q.1 q.2).2≠0):=by
 by_cases h:q.2=0
 ·rw[h,uM]
  exact⟨fun e=>absurd e hx,hx⟩
 ·rw[lQ h]
  exact⟨fun e=>absurd e h,h⟩
theorem VY {k fr:Int}{l:List Ex.A9}{q:Int×Int}(h:KY q):KY (ED k fr l q)/\((ED k fr l q).2=0->q.2=0):=by
 unfold ED
 have h1:KY (bif !Gh k l then fE fr 12 q.1 q.2 else q)/\((bif !Gh k l then fE fr 12 q.1 q.2 else q).2=0->q.2=0):=by
  cases Gh k l with
  |true=>exact⟨h,id⟩
  |false=>exact⟨(Hh (by decide)).1,fun e=>absurd e (Hh (by decide)).2⟩
 generalize (bif !Gh k l then fE fr 12 q.1 q.2 else q)=q1 at h1
 have g:∀(l:List Ex.A9) (q1:Int×Int),KY q1->KY (l.foldl (fun s a=>bif !EP k a.name a.value then fE a.at' 12 s.1 s.2 else s) q1)/\
   ((l.foldl (fun s a=>bif !EP k a.name a.value then fE a.at' 12 s.1 s.2 else s) q1).2=0->q1.2=0):=by
  intro l
  induction l with
  |nil=>intro q1 h;exact⟨h,id⟩
  |cons a l ih=>
   intro q1 h;rw[List.foldl_cons]
   have h2:KY (bif !EP k a.name a.value then fE a.at' 12 q1.1 q1.2 else q1)/\((bif !EP k a.name a.value then fE a.at' 12 q1.1 q1.2 else q1).2=0->q1.2=0):=by
    cases EP k a.name a.value with
    |true=>exact⟨h,id⟩
    |false=>exact⟨(Hh (by decide)).1,fun e=>absurd e (Hh (by decide)).2⟩
   obtain⟨i1,i2⟩:=ih _ h2.1
   exact⟨i1,fun e=>h2.2 (i2 e)⟩
 obtain⟨g1,g2⟩:=g l q1 h1.1
 exact⟨g1,fun e=>h1.2 (g2 e)⟩
theorem fJ {k fr:Int}{l:List Ex.A9}{q:Int×Int}(h:q.2≠0):(ED k fr l q).2≠0:=by
 unfold ED
 have cu:∀(x:Int) (q:Int×Int),q.2≠0->(fE x 12 q.1 q.2).2≠0:=fun x q h=>by rw[lQ h];exact h
 have h1:(bif !Gh k l then fE fr 12 q.1 q.2 else q).2≠0:=by
  cases Gh k l with
  |true=>exact h
  |false=>exact cu _ _ h
 generalize (bif !Gh k l then fE fr 12 q.1 q.2 else q)=q1 at h1
 have g:∀(l:List Ex.A9) (q1:Int×Int),q1.2≠0->(l.foldl (fun s a=>bif !EP k a.name a.value then fE a.at' 12 s.1 s.2 else s) q1).2≠0:=by
  intro l
  induction l with
  |nil=>intro q1 h;exact h
  |cons a l ih=>
   intro q1 h;rw[List.foldl_cons];refine ih _ ?_
   cases EP k a.name a.value with
   |true=>exact h
   |false=>exact cu _ _ h
 exact g l q1 h1
theorem Zr {t:Ex.Tok}{i la:Int}{d:Nat}{s:Rs}(h:(FC t i la d s).e=0):d<=16:=by
 apply Decidable.byContradiction;intro hd
 have hd:decide (16<d)=true:=decide_eq_true (by omega)
 revert h;unfold FC;simp only;generalize (bif (CD (Cc t) !=(t.kind==3))|| !HS (Cc t) i la then DW t.fr 13 s else s)=s1;rw[hd,cond_true]
 have h2:(DW t.fr 3 s1).e≠0:=(Hh (q:=(s1.pl,s1.e)) (by decide)).2
 cases Cc t==14 with
 |true=>exact h2
 |false=>exact fJ (q:=((DW t.fr 3 s1).pl,(DW t.fr 3 s1).e)) h2
theorem lb {t:Ex.Tok}{i la:Int}{d:Nat}{r:List Ex.Tok}(h:(FC t i la d ⟨r,0,0⟩).e=0):FC t i la d ⟨r,0,0⟩=⟨r,0,0⟩/\HS (Cc t) i la=true:=by
 have hl:=MX t i la d ⟨r,0,0⟩
 have key:(FC t i la d ⟨r,0,0⟩).pl=0/\HS (Cc t) i la=true:=by
  unfold FC at h⊢;simp only at h⊢;generalize GK:(bif (CD (Cc t) !=(t.kind==3))|| !HS (Cc t) i la then DW t.fr 13 ⟨r,0,0⟩ else(⟨r,0,0⟩:Rs))=s1 at h⊢
  have z1:KY (s1.pl,s1.e)/\(s1.e=0->HS (Cc t) i la=true):=by
   rw[<-GK]
   cases hm:HS (Cc t) i la with
   |true=>
    cases CD (Cc t) !=(t.kind==3) with
    |true=>exact⟨fun e=>absurd e (show((13:Int)≠0) by decide),fun _=>rfl⟩
    |false=>exact⟨fun _=>rfl,fun _=>rfl⟩
   |false=>
    have e:((CD (Cc t) !=(t.kind==3))|| !false)=true:=by simp
    rw[e]
    exact⟨fun e=>absurd e (show((13:Int)≠0) by decide),fun e=>absurd e (show((13:Int)≠0) by decide)⟩
  generalize JO:(bif decide (16<d) then DW t.fr 3 s1 else s1)=s2 at h⊢
  have z2:KY (s2.pl,s2.e)/\(s2.e=0->s1.e=0):=by
   rw[<-JO]
   cases decide (16<d) with
   |true=>exact⟨(Hh (q:=(s1.pl,s1.e)) (by decide)).1,fun e=>absurd e (Hh (q:=(s1.pl,s1.e)) (by decide)).2⟩
   |false=>exact⟨z1.1,id⟩
  cases hk:Cc t==14 with
  |true=>
   simp only[hk] at h;simp only[cond_true] at h⊢;exact⟨z2.1 h,z1.2 (z2.2 h)⟩
  |false=>
   simp only[hk] at h;simp only[cond_false] at h⊢;obtain⟨z3,z4⟩:=VY (k:=Cc t) (fr:=t.fr) (l:=t.attrs) z2.1;exact⟨z3 h,z1.2 (z2.2 (z4 h))⟩
 refine⟨?_,key.2⟩;obtain⟨k1,k2⟩:=key
 cases hb:FC t i la d ⟨r,0,0⟩ with
 |mk l' fY e'=>
  rw[hb] at h k1 hl;simp only at h k1 hl;rw[h,k1,hl]
def gS (n:Nd)(last:Int):Prop:=((n.kind=7\/n.kind=10)->DC n.kids=last)/\(n.kind=10->last=0\/last=11\/last=12)
theorem UE {n:Nd}{last k:Int}(h:gS n last):Dv n.kind (DC n.kids) k=HS k n.kind last:=by
 unfold Dv HS
 by_cases h7:n.kind=7
 ·rw[h.1 (.inl h7),h7];rfl
 ·by_cases Py:n.kind=10
  ·rw[h.1 (.inr Py),Py]
   rcases h.2 Py with e|e|e<;>rw[e]<;>(cases k==11<;>cases k==12<;>rfl)
  ·rw[beq_eq_false_iff_ne.2 h7,beq_eq_false_iff_ne.2 Py];simp only[cond_false]
   cases k==8<;>cases k==9<;>cases k==11<;>cases k==12<;>rfl
theorem ZR (l:List Nd)(n:Nd):DC (l++[n])=n.kind:=by
 unfold DC;simp
theorem Xl {n k:Nd}{last:Int}(h:gS n last)(hm:HS k.kind n.kind last=true):gS (EK n k) k.kind:=by
 refine⟨fun _=>by rw[Cn,ZR],fun Py=> ?_⟩
 rw[Qr] at Py;rw[Py] at hm;unfold HS at hm
 simp only[show((10:Int)==7)=false from rfl,show((10:Int)==10)=true from rfl,cond_true,cond_false,Bool.or_eq_true,Bool.and_eq_true,beq_iff_eq] at hm
 omega
theorem cK {n:Nd}{last:Int}{t:List UInt8}(h:gS n last):gS (.mk n.kind n.pl t n.attrs n.kids) last:=h
theorem gR {n k:Nd}{last:Int}(h7:n.kind≠7)(Py:n.kind≠10):gS (EK n k) last:=⟨fun h=>by
 rcases h with h|h
 ·exact absurd h h7
 ·exact absurd h Py,fun h=>absurd h Py⟩
theorem KH {s:List UInt8}:3<=(C7 s).kind/\(C7 s).kind<=13:=by
 rcases MV s with h|h|h|h|h|h|h|h|h|h|h<;>rw[h]<;>decide
theorem Uz (x:El):FU x=CD x.kind:=rfl
theorem GV {t:Ex.Tok}{l:List Ex.Tok}{s s':Ps}(h:CS t s=s')(he:s'.e=0):Bi (t::l) s=Bi l s':=by
 rw[Bi,h,he];rfl
theorem Lp {t:Ex.Tok}{l:List Ex.Tok}{s s':Ps}(h:CS t s=s')(he:s'.e≠0):Bi (t::l) s=s':=by
 rw[Bi,h,beq_eq_false_iff_ne.2 he];rfl
theorem eR {long:Int}{s:Ps}(h:s.e≠0):Iy long s=.error (s.pl,s.e):=by
 unfold Iy;rw[beq_eq_false_iff_ne.2 h];rfl
theorem bL {t:Ex.Tok}{n:Nd}{stk:List Nd}{last:Int}{r:List Ex.Tok}(hg:Vg t)(hk:t.kind=2\/t.kind=3\/t.kind=5)(ho:gS n last):
  CS t ⟨n::stk,0,0⟩=⟨bif CD (Cc t) then EK n (Fh t)::stk else Fh t::n::stk,(FC t n.kind last (stk.length+1) ⟨r,0,0⟩).pl,(FC t n.kind last (stk.length+1) ⟨r,0,0⟩).e⟩:=by
 have e1:(t.kind==1)=false:=beq_eq_false_iff_ne.2 (by omega)
 have e7:(t.kind==7)=false:=beq_eq_false_iff_ne.2 (by omega)
 unfold CS;rw[e1,e7];simp only[cond_false]
 by_cases h5:t.kind=5
 ·have kk:Cc t=14:=by unfold Cc;rw[h5];rfl
  rw[h5]
  simp only[show(((5:Int)==2)||((5:Int)==3))=false from rfl,show((5:Int)==5)=true from rfl,cond_true,cond_false]
  unfold HY FC Fh
  simp only[kk,h5,hg.2.2.2 h5,UE ho,show CD 14=false from rfl,show((5:Int)==3)=false from rfl,show((14:Int)==14)=true from rfl,cond_true,cond_false,List.map_nil,show(false !=false)=false from rfl,Bool.false_or]
  cases HS 14 n.kind last<;>cases decide (16<stk.length+1)<;>rfl
 ·have hn:t.kind=2\/t.kind=3:=by omega
  have yX:((t.kind==2)||(t.kind==3))=true:=by rcases hn with h|h<;>rw[h]<;>rfl
  have kk:Cc t=(C7 t.name).kind:=by
   unfold Cc;rw[beq_eq_false_iff_ne.2 h5]
   exact KI (hg.2.1 (by omega))
  have qB:(((C7 t.name).kind:Int)==14)=false:=by
   have:=(KH (s:=t.name)).2
   exact beq_eq_false_iff_ne.2 (by omega)
  rw[yX];simp only[cond_true];unfold GC Nz FC Fh;simp only[kk,qB,cond_false,UE ho,Uz,XJ]
  cases CD ((C7 t.name).kind:Int)<;>cases t.kind==3<;>cases HS ((C7 t.name).kind:Int) n.kind last<;>cases decide (16<stk.length+1)<;>rfl
theorem fH {t:Ex.Tok}{n:Nd}{last:Int}(hg:Vg t)(hk:t.kind=4\/t.kind=6)(ho:gS n last):Hz t n=Jd t n.kind last/\(Jd t n.kind last=false->n.kind≠1):=by
 have key:∃k:Int,Jc t=k/\Dz t n.kind=(n.kind==k)/\k≠1:=by
  rcases hk with h|h
  ·refine⟨(C7 t.name).kind,by unfold Jc;rw[h];rfl,?_,?_⟩
   ·unfold Dz
    rw[h,KI (hg.2.1 (by omega))]
    simp only[show((4:Int)==6)=false from rfl,show((4:Int)==4)=true from rfl,Bool.false_and,Bool.false_or,Bool.true_and]
    exact Bool.eq_iff_iff.2 ⟨fun h=>beq_iff_eq.2 (beq_iff_eq.1 h).symm,fun h=>beq_iff_eq.2 (beq_iff_eq.1 h).symm⟩
   ·have:=(KH (s:=t.name)).1;omega
  ·refine⟨14,by unfold Jc;rw[h];rfl,?_,by decide⟩
   unfold Dz;rw[h];simp
 obtain⟨k,e1,e2,e3⟩:=key;unfold Hz Jd;rw[e1,e2]
 cases hn:n.kind==k with
 |false=>exact⟨rfl,fun h=>by cases h⟩
 |true=>
  have hn:=eq_of_beq hn
  refine⟨?_,fun _=>by rw[hn];exact e3⟩
  rw[<-hn];simp only[Bool.not_true,Bool.false_or]
  by_cases h7:n.kind=7
  ·rw[ho.1 (.inl h7)]
  ·by_cases Py:n.kind=10
   ·rw[ho.1 (.inr Py)]
   ·rw[beq_eq_false_iff_ne.2 h7,beq_eq_false_iff_ne.2 Py];rfl
def fW (long:Int)(n:Nd)(stk:List Nd)(l:List Ex.Tok)(R:Nd×Rs):Prop:=
 (R.2.e=0->R.2.pl=0/\((stk=[]/\Bi l ⟨n::stk,0,0⟩=⟨[R.1],0,0⟩)\/∃m q,stk=m::q/\Bi l ⟨n::stk,0,0⟩=Bi R.2.l ⟨EK m R.1::q,0,0⟩))/\
 (R.2.e≠0->Iy long (Bi l ⟨n::stk,0,0⟩)=.error (R.2.pl,R.2.e))
theorem K5 {long:Int}{n n':Nd}{stk:List Nd}{l l':List Ex.Tok}{R:Nd×Rs}(h:Bi l ⟨n::stk,0,0⟩=Bi l' ⟨n'::stk,0,0⟩)(g:fW long n' stk l' R):fW long n stk l R:=by
 unfold fW at g⊢;rw[h];exact g
theorem Is {long:Int}{n k:Nd}{stk:List Nd}{l:List Ex.Tok}{s:Rs}(he:s.e≠0)(h:Iy long (Bi l ⟨n::stk,0,0⟩)=.error (s.pl,s.e)):fW long n stk l (k,s):=
 ⟨fun e=>absurd e he,fun _=>h⟩
theorem Um {long:Int}:∀(f:Nat) (n:Nd) (last:Int) (stk:List Nd) (l:List Ex.Tok),l.length<f->(∀t∈l,Vg t)->gS n last->(n.kind=1↔stk=[])->fW long n stk l (Bv long f n last stk.length ⟨l,0,0⟩)
 |0,_,_,_,_,h,_,_,_=>absurd h (Nat.not_lt_zero _)
 |f+1,n,last,stk,[],h,hg,ho,hp=>by
  rw[Bv]
  simp only[show((0:Int)==0)=true from rfl,cond_true]
  by_cases h1:n.kind=1
  ·rw[h1,hp.1 h1]
   exact⟨fun _=>⟨rfl,.inl ⟨rfl,rfl⟩⟩,fun e=>absurd rfl e⟩
  ·rw[beq_eq_false_iff_ne.2 h1]
   refine Is (s:=DW long 14 ⟨[],0,0⟩) (show(14:Int)≠0 by decide) ?_
   cases stk with
   |nil=>exact absurd (hp.2 rfl) h1
   |cons m q=>rfl
 |f+1,n,last,stk,t::r,h,hg,ho,hp=>by
  have hr:r.length<f:=by simp only[List.length_cons] at h;omega
  have gt:=hg t (by simp)
  have gr:∀u∈r,Vg u:=fun u hu=>hg u (by simp[hu])
  have ih:=Um (long:=long) f;rw[Bv]
  simp only[show((0:Int)==0)=true from rfl,cond_true]
  by_cases aI:t.kind=4\/t.kind=6
  ·have eP:((t.kind==4)||(t.kind==6))=true:=by rcases aI with h|h<;>rw[h]<;>rfl
   obtain⟨b1,b2⟩:=fH gt aI ho
   have hs:CS t ⟨n::stk,0,0⟩=Ev t ⟨n::stk,0,0⟩:=by
    unfold CS
    rcases aI with h|h<;>rw[h]<;>rfl
   rw[eP];simp only[cond_true]
   cases hb:Jd t n.kind last with
   |true=>
    refine Is (s:=DW t.fr 13 ⟨r,0,0⟩) (show(13:Int)≠0 by decide) ?_
    have e:Ev t ⟨n::stk,0,0⟩=Iu t.fr 13 ⟨n::stk,0,0⟩:=by
     unfold Ev;simp only;rw[b1,hb];rfl
    rw[Lp (hs.trans e) (show(13:Int)≠0 by decide)]
    rfl
   |false=>
    cases stk with
    |nil=>exact absurd (hp.2 rfl) (b2 hb)
    |cons m q=>
     have e:Ev t ⟨n::m::q,0,0⟩=⟨EK m n::q,0,0⟩:=by
      unfold Ev;simp only;rw[b1,hb];rfl
     exact⟨fun _=>⟨rfl,.inr ⟨m,q,rfl,GV (hs.trans e) rfl⟩⟩,fun e=>absurd rfl e⟩
  ·have eP:((t.kind==4)||(t.kind==6))=false:=by rw[beq_eq_false_iff_ne.2 (by omega),beq_eq_false_iff_ne.2 (by omega)];rfl
   rw[eP];simp only[cond_false]
   by_cases h7:t.kind=7
   ·rw[h7]
    simp only[show((7:Int)==7)=true from rfl,cond_true]
    have hs:CS t ⟨n::stk,0,0⟩=⟨.mk n.kind n.pl t.text n.attrs n.kids::stk,0,0⟩:=by
     unfold CS;rw[h7];rfl
    exact K5 (GV hs rfl) (ih _ last stk r hr gr (cK ho) hp)
   ·rw[beq_eq_false_iff_ne.2 h7];simp only[cond_false]
    by_cases h1:t.kind=1
    ·rw[h1]
     simp only[show((1:Int)==1)=true from rfl,cond_true]
     have hs:CS t ⟨n::stk,0,0⟩=FZ t ⟨n::stk,0,0⟩:=by
      unfold CS;rw[h1];rfl
     unfold FZ at hs;simp only at hs
     cases hk:(n.kind==7)||(n.kind==10) with
     |false=>
      have Ji:(!(n.kind==7)&& !(n.kind==10))=true:=by rw[<-Bool.not_or,hk];rfl
      rw[hk,cond_false] at hs;rw[Ji,cond_true];simp only[Bool.or_eq_false_iff,beq_eq_false_iff_ne] at hk;exact K5 (GV hs rfl) (ih _ last stk r hr gr (gR hk.1 hk.2) hp)
     |true=>
      have Ji:(!(n.kind==7)&& !(n.kind==10))=false:=by rw[<-Bool.not_or,hk];rfl
      rw[hk,cond_true] at hs;rw[Ji,cond_false]
      cases hb:(Ba t.text).isEmpty with
      |true=>
       rw[hb,cond_true] at hs;exact K5 (GV hs rfl) (ih _ last stk r hr gr ho hp)
      |false=>
       rw[hb,cond_false] at hs;rw[cond_false,HZ rfl]
       refine Is (show(13:Int)≠0 by decide) ?_
       rw[Lp hs (show(13:Int)≠0 by decide)]
       have hle:(Ba t.text).length<=t.text.length:=(List.dropWhile_suffix _).length_le;have ht:=gt.2.2.1
       have e:(t.to:Int)-(Ba t.text).length=(t.fr:Int)+CL t.text:=by
        unfold CL;rw[hb,cond_false];omega
       rw[e];rfl
    ·rw[beq_eq_false_iff_ne.2 h1];simp only[cond_false]
     have hk:t.kind=2\/t.kind=3\/t.kind=5:=by have:=gt.1;omega
     have hs:=bL (stk:=stk) (r:=r) gt hk ho
     by_cases he:(FC t n.kind last (stk.length+1) ⟨r,0,0⟩).e=0
     ·obtain⟨q1,q2⟩:=lb he;rw[q1] at hs⊢
      simp only[show((0:Int)==0)=true from rfl,Bool.not_true,Bool.or_false]
      cases VO:CD (Cc t) with
      |true=>
       rw[VO,cond_true] at hs;rw[cond_true];exact K5 (GV hs rfl) (ih _ _ stk r hr gr (Xl ho q2) hp)
      |false=>
       rw[VO,cond_false] at hs;rw[cond_false]
       have k1:Cc t≠1:=by
        unfold Cc
        cases xT:t.kind==5 with
        |true=>exact show(14:Int)≠1 by decide
        |false=>
         rw[cond_false,KI (gt.2.1 (by have:=beq_eq_false_iff_ne.1 xT;omega))]
         have:=(KH (s:=t.name)).1;omega
       have g1:=ih (Fh t) 0 (n::stk) r hr gr ⟨fun _=>rfl,fun _=>.inl rfl⟩ ⟨fun h=>absurd h k1,fun h=>by cases h⟩
       rw[List.length_cons] at g1;have tG:=Qq (long:=long) f (Fh t) 0 (stk.length+1) ⟨r,0,0⟩;obtain⟨p,gh⟩:=PY (long:=long) f (Fh t) 0 (stk.length+1) ⟨r,0,0⟩;generalize Bv long f (Fh t) 0 (stk.length+1) ⟨r,0,0⟩=R1 at g1 tG gh;obtain⟨k,l1,zH,e1⟩:=R1;simp only at tG gh⊢
       by_cases aF:e1=0
       ·obtain⟨fc,hh⟩:=g1.1 aF;simp only at fc;subst aF fc
        have sr:Bi r ⟨Fh t::n::stk,0,0⟩=Bi l1 ⟨EK n k::stk,0,0⟩:=by
         rcases hh with ⟨h0,_⟩|⟨m,q,h0,h1⟩
         ·cases h0
         ·injection h0 with yR yQ
          subst yR yQ;exact h1
        have hlen:l1.length<f:=by
         have:r.length=p.length+l1.length:=by rw[gh,List.length_append]
         omega
        refine K5 ((GV hs rfl).trans sr) (ih (EK n k) k.kind stk l1 hlen (fun u hu=>gr u (by rw[gh];simp[hu])) (Xl ho ?_) hp)
        rw[tG];exact q2
       ·rw[HZ (beq_eq_false_iff_ne.2 aF)];refine Is aF ?_;rw[GV hs rfl];exact g1.2 aF
     ·have e0:((FC t n.kind last (stk.length+1) ⟨r,0,0⟩).e==0)=false:=beq_eq_false_iff_ne.2 he;rw[e0];simp only[Bool.not_false,Bool.or_true,cond_true];rw[HZ e0];refine Is he ?_;rw[Lp hs he];exact eR he
theorem bj (s:List UInt8):j0 s=Bz s:=by
 unfold j0 Bz;split
 ·rfl
 ·cases hl:Ex.lexM s with
  |error x=>rfl
  |ok l=>
   have g:=Um (long:=s.length) (l.length+1) (.mk 1 0 [] [] []) 0 [] l (by omega) (UP hl) ⟨fun _=>rfl,fun _=>.inl rfl⟩ ⟨fun _=>rfl,fun _=>rfl⟩
   have hp:Vy s.length l=Iy s.length (Bi l ⟨[.mk 1 0 [] [] []],0,0⟩):=rfl;simp only;rw[hp];rw[List.length_nil] at g;generalize Bv s.length (l.length+1) (.mk 1 0 [] [] []) 0 0 ⟨l,0,0⟩=R at g
   by_cases he:R.2.e=0
   ·rcases(g.1 he).2 with ⟨_,h2⟩|⟨m,q,h,_⟩
    ·rw[he,h2];rfl
    ·cases h
   ·rw[beq_eq_false_iff_ne.2 he,g.2 he];rfl
end Go.Ai.Sp
end
section
namespace Go.Ai.Sp
open Go.Ai Go.RowKit Go.Ai.Ex
def hR (g:List (List AV))(a long pl e:Int):Hp:=[.grow 0 3 80,.grow 0 5 26,.mem 26 [.int .i64 0,.int .i64 0,.str [],.sl 3 [] (some 0),.sl 5 [] (some 1)],
 .grow 0 6 95,.mem 59 [.sl 6 g none,.int .i64 a,.int .i64 long,.int .i64 pl,.int .i64 e]]
def okB (r:Hp):Bool:=r.all fun b=>!HT b
def FT (l:List Tok)(lo:Int)(r:Hp):Ci:=fun vs h K=>∃(p x a pl e:Int),vs=[.ptr 4 0,.int .i64 p,.int .i64 x]/\h=hR (l.map AK) a lo pl e++r/\K (.tup []) (hR (l.map AK) a lo (fE p x pl e).1 (fE p x pl e).2++r)
def WU :Ci:=fun vs h K=>∃s:List UInt8,vs=[.str s]/\K (.int .i64 (Gc s)) h
def WN :Ci:=fun vs h K=>∃k:Int,vs=[.int .i64 k]/\K (.str (Mq k)) h
def Xc :Ci:=fun vs h K=>∃(k p:Int) (x y:List UInt8),vs=[.int .i64 k,.agg [.str x,.str y,.int .i64 p]]/\K (.bool (EP k x y)) h
def iw :Ci:=fun vs h K=>∃k i l:Int,vs=[.int .i64 k,.int .i64 i,.int .i64 l]/\K (.bool (HS k i l)) h
def Gm :Ci:=fun vs h K=>∃(t:Tok) (k:Int),vs=[.agg (Ex.encT t),.int .i64 k]/\K (.bool (Dz t k)) h
def Hl :Ci:=fun vs h K=>∃s:List UInt8,s.length<=limE/\vs=[.str s]/\K (.int .i64 (CL s)) h
def YX (l:List Tok)(lo:Int)(r:Hp):Ci:=fun vs h K=>∃(k a pl e:Int) (t:Tok),t.attrs.length<=limE/\vs=[.ptr 4 0,.int .i64 k,.agg (Ex.encT t)]/\h=hR (l.map AK) a lo pl e++r/\
 K (.tup []) (hR (l.map AK) a lo (ED k t.fr t.attrs (pl,e)).1 (ED k t.fr t.attrs (pl,e)).2++r)
def hT (l:List Tok)(long:Int)(s:Rs):Hp:=hR (l.map AK) ((l.length-s.l.length:Nat):Int) long s.pl s.e
structure I7 (l:List Tok) (s:Rs):Prop where
 nD:∃p,l=p++s.l
 len:l.length<=limE
 tok:∀t∈l,Vg t/\t.attrs.length<=limE/\t.text.length<=limE/\t.to<=limE/\(t.kind=7->t.attrs=[])
abbrev Kw (n:Nd):List AV:=[.int .i64 n.kind,.int .i64 n.pl,.str n.text,.sl 3 (n.attrs.map Go.Ai.Ao) none,.sl 5 (AY n.kids) none]
abbrev Ii (n:Nd)(o:Option Nat)(w:Nat):List AV:=[.int .i64 n.kind,.int .i64 n.pl,.str n.text,.sl 3 (n.attrs.map Go.Ai.Ao) o,.sl 5 (AY n.kids) (some w)]
def Ez (N:Nat)(l:List Tok)(lo:Int)(r:Hp):Ci:=fun vs h K=>∃(t:Tok) (i la:Int) (d u:Nat) (s:Rs),s.l.length<N/\s.l.length<u/\I7 l s/\t∈l/\(t.kind=2\/t.kind=3\/t.kind=5)/\d<=17/\
 vs=[.ptr 4 0,.agg (Ex.encT t),.int .i64 i,.int .i64 la,.int .i64 d]/\h=hT l lo s++r/\∀(k:Nd) (s':Rs),DP lo u t i la d s=(k,s')->K (.agg (Kw k)) (hT l lo s'++r)
def Wv (N:Nat)(l:List Tok)(lo:Int):Ci:=fun vs h K=>∃(u:Nat) (s:Rs),s.l.length<N/\s.l.length<u/\I7 l s/\
 vs=[.ptr 4 0,.agg (Ii (.mk 1 0 [] [] []) (some 5) 6),.int .i64 0]/\h=hT l lo s++[.grow 0 3 80,.grow 0 5 26]/\
 ∀(n:Nd) (s':Rs),Bv lo u (.mk 1 0 [] [] []) 0 0 s=(n,s')->K (.agg (Ii n (some 5) 6)) (hT l lo s'++[.grow 0 3 80,.grow (AY n.kids).length 5 26])
abbrev hC (t:Tok)(m:Nat):Hp:=[.mem 95 (Ex.encT t),.grow 0 3 80,.grow 0 5 26,.mem 26 [.int .i64 0,.int .i64 0,.str [],.sl 3 [] (some 6),.sl 5 [] (some 7)],.grow 0 3 80,.grow m 5 26]
def Se (N:Nat)(l:List Tok)(lo:Int)(r:Hp):Ci:=fun vs h K=>∃(n:Nd) (t:Tok) (d u:Nat) (s:Rs),n.kids=[]/\s.l.length<N/\s.l.length<u/\I7 l s/\d<=16/\
 vs=[.ptr 4 0,.agg (Ii n none 10),.int .i64 d]/\h=hT l lo s++(hC t 0++r)/\
 ∀(n':Nd) (s':Rs),Bv lo u n 0 d s=(n',s')->K (.agg (Ii n' none 10)) (hT l lo s'++(hC t (AY n'.kids).length++r))
def mN (n:Nd)(z1 z2:Nat):Prop:=(z1=3\/n.attrs=[])/\(z2=5\/n.kids=[])
abbrev Xn (n:Nd)(z1 z2:Nat):List AV:=[.int .i64 n.kind,.int .i64 n.pl,.str n.text,.sl z1 (n.attrs.map Go.Ai.Ao) none,.sl z2 (AY n.kids) none]
def bk :Ci:=fun vs h K=>∃s:List UInt8,s.length<=limE/\vs=[.str s]/\∀z1 z2:Nat,mN (A7 s) z1 z2->K (.tup [.agg (Xn (A7 s) z1 z2),.int .i64 (Eo s),.int .i64 (En s)]) h
def bQ :Ci:=fun vs h K=>∃(l:List Go.Ai.A9) (z:Nat),l.length<=limE/\(z=3\/l=[])/\vs=[.sl 3 (l.map Go.Ai.Ao) none,.sl z (l.map Go.Ai.Ao) none]/\K (.bool true) h
def Lk (N:Nat):Ci:=fun vs h K=>∃(n:Nd) (z1 z2 M:Nat),n.size<N/\Z8 M n/\M<=limE/\mN n z1 z2/\vs=[.agg (Kw n),.agg (Xn n z1 z2)]/\K (.bool true) h
def Ve :Ci:=fun vs h K=>∃s:List UInt8,vs=[.str s]/\K (.bool true) h
end Go.Ai.Sp
end
