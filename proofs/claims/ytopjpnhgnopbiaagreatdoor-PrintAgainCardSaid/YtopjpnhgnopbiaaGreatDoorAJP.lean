/-
  The program's telling of trees under contract, and the rows' functions.
-/
import Derived.Test.YtopjpnhgnopbiaaGreatDoorAJG
import Derived.Test.YtopjpnhgnopbiaaGreatDoorAJT
import Derived.Test.YtopjpnhgnopbiaaGreatDoorAJH
import Derived.Test.YtopjpnhgnopbiaaGreatDoorAJW
import Derived.Test.YtopjpnhgnopbiaaGreatDoorAJA
import Derived.Test.YtopjpnhgnopbiaaGreatDoorAAiMono
import Derived.Test.YtopjpnhgnopbiaaGreatDoorACfg
import Derived.Test.YtopjpnhgnopbiaaGreatDoorAAiLaw
set_option linter.unusedVariables false
set_option linter.unusedSimpArgs false
set_option linter.unnecessarySimpa false
section
namespace Go.Proofs.YtopjpnhgnopbiaaGreatDoor.Pu
open Go.Ai Go Go.Ai.Sp
set_option maxRecDepth 100000
open Go.IntKind (wrap i64 u8)
open Go.Ai.AV (int str sl tup bool agg ptr)
open Go.Ai.Blk (mem grow)
open Go.Ai.Fm (code block loop)
open Go.Ai.XT (normal)
open List (length)
open Prod (fst snd)
open UInt8 (toNat)
open Tryz (prog f6)
theorem t6 {N:Nat}{v:AV}{s:List UInt8}(hT:AL AI (Ac [(8,UM),(11,pH),(12,Ex.mZ),(13,Hm N),(14,QK N)]))(H:Ap (decide ((↑(length s):Int)>4000)) (true=true/\bool true=v) (∃(s1:List UInt8),(fun(A0:List AV)=>[str s]=[str s1]/\Ap (Ec s1 !=0) (true=true/\bool true=v) (∃(n2:Nd),Nd.size n2<N/\Nd.Km n2/\N<=1000000/\(Nd.Hi n2=0->length (Fp n2)<=1000000)/\[agg A0]=[agg (ES n2)]/\∃(s4:List UInt8),(fun(B0:List AV)=>[str (fst (GU n2))]=[str s4]/\∃(n5:Nd),Nd.size n5<N/\Nd.Km n5/\N<=1000000/\(Nd.Hi n5=0->length (Fp n5)<=1000000)/\[agg B0]=[agg (ES n5)]/\Ap (snd (GU n2)==0) (Ap (Ec s4==0) (Ap (snd (GU n5)==0) (∃(a7 b8:Nd),Nd.size a7<N/\Nd.fit a7/\Nd.fit b8/\[agg A0,agg B0]=[agg (ES a7),agg (ES b8)]/\Ap (Nd.same a7 b8) (Ap (fst (GU n5)==fst (GU n2)) (true=true/\bool true=v) (bool false=v)) (bool false=v)) (bool false=v)) (bool false=v)) (bool false=v)) [int i64 (Nd.kind (CJ s4)),int i64 (Nd.pl (CJ s4)),str (Nd.text (CJ s4)),sl 3 (AE 0 [] (List.map Ao (Nd.attrs (CJ s4)))) none,sl 5 (AE 0 [] (Ag (Nd.kids (CJ s4)))) none])) [int i64 (Nd.kind (CJ s1)),int i64 (Nd.pl (CJ s1)),str (Nd.text (CJ s1)),sl 3 (AE 0 [] (List.map Ao (Nd.attrs (CJ s1)))) none,sl 5 (AE 0 [] (Ag (Nd.kids (CJ s1)))) none])):AF AI 6 (AB f6) (AK prog f6 v) ([.code []]) .normal ([(0,true,.str s)]) ([]):=
 uo (pl:=⟨[],[]⟩) hT H (by kernel_rfl)
end Go.Proofs.YtopjpnhgnopbiaaGreatDoor.Pu
end
section
namespace Go.Proofs.YtopjpnhgnopbiaaGreatDoor.Pu
open Go.Ai Go Go.Ai.Sp
set_option maxRecDepth 100000
open Go.IntKind (wrap i64 u8)
open Go.Ai.AV (int str sl tup bool agg ptr)
open Go.Ai.Blk (mem grow)
open Go.Ai.Fm (code block loop)
open Go.Ai.XT (normal)
open List (length)
open Prod (fst snd)
open UInt8 (toNat)
open Tryz (prog f27 f28 f29 f30 f54)
variable {K:AV->Hp->Prop}{c0 c4:List AV}{n:Nat}{e:List (List AV)}{p v:AV}{es:List (List AV)}{p0:Int}{t:List UInt8}{ks:List (List AV)}
theorem qq (hT:AL AI (Ac []))(H:(fun(B0:List AV)=>(fun(A0:Hp)=>K (tup []) [mem 26 (AQ 5 A0 c0),grow n 1 5,mem 69 [ptr 2 0,sl 1 (AE 5 A0 e) (some 1)],mem 70 B0,mem 26 (AQ 5 A0 c4)]) [mem 26 c0,grow n 1 5,mem 69 [ptr 2 0,sl 1 e (some 1)],mem 70 B0,mem 26 c4]) [AV.fn (Fn.func 27) [] [ptr 2 0,ptr 3 0]]):AF AI 54 (AB f54) (AX prog f54 5 K) ([.code []]) .normal ([(0,true,.ptr 2 0)]) ([.mem 26 c0,.grow n 1 5,.mem 69 [.Gb,.sl 1 e (some 1)],.mem 70 [.fn (.func 27) [] [.ptr 2 0,.ptr 3 0]],.mem 26 c4]):=
 uo (pl:=⟨[],[]⟩) hT H (by kernel_rfl)
theorem qo (hT:AL AI (Ac []))(H:(fun(B0:List AV)=>(fun(A0:Hp)=>K (tup []) [mem 26 (AQ 5 A0 c0),grow n 1 5,mem 69 [ptr 2 0,sl 1 (AE 5 A0 e) (some 1)],mem 70 B0,mem 26 (AQ 5 A0 c4)]) [mem 26 c0,grow n 1 5,mem 69 [ptr 2 0,sl 1 e (some 1)],mem 70 B0,mem 26 c4]) [AV.fn (Fn.func 27) [] [ptr 2 0,ptr 3 0]]):AF AI 54 (AB f54) (AX prog f54 5 K) ([.code []]) .normal ([(0,true,.ptr 2 0)]) ([.mem 26 c0,.grow n 1 5,.mem 69 [.ptr 2 0,.sl 1 e (some 1)],.mem 70 [.fn (.func 27) [] [.ptr 2 0,.ptr 3 0]],.mem 26 c4]):=
 uo (pl:=⟨[],[]⟩) hT H (by kernel_rfl)
theorem t29 {x:List UInt8}(hT:AL AI (Ac [(54,jH)]))(H:(fun(B0:List AV)=>∃(C0 F0:List AV) (A0:List UInt8) (p4:AV),(fun(D0:Nat)=>(fun(E0:Hp)=>AO.Ad C0=true/\AO.Ad F0=true/\Oz p4/\[ptr 2 0]=[ptr 2 0]/\[mem 26 c0,grow n 1 5,mem 69 [p,sl 1 e (some 1)],mem 70 B0]=[mem 26 C0,grow (length A0) 1 5,mem 69 [p4,sl 1 (rb A0) (some 1)],mem 70 B0]/\mem 26 c4=mem 26 F0/\AS (E7 [mem 26 C0,grow (length A0) 1 5,mem 69 [ptr 2 0,sl 1 (rb A0) (some 1)],mem 70 B0,mem 26 c4] (length (rb A0)) 1 5 (some 1)&&true&&true&&decide (D0*1<=140737488355328)&&true&&true) (K (tup [int i64 (↑(length x):Int),AV.JX]) [mem 26 (AQ 5 E0 C0),grow D0 1 5,mem 69 [ptr 2 0,sl 1 (AE 5 E0 (rb A0++List.map (fun(b:UInt8)↦[int u8 (↑(toNat b):Int)]) x)) (some 1)],mem 70 B0,mem 26 (AQ 5 E0 c4)])) [mem 26 C0,grow D0 1 5,mem 69 [ptr 2 0,sl 1 (rb A0++List.map (fun(b:UInt8)↦[int u8 (↑(toNat b):Int)]) x) (some 1)],mem 70 B0,mem 26 c4]) (length (rb A0)+length x)) [AV.fn (Fn.func 27) [] [ptr 2 0,ptr 3 0]]):AF AI 29 (AB f29) (AX prog f29 5 K) ([.code []]) .normal ([(0,true,.ptr 2 0),(1,true,.str x)]) ([.mem 26 c0,.grow n 1 5,.mem 69 [p,.sl 1 e (some 1)],.mem 70 [.fn (.func 27) [] [.ptr 2 0,.ptr 3 0]],.mem 26 c4]):=
 uo (pl:=⟨[],[]⟩) hT H (by kernel_rfl)
theorem t30 (hT:AL AI (Ac []))(H:K (int i64 (↑(length e):Int)) [mem 26 (AQ 4 [mem 26 c0,grow n 1 5,mem 69 [ptr 2 0,sl 1 e (some 1)],mem 70 [AV.fn (Fn.func 27) [] [ptr 2 0,ptr 3 0]]] c0),grow n 1 5,mem 69 [ptr 2 0,sl 1 (AE 4 [mem 26 c0,grow n 1 5,mem 69 [ptr 2 0,sl 1 e (some 1)],mem 70 [AV.fn (Fn.func 27) [] [ptr 2 0,ptr 3 0]]] e) (some 1)],mem 70 [AV.fn (Fn.func 27) [] [ptr 2 0,ptr 3 0]]]):AF AI 30 (AB f30) (AX prog f30 4 K) ([.code []]) .normal ([(0,true,.ptr 2 0)]) ([.mem 26 c0,.grow n 1 5,.mem 69 [.ptr 2 0,.sl 1 e (some 1)],.mem 70 [.fn (.func 27) [] [.ptr 2 0,.ptr 3 0]]]):=
 uo (pl:=⟨[],[]⟩) hT H (by kernel_rfl)
theorem t28 (hT:AL AI (Ac [(53,Be)]))(H:AF AI 28 (AB f28) (AK prog f28 v) [code [0,1,0,1,1],block 0,code [1,1,1]] normal [(3,true,str []),(7,true,sl 3 es none),(8,true,int i64 (↑(length es):Int)),(9,true,int i64 0)] []):AF AI 28 (AB f28) (AK prog f28 v) ([.code []]) .normal ([(0,true,.sl 3 es none)]) ([]):=
 uo (pl:=⟨[[0,1,0,1,1]],[([0,0,0,1,1,0,0,1,0,1,1],0,[.str,.str,.int .i64])]⟩) hT H (by kernel_rfl)
theorem q6 {s3:List UInt8}{i8:Int}{i9:Int}(hT:AL AI (Ac [(53,Be)]))(H:(fun(A0:List Fm)=>Ap (decide (i9<i8)) (AS (Dk i9 (length es)&&true&&true) (∃(s1 s2:List UInt8) (z3:Int),CH es i9=[str s1,str s2,int i64 z3]/\∃(s4 x5:List UInt8),length s4<=100000/\[str s2,str [34]]=[str s4,str x5]/\Ap (An s4 x5) (AS (decide (1+length s1<=9223372036854775807)) (AS (decide (length (32::List.append [] s1)+1<=9223372036854775807)) (AS (decide (length (32::List.append s1 [61])+1<=9223372036854775807)) (AS (decide (length (32::List.append (List.append s1 [61]) [39])+length s2<=9223372036854775807)) (AS (decide (length (32::List.append (List.append (List.append s1 [61]) [39]) s2)+1<=9223372036854775807)) (AS (decide (length s3+length (32::List.append (List.append (List.append (List.append s1 [61]) [39]) s2) [39])<=9223372036854775807)) (AS (AJ 0 es&&true&&true&&true) (AF AI 28 (AB f28) (AK prog f28 v) A0 normal [(3,true,str (s3++32::List.append (List.append (List.append (List.append s1 [61]) [39]) s2) [39])),(7,true,sl 3 es none),(8,true,int i64 i8),(9,true,int i64 (wrap i64 (i9+1)))] [])))))))) (AS (decide (1+length s1<=9223372036854775807)) (AS (decide (length (32::List.append [] s1)+1<=9223372036854775807)) (AS (decide (length (32::List.append s1 [61])+1<=9223372036854775807)) (AS (decide (length (32::List.append (List.append s1 [61]) [34])+length s2<=9223372036854775807)) (AS (decide (length (32::List.append (List.append (List.append s1 [61]) [34]) s2)+1<=9223372036854775807)) (AS (decide (length s3+length (32::List.append (List.append (List.append (List.append s1 [61]) [34]) s2) [34])<=9223372036854775807)) (AS (AJ 0 es&&true&&true&&true) (AF AI 28 (AB f28) (AK prog f28 v) A0 normal [(3,true,str (s3++32::List.append (List.append (List.append (List.append s1 [61]) [34]) s2) [34])),(7,true,sl 3 es none),(8,true,int i64 i8),(9,true,int i64 (wrap i64 (i9+1)))] [])))))))))) (str s3=v)) [code [0,1,0,1,1],block 0,code [1,1,1]]):AF AI 28 (AB f28) (AK prog f28 v) ([.code [0,1,0,1,1],block 0,code [1,1,1]]) .normal ([(3,true,str s3),(7,true,sl 3 es none),(8,true,int i64 i8),(9,true,int i64 i9)]) ([]):=
 Az (pl:=⟨[[0,1,0,1,1]],[([0,0,0,1,1,0,0,1,0,1,1],0,[.str,.str,.int .i64])]⟩) hT 100000 (by kernel_rfl) (Aj H (by kernel_rfl))
theorem uu {K:AV->Hp->Prop}{c0:List AV}{n:Nat}{e:List (List AV)}{k p0:Int}{t:List UInt8}{es ks:List (List AV)}{p:AV}{op en:List UInt8}(hT:AL AI (Ac [(29,Tt)]))(H:(fun(D0:List AV)=>(fun(C0:List AV)=>∃(E0 G0:List AV) (A0 x4:List UInt8) (p5:AV),AO.Ad E0=true/\AO.Ad G0=true/\Oz p5/\length A0+length x4<=1000000/\[ptr 2 0,str op]=[ptr 2 0,str x4]/\[mem 26 c0,grow n 1 5,mem 69 [p,sl 1 e (some 1)],mem 70 C0]=[mem 26 E0,grow (length A0) 1 5,mem 69 [p5,sl 1 (rb A0) (some 1)],mem 70 C0]/\mem 26 D0=mem 26 G0/\∃(F0 H0:List AV) (B0 x9:List UInt8) (I0:AV),AO.Ad F0=true/\AO.Ad H0=true/\Oz I0/\length B0+length x9<=1000000/\[ptr 2 0,str t]=[ptr 2 0,str x9]/\[mem 26 E0,grow (length (A0++x4)) 1 5,mem 69 [ptr 2 0,sl 1 (rb (A0++x4)) (some 1)],mem 70 C0]=[mem 26 F0,grow (length B0) 1 5,mem 69 [I0,sl 1 (rb B0) (some 1)],mem 70 C0]/\mem 26 D0=mem 26 H0/\AF AI 27 (AB f27) (AX prog f27 4 K) [code [0,1,0,1,1,1,1,1],block 1,code [1,1,1,1,1,1]] normal [(1,true,ptr 2 0),(2,true,ptr 3 0),(5,true,str en),(50,true,sl 5 ks none),(51,true,int i64 (↑(length ks):Int)),(52,true,int i64 0)] [mem 26 F0,grow (length (B0++x9)) 1 5,mem 69 [ptr 2 0,sl 1 (rb (B0++x9)) (some 1)],mem 70 C0,mem 26 D0]) [AV.fn (Fn.func 27) [] [ptr 2 0,ptr 3 0]]) [int i64 k,int i64 p0,str t,sl 3 es none,sl 5 ks none]):AF AI 27 (AB f27) (AX prog f27 4 K) ([.code [1,1,1]]) .normal ([(1,true,.ptr 2 0),(2,true,.ptr 3 0),(3,true,.ptr 4 0),(4,true,.str op),(5,true,.str en)]) ([.mem 26 c0,.grow n 1 5,.mem 69 [p,.sl 1 e (some 1)],.mem 70 [.fn (.func 27) [] [.ptr 2 0,.ptr 3 0]],.mem 26 [.int .i64 k,.int .i64 p0,.str t,.sl 3 es none,.sl 5 ks none]]):=
 uo (pl:=⟨[[0,1,0,1,1,1,1,1]],[([0,0,0,1,1,0,0,1,0,1,1,1,1,1],0,[.int .i64,.int .i64,.str,.sl 3,.sl 5])]⟩) hT H (by kernel_rfl)
theorem q7 {N:Nat}{k:Int}{en:List UInt8}{i z:Int}(hT:AL AI (Ac [(27,Vy N),(29,Tt)]))(H:(fun(H0:List AV)=>(fun(D0:List AV)=>Ap (decide (i<z)) (AS (Dk i (length ks)&&true&&true) (∃(z1 z2:Int) (s3:List UInt8) (N0 O0:List (List AV)),(fun(J0:List AV)=>CH ks i=J0/\∃(C0:Nd) (G0:List AV) (B0:List UInt8) (p9:AV),AO.Ad G0=true/\Nd.size C0<N/\pq C0/\Nd.Km C0/\Oz p9/\length B0+length (Fp C0)<=1000000/\true=true/\[agg J0,ptr 2 0,ptr 3 0]=[agg (ES C0),ptr 2 0,ptr 3 0]/\[mem 26 c0,grow n 1 5,mem 69 [p,sl 1 e (some 1)],mem 70 D0]=[mem 26 G0,grow (length B0) 1 5,mem 69 [p9,sl 1 (rb B0) (some 1)],mem 70 D0]/\AS (AJ 5 ks&&true&&true&&(CB 5 (Kq 5 G0)&&(AJ 5 (rb (B0++Fp C0))&&true&&true&&(AJ 5 es&&true&&(AJ 5 ks&&true&&true)&&true)))) (AF AI 27 (AB f27) (AX prog f27 4 K) [code [0,1,0,1,1,1,1,1],block 1,code [1,1,1,1,1,1]] normal [(1,true,ptr 2 0),(2,true,ptr 3 0),(5,true,str en),(50,true,sl 5 ks none),(51,true,int i64 z),(52,true,int i64 (wrap i64 (i+1)))] [mem 26 (Kq 5 G0),grow (length (B0++Fp C0)) 1 5,mem 69 [ptr 2 0,sl 1 (rb (B0++Fp C0)) (some 1)],mem 70 D0,mem 26 H0])) [int i64 z1,int i64 z2,str s3,sl 3 N0 none,sl 5 O0 none])) (∃(F0 I0:List AV) (A0 E0:List UInt8) (L0:AV),(fun(M0:Hp)=>AO.Ad F0=true/\AO.Ad I0=true/\Oz L0/\length A0+length E0<=1000000/\[ptr 2 0,str en]=[ptr 2 0,str E0]/\[mem 26 c0,grow n 1 5,mem 69 [p,sl 1 e (some 1)],mem 70 D0]=[mem 26 F0,grow (length A0) 1 5,mem 69 [L0,sl 1 (rb A0) (some 1)],mem 70 D0]/\mem 26 H0=mem 26 I0/\K (tup []) [mem 26 (AQ 4 M0 F0),grow (length (A0++E0)) 1 5,mem 69 [ptr 2 0,sl 1 (AE 4 M0 (rb (A0++E0))) (some 1)],mem 70 D0]) [mem 26 F0,grow (length (A0++E0)) 1 5,mem 69 [ptr 2 0,sl 1 (rb (A0++E0)) (some 1)],mem 70 D0,mem 26 H0])) [AV.fn (Fn.func 27) [] [ptr 2 0,ptr 3 0]]) [int i64 k,int i64 p0,str t,sl 3 es none,sl 5 ks none]):AF AI 27 (AB f27) (AX prog f27 4 K) ([.code [0,1,0,1,1,1,1,1],.block 1,.code [1,1,1,1,1,1]]) .normal ([(1,true,.ptr 2 0),(2,true,.ptr 3 0),(5,true,.str en),(50,true,.sl 5 ks none),(51,true,.int .i64 z),(52,true,.int .i64 i)]) ([.mem 26 c0,.grow n 1 5,.mem 69 [p,.sl 1 e (some 1)],.mem 70 [.fn (.func 27) [] [.ptr 2 0,.ptr 3 0]],.mem 26 [.int .i64 k,.int .i64 p0,.str t,.sl 3 es none,.sl 5 ks none]]):=
 Az (pl:=⟨[[0,1,0,1,1,1,1,1]],[([0,0,0,1,1,0,0,1,0,1,1,1,1,1],0,[.int .i64,.int .i64,.str,.sl 3,.sl 5])]⟩) hT 100000 (by kernel_rfl) (Aj H (by kernel_rfl))
theorem rH (hT:AL AI (Ac [(28,Gv)]))(H:AF AI 27 (AB f27) (AX prog f27 4 K) [code [1,1,1]] normal [(1,true,ptr 2 0),(2,true,ptr 3 0),(3,true,ptr 4 0),(4,true,str []),(5,true,str [])] [mem 26 c0,grow n 1 5,mem 69 [p,sl 1 e (some 1)],mem 70 [AV.fn (Fn.func 27) [] [ptr 2 0,ptr 3 0]],mem 26 [int i64 1,int i64 p0,str t,sl 3 es none,sl 5 ks none]]):AF AI 27 (AB f27) (AX prog f27 4 K) ([.code []]) .normal ([(0,true,.agg [.int .i64 1,.int .i64 p0,.str t,.sl 3 es none,.sl 5 ks none]),(1,true,.ptr 2 0),(2,true,.ptr 3 0)]) ([.mem 26 c0,.grow n 1 5,.mem 69 [p,.sl 1 e (some 1)],.mem 70 [.fn (.func 27) [] [.ptr 2 0,.ptr 3 0]]]):=
 uo (pl:=⟨[[1,1,1],[0,1,0,1,1,1,1,1]],[([0,0,0,1,1,0,0,1,0,1,1,1,1,1],0,[.int .i64,.int .i64,.str,.sl 3,.sl 5])]⟩) hT H (by kernel_rfl)
theorem rG (hT:AL AI (Ac [(28,Gv)]))(H:AF AI 27 (AB f27) (AX prog f27 4 K) [code [1,1,1]] normal [(1,true,ptr 2 0),(2,true,ptr 3 0),(3,true,ptr 4 0),(4,true,str []),(5,true,str [])] [mem 26 c0,grow n 1 5,mem 69 [p,sl 1 e (some 1)],mem 70 [AV.fn (Fn.func 27) [] [ptr 2 0,ptr 3 0]],mem 26 [int i64 2,int i64 p0,str t,sl 3 es none,sl 5 ks none]]):AF AI 27 (AB f27) (AX prog f27 4 K) ([.code []]) .normal ([(0,true,.agg [.int .i64 2,.int .i64 p0,.str t,.sl 3 es none,.sl 5 ks none]),(1,true,.ptr 2 0),(2,true,.ptr 3 0)]) ([.mem 26 c0,.grow n 1 5,.mem 69 [p,.sl 1 e (some 1)],.mem 70 [.fn (.func 27) [] [.ptr 2 0,.ptr 3 0]]]):=
 uo (pl:=⟨[[1,1,1],[0,1,0,1,1,1,1,1]],[([0,0,0,1,1,0,0,1,0,1,1,1,1,1],0,[.int .i64,.int .i64,.str,.sl 3,.sl 5])]⟩) hT H (by kernel_rfl)
theorem rF (hT:AL AI (Ac [(28,Gv)]))(H:∃(l1:List Ak),length (Ex.AP (List.map DG l1))<=1000000/\(∀(a2:Ak),a2∈l1->length (Ak.value a2)<=100000)/\[sl 3 (AE 0 [] es) none]=[sl 3 (List.map Ao l1) none]/\AS (decide (12+length (Ex.AP (List.map DG l1))<=9223372036854775807)) (AS (decide (length (60::101::115::105::58::105::110::99::108::117::100::101::List.append [] (Ex.AP (List.map DG l1)))+2<=9223372036854775807)) (AF AI 27 (AB f27) (AX prog f27 4 K) [code [1,1,1]] normal [(1,true,ptr 2 0),(2,true,ptr 3 0),(3,true,ptr 4 0),(4,true,str (60::101::115::105::58::105::110::99::108::117::100::101::List.append (List.append [] (Ex.AP (List.map DG l1))) [47,62])),(5,true,str [])] [mem 26 c0,grow n 1 5,mem 69 [p,sl 1 e (some 1)],mem 70 [AV.fn (Fn.func 27) [] [ptr 2 0,ptr 3 0]],mem 26 [int i64 3,int i64 p0,str t,sl 3 es none,sl 5 ks none]]))):AF AI 27 (AB f27) (AX prog f27 4 K) ([.code []]) .normal ([(0,true,.agg [.int .i64 3,.int .i64 p0,.str t,.sl 3 es none,.sl 5 ks none]),(1,true,.ptr 2 0),(2,true,.ptr 3 0)]) ([.mem 26 c0,.grow n 1 5,.mem 69 [p,.sl 1 e (some 1)],.mem 70 [.fn (.func 27) [] [.ptr 2 0,.ptr 3 0]]]):=
 uo (pl:=⟨[[1,1,1],[0,1,0,1,1,1,1,1]],[([0,0,0,1,1,0,0,1,0,1,1,1,1,1],0,[.int .i64,.int .i64,.str,.sl 3,.sl 5])]⟩) hT H (by kernel_rfl)
theorem rE (hT:AL AI (Ac [(28,Gv)]))(H:∃(l1:List Ak),length (Ex.AP (List.map DG l1))<=1000000/\(∀(a2:Ak),a2∈l1->length (Ak.value a2)<=100000)/\[sl 3 (AE 0 [] es) none]=[sl 3 (List.map Ao l1) none]/\AS (decide (11+length (Ex.AP (List.map DG l1))<=9223372036854775807)) (AS (decide (length (60::101::115::105::58::105::110::108::105::110::101::List.append [] (Ex.AP (List.map DG l1)))+1<=9223372036854775807)) (AF AI 27 (AB f27) (AX prog f27 4 K) [code [1,1,1]] normal [(1,true,ptr 2 0),(2,true,ptr 3 0),(3,true,ptr 4 0),(4,true,str (60::101::115::105::58::105::110::108::105::110::101::List.append (List.append [] (Ex.AP (List.map DG l1))) [62])),(5,true,str [60,47,101,115,105,58,105,110,108,105,110,101,62])] [mem 26 c0,grow n 1 5,mem 69 [p,sl 1 e (some 1)],mem 70 [AV.fn (Fn.func 27) [] [ptr 2 0,ptr 3 0]],mem 26 [int i64 4,int i64 p0,str t,sl 3 es none,sl 5 ks none]]))):AF AI 27 (AB f27) (AX prog f27 4 K) ([.code []]) .normal ([(0,true,.agg [.int .i64 4,.int .i64 p0,.str t,.sl 3 es none,.sl 5 ks none]),(1,true,.ptr 2 0),(2,true,.ptr 3 0)]) ([.mem 26 c0,.grow n 1 5,.mem 69 [p,.sl 1 e (some 1)],.mem 70 [.fn (.func 27) [] [.ptr 2 0,.ptr 3 0]]]):=
 uo (pl:=⟨[[1,1,1],[0,1,0,1,1,1,1,1]],[([0,0,0,1,1,0,0,1,0,1,1,1,1,1],0,[.int .i64,.int .i64,.str,.sl 3,.sl 5])]⟩) hT H (by kernel_rfl)
theorem rD (hT:AL AI (Ac [(28,Gv)]))(H:∃(l1:List Ak),length (Ex.AP (List.map DG l1))<=1000000/\(∀(a2:Ak),a2∈l1->length (Ak.value a2)<=100000)/\[sl 3 (AE 0 [] es) none]=[sl 3 (List.map Ao l1) none]/\AS (decide (11+length (Ex.AP (List.map DG l1))<=9223372036854775807)) (AS (decide (length (60::101::115::105::58::114::101::109::111::118::101::List.append [] (Ex.AP (List.map DG l1)))+1<=9223372036854775807)) (AF AI 27 (AB f27) (AX prog f27 4 K) [code [1,1,1]] normal [(1,true,ptr 2 0),(2,true,ptr 3 0),(3,true,ptr 4 0),(4,true,str (60::101::115::105::58::114::101::109::111::118::101::List.append (List.append [] (Ex.AP (List.map DG l1))) [62])),(5,true,str [60,47,101,115,105,58,114,101,109,111,118,101,62])] [mem 26 c0,grow n 1 5,mem 69 [p,sl 1 e (some 1)],mem 70 [AV.fn (Fn.func 27) [] [ptr 2 0,ptr 3 0]],mem 26 [int i64 5,int i64 p0,str t,sl 3 es none,sl 5 ks none]]))):AF AI 27 (AB f27) (AX prog f27 4 K) ([.code []]) .normal ([(0,true,.agg [.int .i64 5,.int .i64 p0,.str t,.sl 3 es none,.sl 5 ks none]),(1,true,.ptr 2 0),(2,true,.ptr 3 0)]) ([.mem 26 c0,.grow n 1 5,.mem 69 [p,.sl 1 e (some 1)],.mem 70 [.fn (.func 27) [] [.ptr 2 0,.ptr 3 0]]]):=
 uo (pl:=⟨[[1,1,1],[0,1,0,1,1,1,1,1]],[([0,0,0,1,1,0,0,1,0,1,1,1,1,1],0,[.int .i64,.int .i64,.str,.sl 3,.sl 5])]⟩) hT H (by kernel_rfl)
theorem rC (hT:AL AI (Ac [(28,Gv)]))(H:∃(l1:List Ak),length (Ex.AP (List.map DG l1))<=1000000/\(∀(a2:Ak),a2∈l1->length (Ak.value a2)<=100000)/\[sl 3 (AE 0 [] es) none]=[sl 3 (List.map Ao l1) none]/\AS (decide (12+length (Ex.AP (List.map DG l1))<=9223372036854775807)) (AS (decide (length (60::101::115::105::58::99::111::109::109::101::110::116::List.append [] (Ex.AP (List.map DG l1)))+2<=9223372036854775807)) (AF AI 27 (AB f27) (AX prog f27 4 K) [code [1,1,1]] normal [(1,true,ptr 2 0),(2,true,ptr 3 0),(3,true,ptr 4 0),(4,true,str (60::101::115::105::58::99::111::109::109::101::110::116::List.append (List.append [] (Ex.AP (List.map DG l1))) [47,62])),(5,true,str [])] [mem 26 c0,grow n 1 5,mem 69 [p,sl 1 e (some 1)],mem 70 [AV.fn (Fn.func 27) [] [ptr 2 0,ptr 3 0]],mem 26 [int i64 6,int i64 p0,str t,sl 3 es none,sl 5 ks none]]))):AF AI 27 (AB f27) (AX prog f27 4 K) ([.code []]) .normal ([(0,true,.agg [.int .i64 6,.int .i64 p0,.str t,.sl 3 es none,.sl 5 ks none]),(1,true,.ptr 2 0),(2,true,.ptr 3 0)]) ([.mem 26 c0,.grow n 1 5,.mem 69 [p,.sl 1 e (some 1)],.mem 70 [.fn (.func 27) [] [.ptr 2 0,.ptr 3 0]]]):=
 uo (pl:=⟨[[1,1,1],[0,1,0,1,1,1,1,1]],[([0,0,0,1,1,0,0,1,0,1,1,1,1,1],0,[.int .i64,.int .i64,.str,.sl 3,.sl 5])]⟩) hT H (by kernel_rfl)
theorem rB (hT:AL AI (Ac [(28,Gv)]))(H:∃(l1:List Ak),length (Ex.AP (List.map DG l1))<=1000000/\(∀(a2:Ak),a2∈l1->length (Ak.value a2)<=100000)/\[sl 3 (AE 0 [] es) none]=[sl 3 (List.map Ao l1) none]/\AS (decide (8+length (Ex.AP (List.map DG l1))<=9223372036854775807)) (AS (decide (length (60::101::115::105::58::116::114::121::List.append [] (Ex.AP (List.map DG l1)))+1<=9223372036854775807)) (AF AI 27 (AB f27) (AX prog f27 4 K) [code [1,1,1]] normal [(1,true,ptr 2 0),(2,true,ptr 3 0),(3,true,ptr 4 0),(4,true,str (60::101::115::105::58::116::114::121::List.append (List.append [] (Ex.AP (List.map DG l1))) [62])),(5,true,str [60,47,101,115,105,58,116,114,121,62])] [mem 26 c0,grow n 1 5,mem 69 [p,sl 1 e (some 1)],mem 70 [AV.fn (Fn.func 27) [] [ptr 2 0,ptr 3 0]],mem 26 [int i64 7,int i64 p0,str t,sl 3 es none,sl 5 ks none]]))):AF AI 27 (AB f27) (AX prog f27 4 K) ([.code []]) .normal ([(0,true,.agg [.int .i64 7,.int .i64 p0,.str t,.sl 3 es none,.sl 5 ks none]),(1,true,.ptr 2 0),(2,true,.ptr 3 0)]) ([.mem 26 c0,.grow n 1 5,.mem 69 [p,.sl 1 e (some 1)],.mem 70 [.fn (.func 27) [] [.ptr 2 0,.ptr 3 0]]]):=
 uo (pl:=⟨[[1,1,1],[0,1,0,1,1,1,1,1]],[([0,0,0,1,1,0,0,1,0,1,1,1,1,1],0,[.int .i64,.int .i64,.str,.sl 3,.sl 5])]⟩) hT H (by kernel_rfl)
theorem q9 (hT:AL AI (Ac [(28,Gv)]))(H:∃(l1:List Ak),length (Ex.AP (List.map DG l1))<=1000000/\(∀(a2:Ak),a2∈l1->length (Ak.value a2)<=100000)/\[sl 3 (AE 0 [] es) none]=[sl 3 (List.map Ao l1) none]/\AS (decide (12+length (Ex.AP (List.map DG l1))<=9223372036854775807)) (AS (decide (length (60::101::115::105::58::97::116::116::101::109::112::116::List.append [] (Ex.AP (List.map DG l1)))+1<=9223372036854775807)) (AF AI 27 (AB f27) (AX prog f27 4 K) [code [1,1,1]] normal [(1,true,ptr 2 0),(2,true,ptr 3 0),(3,true,ptr 4 0),(4,true,str (60::101::115::105::58::97::116::116::101::109::112::116::List.append (List.append [] (Ex.AP (List.map DG l1))) [62])),(5,true,str [60,47,101,115,105,58,97,116,116,101,109,112,116,62])] [mem 26 c0,grow n 1 5,mem 69 [p,sl 1 e (some 1)],mem 70 [AV.fn (Fn.func 27) [] [ptr 2 0,ptr 3 0]],mem 26 [int i64 8,int i64 p0,str t,sl 3 es none,sl 5 ks none]]))):AF AI 27 (AB f27) (AX prog f27 4 K) ([.code []]) .normal ([(0,true,.agg [.int .i64 8,.int .i64 p0,.str t,.sl 3 es none,.sl 5 ks none]),(1,true,.ptr 2 0),(2,true,.ptr 3 0)]) ([.mem 26 c0,.grow n 1 5,.mem 69 [p,.sl 1 e (some 1)],.mem 70 [.fn (.func 27) [] [.ptr 2 0,.ptr 3 0]]]):=
 uo (pl:=⟨[[1,1,1],[0,1,0,1,1,1,1,1]],[([0,0,0,1,1,0,0,1,0,1,1,1,1,1],0,[.int .i64,.int .i64,.str,.sl 3,.sl 5])]⟩) hT H (by kernel_rfl)
theorem q8 (hT:AL AI (Ac [(28,Gv)]))(H:∃(l1:List Ak),length (Ex.AP (List.map DG l1))<=1000000/\(∀(a2:Ak),a2∈l1->length (Ak.value a2)<=100000)/\[sl 3 (AE 0 [] es) none]=[sl 3 (List.map Ao l1) none]/\AS (decide (11+length (Ex.AP (List.map DG l1))<=9223372036854775807)) (AS (decide (length (60::101::115::105::58::101::120::99::101::112::116::List.append [] (Ex.AP (List.map DG l1)))+1<=9223372036854775807)) (AF AI 27 (AB f27) (AX prog f27 4 K) [code [1,1,1]] normal [(1,true,ptr 2 0),(2,true,ptr 3 0),(3,true,ptr 4 0),(4,true,str (60::101::115::105::58::101::120::99::101::112::116::List.append (List.append [] (Ex.AP (List.map DG l1))) [62])),(5,true,str [60,47,101,115,105,58,101,120,99,101,112,116,62])] [mem 26 c0,grow n 1 5,mem 69 [p,sl 1 e (some 1)],mem 70 [AV.fn (Fn.func 27) [] [ptr 2 0,ptr 3 0]],mem 26 [int i64 9,int i64 p0,str t,sl 3 es none,sl 5 ks none]]))):AF AI 27 (AB f27) (AX prog f27 4 K) ([.code []]) .normal ([(0,true,.agg [.int .i64 9,.int .i64 p0,.str t,.sl 3 es none,.sl 5 ks none]),(1,true,.ptr 2 0),(2,true,.ptr 3 0)]) ([.mem 26 c0,.grow n 1 5,.mem 69 [p,.sl 1 e (some 1)],.mem 70 [.fn (.func 27) [] [.ptr 2 0,.ptr 3 0]]]):=
 uo (pl:=⟨[[1,1,1],[0,1,0,1,1,1,1,1]],[([0,0,0,1,1,0,0,1,0,1,1,1,1,1],0,[.int .i64,.int .i64,.str,.sl 3,.sl 5])]⟩) hT H (by kernel_rfl)
theorem nD (hT:AL AI (Ac [(28,Gv)]))(H:∃(l1:List Ak),length (Ex.AP (List.map DG l1))<=1000000/\(∀(a2:Ak),a2∈l1->length (Ak.value a2)<=100000)/\[sl 3 (AE 0 [] es) none]=[sl 3 (List.map Ao l1) none]/\AS (decide (11+length (Ex.AP (List.map DG l1))<=9223372036854775807)) (AS (decide (length (60::101::115::105::58::99::104::111::111::115::101::List.append [] (Ex.AP (List.map DG l1)))+1<=9223372036854775807)) (AF AI 27 (AB f27) (AX prog f27 4 K) [code [1,1,1]] normal [(1,true,ptr 2 0),(2,true,ptr 3 0),(3,true,ptr 4 0),(4,true,str (60::101::115::105::58::99::104::111::111::115::101::List.append (List.append [] (Ex.AP (List.map DG l1))) [62])),(5,true,str [60,47,101,115,105,58,99,104,111,111,115,101,62])] [mem 26 c0,grow n 1 5,mem 69 [p,sl 1 e (some 1)],mem 70 [AV.fn (Fn.func 27) [] [ptr 2 0,ptr 3 0]],mem 26 [int i64 10,int i64 p0,str t,sl 3 es none,sl 5 ks none]]))):AF AI 27 (AB f27) (AX prog f27 4 K) ([.code []]) .normal ([(0,true,.agg [.int .i64 10,.int .i64 p0,.str t,.sl 3 es none,.sl 5 ks none]),(1,true,.ptr 2 0),(2,true,.ptr 3 0)]) ([.mem 26 c0,.grow n 1 5,.mem 69 [p,.sl 1 e (some 1)],.mem 70 [.fn (.func 27) [] [.ptr 2 0,.ptr 3 0]]]):=
 uo (pl:=⟨[[1,1,1],[0,1,0,1,1,1,1,1]],[([0,0,0,1,1,0,0,1,0,1,1,1,1,1],0,[.int .i64,.int .i64,.str,.sl 3,.sl 5])]⟩) hT H (by kernel_rfl)
theorem nC (hT:AL AI (Ac [(28,Gv)]))(H:∃(l1:List Ak),length (Ex.AP (List.map DG l1))<=1000000/\(∀(a2:Ak),a2∈l1->length (Ak.value a2)<=100000)/\[sl 3 (AE 0 [] es) none]=[sl 3 (List.map Ao l1) none]/\AS (decide (9+length (Ex.AP (List.map DG l1))<=9223372036854775807)) (AS (decide (length (60::101::115::105::58::119::104::101::110::List.append [] (Ex.AP (List.map DG l1)))+1<=9223372036854775807)) (AF AI 27 (AB f27) (AX prog f27 4 K) [code [1,1,1]] normal [(1,true,ptr 2 0),(2,true,ptr 3 0),(3,true,ptr 4 0),(4,true,str (60::101::115::105::58::119::104::101::110::List.append (List.append [] (Ex.AP (List.map DG l1))) [62])),(5,true,str [60,47,101,115,105,58,119,104,101,110,62])] [mem 26 c0,grow n 1 5,mem 69 [p,sl 1 e (some 1)],mem 70 [AV.fn (Fn.func 27) [] [ptr 2 0,ptr 3 0]],mem 26 [int i64 11,int i64 p0,str t,sl 3 es none,sl 5 ks none]]))):AF AI 27 (AB f27) (AX prog f27 4 K) ([.code []]) .normal ([(0,true,.agg [.int .i64 11,.int .i64 p0,.str t,.sl 3 es none,.sl 5 ks none]),(1,true,.ptr 2 0),(2,true,.ptr 3 0)]) ([.mem 26 c0,.grow n 1 5,.mem 69 [p,.sl 1 e (some 1)],.mem 70 [.fn (.func 27) [] [.ptr 2 0,.ptr 3 0]]]):=
 uo (pl:=⟨[[1,1,1],[0,1,0,1,1,1,1,1]],[([0,0,0,1,1,0,0,1,0,1,1,1,1,1],0,[.int .i64,.int .i64,.str,.sl 3,.sl 5])]⟩) hT H (by kernel_rfl)
theorem nB (hT:AL AI (Ac [(28,Gv)]))(H:∃(l1:List Ak),length (Ex.AP (List.map DG l1))<=1000000/\(∀(a2:Ak),a2∈l1->length (Ak.value a2)<=100000)/\[sl 3 (AE 0 [] es) none]=[sl 3 (List.map Ao l1) none]/\AS (decide (14+length (Ex.AP (List.map DG l1))<=9223372036854775807)) (AS (decide (length (60::101::115::105::58::111::116::104::101::114::119::105::115::101::List.append [] (Ex.AP (List.map DG l1)))+1<=9223372036854775807)) (AF AI 27 (AB f27) (AX prog f27 4 K) [code [1,1,1]] normal [(1,true,ptr 2 0),(2,true,ptr 3 0),(3,true,ptr 4 0),(4,true,str (60::101::115::105::58::111::116::104::101::114::119::105::115::101::List.append (List.append [] (Ex.AP (List.map DG l1))) [62])),(5,true,str [60,47,101,115,105,58,111,116,104,101,114,119,105,115,101,62])] [mem 26 c0,grow n 1 5,mem 69 [p,sl 1 e (some 1)],mem 70 [AV.fn (Fn.func 27) [] [ptr 2 0,ptr 3 0]],mem 26 [int i64 12,int i64 p0,str t,sl 3 es none,sl 5 ks none]]))):AF AI 27 (AB f27) (AX prog f27 4 K) ([.code []]) .normal ([(0,true,.agg [.int .i64 12,.int .i64 p0,.str t,.sl 3 es none,.sl 5 ks none]),(1,true,.ptr 2 0),(2,true,.ptr 3 0)]) ([.mem 26 c0,.grow n 1 5,.mem 69 [p,.sl 1 e (some 1)],.mem 70 [.fn (.func 27) [] [.ptr 2 0,.ptr 3 0]]]):=
 uo (pl:=⟨[[1,1,1],[0,1,0,1,1,1,1,1]],[([0,0,0,1,1,0,0,1,0,1,1,1,1,1],0,[.int .i64,.int .i64,.str,.sl 3,.sl 5])]⟩) hT H (by kernel_rfl)
theorem nA (hT:AL AI (Ac [(28,Gv)]))(H:∃(l1:List Ak),length (Ex.AP (List.map DG l1))<=1000000/\(∀(a2:Ak),a2∈l1->length (Ak.value a2)<=100000)/\[sl 3 (AE 0 [] es) none]=[sl 3 (List.map Ao l1) none]/\AS (decide (9+length (Ex.AP (List.map DG l1))<=9223372036854775807)) (AS (decide (length (60::101::115::105::58::118::97::114::115::List.append [] (Ex.AP (List.map DG l1)))+1<=9223372036854775807)) (AF AI 27 (AB f27) (AX prog f27 4 K) [code [1,1,1]] normal [(1,true,ptr 2 0),(2,true,ptr 3 0),(3,true,ptr 4 0),(4,true,str (60::101::115::105::58::118::97::114::115::List.append (List.append [] (Ex.AP (List.map DG l1))) [62])),(5,true,str [60,47,101,115,105,58,118,97,114,115,62])] [mem 26 c0,grow n 1 5,mem 69 [p,sl 1 e (some 1)],mem 70 [AV.fn (Fn.func 27) [] [ptr 2 0,ptr 3 0]],mem 26 [int i64 13,int i64 p0,str t,sl 3 es none,sl 5 ks none]]))):AF AI 27 (AB f27) (AX prog f27 4 K) ([.code []]) .normal ([(0,true,.agg [.int .i64 13,.int .i64 p0,.str t,.sl 3 es none,.sl 5 ks none]),(1,true,.ptr 2 0),(2,true,.ptr 3 0)]) ([.mem 26 c0,.grow n 1 5,.mem 69 [p,.sl 1 e (some 1)],.mem 70 [.fn (.func 27) [] [.ptr 2 0,.ptr 3 0]]]):=
 uo (pl:=⟨[[1,1,1],[0,1,0,1,1,1,1,1]],[([0,0,0,1,1,0,0,1,0,1,1,1,1,1],0,[.int .i64,.int .i64,.str,.sl 3,.sl 5])]⟩) hT H (by kernel_rfl)
theorem mz (hT:AL AI (Ac [(28,Gv)]))(H:AF AI 27 (AB f27) (AX prog f27 4 K) [code [1,1,1]] normal [(1,true,ptr 2 0),(2,true,ptr 3 0),(3,true,ptr 4 0),(4,true,str [60,33,45,45,101,115,105,32]),(5,true,str [45,45,62])] [mem 26 c0,grow n 1 5,mem 69 [p,sl 1 e (some 1)],mem 70 [AV.fn (Fn.func 27) [] [ptr 2 0,ptr 3 0]],mem 26 [int i64 14,int i64 p0,str t,sl 3 es none,sl 5 ks none]]):AF AI 27 (AB f27) (AX prog f27 4 K) ([.code []]) .normal ([(0,true,.agg [.int .i64 14,.int .i64 p0,.str t,.sl 3 es none,.sl 5 ks none]),(1,true,.ptr 2 0),(2,true,.ptr 3 0)]) ([.mem 26 c0,.grow n 1 5,.mem 69 [p,.sl 1 e (some 1)],.mem 70 [.fn (.func 27) [] [.ptr 2 0,.ptr 3 0]]]):=
 uo (pl:=⟨[[1,1,1],[0,1,0,1,1,1,1,1]],[([0,0,0,1,1,0,0,1,0,1,1,1,1,1],0,[.int .i64,.int .i64,.str,.sl 3,.sl 5])]⟩) hT H (by kernel_rfl)
end Go.Proofs.YtopjpnhgnopbiaaGreatDoor.Pu
end
section
namespace Go.Proofs.YtopjpnhgnopbiaaGreatDoor.Pu
open Go.Ai Go Go.Ai.Sp
set_option maxRecDepth 100000
theorem gV {α:Type}{a b c d a' b' c' d':α}(h:[a,b,c,d]=[a',b',c',d']):a=a'/\b=b'/\c=c'/\d=d':=by
 injection h with h1 h;injection h with h2 h;injection h with h3 h;injection h with h4 _
 exact⟨h1,h2,h3,h4⟩
theorem zu {C:Bm}{k:Nat}{g:List AV->Hp->Option (AV×Hp)}{t:Ce}(h1:C.ok k=true)(h2:C.Cr k=some g)(H:∀vs h K,t vs h K->∃v h',g vs h=some (v,h')/\K v h'):CR C k t:=by
 intro l h K ht
 have ha:B8 C k l=l:=by simp[B8,h2]
 rw[ha] at ht;obtain⟨v,h',hg,hk⟩:=H _ _ _ ht
 refine⟨v,h',⟨1,fun n hn=> ?_⟩,hk⟩
 obtain⟨m,rfl⟩:∃m,n=m+1:=⟨n-1,by omega⟩
 rw[call];simp only[h1,h2,hg,Bool.not_true,cond_false]
theorem xI :BV AI 54 Tryz.f54:=(by refine⟨?_,?_,?_,?_,?_,?_⟩<;>kernel_rfl)
theorem ov :BV AI 29 Tryz.f29:=(by refine⟨?_,?_,?_,?_,?_,?_⟩<;>kernel_rfl)
theorem ou :BV AI 30 Tryz.f30:=(by refine⟨?_,?_,?_,?_,?_,?_⟩<;>kernel_rfl)
theorem rV :BL AI 28 Tryz.f28:=(by refine⟨?_,?_,?_,?_,?_,?_⟩<;>kernel_rfl)
theorem rW :lq AI 27 Tryz.f27 4:=⟨by kernel_rfl,by kernel_rfl,by kernel_rfl,by kernel_rfl,by kernel_rfl,by kernel_rfl,by kernel_rfl⟩
theorem tI :CR AI 54 jH:=by
 refine BD xI fun vs h K ht=> ?_
 unfold jH at ht;split at ht
 ·obtain⟨c0,c4,acc,p,q0,q4,hp,rfl,e,rfl,hk⟩:=ht;obtain⟨rfl,rfl,rfl,rfl⟩:=gV e
  rcases hp with rfl|rfl
  ·refine qq (AY AM) ?_
   try dsimp only
   rw[F7,Aw _ _ _ q0,Aw _ _ _ q4];exact hk
  ·refine qo (AY AM) ?_
   try dsimp only
   rw[F7,Aw _ _ _ q0,Aw _ _ _ q4];exact hk
 ·exact ht.elim
theorem jR :CR AI 29 Tt:=by
 refine BD ov fun vs h K ht=> ?_
 unfold Tt at ht;split at ht
 ·obtain⟨c0,c4,acc,x,p,q0,q4,hp,hl,rfl,e,rfl,hk⟩:=ht;obtain⟨rfl,rfl,rfl,rfl⟩:=gV e;refine t29 (AY (AH tI AM)) ⟨c0,c4,acc,p,q0,q4,hp,rfl,rfl,rfl,AD ?_ ?_⟩
  ·rw[UE,M6 rfl,decide_eq_true (by unfold Im at hl;omega)];rfl
  ·have e:rb acc++x.map (fun(b:UInt8)=>[AV.int IntKind.u8 ((UInt8.toNat b:Nat):Int)])=rb (acc++x):=(nO acc x).symm
   rw[e,F7,UE,<-List.length_append,Aw _ _ _ q0,Aw _ _ _ q4];exact hk
 ·exact ht.elim
theorem yE :CR AI 30 rj:=by
 refine BD ou fun vs h K ht=> ?_
 obtain⟨c0,acc,q0,rfl,rfl,hk⟩:=ht;refine t30 (AY AM) ?_;rw[F7,UE,Aw _ _ _ q0];exact hk
theorem yD :CR AI 31 rN:=by
 refine zu (by kernel_rfl) (by kernel_rfl:AI.Cr 31=some (MD 5)) fun vs h K ht=> ?_
 obtain⟨c0,acc,rfl,rfl,hk⟩:=ht;refine⟨_,_,?_,hk⟩;unfold MD hB;simp only[List.getElem?_cons_succ,List.getElem?_cons_zero,Th];rw[UE,M6 rfl];rfl
theorem jS :CR AI 53 Be:=by
 refine Fj (by kernel_rfl) (by kernel_rfl) (by kernel_rfl:AI.FM 53=some GC) (by kernel_rfl) fun vs h K ht=> ?_
 obtain⟨s,x,hs,rfl,hk⟩:=ht;refine⟨.bool (An s x),hk,?_⟩
 have e:Nat.blt s.length 4294967281=true:=Nat.ble_eq_true_of_le (by unfold BH at hs;omega)
 simp only[GC,e]
theorem mU (c:UInt8):∀v:List UInt8,An v [c]=v.contains c
 |[]=>rfl
 |x::r=>by
  rw[An,mU c r,List.contains_cons];simp only[List.isPrefixOf,Bool.and_true]
theorem df (l:List Go.Ai.Ak)(a:Go.Ai.Ak):Ex.AP ((l++[a]).map DG)=Ex.AP (l.map DG)++(32::(a.name++61::Ex.DX a.value::(a.value++[Ex.DX a.value]))):=by
 rw[List.map_append,Ex.K1];simp[Ex.AP,DG]
theorem gq {n:Nat}{i:Nat}(h:i<n):Dk (i:Int) n=true:=Dt (by omega) (by omega)
theorem lu (n:Nat)(l:List Go.Ai.Ak):AJ n (l.map Go.Ai.Ao)=true:=DD n _ (Df l)
theorem Xi {α:Type}(l:List α):List.append [] l=l:=rfl
theorem nw (l:List Go.Ai.Ak)(hb:(Ex.AP (l.map DG)).length<=Im)(hl:l.length<=Im)(hv:∀a∈l,a.value.length<=BH):∀(r pre:List Go.Ai.Ak),l=pre++r->
  AF AI 28 (AB Tryz.f28) (AK Tryz.prog Tryz.f28 (.str (Ex.AP (l.map DG)))) [.code [0,1,0,1,1],.block 0,.code [1,1,1]] .normal
   [(3,true,.str (Ex.AP (pre.map DG))),(7,true,.sl 3 (l.map Go.Ai.Ao) none),(8,true,.int .i64 ((l.length:Nat):Int)),(9,true,.int .i64 ((pre.length:Nat):Int))] []:=by
 intro r
 induction r with
 |nil=>
  intro pre e
  refine q6 (AY (AH jS AM)) (AA (fun h=> ?_) fun _=> ?_)
  ·rw[e] at h;simp at h
  ·rw[e,List.append_nil]
 |cons a r ih=>
  intro pre e
  have hlen:pre.length<l.length:=by rw[e];simp
  have hB':Im=1000000:=rfl
  have hva:=hv a (by rw[e];simp)
  have hsn:=df pre a
  have sD:(Ex.AP ((pre++[a]).map DG)).length<=Im:=by
   have hm:l.map DG=(pre++[a]).map DG++r.map DG:=by rw[e];simp
   have:=congrArg List.length (Ex.K1 ((pre++[a]).map DG) (r.map DG));rw[hm] at hb;rw[List.length_append] at this;omega
  have kf:=ih (pre++[a]) (by rw[e];simp)
  have hw:IntKind.wrap .i64 ((pre.length:Int)+1)=(((pre++[a]).length:Nat):Int):=by rw[BG (by omega) (by omega)];simp
  rw[<-hw] at kf;rw[hsn] at kf sD;simp only[List.length_append,List.length_cons,List.length_nil] at sD
  refine q6 (AY (AH jS AM)) (AA (fun _=> ?_) fun h=> ?_)
  ·refine AD ?_ ⟨a.name,a.value,a.pl,?_,a.value,[34],hva,rfl,?_⟩
   ·rw[List.length_map,gq hlen];rfl
   ·rw[e];exact Cp _ _ _ _
   ·rw[mU]
    refine AA (fun hc=> ?_) fun hc=> ?_
    ·have hm:Ex.DX a.value=39:=by unfold Ex.DX;rw[if_pos hc]
     rw[hm] at kf
     refine AD (decide_eq_true (by omega)) (AD (decide_eq_true ?_) (AD (decide_eq_true ?_) (AD (decide_eq_true ?_) (AD (decide_eq_true ?_) (AD (decide_eq_true ?_) (AD ?_ ?_))))))
     ·simp;omega
     ·simp;omega
     ·simp;omega
     ·simp;omega
     ·simp;omega
     ·rw[lu];rfl
     ·have e1:List.append (List.append (List.append (List.append a.name [61]) [39]) a.value) [39]=a.name++61::39::(a.value++[39]):=by simp
      try rw[Xi]
      rw[e1];exact kf
    ·have hm:Ex.DX a.value=34:=by unfold Ex.DX;rw[if_neg (by rw[hc];decide)]
     rw[hm] at kf
     refine AD (decide_eq_true (by omega)) (AD (decide_eq_true ?_) (AD (decide_eq_true ?_) (AD (decide_eq_true ?_) (AD (decide_eq_true ?_) (AD (decide_eq_true ?_) (AD ?_ ?_))))))
     ·simp;omega
     ·simp;omega
     ·simp;omega
     ·simp;omega
     ·simp;omega
     ·rw[lu];rfl
     ·have e1:List.append (List.append (List.append (List.append a.name [61]) [34]) a.value) [34]=a.name++61::34::(a.value++[34]):=by simp
      try rw[Xi]
      rw[e1];exact kf
  ·exfalso;have:=of_decide_eq_false h;omega
theorem Tk :∀l:List Go.Ai.Ak,l.length<=(Ex.AP (l.map DG)).length
 |[]=>Nat.le_refl _
 |a::r=>by
  have:=Tk r;simp only[List.map_cons,Ex.AP,List.length_cons,List.length_append];omega
theorem tJ :CR AI 28 Gv:=by
 refine Ax rV fun vs h K ht=> ?_
 obtain⟨l,hb,hv,rfl,hk⟩:=ht;have hl:=Nat.le_trans (Tk l) hb;refine⟨_,hk,t28 (AY (AH jS AM)) ?_⟩;have:=nw l hb hl hv l [] rfl
 rw[show((l.length:Nat):Int)=((l.map Go.Ai.Ao).length:Nat) by simp] at this
 exact this
theorem My (n:Nat):∀cs:List AV,AO.Ad cs=true->Kq n cs=cs
 |[],_=>rfl
 |v::r,h=>by
  simp only[AO.Ad,Bool.and_eq_true] at h;rw[Kq,My n r h.2]
  congr 1
  cases v with
  |ptr b o=>simp[AO] at h
  |KR b o l s=>simp[AO] at h
  |sl sz es own=>
   cases own with
   |none=>rfl
   |some i=>simp[AO] at h
  |_=>rfl
def Rk (k p0:Int)(t:List UInt8)(al:List Go.Ai.Ak)(ks:List Nd):List AV:=[.int .i64 k,.int .i64 p0,.str t,.sl 3 (al.map Go.Ai.Ao) none,.sl 5 (Ag ks) none]
theorem LO (k p0:Int)(t:List UInt8)(al:List Go.Ai.Ak)(ks:List Nd):AO.Ad (Rk k p0 t al ks)=true:=by
 have:=HA (.mk k p0 t al ks);rw[BW] at this;exact this
theorem nx {N:Nat}(hT:CR AI 27 (Vy N))(k p0:Int)(t:List UInt8)(al:List Go.Ai.Ak)(c0:List AV)(q0:AO.Ad c0=true)(en:List UInt8)(K:AV->Hp->Prop):∀(r pre:List Nd) (acc:List UInt8),(pre++r).length<=BH->CC r<N->dB r->OG r->acc.length+(FA r++en).length<=Im->
  K (.tup []) (hB c0 (acc++(FA r++en)) (.ptr 2 0))->
  AF AI 27 (AB Tryz.f27) (AX Tryz.prog Tryz.f27 4 K) [.code [0,1,0,1,1,1,1,1],.block 1,.code [1,1,1,1,1,1]] .normal
   [(1,true,.ptr 2 0),(2,true,.ptr 3 0),(5,true,.str en),(50,true,.sl 5 (Ag (pre++r)) none),(51,true,.int .i64 (((pre++r).length:Nat):Int)),(52,true,.int .i64 ((pre.length:Nat):Int))]
   (hB c0 acc (.ptr 2 0)++[.mem 26 (Rk k p0 t al (pre++r))]):=by
 have zJ:=AY (AH hT (AH jR AM));intro r
 induction r with
 |nil=>
  intro pre acc hl hs hk hf hb hK
  refine q7 zJ (AA (fun h=> ?_) fun _=>⟨c0,_,acc,en,.ptr 2 0,q0,LO k p0 t al (pre++[]),.inr rfl,?_,rfl,rfl,rfl,?_⟩)
  ·exfalso;simp at h
  ·simp only[FA,List.nil_append] at hb;exact hb
  ·rw[F7,Aw _ _ _ q0];simp only[FA,List.nil_append] at hK;exact hK
 |cons x r ih=>
  intro pre acc hl hs hk hf hb hK;have wM:BH=100000:=rfl
  have hlen:pre.length<(pre++x::r).length:=by simp
  rw[CC] at hs;rw[FA,List.append_assoc] at hb hK
  have iZ:(acc++Fp x).length+(FA r++en).length<=Im:=by
   simp only[List.length_append] at hb⊢;omega
  have hw:IntKind.wrap .i64 ((pre.length:Int)+1)=(((pre++[x]).length:Nat):Int):=by rw[BG (by omega) (by omega)];simp
  have kf:=ih (pre++[x]) (acc++Fp x) (by simpa using hl) (by omega) hk.2 hf.2 iZ (by rw[List.append_assoc];exact hK)
  rw[<-hw,show pre++[x]++r=pre++x::r by simp] at kf
  refine q7 zJ (AA (fun _=>AD ?_ ⟨x.kind,x.pl,x.text,x.attrs.map Go.Ai.Ao,Ag x.kids,(HW _ _ _).trans (BW x),x,c0,acc,.ptr 2 0,q0,by omega,hk.1,hf.1,.inr rfl,?_,rfl,by rw[BW],rfl,AD ?_ ?_⟩) fun h=> ?_)
  ·rw[BK,gq hlen];rfl
  ·simp only[List.length_append] at iZ;have:Im=1000000:=rfl;omega
  ·rw[HB,FC,My _ _ q0,EO _ _ q0,DD _ _ (UI _)];rfl
  ·rw[My _ _ q0];exact kf
  ·exfalso;have:=of_decide_eq_false h;omega
theorem rf {N:Nat}(hT:CR AI 27 (Vy N)){k p0:Int}{t:List UInt8}{al:List Go.Ai.Ak}{ks:List Nd}{c0:List AV}(q0:AO.Ad c0=true){op en acc:List UInt8}{p:AV}(hp:Oz p){K:AV->Hp->Prop}(hl:ks.length<=BH)(hs:CC ks<N)(hk:dB ks)(hf:OG ks)
  (hb:acc.length+(op++(t++(FA ks++en))).length<=Im) (hK:K (.tup []) (hB c0 (acc++(op++(t++(FA ks++en)))) (.ptr 2 0))):
  AF AI 27 (AB Tryz.f27) (AX Tryz.prog Tryz.f27 4 K) [.code [1,1,1]] .normal
   [(1,true,.ptr 2 0),(2,true,.ptr 3 0),(3,true,.ptr 4 0),(4,true,.str op),(5,true,.str en)] (hB c0 acc p++[.mem 26 (Rk k p0 t al ks)]):=by
 have e:acc++(op++(t++(FA ks++en)))=acc++op++t++(FA ks++en):=by simp
 rw[e] at hK
 have h3:(acc++op++t).length+(FA ks++en).length<=Im:=by simp only[List.length_append] at hb⊢;omega
 have h1:acc.length+op.length<=Im:=by simp only[List.length_append] at hb;omega
 have h2:(acc++op).length+t.length<=Im:=by simp only[List.length_append] at hb⊢;omega
 have L:=nx hT k p0 t al c0 q0 en K ks [] (acc++op++t) hl hs hk hf h3 hK;refine uu (AY (AH jR AM)) ⟨c0,_,acc,op,p,q0,LO k p0 t al ks,hp,h1,rfl,rfl,rfl,c0,_,acc++op,t,.ptr 2 0,q0,LO k p0 t al ks,.inr rfl,h2,rfl,rfl,rfl,?_⟩;rw[BK];exact L
theorem fA {c0:List AV}{acc:List UInt8}{p:AV}(q0:AO.Ad c0=true)(hp:Oz p):(hB c0 acc p).map (AN 4 [])=hB c0 acc p:=by
 have e1:=Aw 4 [] _ q0;have e2:=F7 4 [] acc
 rcases hp with rfl|rfl
 ·show [Blk.mem 26 (AQ 4 [] c0),Blk.grow acc.length 1 5,Blk.mem 69 [.Gb,.sl 1 (AE 4 [] (rb acc)) (some 1)],Blk.mem 70 [Av]]=_;rw[e1,e2];rfl
 ·show [Blk.mem 26 (AQ 4 [] c0),Blk.grow acc.length 1 5,Blk.mem 69 [.ptr 2 0,.sl 1 (AE 4 [] (rb acc)) (some 1)],Blk.mem 70 [Av]]=_;rw[e1,e2];rfl
theorem dh {k:Int}(al:List Go.Ai.Ak)(h1:(k==1||k==2)=false)(h2:(k==14)=false):(Ex.AP (al.map DG)).length<=(Sr k al).length:=by
 unfold Sr;rw[h1,h2];simp only[cond_false]
 cases k==3||k==6 with
 |true=>simp only[cond_true,List.length_append];omega
 |false=>simp only[cond_false,List.length_append];omega
theorem Lo :AL AI (Ac [(28,Gv)]):=AY (AH tJ AM)
theorem nj {N:Nat}(hT:CR AI 27 (Vy N)){k p0:Int}{t:List UInt8}{al:List Go.Ai.Ak}{ks:List Nd}{c0:List AV}(q0:AO.Ad c0=true){acc:List UInt8}{p:AV}(hp:Oz p){K:AV->Hp->Prop}(hl:ks.length<=BH)(hv:∀a∈al,a.value.length<=BH)(hs:CC ks<N)(hk:dB ks)(hf:OG ks)
  (h1:1<=k) (SL:k<=14) (hb:acc.length+(Sr k al++(t++(FA ks++lH k))).length<=Im) (hK:K (.tup []) (hB c0 (acc++(Sr k al++(t++(FA ks++lH k)))) (.ptr 2 0))):
  AF AI 27 (AB Tryz.f27) (AX Tryz.prog Tryz.f27 4 K) [.code []] .normal [(0,true,.agg (Rk k p0 t al ks)),(1,true,.ptr 2 0),(2,true,.ptr 3 0)] (hB c0 acc p):=by
 have TD:AE 0 [] (al.map Go.Ai.Ao)=al.map Go.Ai.Ao:=As _ _ _ (Df al);have hB':Im=1000000:=rfl;have M:=rf (k:=k) (p0:=p0) (al:=al) hT q0 hp hl hs hk hf hb hK
 have hA:(k==1||k==2)=false->(k==14)=false->(Ex.AP (al.map DG)).length<=Im:=fun a b=>by
  have:=dh al a b;simp only[List.length_append] at hb;omega
 have hk:k=1\/k=2\/k=14\/k=3\/k=4\/k=5\/k=6\/k=7\/k=8\/k=9\/k=10\/k=11\/k=12\/k=13:=by omega
 rcases hk with rfl|rfl|rfl|rfl|rfl|rfl|rfl|rfl|rfl|rfl|rfl|rfl|rfl|rfl
 ·exact rH Lo M
 ·exact rG Lo M
 ·exact mz Lo M
 ·have ha:=hA rfl rfl
  refine rF Lo ⟨al,ha,hv,by rw[TD],AD (decide_eq_true (by omega)) (AD (decide_eq_true (by simp;omega)) ?_)⟩
  exact M
 ·have ha:=hA rfl rfl
  refine rE Lo ⟨al,ha,hv,by rw[TD],AD (decide_eq_true (by omega)) (AD (decide_eq_true (by simp;omega)) ?_)⟩
  exact M
 ·have ha:=hA rfl rfl
  refine rD Lo ⟨al,ha,hv,by rw[TD],AD (decide_eq_true (by omega)) (AD (decide_eq_true (by simp;omega)) ?_)⟩
  exact M
 ·have ha:=hA rfl rfl
  refine rC Lo ⟨al,ha,hv,by rw[TD],AD (decide_eq_true (by omega)) (AD (decide_eq_true (by simp;omega)) ?_)⟩
  exact M
 ·have ha:=hA rfl rfl
  refine rB Lo ⟨al,ha,hv,by rw[TD],AD (decide_eq_true (by omega)) (AD (decide_eq_true (by simp;omega)) ?_)⟩
  exact M
 ·have ha:=hA rfl rfl
  refine q9 Lo ⟨al,ha,hv,by rw[TD],AD (decide_eq_true (by omega)) (AD (decide_eq_true (by simp;omega)) ?_)⟩
  exact M
 ·have ha:=hA rfl rfl
  refine q8 Lo ⟨al,ha,hv,by rw[TD],AD (decide_eq_true (by omega)) (AD (decide_eq_true (by simp;omega)) ?_)⟩
  exact M
 ·have ha:=hA rfl rfl
  refine nD Lo ⟨al,ha,hv,by rw[TD],AD (decide_eq_true (by omega)) (AD (decide_eq_true (by simp;omega)) ?_)⟩
  exact M
 ·have ha:=hA rfl rfl
  refine nC Lo ⟨al,ha,hv,by rw[TD],AD (decide_eq_true (by omega)) (AD (decide_eq_true (by simp;omega)) ?_)⟩
  exact M
 ·have ha:=hA rfl rfl
  refine nB Lo ⟨al,ha,hv,by rw[TD],AD (decide_eq_true (by omega)) (AD (decide_eq_true (by simp;omega)) ?_)⟩
  exact M
 ·have ha:=hA rfl rfl
  refine nA Lo ⟨al,ha,hv,by rw[TD],AD (decide_eq_true (by omega)) (AD (decide_eq_true (by simp;omega)) ?_)⟩
  exact M
theorem tH :∀N,CR AI 27 (Vy N)
 |0=>by
  intro l h K ht;unfold Vy at ht;split at ht
  ·obtain⟨nd,c0,acc,p,q0,hs,_⟩:=ht;exact absurd hs (Nat.not_lt_zero _)
  ·exact ht.elim
 |N+1=>by
  have hT:=tH N
  refine lK rW fun vs h K ht=> ?_
  unfold Vy at ht;split at ht
  ·rename_i b0 b1 b2 b3 r;obtain⟨nd,c0,acc,p,q0,hs,hk,hf,hp,hb,km,rfl,e,hK⟩:=ht;obtain⟨rfl,rfl,rfl,rfl⟩:=gV e;refine⟨km,?_⟩;obtain⟨k,p0,t,al,ks⟩:=nd;rw[Fp] at hb hK;rw[Nd.size] at hs
   have hv:AQ 4 [] [.agg (ES (.mk k p0 t al ks)),.ptr 2 0,.ptr 3 0]=[.agg (Rk k p0 t al ks),.ptr 2 0,.ptr 3 0]:=by
    have e1:=Aw 4 [] _ (HA (.mk k p0 t al ks));show [AV.agg (AQ 4 [] (ES (.mk k p0 t al ks))),.ptr 2 0,.ptr 3 0]=_;rw[e1,BW];rfl
   have hh:=fA (acc:=acc) q0 hp;rw[hv];have sH:((hB c0 acc p++r).take 4).map (AN 4 [])=hB c0 acc p:=hh;have hd4:(hB c0 acc p++r).drop 4=r:=rfl
   have G:=nj (K:=fun v h1=>K v (h1++r)) (p0:=p0) hT q0 hp hf.2.2.2.1 hf.2.2.1 (by omega) hk.2 hf.2.2.2.2 hk.1.1 hk.1.2 hb hK
   show AF AI 27 (AB Tryz.f27) (AX Tryz.prog Tryz.f27 4 fun v h1=>K v (h1++(hB c0 acc p++r).drop 4)) [.code []] .normal _ (((hB c0 acc p++r).take 4).map (AN 4 []))
   rw[sH,hd4];exact G
  ·exact ht.elim
end Go.Proofs.YtopjpnhgnopbiaaGreatDoor.Pu
end
section
namespace Go.Proofs.YtopjpnhgnopbiaaGreatDoor.Pu
open Go.Ai Go Go.Ai.Sp
set_option maxRecDepth 100000
open Go.IntKind (wrap i64 u8)
open Go.Ai.AV (int str sl tup bool agg ptr)
open Go.Ai.Blk (mem grow)
open Go.Ai.Fm (code block loop)
open Go.Ai.XT (normal)
open List (length)
open Prod (fst snd)
open UInt8 (toNat)
open Tryz (prog f11 f13 f22)
variable {N:Nat}{v:AV}{k p0:Int}{t:List UInt8}{es ks:List (List AV)}
theorem t13 (hT:AL AI (Ac [(26,lr N),(27,Vy N),(30,rj),(31,rN)]))(H:(fun(G0:List AV)=>(fun(C0:List AV)=>∃(n1:Nd),Nd.size n1<N/\Nd.Km n1/\N<=1000000/\[agg [int i64 k,int i64 p0,str t,sl 3 (AE 0 [] es) none,sl 5 (AE 0 [] ks) none]]=[agg (ES n1)]/\Ap (Nd.Hi n1 !=0) (tup [str [],int i64 (Nd.Hi n1)]=v) (∃(A0:Nd) (F0:List AV) (B0:List UInt8) (p5:AV),AO.Ad F0=true/\Nd.size A0<N/\pq A0/\Nd.Km A0/\Oz p5/\length B0+length (Fp A0)<=1000000/\true=true/\[agg G0,ptr 2 0,ptr 3 0]=[agg (ES A0),ptr 2 0,ptr 3 0]/\[mem 26 G0,grow 0 1 5,mem 69 [AV.Gb,sl 1 [] (some 1)],mem 70 C0]=[mem 26 F0,grow (length B0) 1 5,mem 69 [p5,sl 1 (rb B0) (some 1)],mem 70 C0]/\∃(H0:List AV) (D0:List UInt8),(fun(I0:Hp)=>AO.Ad H0=true/\[ptr 2 0]=[ptr 2 0]/\[mem 26 F0,grow (length (B0++Fp A0)) 1 5,mem 69 [ptr 2 0,sl 1 (rb (B0++Fp A0)) (some 1)],mem 70 C0]=I0/\Ap (decide ((↑(length D0):Int)>65536)) (tup [str [],int i64 3]=v) (∃(J0:List AV) (E0:List UInt8),[ptr 2 0]=[ptr 2 0]/\I0=[mem 26 J0,grow (length E0) 1 5,mem 69 [ptr 2 0,sl 1 (rb E0) (some 1)],mem 70 C0]/\tup [str E0,int i64 0]=v)) [mem 26 H0,grow (length D0) 1 5,mem 69 [ptr 2 0,sl 1 (rb D0) (some 1)],mem 70 C0])) [AV.fn (Fn.func 27) [] [ptr 2 0,ptr 3 0]]) [int i64 k,int i64 p0,str t,sl 3 es none,sl 5 ks none]):AF AI 13 (AB f13) (AK prog f13 v) ([.code []]) .normal ([(0,true,.agg [.int .i64 k,.int .i64 p0,.str t,.sl 3 es none,.sl 5 ks none])]) ([]):=
 uo (pl:=⟨[],[]⟩) hT H (by kernel_rfl)
theorem uv {l:Int}(hT:AL AI (Ac [(22,Qy N)]))(H:AF AI 22 (AB f22) (AK prog f22 v) [code [0,1,0,1,1],block 0,code [1,1,1]] normal [(1,true,int i64 (wrap i64 (wrap i64 (l-1)-wrap i64 (Int.tdiv (↑(length t):Int) 20)))),(2,true,ptr 0 0),(5,true,int i64 0)] [mem 26 [int i64 k,int i64 p0,str t,sl 3 es none,sl 5 ks none]]):AF AI 22 (AB f22) (AK prog f22 v) ([.code []]) .normal ([(0,true,.agg [.int .i64 k,.int .i64 p0,.str t,.sl 3 es none,.sl 5 ks none]),(1,true,.int .i64 l)]) ([]):=
 uo (pl:=⟨[[0,1,0,1,1],[0,1,0,1,1,1]],[([0,0,1,0,0,1,0,1,1],5,[.str,.str,.int .i64]),([0,0,1,0,0,1,0,1,1],14,[.str,.str,.int .i64]),([0,0,1,0,0,1,0,1,1,1],3,[.int .i64,.int .i64,.str,.sl 3,.sl 5])]⟩) hT H (by kernel_rfl)
theorem rJ {N:Nat}{v:AV}{k p0:Int}{t:List UInt8}{es ks:List (List AV)}{i1:Int}{i5:Int}(hT:AL AI (Ac [(22,Qy N)]))(H:(fun(B0:List Fm)=>(fun(C0:Fr)=>(fun(A0:Hp)=>Ap (decide (i5<(↑(length es):Int))) (Ap (decide (i1>0)) (AS (Dk i5 (length es)&&true&&true) (∃(s1 s2:List UInt8) (z3:Int),CH es i5=[str s1,str s2,int i64 z3]/\AS (Dk i5 (length es)&&true&&true) (∃(s4 s5:List UInt8) (z6:Int),CH es i5=[str s4,str s5,int i64 z6]/\AS (AJ 1 es&&true&&(AJ 1 ks&&true&&true)&&true) (AF AI 22 (AB f22) (AK prog f22 v) [code [0,1,0,1,1],block 0,code [1,1,1]] normal [(1,true,int i64 (wrap i64 (wrap i64 (wrap i64 (i1-1)-wrap i64 (Int.tdiv (↑(length s1):Int) 20))-wrap i64 (Int.tdiv (↑(length s5):Int) 20)))),(2,true,ptr 0 0),(5,true,int i64 (wrap i64 (i5+1)))] A0)))) (AF AI 22 (AB f22) (AK prog f22 v) B0 normal C0 A0)) (AF AI 22 (AB f22) (AK prog f22 v) B0 normal C0 A0)) [mem 26 [int i64 k,int i64 p0,str t,sl 3 es none,sl 5 ks none]]) [(1,true,int i64 i1),(2,true,ptr 0 0),(6,true,int i64 0)]) [code [0,1,0,1,1,1],block 2,code [1,1,1,1]]):AF AI 22 (AB f22) (AK prog f22 v) ([.code [0,1,0,1,1],block 0,code [1,1,1]]) .normal ([(1,true,int i64 i1),(2,true,ptr 0 0),(5,true,int i64 i5)]) ([mem 26 [int i64 k,int i64 p0,str t,sl 3 es none,sl 5 ks none]]):=
 Az (pl:=⟨[[0,1,0,1,1],[0,1,0,1,1,1]],[([0,0,1,0,0,1,0,1,1],5,[.str,.str,.int .i64]),([0,0,1,0,0,1,0,1,1],14,[.str,.str,.int .i64]),([0,0,1,0,0,1,0,1,1,1],3,[.int .i64,.int .i64,.str,.sl 3,.sl 5])]⟩) hT 100000 (by kernel_rfl) (Aj H (by kernel_rfl))
theorem rI {N:Nat}{v:AV}{k p0:Int}{t:List UInt8}{es ks:List (List AV)}{i1:Int}{i6:Int}(hT:AL AI (Ac [(22,Qy N)]))(H:Ap (decide (i6<(↑(length ks):Int))) (Ap (decide (i1>0)) (AS (Dk i6 (length ks)&&true&&true) (∃(z1 z2:Int) (s3:List UInt8) (B0 C0:List (List AV)),CH ks i6=[int i64 z1,int i64 z2,str s3,sl 3 B0 none,sl 5 C0 none]/\∃(A0:Nd) (l7:Int),Nd.size A0<N/\Nd.fit A0/\0<l7/\l7<=600/\[agg [int i64 z1,int i64 z2,str s3,sl 3 (AE 0 [] B0) none,sl 5 (AE 0 [] C0) none],int i64 i1]=[agg (ES A0),int i64 l7]/\AS (AJ 1 es&&true&&(AJ 1 ks&&true&&true)&&true) (AF AI 22 (AB f22) (AK prog f22 v) [code [0,1,0,1,1,1],block 2,code [1,1,1,1]] normal [(1,true,int i64 (Nd.left A0 l7)),(2,true,ptr 0 0),(6,true,int i64 (wrap i64 (i6+1)))] [mem 26 [int i64 k,int i64 p0,str t,sl 3 es none,sl 5 ks none]]))) (int i64 i1=v)) (int i64 i1=v)):AF AI 22 (AB f22) (AK prog f22 v) ([.code [0,1,0,1,1,1],block 2,code [1,1,1,1]]) .normal ([(1,true,int i64 i1),(2,true,ptr 0 0),(6,true,int i64 i6)]) ([mem 26 [int i64 k,int i64 p0,str t,sl 3 es none,sl 5 ks none]]):=
 Az (pl:=⟨[[0,1,0,1,1],[0,1,0,1,1,1]],[([0,0,1,0,0,1,0,1,1],5,[.str,.str,.int .i64]),([0,0,1,0,0,1,0,1,1],14,[.str,.str,.int .i64]),([0,0,1,0,0,1,0,1,1,1],3,[.int .i64,.int .i64,.str,.sl 3,.sl 5])]⟩) hT 100000 (by kernel_rfl) (Aj H (by kernel_rfl))
theorem vE (hT:AL AI (Ac [(22,Qy N)]))(H:∃(ta:Nd) (l2:Int),Nd.size ta<N/\Nd.fit ta/\0<l2/\l2<=600/\[agg [int i64 k,int i64 p0,str t,sl 3 (AE 0 [] es) none,sl 5 (AE 0 [] ks) none],int i64 600]=[agg (ES ta),int i64 l2]/\bool (decide (Nd.left ta l2>0))=v):AF AI 11 (AB f11) (AK prog f11 v) ([.code []]) .normal ([(0,true,.agg [.int .i64 k,.int .i64 p0,.str t,.sl 3 es none,.sl 5 ks none])]) ([]):=
 uo (pl:=⟨[],[]⟩) hT H (by kernel_rfl)
end Go.Proofs.YtopjpnhgnopbiaaGreatDoor.Pu
end
section
namespace Go.Proofs.YtopjpnhgnopbiaaGreatDoor.Pu
open Go.Ai Go Tr
theorem ve :BL AI 22 Tryz.f22:=(by refine⟨?_,?_,?_,?_,?_,?_⟩<;>kernel_rfl)
theorem vj :BL AI 11 Tryz.f11:=(by refine⟨?_,?_,?_,?_,?_,?_⟩<;>kernel_rfl)
theorem ag {N:Nat}(hT:AL AI (Ac [(22,Qy N)]))(k p:Int)(t:List UInt8)(al:List Ak):∀(r pre:List Nd) (l:Int),PE<=l->l<=600->CC (pre++r)<N->fits (pre++r)->(pre++r).length<=FY->
  AF AI 22 (AB Tryz.f22) (AK Tryz.prog Tryz.f22 (.int .i64 (Hu r l))) [.code [0,1,0,1,1,1],.block 2,.code [1,1,1,1]] .normal
   [(1,true,.int .i64 l),(2,true,.ptr 0 0),(6,true,.int .i64 pre.length)] [.mem 26 [.int .i64 k,.int .i64 p,.str t,.sl 3 (al.map Ao) none,.sl 5 (Ag (pre++r)) none]]:=by
 intro r
 induction r with
 |nil=>
  intro pre l h1 h2 hs hf hl
  refine rI hT (AA (fun hc=> ?_) fun _=>rfl)
  simp[BK] at hc
 |cons x r ih=>
  intro pre l h1 h2 hs hf hl;have hx:=(Ob.1 hf).2.1
  have CD:=cH (l:=pre++x::r) (n:=x) (by simp)
  have hlen:pre.length<FY:=by simp at hl;omega
  refine rI hT (AA (fun _=>AA (fun hg=> ?_) fun hg=> ?_) fun hc=> ?_)
  ·simp only[gt_iff_lt,decide_eq_true_eq] at hg
   refine AD (by rw[BK,Dt (by omega) (by simp;omega)];rfl) ⟨x.kind,x.pl,x.text,x.attrs.map Ao,Ag x.kids,by rw[HW,BW],x,l,by omega,hx,hg,h2,by rw[GP,GO,BW],?_⟩
   refine AD (by simp only[FC,HB,Bool.and_true]) ?_
   rw[BE hlen]
   have:=ih (pre++[x]) (x.left l) (x.Wn hx hg) (by have:=(x.S7 (l:=l)).2;omega) (by simpa using hs) (by simpa using hf) (by simpa using hl)
   simpa[Hu,hg] using this
  ·simp only[gt_iff_lt,decide_eq_false_iff_not] at hg;rw[Hu,if_neg hg]
  ·simp[BK] at hc;omega
theorem kV {N:Nat}(hT:AL AI (Ac [(22,Qy N)]))(k p:Int)(t:List UInt8)(ks:List Nd)(hN:CC ks<N)(hf:fits ks)(hk:ks.length<=FY):∀(r pre:List Ak) (l:Int),PE<=l->l<=600->(∀a∈r,a.fit)->(pre++r).length<=FY->
  AF AI 22 (AB Tryz.f22) (AK Tryz.prog Tryz.f22 (.int .i64 (Hu ks (JS r l)))) [.code [0,1,0,1,1],.block 0,.code [1,1,1]] .normal
   [(1,true,.int .i64 l),(2,true,.ptr 0 0),(5,true,.int .i64 pre.length)] [.mem 26 [.int .i64 k,.int .i64 p,.str t,.sl 3 ((pre++r).map Ao) none,.sl 5 (Ag ks) none]]:=by
 intro r
 induction r with
 |nil=>
  intro pre l h1 h2 _ hl
  refine rJ hT (AA (fun hc=> ?_) fun _=> ?_)
  ·simp at hc
  ·exact ag hT k p t _ ks [] l h1 h2 hN hf hk
 |cons x r ih=>
  intro pre l h1 h2 ha hl
  have hlen:pre.length<FY:=by simp at hl;omega
  have hx:=ha x (by simp)
  refine rJ hT (AA (fun _=>AA (fun hg=> ?_) fun hg=> ?_) fun hc=> ?_)
  ·simp only[gt_iff_lt,decide_eq_true_eq] at hg
   have Hv:Dk (pre.length:Int) ((pre++x::r).map Ao).length=true:=Dt (by omega) (by simp;omega)
   refine AD (by rw[Hv];rfl) ⟨x.name,x.value,x.pl,Cp _ _ _ _,AD (by rw[Hv];rfl) ⟨x.name,x.value,x.pl,Cp _ _ _ _,AD (by simp only[FC,HB,Bool.and_true]) ?_⟩⟩
   rw[BE hlen,X8 _ hx.1,X8 _ hx.2]
   have e:IntKind.wrap .i64 (IntKind.wrap .i64 (IntKind.wrap .i64 (l-1)-(x.name.length/20:Nat))-(x.value.length/20:Nat))=Zv x l:=by
    obtain⟨q1,q2⟩:=hx;unfold FY at q1 q2;unfold PE at h1
    rw[BG (n:=l-1) (by omega) (by omega),Pq (a:=l-1) (by omega) (by omega),Pq (by omega) (by omega)]
    rfl
   rw[e]
   have:=ih (pre++[x]) (Zv x l) (Xc hx hg) (by have:=bg (a:=x) (l:=l);omega) (fun a h=>ha a (by simp[h])) (by simpa using hl)
   simpa[JS,hg] using this
  ·simp only[gt_iff_lt,decide_eq_false_iff_not] at hg;rw[JS,if_neg hg];exact ag hT k p t _ ks [] l h1 h2 hN hf hk
  ·simp at hc;omega
theorem mV :∀N,CR AI 22 (Qy N)
 |0=>fun l h K ht=>by obtain⟨nd,l,h,_⟩:=ht;omega
 |N+1=>by
  have hT:=AY (AH (mV N) AM)
  refine Ax ve fun vs h K ht=> ?_
  obtain⟨nd,l,hs,hf,h0,h6,rfl,hk⟩:=ht;refine⟨_,hk,?_⟩;rw[BW];refine uv hT ?_;rw[Nd.im] at hf;obtain⟨q1,q2,q3,q4,q5⟩:=hf;rw[Nd.size_eq] at hs;rw[Nd.kX,X8 _ q1]
  have e:IntKind.wrap .i64 (IntKind.wrap .i64 (l-1)-(nd.text.length/20:Nat))=l-1-(nd.text.length/20:Nat):=by
   unfold FY at q1
   rw[BG (n:=l-1) (by omega) (by omega),Pq (by omega) (by omega)]
  rw[e]
  exact kV hT _ _ _ nd.kids (by omega) q5 q4 nd.attrs [] _ (by unfold FY at q1;unfold PE;omega) (by omega) q3 q2
theorem yF :CR AI 11 pH:=by
 refine Ax vj fun vs h K ht=> ?_
 obtain⟨nd,hf,rfl,hk⟩:=ht;refine⟨_,hk,?_⟩;have hT:=AY (AH (mV (nd.size+1)) AM);rw[BW]
 exact vE hT ⟨nd,600,by omega,hf,by omega,by omega,by rw[GP,GO,BW],rfl⟩
end Go.Proofs.YtopjpnhgnopbiaaGreatDoor.Pu
end
section
namespace Go.Ai.Sp
open Go.Ai Go.RowKit
mutual
theorem vw :∀(c:Nd) (d:Int) (hid:Bool) (b:Int),c.Mj d hid b=0->(c.kind=2\/c.kind=14\/LZ c.kind)->pq c
 |.mk k p t al ks,d,hid,b,hc,hk=>by
  have hk:k=2\/k=14\/LZ k:=hk;obtain⟨hf,hs⟩:=Gl.1 hc;refine⟨?_,n8 ks _ _ _ _ _ _ hs⟩;unfold LZ at hk;omega
theorem n8 :∀(ks:List Nd) (p N i d:Int) (hid:Bool) (b:Int),Il p N ks i d hid b=0->dB ks
 |[],_,_,_,_,_,_,_=>trivial
 |c::ks,p,N,i,d,hid,b,h=>by
  obtain⟨h1,h2,h3⟩:=Cy.1 h;exact⟨vw c d hid b h2 (J6 h1),n8 ks p N (i+1) d hid c.kind h3⟩
end
theorem kZ {n:Nd}(h:n.Hi=0):pq n:=by
 obtain⟨hk,_⟩:=Tu h;obtain⟨k,p,t,al,ks⟩:=n;have hk:k=1:=hk;subst hk;have hc:(Nd.mk 1 p t al ks).Mj 0 false 0=0:=h;obtain⟨hf,hs⟩:=Gl.1 hc
 exact⟨by omega,n8 ks _ _ _ _ _ _ hs⟩
end Go.Ai.Sp
namespace Go.Proofs.YtopjpnhgnopbiaaGreatDoor.Pu
open Go.Ai Go Go.Ai.Sp Tr
set_option maxRecDepth 100000
theorem nY :BL AI 13 Tryz.f13:=(by refine⟨?_,?_,?_,?_,?_,?_⟩<;>kernel_rfl)
theorem tG (N:Nat):CR AI 13 (Hm N):=by
 have hT:=AY (AH (Tr.c13 N) (AH (tH N) (AH yE (AH yD AM))))
 refine Ax nY fun vs h K ht=> ?_
 obtain⟨n,hs,hf,hN,hb,rfl,hk⟩:=ht;refine⟨_,hk,?_⟩;have q:=HA n;rw[BW] at q⊢
 refine t13 hT ⟨n,hs,hf,hN,by rw[B7,Hq,BW],AA (fun a=> ?_) fun a=> ?_⟩
 ·have a:(n.Hi==0)=false:=by simpa using a
  unfold GU;rw[a];rfl
 ·have a:n.Hi=0:=by simpa using a
  have hb:=hb a
  refine⟨n,_,[],.Gb,q,hs,kZ a,hf,.inl rfl,by simpa[Im] using hb,rfl,by rw[BW],rfl,_,[]++Fp n,q,rfl,rfl,AA (fun c=> ?_) fun c=>⟨_,[]++Fp n,rfl,rfl,?_⟩⟩
  ·have c:65536<(Fp n).length:=by have:=of_decide_eq_true c;simp at this;omega
   unfold GU;rw[a,decide_eq_true c];rfl
  ·have c:¬65536<(Fp n).length:=by have:=of_decide_eq_false c;simp at this;omega
   unfold GU;rw[a,decide_eq_false c];rfl
end Go.Proofs.YtopjpnhgnopbiaaGreatDoor.Pu
end
section
namespace Go.Proofs.YtopjpnhgnopbiaaGreatDoor.Pu
open Go.Ai Go
set_option maxRecDepth 100000
theorem vi :BL AI 12 Tryz.f12:=(by refine⟨?_,?_,?_,?_,?_,?_⟩<;>kernel_rfl)
theorem pR :CR AI 12 Ex.mZ:=jL (n:=100000) vi (by kernel_rfl)
end Go.Proofs.YtopjpnhgnopbiaaGreatDoor.Pu
end
section
namespace Go.Proofs.YtopjpnhgnopbiaaGreatDoor.Pu
open Go.Ai Go Go.Ai.Sp Tr
set_option maxRecDepth 100000
theorem pS :CR AI 8 UM:=by
 refine Fj (g:=QX) (by kernel_rfl) (by kernel_rfl) (by kernel_rfl) (by kernel_rfl) fun vs h K ht=> ?_
 obtain⟨s,rfl,hk⟩:=ht;refine⟨NR 3 5 (Bg s),?_,rfl⟩;rw[It 0 [] _ (NJ _).1]
 have:NR 3 5 (Bg s)=.tup [.agg [.int .i64 (CJ s).kind,.int .i64 (CJ s).pl,.str (CJ s).text,.sl 3 ((CJ s).attrs.map Go.Ai.Ao) none,.sl 5 (Ag (CJ s).kids) none],.int .i64 (YV s),.int .i64 (Ec s)]:=by
  rw[<-BW];unfold CJ YV Ec
  cases Bg s with
  |ok n=>rfl
  |error x=>rfl
 rw[this];exact hk
theorem zw :BL AI 6 Tryz.f6:=(by refine⟨?_,?_,?_,?_,?_,?_⟩<;>kernel_rfl)
theorem uQ :AL AI (Ac [(8,UM),(11,pH),(12,Ex.mZ),(13,Hm 1000000),(14,QK 1000000)]):=
 AY (AH pS (AH yF (AH pR (AH (tG _) (AH (Tr.zg _) AM)))))
theorem V7 {s:List UInt8}{m:Nd}(h:Bg s=.ok m):CJ s=m/\Ec s=0:=by
 unfold CJ Ec;rw[h];exact⟨rfl,rfl⟩
theorem Pt {s:List UInt8}{m:Nd}(h:Bg s=.ok m)(hs:s.length<=40000):m.size<1000000/\m.Km/\m.fit/\(m.Hi=0->(Fp m).length<=1000000):=by
 obtain⟨_,h2,h3⟩:=V6 h;have wM:BH=100000:=rfl;have hl:FY=9223372036854775807:=rfl
 refine⟨by omega,Vm (by omega) m h2,aK (by omega) m h2,fun hp=> ?_⟩
 have:=Sv h;rw[Qe hp];omega
def pc :Ce:=fun vs h K=>∃s:List UInt8,vs=[.str s]/\K (.bool true) h
theorem pT :CR AI 6 pc:=by
 refine Ax zw fun vs h K ht=> ?_
 obtain⟨s,rfl,hk⟩:=ht;refine⟨_,hk,?_⟩
 refine t6 uQ (AA (fun _=>⟨rfl,rfl⟩) fun hl=>⟨s,rfl,AA (fun _=>⟨rfl,rfl⟩) fun he=> ?_⟩)
 have hl:s.length<=4000:=by have:=of_decide_eq_false hl;omega
 have he:Ec s=0:=by simpa using he
 obtain⟨n,_,_,e1,h1,_,_⟩:=NM he
 obtain⟨t,h2,h3⟩:=cz h1 (by omega)
 obtain⟨m,h4,h5,h6⟩:=gY h2;obtain⟨e3,e4⟩:=V7 h4
 obtain⟨f1,f2,f3,f4⟩:=Pt h1 (by omega)
 obtain⟨g1,g2,g3,g4⟩:=Pt h4 (by omega)
 rw[e1]
 refine⟨n,f1,f2,by omega,f4,by rw[B7,Hq,BW],?_⟩
 rw[h2];refine⟨t,rfl,?_⟩;rw[e3,e4]
 refine⟨m,g1,g2,by omega,g4,by rw[B7,Hq,BW],?_⟩
 rw[h6]
 refine AA (fun _=>AA (fun _=>AA (fun _=>⟨n,m,f1,f3,g3,by rw[B7,Hq,B7,Hq,BW,BW],?_⟩) fun c=>by cases c) fun c=>by cases c) fun c=>by cases c
 rw[h5]
 refine AA (fun _=>AA (fun _=>⟨rfl,rfl⟩) fun c=> ?_) fun c=>by cases c
 simp at c
end Go.Proofs.YtopjpnhgnopbiaaGreatDoor.Pu
end
section
namespace Go.Proofs.YtopjpnhgnopbiaaGreatDoor
open Go.Ai Go
set_option maxRecDepth 100000
theorem mb {n:Nat}{xs:List AV}(h:wt Tryz.prog n 9 xs):∃s:List UInt8,s.length<=maxLen/\xs=[.str s]:=by
 cases n with
 |zero=>exact h.elim
 |succ n=>simpa only[wt,Tryz.underlying9] using h
theorem Zw {n:Nat}{v:AV}(h:Rr Tryz.prog n 9 v):∃s:List UInt8,s.length<=maxLen/\v=.str s:=by
 obtain⟨s,h1,h2⟩:=mb (show wt Tryz.prog n 9 [v] from h)
 injection h2 with h2 _
 exact⟨s,h1,h2⟩
end Go.Proofs.YtopjpnhgnopbiaaGreatDoor
end
