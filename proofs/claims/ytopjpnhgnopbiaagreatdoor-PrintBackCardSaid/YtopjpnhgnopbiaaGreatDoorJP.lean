/-
  The program's telling of trees under contract, and the rows' functions.
-/
import Derived.Test.YtopjpnhgnopbiaaGreatDoorJG
import Derived.Test.YtopjpnhgnopbiaaGreatDoorJT
import Derived.Test.YtopjpnhgnopbiaaGreatDoorJH
import Derived.Test.YtopjpnhgnopbiaaGreatDoorJW
import Derived.Test.YtopjpnhgnopbiaaGreatDoorJA
import Derived.Test.YtopjpnhgnopbiaaGreatDoorAiMono
import Derived.Test.YtopjpnhgnopbiaaGreatDoorCfg
import Derived.Test.YtopjpnhgnopbiaaGreatDoorAiLaw
set_option linter.unusedVariables false
set_option linter.unusedSimpArgs false
set_option linter.unnecessarySimpa false
section
namespace Go.Proofs.YtopjpnhgnopbiaaGreatDoor.Pu
open Go.Ai Go Go.Ai.Sp
set_option maxRecDepth 100000
open Go.IntKind (wrap i64 u8)
open Go.Ai.AV (int str sl tup bool agg ptr)
open Go.Ai.Blk (mem grow)
open Go.Ai.Fm (code block loop)
open Go.Ai.XT (normal)
open List (length)
open Prod (fst snd)
open UInt8 (toNat)
open Tryz (prog f5)
theorem t5 {N:Nat}{v:AV}{k p0:Int}{t:List UInt8}{es ks:List (List AV)}(hT:AL AI (Ac [(8,UN),(11,pW),(12,Ex.mw),(13,Hr N),(14,QN N)]))(H:(fun(A0:List AV)=>∃(B0:Nd),Nd.fit B0/\[agg A0]=[agg (Dt B0)]/\Ap (!decide (0<Nd.left B0 600)) (true=true/\bool true=v) (∃(n2:Nd),Nd.size n2<N/\Nd.JX n2/\N<=1000000/\(Nd.G7 n2=0->length (Eg n2)<=1000000)/\[agg A0]=[agg (Dt n2)]/\Ap (snd (DV n2) !=0) (Ap (fst (DV n2)==[]) (true=true/\bool true=v) (bool false=v)) (∃(s4:List UInt8),(fun(C0:List AV)=>[str (fst (DV n2))]=[str s4]/\∃(n5:Nd),Nd.size n5<N/\Nd.JX n5/\N<=1000000/\(Nd.G7 n5=0->length (Eg n5)<=1000000)/\[agg C0]=[agg (Dt n5)]/\Ap (Fb s4==0) (∃(a7 b8:Nd),Nd.size a7<N/\Nd.fit a7/\Nd.fit b8/\[agg A0,agg C0]=[agg (Dt a7),agg (Dt b8)]/\Ap (Nd.same a7 b8) (Ap (fst (DV n5)==fst (DV n2)) (Ap (snd (DV n5)==0) (true=true/\bool true=v) (bool false=v)) (bool false=v)) (bool false=v)) (bool false=v)) [int i64 (Nd.kind (Cr s4)),int i64 (Nd.pl (Cr s4)),str (Nd.text (Cr s4)),sl 3 (AE 0 [] (List.map Ao (Nd.attrs (Cr s4)))) none,sl 5 (AE 0 [] (Ag (Nd.kids (Cr s4)))) none]))) [int i64 k,int i64 p0,str t,sl 3 (AE 0 [] es) none,sl 5 (AE 0 [] ks) none]):AF AI 5 (AB f5) (AK prog f5 v) ([.code []]) .normal ([(0,true,.agg [.int .i64 k,.int .i64 p0,.str t,.sl 3 es none,.sl 5 ks none])]) ([]):=
 uo (pl:=⟨[],[]⟩) hT H (by kernel_rfl)
end Go.Proofs.YtopjpnhgnopbiaaGreatDoor.Pu
end
section
namespace Go.Proofs.YtopjpnhgnopbiaaGreatDoor.Pu
open Go.Ai Go Go.Ai.Sp
set_option maxRecDepth 100000
open Go.IntKind (wrap i64 u8)
open Go.Ai.AV (int str sl tup bool agg ptr)
open Go.Ai.Blk (mem grow)
open Go.Ai.Fm (code block loop)
open Go.Ai.XT (normal)
open List (length)
open Prod (fst snd)
open UInt8 (toNat)
open Tryz (prog f27 f28 f29 f30 f54)
variable {K:AV->Hp->Prop}{c0 c4:List AV}{n:Nat}{e:List (List AV)}{p v:AV}{es:List (List AV)}{p0:Int}{t:List UInt8}{ks:List (List AV)}
theorem rC (hT:AL AI (Ac []))(H:(fun(B0:List AV)=>(fun(A0:Hp)=>K (tup []) [mem 26 (AQ 5 A0 c0),grow n 1 5,mem 69 [ptr 2 0,sl 1 (AE 5 A0 e) (some 1)],mem 70 B0,mem 26 (AQ 5 A0 c4)]) [mem 26 c0,grow n 1 5,mem 69 [ptr 2 0,sl 1 e (some 1)],mem 70 B0,mem 26 c4]) [AV.fn (Fn.func 27) [] [ptr 2 0,ptr 3 0]]):AF AI 54 (AB f54) (AX prog f54 5 K) ([.code []]) .normal ([(0,true,.ptr 2 0)]) ([.mem 26 c0,.grow n 1 5,.mem 69 [.Ge,.sl 1 e (some 1)],.mem 70 [.fn (.func 27) [] [.ptr 2 0,.ptr 3 0]],.mem 26 c4]):=
 uo (pl:=⟨[],[]⟩) hT H (by kernel_rfl)
theorem rB (hT:AL AI (Ac []))(H:(fun(B0:List AV)=>(fun(A0:Hp)=>K (tup []) [mem 26 (AQ 5 A0 c0),grow n 1 5,mem 69 [ptr 2 0,sl 1 (AE 5 A0 e) (some 1)],mem 70 B0,mem 26 (AQ 5 A0 c4)]) [mem 26 c0,grow n 1 5,mem 69 [ptr 2 0,sl 1 e (some 1)],mem 70 B0,mem 26 c4]) [AV.fn (Fn.func 27) [] [ptr 2 0,ptr 3 0]]):AF AI 54 (AB f54) (AX prog f54 5 K) ([.code []]) .normal ([(0,true,.ptr 2 0)]) ([.mem 26 c0,.grow n 1 5,.mem 69 [.ptr 2 0,.sl 1 e (some 1)],.mem 70 [.fn (.func 27) [] [.ptr 2 0,.ptr 3 0]],.mem 26 c4]):=
 uo (pl:=⟨[],[]⟩) hT H (by kernel_rfl)
theorem t29 {x:List UInt8}(hT:AL AI (Ac [(54,jV)]))(H:(fun(B0:List AV)=>∃(C0 F0:List AV) (A0:List UInt8) (p4:AV),(fun(D0:Nat)=>(fun(E0:Hp)=>AP.Ad C0=true/\AP.Ad F0=true/\O9 p4/\[ptr 2 0]=[ptr 2 0]/\[mem 26 c0,grow n 1 5,mem 69 [p,sl 1 e (some 1)],mem 70 B0]=[mem 26 C0,grow (length A0) 1 5,mem 69 [p4,sl 1 (rb A0) (some 1)],mem 70 B0]/\mem 26 c4=mem 26 F0/\AS (FB [mem 26 C0,grow (length A0) 1 5,mem 69 [ptr 2 0,sl 1 (rb A0) (some 1)],mem 70 B0,mem 26 c4] (length (rb A0)) 1 5 (some 1)&&true&&true&&decide (D0*1<=140737488355328)&&true&&true) (K (tup [int i64 (↑(length x):Int),AV.Ja]) [mem 26 (AQ 5 E0 C0),grow D0 1 5,mem 69 [ptr 2 0,sl 1 (AE 5 E0 (rb A0++List.map (fun(b:UInt8)↦[int u8 (↑(toNat b):Int)]) x)) (some 1)],mem 70 B0,mem 26 (AQ 5 E0 c4)])) [mem 26 C0,grow D0 1 5,mem 69 [ptr 2 0,sl 1 (rb A0++List.map (fun(b:UInt8)↦[int u8 (↑(toNat b):Int)]) x) (some 1)],mem 70 B0,mem 26 c4]) (length (rb A0)+length x)) [AV.fn (Fn.func 27) [] [ptr 2 0,ptr 3 0]]):AF AI 29 (AB f29) (AX prog f29 5 K) ([.code []]) .normal ([(0,true,.ptr 2 0),(1,true,.str x)]) ([.mem 26 c0,.grow n 1 5,.mem 69 [p,.sl 1 e (some 1)],.mem 70 [.fn (.func 27) [] [.ptr 2 0,.ptr 3 0]],.mem 26 c4]):=
 uo (pl:=⟨[],[]⟩) hT H (by kernel_rfl)
theorem t30 (hT:AL AI (Ac []))(H:K (int i64 (↑(length e):Int)) [mem 26 (AQ 4 [mem 26 c0,grow n 1 5,mem 69 [ptr 2 0,sl 1 e (some 1)],mem 70 [AV.fn (Fn.func 27) [] [ptr 2 0,ptr 3 0]]] c0),grow n 1 5,mem 69 [ptr 2 0,sl 1 (AE 4 [mem 26 c0,grow n 1 5,mem 69 [ptr 2 0,sl 1 e (some 1)],mem 70 [AV.fn (Fn.func 27) [] [ptr 2 0,ptr 3 0]]] e) (some 1)],mem 70 [AV.fn (Fn.func 27) [] [ptr 2 0,ptr 3 0]]]):AF AI 30 (AB f30) (AX prog f30 4 K) ([.code []]) .normal ([(0,true,.ptr 2 0)]) ([.mem 26 c0,.grow n 1 5,.mem 69 [.ptr 2 0,.sl 1 e (some 1)],.mem 70 [.fn (.func 27) [] [.ptr 2 0,.ptr 3 0]]]):=
 uo (pl:=⟨[],[]⟩) hT H (by kernel_rfl)
theorem t28 (hT:AL AI (Ac [(53,Be)]))(H:AF AI 28 (AB f28) (AK prog f28 v) [code [0,1,0,1,1],block 0,code [1,1,1]] normal [(3,true,str []),(7,true,sl 3 es none),(8,true,int i64 (↑(length es):Int)),(9,true,int i64 0)] []):AF AI 28 (AB f28) (AK prog f28 v) ([.code []]) .normal ([(0,true,.sl 3 es none)]) ([]):=
 uo (pl:=⟨[[0,1,0,1,1]],[([0,0,0,1,1,0,0,1,0,1,1],0,[.str,.str,.int .i64])]⟩) hT H (by kernel_rfl)
theorem rK {s3:List UInt8}{i8:Int}{i9:Int}(hT:AL AI (Ac [(53,Be)]))(H:(fun(A0:List Fm)=>Ap (decide (i9<i8)) (AS (Dm i9 (length es)&&true&&true) (∃(s1 s2:List UInt8) (z3:Int),CH es i9=[str s1,str s2,int i64 z3]/\∃(s4 x5:List UInt8),length s4<=100000/\[str s2,str [34]]=[str s4,str x5]/\Ap (An s4 x5) (AS (decide (1+length s1<=9223372036854775807)) (AS (decide (length (32::List.append [] s1)+1<=9223372036854775807)) (AS (decide (length (32::List.append s1 [61])+1<=9223372036854775807)) (AS (decide (length (32::List.append (List.append s1 [61]) [39])+length s2<=9223372036854775807)) (AS (decide (length (32::List.append (List.append (List.append s1 [61]) [39]) s2)+1<=9223372036854775807)) (AS (decide (length s3+length (32::List.append (List.append (List.append (List.append s1 [61]) [39]) s2) [39])<=9223372036854775807)) (AS (AJ 0 es&&true&&true&&true) (AF AI 28 (AB f28) (AK prog f28 v) A0 normal [(3,true,str (s3++32::List.append (List.append (List.append (List.append s1 [61]) [39]) s2) [39])),(7,true,sl 3 es none),(8,true,int i64 i8),(9,true,int i64 (wrap i64 (i9+1)))] [])))))))) (AS (decide (1+length s1<=9223372036854775807)) (AS (decide (length (32::List.append [] s1)+1<=9223372036854775807)) (AS (decide (length (32::List.append s1 [61])+1<=9223372036854775807)) (AS (decide (length (32::List.append (List.append s1 [61]) [34])+length s2<=9223372036854775807)) (AS (decide (length (32::List.append (List.append (List.append s1 [61]) [34]) s2)+1<=9223372036854775807)) (AS (decide (length s3+length (32::List.append (List.append (List.append (List.append s1 [61]) [34]) s2) [34])<=9223372036854775807)) (AS (AJ 0 es&&true&&true&&true) (AF AI 28 (AB f28) (AK prog f28 v) A0 normal [(3,true,str (s3++32::List.append (List.append (List.append (List.append s1 [61]) [34]) s2) [34])),(7,true,sl 3 es none),(8,true,int i64 i8),(9,true,int i64 (wrap i64 (i9+1)))] [])))))))))) (str s3=v)) [code [0,1,0,1,1],block 0,code [1,1,1]]):AF AI 28 (AB f28) (AK prog f28 v) ([.code [0,1,0,1,1],block 0,code [1,1,1]]) .normal ([(3,true,str s3),(7,true,sl 3 es none),(8,true,int i64 i8),(9,true,int i64 i9)]) ([]):=
 Az (pl:=⟨[[0,1,0,1,1]],[([0,0,0,1,1,0,0,1,0,1,1],0,[.str,.str,.int .i64])]⟩) hT 100000 (by kernel_rfl) (Ak H (by kernel_rfl))
theorem vH {K:AV->Hp->Prop}{c0:List AV}{n:Nat}{e:List (List AV)}{k p0:Int}{t:List UInt8}{es ks:List (List AV)}{p:AV}{op en:List UInt8}(hT:AL AI (Ac [(29,Tv)]))(H:(fun(D0:List AV)=>(fun(C0:List AV)=>∃(E0 G0:List AV) (A0 x4:List UInt8) (p5:AV),AP.Ad E0=true/\AP.Ad G0=true/\O9 p5/\length A0+length x4<=1000000/\[ptr 2 0,str op]=[ptr 2 0,str x4]/\[mem 26 c0,grow n 1 5,mem 69 [p,sl 1 e (some 1)],mem 70 C0]=[mem 26 E0,grow (length A0) 1 5,mem 69 [p5,sl 1 (rb A0) (some 1)],mem 70 C0]/\mem 26 D0=mem 26 G0/\∃(F0 H0:List AV) (B0 x9:List UInt8) (I0:AV),AP.Ad F0=true/\AP.Ad H0=true/\O9 I0/\length B0+length x9<=1000000/\[ptr 2 0,str t]=[ptr 2 0,str x9]/\[mem 26 E0,grow (length (A0++x4)) 1 5,mem 69 [ptr 2 0,sl 1 (rb (A0++x4)) (some 1)],mem 70 C0]=[mem 26 F0,grow (length B0) 1 5,mem 69 [I0,sl 1 (rb B0) (some 1)],mem 70 C0]/\mem 26 D0=mem 26 H0/\AF AI 27 (AB f27) (AX prog f27 4 K) [code [0,1,0,1,1,1,1,1],block 1,code [1,1,1,1,1,1]] normal [(1,true,ptr 2 0),(2,true,ptr 3 0),(5,true,str en),(50,true,sl 5 ks none),(51,true,int i64 (↑(length ks):Int)),(52,true,int i64 0)] [mem 26 F0,grow (length (B0++x9)) 1 5,mem 69 [ptr 2 0,sl 1 (rb (B0++x9)) (some 1)],mem 70 C0,mem 26 D0]) [AV.fn (Fn.func 27) [] [ptr 2 0,ptr 3 0]]) [int i64 k,int i64 p0,str t,sl 3 es none,sl 5 ks none]):AF AI 27 (AB f27) (AX prog f27 4 K) ([.code [1,1,1]]) .normal ([(1,true,.ptr 2 0),(2,true,.ptr 3 0),(3,true,.ptr 4 0),(4,true,.str op),(5,true,.str en)]) ([.mem 26 c0,.grow n 1 5,.mem 69 [p,.sl 1 e (some 1)],.mem 70 [.fn (.func 27) [] [.ptr 2 0,.ptr 3 0]],.mem 26 [.int .i64 k,.int .i64 p0,.str t,.sl 3 es none,.sl 5 ks none]]):=
 uo (pl:=⟨[[0,1,0,1,1,1,1,1]],[([0,0,0,1,1,0,0,1,0,1,1,1,1,1],0,[.int .i64,.int .i64,.str,.sl 3,.sl 5])]⟩) hT H (by kernel_rfl)
theorem rL {N:Nat}{k:Int}{en:List UInt8}{i z:Int}(hT:AL AI (Ac [(27,V5 N),(29,Tv)]))(H:(fun(H0:List AV)=>(fun(D0:List AV)=>Ap (decide (i<z)) (AS (Dm i (length ks)&&true&&true) (∃(z1 z2:Int) (s3:List UInt8) (N0 O0:List (List AV)),(fun(J0:List AV)=>CH ks i=J0/\∃(C0:Nd) (G0:List AV) (B0:List UInt8) (p9:AV),AP.Ad G0=true/\Nd.size C0<N/\qJ C0/\Nd.JX C0/\O9 p9/\length B0+length (Eg C0)<=1000000/\true=true/\[agg J0,ptr 2 0,ptr 3 0]=[agg (Dt C0),ptr 2 0,ptr 3 0]/\[mem 26 c0,grow n 1 5,mem 69 [p,sl 1 e (some 1)],mem 70 D0]=[mem 26 G0,grow (length B0) 1 5,mem 69 [p9,sl 1 (rb B0) (some 1)],mem 70 D0]/\AS (AJ 5 ks&&true&&true&&(CB 5 (Ku 5 G0)&&(AJ 5 (rb (B0++Eg C0))&&true&&true&&(AJ 5 es&&true&&(AJ 5 ks&&true&&true)&&true)))) (AF AI 27 (AB f27) (AX prog f27 4 K) [code [0,1,0,1,1,1,1,1],block 1,code [1,1,1,1,1,1]] normal [(1,true,ptr 2 0),(2,true,ptr 3 0),(5,true,str en),(50,true,sl 5 ks none),(51,true,int i64 z),(52,true,int i64 (wrap i64 (i+1)))] [mem 26 (Ku 5 G0),grow (length (B0++Eg C0)) 1 5,mem 69 [ptr 2 0,sl 1 (rb (B0++Eg C0)) (some 1)],mem 70 D0,mem 26 H0])) [int i64 z1,int i64 z2,str s3,sl 3 N0 none,sl 5 O0 none])) (∃(F0 I0:List AV) (A0 E0:List UInt8) (L0:AV),(fun(M0:Hp)=>AP.Ad F0=true/\AP.Ad I0=true/\O9 L0/\length A0+length E0<=1000000/\[ptr 2 0,str en]=[ptr 2 0,str E0]/\[mem 26 c0,grow n 1 5,mem 69 [p,sl 1 e (some 1)],mem 70 D0]=[mem 26 F0,grow (length A0) 1 5,mem 69 [L0,sl 1 (rb A0) (some 1)],mem 70 D0]/\mem 26 H0=mem 26 I0/\K (tup []) [mem 26 (AQ 4 M0 F0),grow (length (A0++E0)) 1 5,mem 69 [ptr 2 0,sl 1 (AE 4 M0 (rb (A0++E0))) (some 1)],mem 70 D0]) [mem 26 F0,grow (length (A0++E0)) 1 5,mem 69 [ptr 2 0,sl 1 (rb (A0++E0)) (some 1)],mem 70 D0,mem 26 H0])) [AV.fn (Fn.func 27) [] [ptr 2 0,ptr 3 0]]) [int i64 k,int i64 p0,str t,sl 3 es none,sl 5 ks none]):AF AI 27 (AB f27) (AX prog f27 4 K) ([.code [0,1,0,1,1,1,1,1],.block 1,.code [1,1,1,1,1,1]]) .normal ([(1,true,.ptr 2 0),(2,true,.ptr 3 0),(5,true,.str en),(50,true,.sl 5 ks none),(51,true,.int .i64 z),(52,true,.int .i64 i)]) ([.mem 26 c0,.grow n 1 5,.mem 69 [p,.sl 1 e (some 1)],.mem 70 [.fn (.func 27) [] [.ptr 2 0,.ptr 3 0]],.mem 26 [.int .i64 k,.int .i64 p0,.str t,.sl 3 es none,.sl 5 ks none]]):=
 Az (pl:=⟨[[0,1,0,1,1,1,1,1]],[([0,0,0,1,1,0,0,1,0,1,1,1,1,1],0,[.int .i64,.int .i64,.str,.sl 3,.sl 5])]⟩) hT 100000 (by kernel_rfl) (Ak H (by kernel_rfl))
theorem rV (hT:AL AI (Ac [(28,Gy)]))(H:AF AI 27 (AB f27) (AX prog f27 4 K) [code [1,1,1]] normal [(1,true,ptr 2 0),(2,true,ptr 3 0),(3,true,ptr 4 0),(4,true,str []),(5,true,str [])] [mem 26 c0,grow n 1 5,mem 69 [p,sl 1 e (some 1)],mem 70 [AV.fn (Fn.func 27) [] [ptr 2 0,ptr 3 0]],mem 26 [int i64 1,int i64 p0,str t,sl 3 es none,sl 5 ks none]]):AF AI 27 (AB f27) (AX prog f27 4 K) ([.code []]) .normal ([(0,true,.agg [.int .i64 1,.int .i64 p0,.str t,.sl 3 es none,.sl 5 ks none]),(1,true,.ptr 2 0),(2,true,.ptr 3 0)]) ([.mem 26 c0,.grow n 1 5,.mem 69 [p,.sl 1 e (some 1)],.mem 70 [.fn (.func 27) [] [.ptr 2 0,.ptr 3 0]]]):=
 uo (pl:=⟨[[1,1,1],[0,1,0,1,1,1,1,1]],[([0,0,0,1,1,0,0,1,0,1,1,1,1,1],0,[.int .i64,.int .i64,.str,.sl 3,.sl 5])]⟩) hT H (by kernel_rfl)
theorem rU (hT:AL AI (Ac [(28,Gy)]))(H:AF AI 27 (AB f27) (AX prog f27 4 K) [code [1,1,1]] normal [(1,true,ptr 2 0),(2,true,ptr 3 0),(3,true,ptr 4 0),(4,true,str []),(5,true,str [])] [mem 26 c0,grow n 1 5,mem 69 [p,sl 1 e (some 1)],mem 70 [AV.fn (Fn.func 27) [] [ptr 2 0,ptr 3 0]],mem 26 [int i64 2,int i64 p0,str t,sl 3 es none,sl 5 ks none]]):AF AI 27 (AB f27) (AX prog f27 4 K) ([.code []]) .normal ([(0,true,.agg [.int .i64 2,.int .i64 p0,.str t,.sl 3 es none,.sl 5 ks none]),(1,true,.ptr 2 0),(2,true,.ptr 3 0)]) ([.mem 26 c0,.grow n 1 5,.mem 69 [p,.sl 1 e (some 1)],.mem 70 [.fn (.func 27) [] [.ptr 2 0,.ptr 3 0]]]):=
 uo (pl:=⟨[[1,1,1],[0,1,0,1,1,1,1,1]],[([0,0,0,1,1,0,0,1,0,1,1,1,1,1],0,[.int .i64,.int .i64,.str,.sl 3,.sl 5])]⟩) hT H (by kernel_rfl)
theorem rS (hT:AL AI (Ac [(28,Gy)]))(H:∃(l1:List Aj),length (Ex.AN (List.map C6 l1))<=1000000/\(∀(a2:Aj),a2∈l1->length (Aj.value a2)<=100000)/\[sl 3 (AE 0 [] es) none]=[sl 3 (List.map Ao l1) none]/\AS (decide (12+length (Ex.AN (List.map C6 l1))<=9223372036854775807)) (AS (decide (length (60::101::115::105::58::105::110::99::108::117::100::101::List.append [] (Ex.AN (List.map C6 l1)))+2<=9223372036854775807)) (AF AI 27 (AB f27) (AX prog f27 4 K) [code [1,1,1]] normal [(1,true,ptr 2 0),(2,true,ptr 3 0),(3,true,ptr 4 0),(4,true,str (60::101::115::105::58::105::110::99::108::117::100::101::List.append (List.append [] (Ex.AN (List.map C6 l1))) [47,62])),(5,true,str [])] [mem 26 c0,grow n 1 5,mem 69 [p,sl 1 e (some 1)],mem 70 [AV.fn (Fn.func 27) [] [ptr 2 0,ptr 3 0]],mem 26 [int i64 3,int i64 p0,str t,sl 3 es none,sl 5 ks none]]))):AF AI 27 (AB f27) (AX prog f27 4 K) ([.code []]) .normal ([(0,true,.agg [.int .i64 3,.int .i64 p0,.str t,.sl 3 es none,.sl 5 ks none]),(1,true,.ptr 2 0),(2,true,.ptr 3 0)]) ([.mem 26 c0,.grow n 1 5,.mem 69 [p,.sl 1 e (some 1)],.mem 70 [.fn (.func 27) [] [.ptr 2 0,.ptr 3 0]]]):=
 uo (pl:=⟨[[1,1,1],[0,1,0,1,1,1,1,1]],[([0,0,0,1,1,0,0,1,0,1,1,1,1,1],0,[.int .i64,.int .i64,.str,.sl 3,.sl 5])]⟩) hT H (by kernel_rfl)
theorem rR (hT:AL AI (Ac [(28,Gy)]))(H:∃(l1:List Aj),length (Ex.AN (List.map C6 l1))<=1000000/\(∀(a2:Aj),a2∈l1->length (Aj.value a2)<=100000)/\[sl 3 (AE 0 [] es) none]=[sl 3 (List.map Ao l1) none]/\AS (decide (11+length (Ex.AN (List.map C6 l1))<=9223372036854775807)) (AS (decide (length (60::101::115::105::58::105::110::108::105::110::101::List.append [] (Ex.AN (List.map C6 l1)))+1<=9223372036854775807)) (AF AI 27 (AB f27) (AX prog f27 4 K) [code [1,1,1]] normal [(1,true,ptr 2 0),(2,true,ptr 3 0),(3,true,ptr 4 0),(4,true,str (60::101::115::105::58::105::110::108::105::110::101::List.append (List.append [] (Ex.AN (List.map C6 l1))) [62])),(5,true,str [60,47,101,115,105,58,105,110,108,105,110,101,62])] [mem 26 c0,grow n 1 5,mem 69 [p,sl 1 e (some 1)],mem 70 [AV.fn (Fn.func 27) [] [ptr 2 0,ptr 3 0]],mem 26 [int i64 4,int i64 p0,str t,sl 3 es none,sl 5 ks none]]))):AF AI 27 (AB f27) (AX prog f27 4 K) ([.code []]) .normal ([(0,true,.agg [.int .i64 4,.int .i64 p0,.str t,.sl 3 es none,.sl 5 ks none]),(1,true,.ptr 2 0),(2,true,.ptr 3 0)]) ([.mem 26 c0,.grow n 1 5,.mem 69 [p,.sl 1 e (some 1)],.mem 70 [.fn (.func 27) [] [.ptr 2 0,.ptr 3 0]]]):=
 uo (pl:=⟨[[1,1,1],[0,1,0,1,1,1,1,1]],[([0,0,0,1,1,0,0,1,0,1,1,1,1,1],0,[.int .i64,.int .i64,.str,.sl 3,.sl 5])]⟩) hT H (by kernel_rfl)
theorem rQ (hT:AL AI (Ac [(28,Gy)]))(H:∃(l1:List Aj),length (Ex.AN (List.map C6 l1))<=1000000/\(∀(a2:Aj),a2∈l1->length (Aj.value a2)<=100000)/\[sl 3 (AE 0 [] es) none]=[sl 3 (List.map Ao l1) none]/\AS (decide (11+length (Ex.AN (List.map C6 l1))<=9223372036854775807)) (AS (decide (length (60::101::115::105::58::114::101::109::111::118::101::List.append [] (Ex.AN (List.map C6 l1)))+1<=9223372036854775807)) (AF AI 27 (AB f27) (AX prog f27 4 K) [code [1,1,1]] normal [(1,true,ptr 2 0),(2,true,ptr 3 0),(3,true,ptr 4 0),(4,true,str (60::101::115::105::58::114::101::109::111::118::101::List.append (List.append [] (Ex.AN (List.map C6 l1))) [62])),(5,true,str [60,47,101,115,105,58,114,101,109,111,118,101,62])] [mem 26 c0,grow n 1 5,mem 69 [p,sl 1 e (some 1)],mem 70 [AV.fn (Fn.func 27) [] [ptr 2 0,ptr 3 0]],mem 26 [int i64 5,int i64 p0,str t,sl 3 es none,sl 5 ks none]]))):AF AI 27 (AB f27) (AX prog f27 4 K) ([.code []]) .normal ([(0,true,.agg [.int .i64 5,.int .i64 p0,.str t,.sl 3 es none,.sl 5 ks none]),(1,true,.ptr 2 0),(2,true,.ptr 3 0)]) ([.mem 26 c0,.grow n 1 5,.mem 69 [p,.sl 1 e (some 1)],.mem 70 [.fn (.func 27) [] [.ptr 2 0,.ptr 3 0]]]):=
 uo (pl:=⟨[[1,1,1],[0,1,0,1,1,1,1,1]],[([0,0,0,1,1,0,0,1,0,1,1,1,1,1],0,[.int .i64,.int .i64,.str,.sl 3,.sl 5])]⟩) hT H (by kernel_rfl)
theorem rP (hT:AL AI (Ac [(28,Gy)]))(H:∃(l1:List Aj),length (Ex.AN (List.map C6 l1))<=1000000/\(∀(a2:Aj),a2∈l1->length (Aj.value a2)<=100000)/\[sl 3 (AE 0 [] es) none]=[sl 3 (List.map Ao l1) none]/\AS (decide (12+length (Ex.AN (List.map C6 l1))<=9223372036854775807)) (AS (decide (length (60::101::115::105::58::99::111::109::109::101::110::116::List.append [] (Ex.AN (List.map C6 l1)))+2<=9223372036854775807)) (AF AI 27 (AB f27) (AX prog f27 4 K) [code [1,1,1]] normal [(1,true,ptr 2 0),(2,true,ptr 3 0),(3,true,ptr 4 0),(4,true,str (60::101::115::105::58::99::111::109::109::101::110::116::List.append (List.append [] (Ex.AN (List.map C6 l1))) [47,62])),(5,true,str [])] [mem 26 c0,grow n 1 5,mem 69 [p,sl 1 e (some 1)],mem 70 [AV.fn (Fn.func 27) [] [ptr 2 0,ptr 3 0]],mem 26 [int i64 6,int i64 p0,str t,sl 3 es none,sl 5 ks none]]))):AF AI 27 (AB f27) (AX prog f27 4 K) ([.code []]) .normal ([(0,true,.agg [.int .i64 6,.int .i64 p0,.str t,.sl 3 es none,.sl 5 ks none]),(1,true,.ptr 2 0),(2,true,.ptr 3 0)]) ([.mem 26 c0,.grow n 1 5,.mem 69 [p,.sl 1 e (some 1)],.mem 70 [.fn (.func 27) [] [.ptr 2 0,.ptr 3 0]]]):=
 uo (pl:=⟨[[1,1,1],[0,1,0,1,1,1,1,1]],[([0,0,0,1,1,0,0,1,0,1,1,1,1,1],0,[.int .i64,.int .i64,.str,.sl 3,.sl 5])]⟩) hT H (by kernel_rfl)
theorem rO (hT:AL AI (Ac [(28,Gy)]))(H:∃(l1:List Aj),length (Ex.AN (List.map C6 l1))<=1000000/\(∀(a2:Aj),a2∈l1->length (Aj.value a2)<=100000)/\[sl 3 (AE 0 [] es) none]=[sl 3 (List.map Ao l1) none]/\AS (decide (8+length (Ex.AN (List.map C6 l1))<=9223372036854775807)) (AS (decide (length (60::101::115::105::58::116::114::121::List.append [] (Ex.AN (List.map C6 l1)))+1<=9223372036854775807)) (AF AI 27 (AB f27) (AX prog f27 4 K) [code [1,1,1]] normal [(1,true,ptr 2 0),(2,true,ptr 3 0),(3,true,ptr 4 0),(4,true,str (60::101::115::105::58::116::114::121::List.append (List.append [] (Ex.AN (List.map C6 l1))) [62])),(5,true,str [60,47,101,115,105,58,116,114,121,62])] [mem 26 c0,grow n 1 5,mem 69 [p,sl 1 e (some 1)],mem 70 [AV.fn (Fn.func 27) [] [ptr 2 0,ptr 3 0]],mem 26 [int i64 7,int i64 p0,str t,sl 3 es none,sl 5 ks none]]))):AF AI 27 (AB f27) (AX prog f27 4 K) ([.code []]) .normal ([(0,true,.agg [.int .i64 7,.int .i64 p0,.str t,.sl 3 es none,.sl 5 ks none]),(1,true,.ptr 2 0),(2,true,.ptr 3 0)]) ([.mem 26 c0,.grow n 1 5,.mem 69 [p,.sl 1 e (some 1)],.mem 70 [.fn (.func 27) [] [.ptr 2 0,.ptr 3 0]]]):=
 uo (pl:=⟨[[1,1,1],[0,1,0,1,1,1,1,1]],[([0,0,0,1,1,0,0,1,0,1,1,1,1,1],0,[.int .i64,.int .i64,.str,.sl 3,.sl 5])]⟩) hT H (by kernel_rfl)
theorem rN (hT:AL AI (Ac [(28,Gy)]))(H:∃(l1:List Aj),length (Ex.AN (List.map C6 l1))<=1000000/\(∀(a2:Aj),a2∈l1->length (Aj.value a2)<=100000)/\[sl 3 (AE 0 [] es) none]=[sl 3 (List.map Ao l1) none]/\AS (decide (12+length (Ex.AN (List.map C6 l1))<=9223372036854775807)) (AS (decide (length (60::101::115::105::58::97::116::116::101::109::112::116::List.append [] (Ex.AN (List.map C6 l1)))+1<=9223372036854775807)) (AF AI 27 (AB f27) (AX prog f27 4 K) [code [1,1,1]] normal [(1,true,ptr 2 0),(2,true,ptr 3 0),(3,true,ptr 4 0),(4,true,str (60::101::115::105::58::97::116::116::101::109::112::116::List.append (List.append [] (Ex.AN (List.map C6 l1))) [62])),(5,true,str [60,47,101,115,105,58,97,116,116,101,109,112,116,62])] [mem 26 c0,grow n 1 5,mem 69 [p,sl 1 e (some 1)],mem 70 [AV.fn (Fn.func 27) [] [ptr 2 0,ptr 3 0]],mem 26 [int i64 8,int i64 p0,str t,sl 3 es none,sl 5 ks none]]))):AF AI 27 (AB f27) (AX prog f27 4 K) ([.code []]) .normal ([(0,true,.agg [.int .i64 8,.int .i64 p0,.str t,.sl 3 es none,.sl 5 ks none]),(1,true,.ptr 2 0),(2,true,.ptr 3 0)]) ([.mem 26 c0,.grow n 1 5,.mem 69 [p,.sl 1 e (some 1)],.mem 70 [.fn (.func 27) [] [.ptr 2 0,.ptr 3 0]]]):=
 uo (pl:=⟨[[1,1,1],[0,1,0,1,1,1,1,1]],[([0,0,0,1,1,0,0,1,0,1,1,1,1,1],0,[.int .i64,.int .i64,.str,.sl 3,.sl 5])]⟩) hT H (by kernel_rfl)
theorem rM (hT:AL AI (Ac [(28,Gy)]))(H:∃(l1:List Aj),length (Ex.AN (List.map C6 l1))<=1000000/\(∀(a2:Aj),a2∈l1->length (Aj.value a2)<=100000)/\[sl 3 (AE 0 [] es) none]=[sl 3 (List.map Ao l1) none]/\AS (decide (11+length (Ex.AN (List.map C6 l1))<=9223372036854775807)) (AS (decide (length (60::101::115::105::58::101::120::99::101::112::116::List.append [] (Ex.AN (List.map C6 l1)))+1<=9223372036854775807)) (AF AI 27 (AB f27) (AX prog f27 4 K) [code [1,1,1]] normal [(1,true,ptr 2 0),(2,true,ptr 3 0),(3,true,ptr 4 0),(4,true,str (60::101::115::105::58::101::120::99::101::112::116::List.append (List.append [] (Ex.AN (List.map C6 l1))) [62])),(5,true,str [60,47,101,115,105,58,101,120,99,101,112,116,62])] [mem 26 c0,grow n 1 5,mem 69 [p,sl 1 e (some 1)],mem 70 [AV.fn (Fn.func 27) [] [ptr 2 0,ptr 3 0]],mem 26 [int i64 9,int i64 p0,str t,sl 3 es none,sl 5 ks none]]))):AF AI 27 (AB f27) (AX prog f27 4 K) ([.code []]) .normal ([(0,true,.agg [.int .i64 9,.int .i64 p0,.str t,.sl 3 es none,.sl 5 ks none]),(1,true,.ptr 2 0),(2,true,.ptr 3 0)]) ([.mem 26 c0,.grow n 1 5,.mem 69 [p,.sl 1 e (some 1)],.mem 70 [.fn (.func 27) [] [.ptr 2 0,.ptr 3 0]]]):=
 uo (pl:=⟨[[1,1,1],[0,1,0,1,1,1,1,1]],[([0,0,0,1,1,0,0,1,0,1,1,1,1,1],0,[.int .i64,.int .i64,.str,.sl 3,.sl 5])]⟩) hT H (by kernel_rfl)
theorem nS (hT:AL AI (Ac [(28,Gy)]))(H:∃(l1:List Aj),length (Ex.AN (List.map C6 l1))<=1000000/\(∀(a2:Aj),a2∈l1->length (Aj.value a2)<=100000)/\[sl 3 (AE 0 [] es) none]=[sl 3 (List.map Ao l1) none]/\AS (decide (11+length (Ex.AN (List.map C6 l1))<=9223372036854775807)) (AS (decide (length (60::101::115::105::58::99::104::111::111::115::101::List.append [] (Ex.AN (List.map C6 l1)))+1<=9223372036854775807)) (AF AI 27 (AB f27) (AX prog f27 4 K) [code [1,1,1]] normal [(1,true,ptr 2 0),(2,true,ptr 3 0),(3,true,ptr 4 0),(4,true,str (60::101::115::105::58::99::104::111::111::115::101::List.append (List.append [] (Ex.AN (List.map C6 l1))) [62])),(5,true,str [60,47,101,115,105,58,99,104,111,111,115,101,62])] [mem 26 c0,grow n 1 5,mem 69 [p,sl 1 e (some 1)],mem 70 [AV.fn (Fn.func 27) [] [ptr 2 0,ptr 3 0]],mem 26 [int i64 10,int i64 p0,str t,sl 3 es none,sl 5 ks none]]))):AF AI 27 (AB f27) (AX prog f27 4 K) ([.code []]) .normal ([(0,true,.agg [.int .i64 10,.int .i64 p0,.str t,.sl 3 es none,.sl 5 ks none]),(1,true,.ptr 2 0),(2,true,.ptr 3 0)]) ([.mem 26 c0,.grow n 1 5,.mem 69 [p,.sl 1 e (some 1)],.mem 70 [.fn (.func 27) [] [.ptr 2 0,.ptr 3 0]]]):=
 uo (pl:=⟨[[1,1,1],[0,1,0,1,1,1,1,1]],[([0,0,0,1,1,0,0,1,0,1,1,1,1,1],0,[.int .i64,.int .i64,.str,.sl 3,.sl 5])]⟩) hT H (by kernel_rfl)
theorem nR (hT:AL AI (Ac [(28,Gy)]))(H:∃(l1:List Aj),length (Ex.AN (List.map C6 l1))<=1000000/\(∀(a2:Aj),a2∈l1->length (Aj.value a2)<=100000)/\[sl 3 (AE 0 [] es) none]=[sl 3 (List.map Ao l1) none]/\AS (decide (9+length (Ex.AN (List.map C6 l1))<=9223372036854775807)) (AS (decide (length (60::101::115::105::58::119::104::101::110::List.append [] (Ex.AN (List.map C6 l1)))+1<=9223372036854775807)) (AF AI 27 (AB f27) (AX prog f27 4 K) [code [1,1,1]] normal [(1,true,ptr 2 0),(2,true,ptr 3 0),(3,true,ptr 4 0),(4,true,str (60::101::115::105::58::119::104::101::110::List.append (List.append [] (Ex.AN (List.map C6 l1))) [62])),(5,true,str [60,47,101,115,105,58,119,104,101,110,62])] [mem 26 c0,grow n 1 5,mem 69 [p,sl 1 e (some 1)],mem 70 [AV.fn (Fn.func 27) [] [ptr 2 0,ptr 3 0]],mem 26 [int i64 11,int i64 p0,str t,sl 3 es none,sl 5 ks none]]))):AF AI 27 (AB f27) (AX prog f27 4 K) ([.code []]) .normal ([(0,true,.agg [.int .i64 11,.int .i64 p0,.str t,.sl 3 es none,.sl 5 ks none]),(1,true,.ptr 2 0),(2,true,.ptr 3 0)]) ([.mem 26 c0,.grow n 1 5,.mem 69 [p,.sl 1 e (some 1)],.mem 70 [.fn (.func 27) [] [.ptr 2 0,.ptr 3 0]]]):=
 uo (pl:=⟨[[1,1,1],[0,1,0,1,1,1,1,1]],[([0,0,0,1,1,0,0,1,0,1,1,1,1,1],0,[.int .i64,.int .i64,.str,.sl 3,.sl 5])]⟩) hT H (by kernel_rfl)
theorem nQ (hT:AL AI (Ac [(28,Gy)]))(H:∃(l1:List Aj),length (Ex.AN (List.map C6 l1))<=1000000/\(∀(a2:Aj),a2∈l1->length (Aj.value a2)<=100000)/\[sl 3 (AE 0 [] es) none]=[sl 3 (List.map Ao l1) none]/\AS (decide (14+length (Ex.AN (List.map C6 l1))<=9223372036854775807)) (AS (decide (length (60::101::115::105::58::111::116::104::101::114::119::105::115::101::List.append [] (Ex.AN (List.map C6 l1)))+1<=9223372036854775807)) (AF AI 27 (AB f27) (AX prog f27 4 K) [code [1,1,1]] normal [(1,true,ptr 2 0),(2,true,ptr 3 0),(3,true,ptr 4 0),(4,true,str (60::101::115::105::58::111::116::104::101::114::119::105::115::101::List.append (List.append [] (Ex.AN (List.map C6 l1))) [62])),(5,true,str [60,47,101,115,105,58,111,116,104,101,114,119,105,115,101,62])] [mem 26 c0,grow n 1 5,mem 69 [p,sl 1 e (some 1)],mem 70 [AV.fn (Fn.func 27) [] [ptr 2 0,ptr 3 0]],mem 26 [int i64 12,int i64 p0,str t,sl 3 es none,sl 5 ks none]]))):AF AI 27 (AB f27) (AX prog f27 4 K) ([.code []]) .normal ([(0,true,.agg [.int .i64 12,.int .i64 p0,.str t,.sl 3 es none,.sl 5 ks none]),(1,true,.ptr 2 0),(2,true,.ptr 3 0)]) ([.mem 26 c0,.grow n 1 5,.mem 69 [p,.sl 1 e (some 1)],.mem 70 [.fn (.func 27) [] [.ptr 2 0,.ptr 3 0]]]):=
 uo (pl:=⟨[[1,1,1],[0,1,0,1,1,1,1,1]],[([0,0,0,1,1,0,0,1,0,1,1,1,1,1],0,[.int .i64,.int .i64,.str,.sl 3,.sl 5])]⟩) hT H (by kernel_rfl)
theorem nP (hT:AL AI (Ac [(28,Gy)]))(H:∃(l1:List Aj),length (Ex.AN (List.map C6 l1))<=1000000/\(∀(a2:Aj),a2∈l1->length (Aj.value a2)<=100000)/\[sl 3 (AE 0 [] es) none]=[sl 3 (List.map Ao l1) none]/\AS (decide (9+length (Ex.AN (List.map C6 l1))<=9223372036854775807)) (AS (decide (length (60::101::115::105::58::118::97::114::115::List.append [] (Ex.AN (List.map C6 l1)))+1<=9223372036854775807)) (AF AI 27 (AB f27) (AX prog f27 4 K) [code [1,1,1]] normal [(1,true,ptr 2 0),(2,true,ptr 3 0),(3,true,ptr 4 0),(4,true,str (60::101::115::105::58::118::97::114::115::List.append (List.append [] (Ex.AN (List.map C6 l1))) [62])),(5,true,str [60,47,101,115,105,58,118,97,114,115,62])] [mem 26 c0,grow n 1 5,mem 69 [p,sl 1 e (some 1)],mem 70 [AV.fn (Fn.func 27) [] [ptr 2 0,ptr 3 0]],mem 26 [int i64 13,int i64 p0,str t,sl 3 es none,sl 5 ks none]]))):AF AI 27 (AB f27) (AX prog f27 4 K) ([.code []]) .normal ([(0,true,.agg [.int .i64 13,.int .i64 p0,.str t,.sl 3 es none,.sl 5 ks none]),(1,true,.ptr 2 0),(2,true,.ptr 3 0)]) ([.mem 26 c0,.grow n 1 5,.mem 69 [p,.sl 1 e (some 1)],.mem 70 [.fn (.func 27) [] [.ptr 2 0,.ptr 3 0]]]):=
 uo (pl:=⟨[[1,1,1],[0,1,0,1,1,1,1,1]],[([0,0,0,1,1,0,0,1,0,1,1,1,1,1],0,[.int .i64,.int .i64,.str,.sl 3,.sl 5])]⟩) hT H (by kernel_rfl)
theorem nO (hT:AL AI (Ac [(28,Gy)]))(H:AF AI 27 (AB f27) (AX prog f27 4 K) [code [1,1,1]] normal [(1,true,ptr 2 0),(2,true,ptr 3 0),(3,true,ptr 4 0),(4,true,str [60,33,45,45,101,115,105,32]),(5,true,str [45,45,62])] [mem 26 c0,grow n 1 5,mem 69 [p,sl 1 e (some 1)],mem 70 [AV.fn (Fn.func 27) [] [ptr 2 0,ptr 3 0]],mem 26 [int i64 14,int i64 p0,str t,sl 3 es none,sl 5 ks none]]):AF AI 27 (AB f27) (AX prog f27 4 K) ([.code []]) .normal ([(0,true,.agg [.int .i64 14,.int .i64 p0,.str t,.sl 3 es none,.sl 5 ks none]),(1,true,.ptr 2 0),(2,true,.ptr 3 0)]) ([.mem 26 c0,.grow n 1 5,.mem 69 [p,.sl 1 e (some 1)],.mem 70 [.fn (.func 27) [] [.ptr 2 0,.ptr 3 0]]]):=
 uo (pl:=⟨[[1,1,1],[0,1,0,1,1,1,1,1]],[([0,0,0,1,1,0,0,1,0,1,1,1,1,1],0,[.int .i64,.int .i64,.str,.sl 3,.sl 5])]⟩) hT H (by kernel_rfl)
end Go.Proofs.YtopjpnhgnopbiaaGreatDoor.Pu
end
section
namespace Go.Proofs.YtopjpnhgnopbiaaGreatDoor.Pu
open Go.Ai Go Go.Ai.Sp
set_option maxRecDepth 100000
theorem gl {α:Type}{a b c d a' b' c' d':α}(h:[a,b,c,d]=[a',b',c',d']):a=a'/\b=b'/\c=c'/\d=d':=by
 injection h with h1 h;injection h with h2 h;injection h with h3 h;injection h with h4 _
 exact⟨h1,h2,h3,h4⟩
theorem puH {C:Bm}{k:Nat}{g:List AV->Hp->Option (AV×Hp)}{t:Ce}(h1:C.ok k=true)(h2:C.Cq k=some g)(H:∀vs h K,t vs h K->∃v h',g vs h=some (v,h')/\K v h'):CQ C k t:=by
 intro l h K ht
 have ha:B8 C k l=l:=by simp[B8,h2]
 rw[ha] at ht;obtain⟨v,h',hg,hk⟩:=H _ _ _ ht
 refine⟨v,h',⟨1,fun n hn=> ?_⟩,hk⟩
 obtain⟨m,rfl⟩:∃m,n=m+1:=⟨n-1,by omega⟩
 rw[call];simp only[h1,h2,hg,Bool.not_true,cond_false]
theorem xX :BW AI 54 Tryz.f54:=(by refine⟨?_,?_,?_,?_,?_,?_⟩<;>kernel_rfl)
theorem pI :BW AI 29 Tryz.f29:=(by refine⟨?_,?_,?_,?_,?_,?_⟩<;>kernel_rfl)
theorem pH :BW AI 30 Tryz.f30:=(by refine⟨?_,?_,?_,?_,?_,?_⟩<;>kernel_rfl)
theorem rm :BN AI 28 Tryz.f28:=(by refine⟨?_,?_,?_,?_,?_,?_⟩<;>kernel_rfl)
theorem rn :mH AI 27 Tryz.f27 4:=⟨by kernel_rfl,by kernel_rfl,by kernel_rfl,by kernel_rfl,by kernel_rfl,by kernel_rfl,by kernel_rfl⟩
theorem tV :CQ AI 54 jV:=by
 refine BD xX fun vs h K ht=> ?_
 unfold jV at ht;split at ht
 ·obtain⟨c0,c4,acc,p,q0,q4,hp,rfl,e,rfl,hk⟩:=ht;obtain⟨rfl,rfl,rfl,rfl⟩:=gl e
  rcases hp with rfl|rfl
  ·refine rC (AY AM) ?_
   try dsimp only
   rw[GA,Aw _ _ _ q0,Aw _ _ _ q4];exact hk
  ·refine rB (AY AM) ?_
   try dsimp only
   rw[GA,Aw _ _ _ q0,Aw _ _ _ q4];exact hk
 ·exact ht.elim
theorem jf :CQ AI 29 Tv:=by
 refine BD pI fun vs h K ht=> ?_
 unfold Tv at ht;split at ht
 ·obtain⟨c0,c4,acc,x,p,q0,q4,hp,hl,rfl,e,rfl,hk⟩:=ht;obtain⟨rfl,rfl,rfl,rfl⟩:=gl e;refine t29 (AY (AH tV AM)) ⟨c0,c4,acc,p,q0,q4,hp,rfl,rfl,rfl,AD ?_ ?_⟩
  ·rw[UF,NB rfl,decide_eq_true (by unfold Ip at hl;omega)];rfl
  ·have e:rb acc++x.map (fun(b:UInt8)=>[AV.int IntKind.u8 ((UInt8.toNat b:Nat):Int)])=rb (acc++x):=(nh acc x).symm
   rw[e,GA,UF,<-List.length_append,Aw _ _ _ q0,Aw _ _ _ q4];exact hk
 ·exact ht.elim
theorem yT :CQ AI 30 sA:=by
 refine BD pH fun vs h K ht=> ?_
 obtain⟨c0,acc,q0,rfl,rfl,hk⟩:=ht;refine t30 (AY AM) ?_;rw[GA,UF,Aw _ _ _ q0];exact hk
theorem yS :CQ AI 31 re:=by
 refine puH (by kernel_rfl) (by kernel_rfl:AI.Cq 31=some (MI 5)) fun vs h K ht=> ?_
 obtain⟨c0,acc,rfl,rfl,hk⟩:=ht;refine⟨_,_,?_,hk⟩;unfold MI hB;simp only[List.getElem?_cons_succ,List.getElem?_cons_zero,Ti];rw[UF,NB rfl];rfl
theorem jg :CQ AI 53 Be:=by
 refine Fp (by kernel_rfl) (by kernel_rfl) (by kernel_rfl:AI.FP 53=some GG) (by kernel_rfl) fun vs h K ht=> ?_
 obtain⟨s,x,hs,rfl,hk⟩:=ht;refine⟨.bool (An s x),hk,?_⟩
 have e:Nat.blt s.length 4294967281=true:=Nat.ble_eq_true_of_le (by unfold BG at hs;omega)
 simp only[GG,e]
theorem mn (c:UInt8):∀v:List UInt8,An v [c]=v.contains c
 |[]=>rfl
 |x::r=>by
  rw[An,mn c r,List.contains_cons];simp only[List.isPrefixOf,Bool.and_true]
theorem dp (l:List Go.Ai.Aj)(a:Go.Ai.Aj):Ex.AN ((l++[a]).map C6)=Ex.AN (l.map C6)++(32::(a.name++61::Ex.DZ a.value::(a.value++[Ex.DZ a.value]))):=by
 rw[List.map_append,Ex.K5];simp[Ex.AN,C6]
theorem iC {n:Nat}{i:Nat}(h:i<n):Dm (i:Int) n=true:=Dw (by omega) (by omega)
theorem mJ (n:Nat)(l:List Go.Ai.Aj):AJ n (l.map Go.Ai.Ao)=true:=DE n _ (Dh l)
theorem Xk {α:Type}(l:List α):List.append [] l=l:=rfl
theorem oJ (l:List Go.Ai.Aj)(hb:(Ex.AN (l.map C6)).length<=Ip)(hl:l.length<=Ip)(hv:∀a∈l,a.value.length<=BG):∀(r pre:List Go.Ai.Aj),l=pre++r->
  AF AI 28 (AB Tryz.f28) (AK Tryz.prog Tryz.f28 (.str (Ex.AN (l.map C6)))) [.code [0,1,0,1,1],.block 0,.code [1,1,1]] .normal
   [(3,true,.str (Ex.AN (pre.map C6))),(7,true,.sl 3 (l.map Go.Ai.Ao) none),(8,true,.int .i64 ((l.length:Nat):Int)),(9,true,.int .i64 ((pre.length:Nat):Int))] []:=by
 intro r
 induction r with
 |nil=>
  intro pre e
  refine rK (AY (AH jg AM)) (AA (fun h=> ?_) fun _=> ?_)
  ·rw[e] at h;simp at h
  ·rw[e,List.append_nil]
 |cons a r ih=>
  intro pre e
  have hlen:pre.length<l.length:=by rw[e];simp
  have hB':Ip=1000000:=rfl
  have hva:=hv a (by rw[e];simp)
  have hsn:=dp pre a
  have sQ:(Ex.AN ((pre++[a]).map C6)).length<=Ip:=by
   have hm:l.map C6=(pre++[a]).map C6++r.map C6:=by rw[e];simp
   have:=congrArg List.length (Ex.K5 ((pre++[a]).map C6) (r.map C6));rw[hm] at hb;rw[List.length_append] at this;omega
  have iI:=ih (pre++[a]) (by rw[e];simp)
  have hw:IntKind.wrap .i64 ((pre.length:Int)+1)=(((pre++[a]).length:Nat):Int):=by rw[BH (by omega) (by omega)];simp
  rw[<-hw] at iI;rw[hsn] at iI sQ;simp only[List.length_append,List.length_cons,List.length_nil] at sQ
  refine rK (AY (AH jg AM)) (AA (fun _=> ?_) fun h=> ?_)
  ·refine AD ?_ ⟨a.name,a.value,a.pl,?_,a.value,[34],hva,rfl,?_⟩
   ·rw[List.length_map,iC hlen];rfl
   ·rw[e];exact Co _ _ _ _
   ·rw[mn]
    refine AA (fun hc=> ?_) fun hc=> ?_
    ·have hm:Ex.DZ a.value=39:=by unfold Ex.DZ;rw[if_pos hc]
     rw[hm] at iI
     refine AD (decide_eq_true (by omega)) (AD (decide_eq_true ?_) (AD (decide_eq_true ?_) (AD (decide_eq_true ?_) (AD (decide_eq_true ?_) (AD (decide_eq_true ?_) (AD ?_ ?_))))))
     ·simp;omega
     ·simp;omega
     ·simp;omega
     ·simp;omega
     ·simp;omega
     ·rw[mJ];rfl
     ·have e1:List.append (List.append (List.append (List.append a.name [61]) [39]) a.value) [39]=a.name++61::39::(a.value++[39]):=by simp
      try rw[Xk]
      rw[e1];exact iI
    ·have hm:Ex.DZ a.value=34:=by unfold Ex.DZ;rw[if_neg (by rw[hc];decide)]
     rw[hm] at iI
     refine AD (decide_eq_true (by omega)) (AD (decide_eq_true ?_) (AD (decide_eq_true ?_) (AD (decide_eq_true ?_) (AD (decide_eq_true ?_) (AD (decide_eq_true ?_) (AD ?_ ?_))))))
     ·simp;omega
     ·simp;omega
     ·simp;omega
     ·simp;omega
     ·simp;omega
     ·rw[mJ];rfl
     ·have e1:List.append (List.append (List.append (List.append a.name [61]) [34]) a.value) [34]=a.name++61::34::(a.value++[34]):=by simp
      try rw[Xk]
      rw[e1];exact iI
  ·exfalso;have:=of_decide_eq_false h;omega
theorem Tl :∀l:List Go.Ai.Aj,l.length<=(Ex.AN (l.map C6)).length
 |[]=>Nat.le_refl _
 |a::r=>by
  have:=Tl r;simp only[List.map_cons,Ex.AN,List.length_cons,List.length_append];omega
theorem tX :CQ AI 28 Gy:=by
 refine Ax rm fun vs h K ht=> ?_
 obtain⟨l,hb,hv,rfl,hk⟩:=ht;have hl:=Nat.le_trans (Tl l) hb;refine⟨_,hk,t28 (AY (AH jg AM)) ?_⟩;have:=oJ l hb hl hv l [] rfl
 rw[show((l.length:Nat):Int)=((l.map Go.Ai.Ao).length:Nat) by simp] at this
 exact this
theorem M9 (n:Nat):∀cs:List AV,AP.Ad cs=true->Ku n cs=cs
 |[],_=>rfl
 |v::r,h=>by
  simp only[AP.Ad,Bool.and_eq_true] at h;rw[Ku,M9 n r h.2]
  congr 1
  cases v with
  |ptr b o=>simp[AP] at h
  |KV b o l s=>simp[AP] at h
  |sl sz es own=>
   cases own with
   |none=>rfl
   |some i=>simp[AP] at h
  |_=>rfl
def Rm (k p0:Int)(t:List UInt8)(al:List Go.Ai.Aj)(ks:List Nd):List AV:=[.int .i64 k,.int .i64 p0,.str t,.sl 3 (al.map Go.Ai.Ao) none,.sl 5 (Ag ks) none]
theorem LS (k p0:Int)(t:List UInt8)(al:List Go.Ai.Aj)(ks:List Nd):AP.Ad (Rm k p0 t al ks)=true:=by
 have:=HF (.mk k p0 t al ks);rw[BL] at this;exact this
theorem oK {N:Nat}(hT:CQ AI 27 (V5 N))(k p0:Int)(t:List UInt8)(al:List Go.Ai.Aj)(c0:List AV)(q0:AP.Ad c0=true)(en:List UInt8)(K:AV->Hp->Prop):∀(r pre:List Nd) (acc:List UInt8),(pre++r).length<=BG->CC r<N->dH r->Lu r->acc.length+(EH r++en).length<=Ip->
  K (.tup []) (hB c0 (acc++(EH r++en)) (.ptr 2 0))->
  AF AI 27 (AB Tryz.f27) (AX Tryz.prog Tryz.f27 4 K) [.code [0,1,0,1,1,1,1,1],.block 1,.code [1,1,1,1,1,1]] .normal
   [(1,true,.ptr 2 0),(2,true,.ptr 3 0),(5,true,.str en),(50,true,.sl 5 (Ag (pre++r)) none),(51,true,.int .i64 (((pre++r).length:Nat):Int)),(52,true,.int .i64 ((pre.length:Nat):Int))]
   (hB c0 acc (.ptr 2 0)++[.mem 26 (Rm k p0 t al (pre++r))]):=by
 have zY:=AY (AH hT (AH jf AM));intro r
 induction r with
 |nil=>
  intro pre acc hl hs hk hf hb hK
  refine rL zY (AA (fun h=> ?_) fun _=>⟨c0,_,acc,en,.ptr 2 0,q0,LS k p0 t al (pre++[]),.inr rfl,?_,rfl,rfl,rfl,?_⟩)
  ·exfalso;simp at h
  ·simp only[EH,List.nil_append] at hb;exact hb
  ·rw[GA,Aw _ _ _ q0];simp only[EH,List.nil_append] at hK;exact hK
 |cons x r ih=>
  intro pre acc hl hs hk hf hb hK;have we:BG=100000:=rfl
  have hlen:pre.length<(pre++x::r).length:=by simp
  rw[CC] at hs;rw[EH,List.append_assoc] at hb hK
  have iy:(acc++Eg x).length+(EH r++en).length<=Ip:=by
   simp only[List.length_append] at hb⊢;omega
  have hw:IntKind.wrap .i64 ((pre.length:Int)+1)=(((pre++[x]).length:Nat):Int):=by rw[BH (by omega) (by omega)];simp
  have iI:=ih (pre++[x]) (acc++Eg x) (by simpa using hl) (by omega) hk.2 hf.2 iy (by rw[List.append_assoc];exact hK)
  rw[<-hw,show pre++[x]++r=pre++x::r by simp] at iI
  refine rL zY (AA (fun _=>AD ?_ ⟨x.kind,x.pl,x.text,x.attrs.map Go.Ai.Ao,Ag x.kids,(Hb _ _ _).trans (BL x),x,c0,acc,.ptr 2 0,q0,by omega,hk.1,hf.1,.inr rfl,?_,rfl,by rw[BL],rfl,AD ?_ ?_⟩) fun h=> ?_)
  ·rw[BK,iC hlen];rfl
  ·simp only[List.length_append] at iy;have:Ip=1000000:=rfl;omega
  ·rw[HG,FF,M9 _ _ q0,ET _ _ q0,DE _ _ (UJ _)];rfl
  ·rw[M9 _ _ q0];exact iI
  ·exfalso;have:=of_decide_eq_false h;omega
theorem ry {N:Nat}(hT:CQ AI 27 (V5 N)){k p0:Int}{t:List UInt8}{al:List Go.Ai.Aj}{ks:List Nd}{c0:List AV}(q0:AP.Ad c0=true){op en acc:List UInt8}{p:AV}(hp:O9 p){K:AV->Hp->Prop}(hl:ks.length<=BG)(hs:CC ks<N)(hk:dH ks)(hf:Lu ks)
  (hb:acc.length+(op++(t++(EH ks++en))).length<=Ip) (hK:K (.tup []) (hB c0 (acc++(op++(t++(EH ks++en)))) (.ptr 2 0))):
  AF AI 27 (AB Tryz.f27) (AX Tryz.prog Tryz.f27 4 K) [.code [1,1,1]] .normal
   [(1,true,.ptr 2 0),(2,true,.ptr 3 0),(3,true,.ptr 4 0),(4,true,.str op),(5,true,.str en)] (hB c0 acc p++[.mem 26 (Rm k p0 t al ks)]):=by
 have e:acc++(op++(t++(EH ks++en)))=acc++op++t++(EH ks++en):=by simp
 rw[e] at hK
 have h3:(acc++op++t).length+(EH ks++en).length<=Ip:=by simp only[List.length_append] at hb⊢;omega
 have h1:acc.length+op.length<=Ip:=by simp only[List.length_append] at hb;omega
 have h2:(acc++op).length+t.length<=Ip:=by simp only[List.length_append] at hb⊢;omega
 have L:=oK hT k p0 t al c0 q0 en K ks [] (acc++op++t) hl hs hk hf h3 hK;refine vH (AY (AH jf AM)) ⟨c0,_,acc,op,p,q0,LS k p0 t al ks,hp,h1,rfl,rfl,rfl,c0,_,acc++op,t,.ptr 2 0,q0,LS k p0 t al ks,.inr rfl,h2,rfl,rfl,rfl,?_⟩;rw[BK];exact L
theorem fK {c0:List AV}{acc:List UInt8}{p:AV}(q0:AP.Ad c0=true)(hp:O9 p):(hB c0 acc p).map (AO 4 [])=hB c0 acc p:=by
 have e1:=Aw 4 [] _ q0;have e2:=GA 4 [] acc
 rcases hp with rfl|rfl
 ·show [Blk.mem 26 (AQ 4 [] c0),Blk.grow acc.length 1 5,Blk.mem 69 [.Ge,.sl 1 (AE 4 [] (rb acc)) (some 1)],Blk.mem 70 [Av]]=_;rw[e1,e2];rfl
 ·show [Blk.mem 26 (AQ 4 [] c0),Blk.grow acc.length 1 5,Blk.mem 69 [.ptr 2 0,.sl 1 (AE 4 [] (rb acc)) (some 1)],Blk.mem 70 [Av]]=_;rw[e1,e2];rfl
theorem dq {k:Int}(al:List Go.Ai.Aj)(h1:(k==1||k==2)=false)(h2:(k==14)=false):(Ex.AN (al.map C6)).length<=(OT k al).length:=by
 unfold OT;rw[h1,h2];simp only[cond_false]
 cases k==3||k==6 with
 |true=>simp only[cond_true,List.length_append];omega
 |false=>simp only[cond_false,List.length_append];omega
theorem Lv :AL AI (Ac [(28,Gy)]):=AY (AH tX AM)
theorem oD {N:Nat}(hT:CQ AI 27 (V5 N)){k p0:Int}{t:List UInt8}{al:List Go.Ai.Aj}{ks:List Nd}{c0:List AV}(q0:AP.Ad c0=true){acc:List UInt8}{p:AV}(hp:O9 p){K:AV->Hp->Prop}(hl:ks.length<=BG)(hv:∀a∈al,a.value.length<=BG)(hs:CC ks<N)(hk:dH ks)(hf:Lu ks)
  (h1:1<=k) (SN:k<=14) (hb:acc.length+(OT k al++(t++(EH ks++db k))).length<=Ip) (hK:K (.tup []) (hB c0 (acc++(OT k al++(t++(EH ks++db k)))) (.ptr 2 0))):
  AF AI 27 (AB Tryz.f27) (AX Tryz.prog Tryz.f27 4 K) [.code []] .normal [(0,true,.agg (Rm k p0 t al ks)),(1,true,.ptr 2 0),(2,true,.ptr 3 0)] (hB c0 acc p):=by
 have TE:AE 0 [] (al.map Go.Ai.Ao)=al.map Go.Ai.Ao:=As _ _ _ (Dh al);have hB':Ip=1000000:=rfl;have M:=ry (k:=k) (p0:=p0) (al:=al) hT q0 hp hl hs hk hf hb hK
 have hA:(k==1||k==2)=false->(k==14)=false->(Ex.AN (al.map C6)).length<=Ip:=fun a b=>by
  have:=dq al a b;simp only[List.length_append] at hb;omega
 have hk:k=1\/k=2\/k=14\/k=3\/k=4\/k=5\/k=6\/k=7\/k=8\/k=9\/k=10\/k=11\/k=12\/k=13:=by omega
 rcases hk with rfl|rfl|rfl|rfl|rfl|rfl|rfl|rfl|rfl|rfl|rfl|rfl|rfl|rfl
 ·exact rV Lv M
 ·exact rU Lv M
 ·exact nO Lv M
 ·have ha:=hA rfl rfl
  refine rS Lv ⟨al,ha,hv,by rw[TE],AD (decide_eq_true (by omega)) (AD (decide_eq_true (by simp;omega)) ?_)⟩
  exact M
 ·have ha:=hA rfl rfl
  refine rR Lv ⟨al,ha,hv,by rw[TE],AD (decide_eq_true (by omega)) (AD (decide_eq_true (by simp;omega)) ?_)⟩
  exact M
 ·have ha:=hA rfl rfl
  refine rQ Lv ⟨al,ha,hv,by rw[TE],AD (decide_eq_true (by omega)) (AD (decide_eq_true (by simp;omega)) ?_)⟩
  exact M
 ·have ha:=hA rfl rfl
  refine rP Lv ⟨al,ha,hv,by rw[TE],AD (decide_eq_true (by omega)) (AD (decide_eq_true (by simp;omega)) ?_)⟩
  exact M
 ·have ha:=hA rfl rfl
  refine rO Lv ⟨al,ha,hv,by rw[TE],AD (decide_eq_true (by omega)) (AD (decide_eq_true (by simp;omega)) ?_)⟩
  exact M
 ·have ha:=hA rfl rfl
  refine rN Lv ⟨al,ha,hv,by rw[TE],AD (decide_eq_true (by omega)) (AD (decide_eq_true (by simp;omega)) ?_)⟩
  exact M
 ·have ha:=hA rfl rfl
  refine rM Lv ⟨al,ha,hv,by rw[TE],AD (decide_eq_true (by omega)) (AD (decide_eq_true (by simp;omega)) ?_)⟩
  exact M
 ·have ha:=hA rfl rfl
  refine nS Lv ⟨al,ha,hv,by rw[TE],AD (decide_eq_true (by omega)) (AD (decide_eq_true (by simp;omega)) ?_)⟩
  exact M
 ·have ha:=hA rfl rfl
  refine nR Lv ⟨al,ha,hv,by rw[TE],AD (decide_eq_true (by omega)) (AD (decide_eq_true (by simp;omega)) ?_)⟩
  exact M
 ·have ha:=hA rfl rfl
  refine nQ Lv ⟨al,ha,hv,by rw[TE],AD (decide_eq_true (by omega)) (AD (decide_eq_true (by simp;omega)) ?_)⟩
  exact M
 ·have ha:=hA rfl rfl
  refine nP Lv ⟨al,ha,hv,by rw[TE],AD (decide_eq_true (by omega)) (AD (decide_eq_true (by simp;omega)) ?_)⟩
  exact M
theorem tU :∀N,CQ AI 27 (V5 N)
 |0=>by
  intro l h K ht;unfold V5 at ht;split at ht
  ·obtain⟨nd,c0,acc,p,q0,hs,_⟩:=ht;exact absurd hs (Nat.not_lt_zero _)
  ·exact ht.elim
 |N+1=>by
  have hT:=tU N
  refine la rn fun vs h K ht=> ?_
  unfold V5 at ht;split at ht
  ·rename_i b0 b1 b2 b3 r;obtain⟨nd,c0,acc,p,q0,hs,hk,hf,hp,hb,lE,rfl,e,hK⟩:=ht;obtain⟨rfl,rfl,rfl,rfl⟩:=gl e;refine⟨lE,?_⟩;obtain⟨k,p0,t,al,ks⟩:=nd;rw[Eg] at hb hK;rw[Nd.size] at hs
   have hv:AQ 4 [] [.agg (Dt (.mk k p0 t al ks)),.ptr 2 0,.ptr 3 0]=[.agg (Rm k p0 t al ks),.ptr 2 0,.ptr 3 0]:=by
    have e1:=Aw 4 [] _ (HF (.mk k p0 t al ks));show [AV.agg (AQ 4 [] (Dt (.mk k p0 t al ks))),.ptr 2 0,.ptr 3 0]=_;rw[e1,BL];rfl
   have hh:=fK (acc:=acc) q0 hp;rw[hv];have sU:((hB c0 acc p++r).take 4).map (AO 4 [])=hB c0 acc p:=hh;have hd4:(hB c0 acc p++r).drop 4=r:=rfl
   have G:=oD (K:=fun v h1=>K v (h1++r)) (p0:=p0) hT q0 hp hf.2.2.2.1 hf.2.2.1 (by omega) hk.2 hf.2.2.2.2 hk.1.1 hk.1.2 hb hK
   show AF AI 27 (AB Tryz.f27) (AX Tryz.prog Tryz.f27 4 fun v h1=>K v (h1++(hB c0 acc p++r).drop 4)) [.code []] .normal _ (((hB c0 acc p++r).take 4).map (AO 4 []))
   rw[sU,hd4];exact G
  ·exact ht.elim
end Go.Proofs.YtopjpnhgnopbiaaGreatDoor.Pu
end
section
namespace Go.Proofs.YtopjpnhgnopbiaaGreatDoor.Pu
open Go.Ai Go Go.Ai.Sp
set_option maxRecDepth 100000
open Go.IntKind (wrap i64 u8)
open Go.Ai.AV (int str sl tup bool agg ptr)
open Go.Ai.Blk (mem grow)
open Go.Ai.Fm (code block loop)
open Go.Ai.XT (normal)
open List (length)
open Prod (fst snd)
open UInt8 (toNat)
open Tryz (prog f11 f13 f22)
variable {N:Nat}{v:AV}{k p0:Int}{t:List UInt8}{es ks:List (List AV)}
theorem t13 (hT:AL AI (Ac [(26,mI N),(27,V5 N),(30,sA),(31,re)]))(H:(fun(G0:List AV)=>(fun(C0:List AV)=>∃(n1:Nd),Nd.size n1<N/\Nd.JX n1/\N<=1000000/\[agg [int i64 k,int i64 p0,str t,sl 3 (AE 0 [] es) none,sl 5 (AE 0 [] ks) none]]=[agg (Dt n1)]/\Ap (Nd.G7 n1 !=0) (tup [str [],int i64 (Nd.G7 n1)]=v) (∃(A0:Nd) (F0:List AV) (B0:List UInt8) (p5:AV),AP.Ad F0=true/\Nd.size A0<N/\qJ A0/\Nd.JX A0/\O9 p5/\length B0+length (Eg A0)<=1000000/\true=true/\[agg G0,ptr 2 0,ptr 3 0]=[agg (Dt A0),ptr 2 0,ptr 3 0]/\[mem 26 G0,grow 0 1 5,mem 69 [AV.Ge,sl 1 [] (some 1)],mem 70 C0]=[mem 26 F0,grow (length B0) 1 5,mem 69 [p5,sl 1 (rb B0) (some 1)],mem 70 C0]/\∃(H0:List AV) (D0:List UInt8),(fun(I0:Hp)=>AP.Ad H0=true/\[ptr 2 0]=[ptr 2 0]/\[mem 26 F0,grow (length (B0++Eg A0)) 1 5,mem 69 [ptr 2 0,sl 1 (rb (B0++Eg A0)) (some 1)],mem 70 C0]=I0/\Ap (decide ((↑(length D0):Int)>65536)) (tup [str [],int i64 3]=v) (∃(J0:List AV) (E0:List UInt8),[ptr 2 0]=[ptr 2 0]/\I0=[mem 26 J0,grow (length E0) 1 5,mem 69 [ptr 2 0,sl 1 (rb E0) (some 1)],mem 70 C0]/\tup [str E0,int i64 0]=v)) [mem 26 H0,grow (length D0) 1 5,mem 69 [ptr 2 0,sl 1 (rb D0) (some 1)],mem 70 C0])) [AV.fn (Fn.func 27) [] [ptr 2 0,ptr 3 0]]) [int i64 k,int i64 p0,str t,sl 3 es none,sl 5 ks none]):AF AI 13 (AB f13) (AK prog f13 v) ([.code []]) .normal ([(0,true,.agg [.int .i64 k,.int .i64 p0,.str t,.sl 3 es none,.sl 5 ks none])]) ([]):=
 uo (pl:=⟨[],[]⟩) hT H (by kernel_rfl)
theorem vI {l:Int}(hT:AL AI (Ac [(22,Q6 N)]))(H:AF AI 22 (AB f22) (AK prog f22 v) [code [0,1,0,1,1],block 0,code [1,1,1]] normal [(1,true,int i64 (wrap i64 (wrap i64 (l-1)-wrap i64 (Int.tdiv (↑(length t):Int) 20)))),(2,true,ptr 0 0),(5,true,int i64 0)] [mem 26 [int i64 k,int i64 p0,str t,sl 3 es none,sl 5 ks none]]):AF AI 22 (AB f22) (AK prog f22 v) ([.code []]) .normal ([(0,true,.agg [.int .i64 k,.int .i64 p0,.str t,.sl 3 es none,.sl 5 ks none]),(1,true,.int .i64 l)]) ([]):=
 uo (pl:=⟨[[0,1,0,1,1],[0,1,0,1,1,1]],[([0,0,1,0,0,1,0,1,1],5,[.str,.str,.int .i64]),([0,0,1,0,0,1,0,1,1],14,[.str,.str,.int .i64]),([0,0,1,0,0,1,0,1,1,1],3,[.int .i64,.int .i64,.str,.sl 3,.sl 5])]⟩) hT H (by kernel_rfl)
theorem rX {N:Nat}{v:AV}{k p0:Int}{t:List UInt8}{es ks:List (List AV)}{i1:Int}{i5:Int}(hT:AL AI (Ac [(22,Q6 N)]))(H:(fun(B0:List Fm)=>(fun(C0:Fr)=>(fun(A0:Hp)=>Ap (decide (i5<(↑(length es):Int))) (Ap (decide (i1>0)) (AS (Dm i5 (length es)&&true&&true) (∃(s1 s2:List UInt8) (z3:Int),CH es i5=[str s1,str s2,int i64 z3]/\AS (Dm i5 (length es)&&true&&true) (∃(s4 s5:List UInt8) (z6:Int),CH es i5=[str s4,str s5,int i64 z6]/\AS (AJ 1 es&&true&&(AJ 1 ks&&true&&true)&&true) (AF AI 22 (AB f22) (AK prog f22 v) [code [0,1,0,1,1],block 0,code [1,1,1]] normal [(1,true,int i64 (wrap i64 (wrap i64 (wrap i64 (i1-1)-wrap i64 (Int.tdiv (↑(length s1):Int) 20))-wrap i64 (Int.tdiv (↑(length s5):Int) 20)))),(2,true,ptr 0 0),(5,true,int i64 (wrap i64 (i5+1)))] A0)))) (AF AI 22 (AB f22) (AK prog f22 v) B0 normal C0 A0)) (AF AI 22 (AB f22) (AK prog f22 v) B0 normal C0 A0)) [mem 26 [int i64 k,int i64 p0,str t,sl 3 es none,sl 5 ks none]]) [(1,true,int i64 i1),(2,true,ptr 0 0),(6,true,int i64 0)]) [code [0,1,0,1,1,1],block 2,code [1,1,1,1]]):AF AI 22 (AB f22) (AK prog f22 v) ([.code [0,1,0,1,1],block 0,code [1,1,1]]) .normal ([(1,true,int i64 i1),(2,true,ptr 0 0),(5,true,int i64 i5)]) ([mem 26 [int i64 k,int i64 p0,str t,sl 3 es none,sl 5 ks none]]):=
 Az (pl:=⟨[[0,1,0,1,1],[0,1,0,1,1,1]],[([0,0,1,0,0,1,0,1,1],5,[.str,.str,.int .i64]),([0,0,1,0,0,1,0,1,1],14,[.str,.str,.int .i64]),([0,0,1,0,0,1,0,1,1,1],3,[.int .i64,.int .i64,.str,.sl 3,.sl 5])]⟩) hT 100000 (by kernel_rfl) (Ak H (by kernel_rfl))
theorem rW {N:Nat}{v:AV}{k p0:Int}{t:List UInt8}{es ks:List (List AV)}{i1:Int}{i6:Int}(hT:AL AI (Ac [(22,Q6 N)]))(H:Ap (decide (i6<(↑(length ks):Int))) (Ap (decide (i1>0)) (AS (Dm i6 (length ks)&&true&&true) (∃(z1 z2:Int) (s3:List UInt8) (B0 C0:List (List AV)),CH ks i6=[int i64 z1,int i64 z2,str s3,sl 3 B0 none,sl 5 C0 none]/\∃(A0:Nd) (l7:Int),Nd.size A0<N/\Nd.fit A0/\0<l7/\l7<=600/\[agg [int i64 z1,int i64 z2,str s3,sl 3 (AE 0 [] B0) none,sl 5 (AE 0 [] C0) none],int i64 i1]=[agg (Dt A0),int i64 l7]/\AS (AJ 1 es&&true&&(AJ 1 ks&&true&&true)&&true) (AF AI 22 (AB f22) (AK prog f22 v) [code [0,1,0,1,1,1],block 2,code [1,1,1,1]] normal [(1,true,int i64 (Nd.left A0 l7)),(2,true,ptr 0 0),(6,true,int i64 (wrap i64 (i6+1)))] [mem 26 [int i64 k,int i64 p0,str t,sl 3 es none,sl 5 ks none]]))) (int i64 i1=v)) (int i64 i1=v)):AF AI 22 (AB f22) (AK prog f22 v) ([.code [0,1,0,1,1,1],block 2,code [1,1,1,1]]) .normal ([(1,true,int i64 i1),(2,true,ptr 0 0),(6,true,int i64 i6)]) ([mem 26 [int i64 k,int i64 p0,str t,sl 3 es none,sl 5 ks none]]):=
 Az (pl:=⟨[[0,1,0,1,1],[0,1,0,1,1,1]],[([0,0,1,0,0,1,0,1,1],5,[.str,.str,.int .i64]),([0,0,1,0,0,1,0,1,1],14,[.str,.str,.int .i64]),([0,0,1,0,0,1,0,1,1,1],3,[.int .i64,.int .i64,.str,.sl 3,.sl 5])]⟩) hT 100000 (by kernel_rfl) (Ak H (by kernel_rfl))
theorem vT (hT:AL AI (Ac [(22,Q6 N)]))(H:∃(tv:Nd) (l2:Int),Nd.size tv<N/\Nd.fit tv/\0<l2/\l2<=600/\[agg [int i64 k,int i64 p0,str t,sl 3 (AE 0 [] es) none,sl 5 (AE 0 [] ks) none],int i64 600]=[agg (Dt tv),int i64 l2]/\bool (decide (Nd.left tv l2>0))=v):AF AI 11 (AB f11) (AK prog f11 v) ([.code []]) .normal ([(0,true,.agg [.int .i64 k,.int .i64 p0,.str t,.sl 3 es none,.sl 5 ks none])]) ([]):=
 uo (pl:=⟨[],[]⟩) hT H (by kernel_rfl)
end Go.Proofs.YtopjpnhgnopbiaaGreatDoor.Pu
end
section
namespace Go.Proofs.YtopjpnhgnopbiaaGreatDoor.Pu
open Go.Ai Go Tr
theorem vu :BN AI 22 Tryz.f22:=(by refine⟨?_,?_,?_,?_,?_,?_⟩<;>kernel_rfl)
theorem vz :BN AI 11 Tryz.f11:=(by refine⟨?_,?_,?_,?_,?_,?_⟩<;>kernel_rfl)
theorem aw {N:Nat}(hT:AL AI (Ac [(22,Q6 N)]))(k p:Int)(t:List UInt8)(al:List Aj):∀(r pre:List Nd) (l:Int),PJ<=l->l<=600->CC (pre++r)<N->fits (pre++r)->(pre++r).length<=FR->
  AF AI 22 (AB Tryz.f22) (AK Tryz.prog Tryz.f22 (.int .i64 (Ea r l))) [.code [0,1,0,1,1,1],.block 2,.code [1,1,1,1]] .normal
   [(1,true,.int .i64 l),(2,true,.ptr 0 0),(6,true,.int .i64 pre.length)] [.mem 26 [.int .i64 k,.int .i64 p,.str t,.sl 3 (al.map Ao) none,.sl 5 (Ag (pre++r)) none]]:=by
 intro r
 induction r with
 |nil=>
  intro pre l h1 h2 hs hf hl
  refine rW hT (AA (fun hc=> ?_) fun _=>rfl)
  simp[BK] at hc
 |cons x r ih=>
  intro pre l h1 h2 hs hf hl;have hx:=(Of.1 hf).2.1
  have CD:=cN (l:=pre++x::r) (n:=x) (by simp)
  have hlen:pre.length<FR:=by simp at hl;omega
  refine rW hT (AA (fun _=>AA (fun hg=> ?_) fun hg=> ?_) fun hc=> ?_)
  ·simp only[gt_iff_lt,decide_eq_true_eq] at hg
   refine AD (by rw[BK,Dw (by omega) (by simp;omega)];rfl) ⟨x.kind,x.pl,x.text,x.attrs.map Ao,Ag x.kids,by rw[Hb,BL],x,l,by omega,hx,hg,h2,by rw[GU,GS,BL],?_⟩
   refine AD (by simp only[FF,HG,Bool.and_true]) ?_
   rw[BE hlen]
   have:=ih (pre++[x]) (x.left l) (x.Wp hx hg) (by have:=(x.KY (l:=l)).2;omega) (by simpa using hs) (by simpa using hf) (by simpa using hl)
   simpa[Ea,hg] using this
  ·simp only[gt_iff_lt,decide_eq_false_iff_not] at hg;rw[Ea,if_neg hg]
  ·simp[BK] at hc;omega
theorem kr {N:Nat}(hT:AL AI (Ac [(22,Q6 N)]))(k p:Int)(t:List UInt8)(ks:List Nd)(hN:CC ks<N)(hf:fits ks)(hk:ks.length<=FR):∀(r pre:List Aj) (l:Int),PJ<=l->l<=600->(∀a∈r,a.fit)->(pre++r).length<=FR->
  AF AI 22 (AB Tryz.f22) (AK Tryz.prog Tryz.f22 (.int .i64 (Ea ks (DH r l)))) [.code [0,1,0,1,1],.block 0,.code [1,1,1]] .normal
   [(1,true,.int .i64 l),(2,true,.ptr 0 0),(5,true,.int .i64 pre.length)] [.mem 26 [.int .i64 k,.int .i64 p,.str t,.sl 3 ((pre++r).map Ao) none,.sl 5 (Ag ks) none]]:=by
 intro r
 induction r with
 |nil=>
  intro pre l h1 h2 _ hl
  refine rX hT (AA (fun hc=> ?_) fun _=> ?_)
  ·simp at hc
  ·exact aw hT k p t _ ks [] l h1 h2 hN hf hk
 |cons x r ih=>
  intro pre l h1 h2 ha hl
  have hlen:pre.length<FR:=by simp at hl;omega
  have hx:=ha x (by simp)
  refine rX hT (AA (fun _=>AA (fun hg=> ?_) fun hg=> ?_) fun hc=> ?_)
  ·simp only[gt_iff_lt,decide_eq_true_eq] at hg
   have Hx:Dm (pre.length:Int) ((pre++x::r).map Ao).length=true:=Dw (by omega) (by simp;omega)
   refine AD (by rw[Hx];rfl) ⟨x.name,x.value,x.pl,Co _ _ _ _,AD (by rw[Hx];rfl) ⟨x.name,x.value,x.pl,Co _ _ _ _,AD (by simp only[FF,HG,Bool.and_true]) ?_⟩⟩
   rw[BE hlen,YE _ hx.1,YE _ hx.2]
   have e:IntKind.wrap .i64 (IntKind.wrap .i64 (IntKind.wrap .i64 (l-1)-(x.name.length/20:Nat))-(x.value.length/20:Nat))=KJ x l:=by
    obtain⟨q1,q2⟩:=hx;unfold FR at q1 q2;unfold PJ at h1
    rw[BH (n:=l-1) (by omega) (by omega),Pw (a:=l-1) (by omega) (by omega),Pw (by omega) (by omega)]
    rfl
   rw[e]
   have:=ih (pre++[x]) (KJ x l) (Xe hx hg) (by have:=bp (a:=x) (l:=l);omega) (fun a h=>ha a (by simp[h])) (by simpa using hl)
   simpa[DH,hg] using this
  ·simp only[gt_iff_lt,decide_eq_false_iff_not] at hg;rw[DH,if_neg hg];exact aw hT k p t _ ks [] l h1 h2 hN hf hk
  ·simp at hc;omega
theorem mo :∀N,CQ AI 22 (Q6 N)
 |0=>fun l h K ht=>by obtain⟨nd,l,h,_⟩:=ht;omega
 |N+1=>by
  have hT:=AY (AH (mo N) AM)
  refine Ax vu fun vs h K ht=> ?_
  obtain⟨nd,l,hs,hf,h0,h6,rfl,hk⟩:=ht;refine⟨_,hk,?_⟩;rw[BL];refine vI hT ?_;rw[Nd.jG] at hf;obtain⟨q1,q2,q3,q4,q5⟩:=hf;rw[Nd.size_eq] at hs;rw[Nd.ku,YE _ q1]
  have e:IntKind.wrap .i64 (IntKind.wrap .i64 (l-1)-(nd.text.length/20:Nat))=l-1-(nd.text.length/20:Nat):=by
   unfold FR at q1
   rw[BH (n:=l-1) (by omega) (by omega),Pw (by omega) (by omega)]
  rw[e]
  exact kr hT _ _ _ nd.kids (by omega) q5 q4 nd.attrs [] _ (by unfold FR at q1;unfold PJ;omega) (by omega) q3 q2
theorem yU :CQ AI 11 pW:=by
 refine Ax vz fun vs h K ht=> ?_
 obtain⟨nd,hf,rfl,hk⟩:=ht;refine⟨_,hk,?_⟩;have hT:=AY (AH (mo (nd.size+1)) AM);rw[BL]
 exact vT hT ⟨nd,600,by omega,hf,by omega,by omega,by rw[GU,GS,BL],rfl⟩
end Go.Proofs.YtopjpnhgnopbiaaGreatDoor.Pu
end
section
namespace Go.Ai.Sp
open Go.Ai Go.RowKit
mutual
theorem wM :∀(c:Nd) (d:Int) (hid:Bool) (b:Int),c.Mo d hid b=0->(c.kind=2\/c.kind=14\/Ld c.kind)->qJ c
 |.mk k p t al ks,d,hid,b,hc,hk=>by
  have hk:k=2\/k=14\/Ld k:=hk;obtain⟨hf,hs⟩:=Gp.1 hc;refine⟨?_,oO ks _ _ _ _ _ _ hs⟩;unfold Ld at hk;omega
theorem oO :∀(ks:List Nd) (p N i d:Int) (hid:Bool) (b:Int),Io p N ks i d hid b=0->dH ks
 |[],_,_,_,_,_,_,_=>trivial
 |c::ks,p,N,i,d,hid,b,h=>by
  obtain⟨h1,h2,h3⟩:=Cy.1 h;exact⟨wM c d hid b h2 (J9 h1),oO ks p N (i+1) d hid c.kind h3⟩
end
theorem kx {n:Nd}(h:n.G7=0):qJ n:=by
 obtain⟨hk,_⟩:=Tw h;obtain⟨k,p,t,al,ks⟩:=n;have hk:k=1:=hk;subst hk;have hc:(Nd.mk 1 p t al ks).Mo 0 false 0=0:=h;obtain⟨hf,hs⟩:=Gp.1 hc
 exact⟨by omega,oO ks _ _ _ _ _ _ hs⟩
end Go.Ai.Sp
namespace Go.Proofs.YtopjpnhgnopbiaaGreatDoor.Pu
open Go.Ai Go Go.Ai.Sp Tr
set_option maxRecDepth 100000
theorem ny :BN AI 13 Tryz.f13:=(by refine⟨?_,?_,?_,?_,?_,?_⟩<;>kernel_rfl)
theorem tT (N:Nat):CQ AI 13 (Hr N):=by
 have hT:=AY (AH (Tr.c13 N) (AH (tU N) (AH yT (AH yS AM))))
 refine Ax ny fun vs h K ht=> ?_
 obtain⟨n,hs,hf,hN,hb,rfl,hk⟩:=ht;refine⟨_,hk,?_⟩;have q:=HF n;rw[BL] at q⊢
 refine t13 hT ⟨n,hs,hf,hN,by rw[Bv,Gz,BL],AA (fun a=> ?_) fun a=> ?_⟩
 ·have a:(n.G7==0)=false:=by simpa using a
  unfold DV;rw[a];rfl
 ·have a:n.G7=0:=by simpa using a
  have hb:=hb a
  refine⟨n,_,[],.Ge,q,hs,kx a,hf,.inl rfl,by simpa[Ip] using hb,rfl,by rw[BL],rfl,_,[]++Eg n,q,rfl,rfl,AA (fun c=> ?_) fun c=>⟨_,[]++Eg n,rfl,rfl,?_⟩⟩
  ·have c:65536<(Eg n).length:=by have:=of_decide_eq_true c;simp at this;omega
   unfold DV;rw[a,decide_eq_true c];rfl
  ·have c:¬65536<(Eg n).length:=by have:=of_decide_eq_false c;simp at this;omega
   unfold DV;rw[a,decide_eq_false c];rfl
end Go.Proofs.YtopjpnhgnopbiaaGreatDoor.Pu
end
section
namespace Go.Proofs.YtopjpnhgnopbiaaGreatDoor.Pu
open Go.Ai Go
set_option maxRecDepth 100000
theorem vy :BN AI 12 Tryz.f12:=(by refine⟨?_,?_,?_,?_,?_,?_⟩<;>kernel_rfl)
theorem pj :CQ AI 12 Ex.mw:=jZ (n:=100000) vy (by kernel_rfl)
end Go.Proofs.YtopjpnhgnopbiaaGreatDoor.Pu
end
section
namespace Go.Proofs.YtopjpnhgnopbiaaGreatDoor.Pu
open Go.Ai Go Go.Ai.Sp Tr
set_option maxRecDepth 100000
theorem pk :CQ AI 8 UN:=by
 refine Fp (g:=Qa) (by kernel_rfl) (by kernel_rfl) (by kernel_rfl) (by kernel_rfl) fun vs h K ht=> ?_
 obtain⟨s,rfl,hk⟩:=ht;refine⟨NV 3 5 (Bi s),?_,rfl⟩;rw[Iw 0 [] _ (NO _).1]
 have:NV 3 5 (Bi s)=.tup [.agg [.int .i64 (Cr s).kind,.int .i64 (Cr s).pl,.str (Cr s).text,.sl 3 ((Cr s).attrs.map Go.Ai.Ao) none,.sl 5 (Ag (Cr s).kids) none],.int .i64 (Yb s),.int .i64 (Fb s)]:=by
  rw[<-BL];unfold Cr Yb Fb
  cases Bi s with
  |ok n=>rfl
  |error x=>rfl
 rw[this];exact hk
theorem pf5 :BN AI 5 Tryz.f5:=(by refine⟨?_,?_,?_,?_,?_,?_⟩<;>kernel_rfl)
theorem uf :AL AI (Ac [(8,UN),(11,pW),(12,Ex.mw),(13,Hr 1000000),(14,QN 1000000)]):=
 AY (AH pk (AH yU (AH pj (AH (tT _) (AH (Tr.zv _) AM)))))
theorem V9 {s:List UInt8}{m:Nd}(h:Bi s=.ok m):Cr s=m/\Fb s=0:=by
 unfold Cr Fb;rw[h];exact⟨rfl,rfl⟩
theorem YC {s:List UInt8}{m:Nd}(h:Bi s=.ok m)(hs:s.length<=40000):m.size<1000000/\m.JX/\m.fit/\(m.G7=0->(Eg m).length<=1000000):=by
 obtain⟨_,h2,h3⟩:=V8 h;have we:BG=100000:=rfl;have hl:FR=9223372036854775807:=rfl
 refine⟨by omega,Vo (by omega) m h2,aQ (by omega) m h2,fun hp=> ?_⟩
 have:=cz h;rw[Qh hp];omega
def tl :Ce:=fun vs h K=>∃n:Nd,n.fit/\vs=[.agg (Dt n)]/\K (.bool true) h
theorem tW :CQ AI 5 tl:=by
 refine Ax pf5 fun vs h K ht=> ?_
 obtain⟨n,hf,rfl,hk⟩:=ht;refine⟨_,hk,?_⟩;rw[BL]
 refine t5 uf ⟨n,hf,by rw[Bv,Gz,BL],AA (fun _=>⟨rfl,rfl⟩) fun hl=> ?_⟩
 have hl:0<n.left 600:=by simpa using hl
 have hs:=Nd.gn hl
 have ht:=aD n 600 (by omega) hl
 have ho:=WH n 600 hl
 refine⟨n,by omega,ht,by omega,fun _=>by omega,by rw[Bv,Gz,BL],AA (fun a=> ?_) fun a=> ?_⟩
 ·have a:(DV n).2≠0:=by simpa using a
  rw[ed a]
  exact AA (fun _=>⟨rfl,rfl⟩) fun c=>by cases c
 ·have a:(DV n).2=0:=by simpa using a
  have e:DV n=((DV n).1,0):=by rw[<-a]
  have hlen:=ec n;obtain⟨m,h1,h2,h3⟩:=gq e;obtain⟨e1,e2⟩:=V9 h1
  obtain⟨g1,g2,g3,g4⟩:=YC h1 (by omega)
  refine⟨_,rfl,?_⟩;rw[e1,e2]
  refine⟨m,g1,g2,by omega,g4,by rw[Bv,Gz,BL],AA (fun _=>⟨n,m,by omega,hf,g3,by rw[Bv,Gz,Bv,Gz,BL,BL],?_⟩) fun c=>by cases c⟩
  rw[h2,h3]
  refine AA (fun _=>AA (fun _=>AA (fun _=>⟨rfl,rfl⟩) fun c=>by cases c) fun c=> ?_) fun c=>by cases c
  simp at c
end Go.Proofs.YtopjpnhgnopbiaaGreatDoor.Pu
end
section
namespace Go.Proofs.YtopjpnhgnopbiaaGreatDoor
open Go.Ai Go
set_option maxRecDepth 100000
theorem X5 {n:Nat}{xs:List AV}(h:wt Tryz.prog n 3 xs):∃z,(Lit.int .i64 z).wf=true/\xs=[.int .i64 z]:=by
 cases n with
 |zero=>exact h.elim
 |succ n=>simpa only[wt,Tryz.underlying3] using h
theorem Xz {n:Nat}{xs:List AV}(h:wt Tryz.prog n 9 xs):∃s:List UInt8,s.length<=maxLen/\xs=[.str s]:=by
 cases n with
 |zero=>exact h.elim
 |succ n=>simpa only[wt,Tryz.underlying9] using h
theorem my {n:Nat}{xs:List AV}(h:wt Tryz.prog n 80 xs):∃a:Aj,a.fit/\xs=Ao a:=by
 cases n with
 |zero=>exact h.elim
 |succ n=>
  simp only[wt,Tryz.underlying80] at h;obtain⟨Xx,h,rfl⟩:=h
  match Xx,h with
  |[y0,y1,y2],⟨h0,h1,h2,_⟩=>
   obtain⟨s0,q0,rfl⟩:=Xz h0;obtain⟨s1,q1,rfl⟩:=Xz h1;obtain⟨z,_,rfl⟩:=X5 h2;exact⟨⟨s0,s1,z⟩,⟨q0,q1⟩,rfl⟩
theorem j9 {n:Nat}{xs:List AV}(h:wt Tryz.prog n 23 xs):∃l:List Aj,l.length<=FR/\(∀a∈l,a.fit)/\xs=[.sl 3 (l.map Ao) none]:=by
 cases n with
 |zero=>exact h.elim
 |succ n=>
  simp only[wt,Tryz.underlying23] at h;obtain⟨es,hl,rfl,hm⟩:=h
  have key:∀es:List (List AV),(∀x∈es,wt Tryz.prog n 80 x)->∃l:List Aj,es.length=l.length/\(∀a∈l,a.fit)/\es=l.map Ao:=by
   intro es
   induction es with
   |nil=>exact fun _=>⟨[],rfl,by simp,rfl⟩
   |cons e es ih=>
    intro hm
    obtain⟨a,h1,rfl⟩:=my (hm e (by simp))
    obtain⟨l,h2,h3,rfl⟩:=ih fun x hx=>hm x (by simp[hx])
    exact⟨a::l,by simp,by simpa using⟨h1,h3⟩,rfl⟩
  obtain⟨l,h1,h2,rfl⟩:=key es hm
  exact⟨l,by rw[<-h1];exact hl,h2,rfl⟩
theorem eN {n:Nat}{xs:List AV}(h:wt Tryz.prog (n+1) 26 xs):∃y0 y1 y2 y3 y4,wt Tryz.prog n 3 y0/\wt Tryz.prog n 3 y1/\wt Tryz.prog n 9 y2/\wt Tryz.prog n 23 y3/\wt Tryz.prog n 24 y4/\xs=y0++(y1++(y2++(y3++y4))):=by
 rw[wt,Tryz.underlying26] at h;obtain⟨Xx,h,rfl⟩:=h
 match Xx,h with
 |[y0,y1,y2,y3,y4],⟨h0,h1,h2,h3,h4,_⟩=>exact⟨y0,y1,y2,y3,y4,h0,h1,h2,h3,h4,by simp⟩
theorem j8 :∀(n:Nat) {xs:List AV},wt Tryz.prog n 26 xs->∃nd:Nd,nd.fit/\xs=Dt nd:=by
 intro n
 induction n using Nat.strongRecOn with
 |ind n ih=>
  intro xs h
  cases n with
  |zero=>exact h.elim
  |succ n=>
   obtain⟨y0,y1,y2,y3,y4,h0,h1,h2,h3,h4,rfl⟩:=eN h;obtain⟨k,_,rfl⟩:=X5 h0;obtain⟨p,_,rfl⟩:=X5 h1;obtain⟨t,q2,rfl⟩:=Xz h2;obtain⟨al,q3,q3',rfl⟩:=j9 h3
   cases n with
   |zero=>exact h4.elim
   |succ n=>
    rw[wt,Tryz.underlying24] at h4;obtain⟨es,hl,rfl,hm⟩:=h4
    have key:∀es:List (List AV),(∀x∈es,wt Tryz.prog n 26 x)->∃l:List Nd,es.length=l.length/\fits l/\es=Ag l:=by
     intro es
     induction es with
     |nil=>exact fun _=>⟨[],rfl,trivial,rfl⟩
     |cons e es iI=>
      intro hm
      obtain⟨a,h1,rfl⟩:=ih n (by omega) (hm e (by simp))
      obtain⟨l,h2,h3,rfl⟩:=iI fun x hx=>hm x (by simp[hx])
      exact⟨a::l,by simpa using h2,⟨h1,h3⟩,rfl⟩
    obtain⟨l,h1,h2,rfl⟩:=key es hm
    exact⟨.mk k p t al l,⟨q2,q3,q3',by rw[<-h1];exact hl,h2⟩,rfl⟩
theorem jt {n:Nat}{v:AV}(h:Rt Tryz.prog n 26 v):∃nd:Nd,nd.fit/\v=.agg (Dt nd):=by
 obtain⟨xs,rfl,h⟩:=h;obtain⟨nd,h1,rfl⟩:=j8 _ h;exact⟨nd,h1,rfl⟩
end Go.Proofs.YtopjpnhgnopbiaaGreatDoor
end
