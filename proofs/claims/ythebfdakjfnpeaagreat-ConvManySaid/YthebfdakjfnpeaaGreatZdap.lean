/- What the law ConvMany of layer 17 comes to, part 16. Conditions: none. -/
import Derived.Test.YthebfdakjfnpeaaGreatZdam
section
set_option linter.unusedVariables false
set_option linter.defProp false
set_option maxRecDepth 100000
namespace Go.Ab
open Go.RowKit Go.Proofs
@[go_sem]def z4i:Nat->List AI
|0=>[Bx 2 0,O 4 (.alc [(.int .i64 0),(.nils 1)])]
|1=>[Mv 7 1,Le 8 7,C 9 (.c (.fk zhk)) [(N 0),.t 8],O 5 (.alc [(.int .i64 0),(.nils 1)]),Sx 2 5 9 []]
|2=>[Fa 10 0 2,L1 11 10]
|3=>[Bn 13 .eql 11 5,Mv 12 13]
|4=>[Bn 15 .eql 11 2,Mv 14 15]
|5=>[Bn 17 .eql 11 4,Mv 16 17]
|6=>[Bn 19 .eql 11 3,Mv 18 19]
|7=>[Mv 20 1,Fa 21 1 2,L1 22 21,Ia 23 1 20 22,L1 24 23,O 25 (.not (.t 24))]
|8=>[Fa 26 1 5,L1 27 26,Fa 28 1 2,L1 29 28,Ia 30 1 27 29,⟨none,(.o (.st 1 (.t 30) (N 0))),none,[]⟩]
|9=>[Fa 31 2 2,L1 32 31,O 33 (.ia 3 (.t 32) (N 0)),Lk 34 3 33,Mv 35 1,C 36 (.c (.fk zfv)) [.t 34,.t 35],Ck 37 zhz [.t 36],Sx 2 4 37 []]
|10=>[Fa 38 2 2,L1 39 38,O 40 (.ia 3 (.t 39) (N 1)),Lk 41 3 40,Mv 42 1,C 43 (.c (.fk zfv)) [.t 41,.t 42],O 6 (.alc [(.int .i64 0),(.nils 1)]),Sx 2 6 43 []]
|11=>[Fa 44 0 6,L1 45 44,Bn 46 .eql 45 0,Mv 47 46,Og 48 47 true (.ld 2 true (.t 6)),Gc 49 [] 47 true zn1 [.t 48],Og 50 47 true (.bin .eql (.t 49) (N (-1))),Pf 51 47 50]
|12=>[Lk 52 2 6,Sx 2 4 52 []]
|13=>[Fa 53 2 2,Dl 54 [0] 53,D 55 [1] (.ia 3 (.t 54) (N 0)),Dk 56 [2] 3 55,Mv 57 1,⟨some 58,(.callW (.c (.fk zfv)) [(.t 56),(.t 57)] []),none,[3,4]⟩,Fa 59 2 2,D 60 [6] (.ldl 1 false (.t 59)),D 61 [7] (.xo (.iaz 3) [(.t 60),(N 1)]),D 62 [8] (.xo (.ldf 3 true) [(.t 61)]),Mv 63 1,⟨some 64,(.callW (.c (.fk zfv)) [(.t 62),(.t 63)] []),none,[9,10,5]⟩,D 65 [11] (.bsl 2 1 [(.int .i64 0),(.nils 1)] [(0,(.t 64))]),⟨some 66,(.callW (.c (.fk zfw)) [(.t 58),(.t 65)] []),none,[5,12,11]⟩,Sx 2 4 66 (13::13::rg 14)]
|14=>[Lk 67 2 5,Sx 2 4 67 []]
|_=>[]
def c216:FC:=A z4i 0 (A z4i 1 (.seq (A z4i 2 (.block 0 (.seq (.block 4 (.seq (.block 3 (.seq (.block 2 (.seq (.block 1 (.seq (.seq (A z4i 3 (.cond (.t 12) (.exit 1) .skip)) (.seq (A z4i 4 (.cond (.t 14) (.exit 2) .skip)) (.seq (A z4i 5 (.cond (.t 16) (.exit 3) .skip)) (A z4i 6 (.cond (.t 18) (.exit 4) .skip))))) (.exit 0))) (.seq (A z4i 7 (.cond (.t 25) (.reg (R z4i 8)) .skip)) (.exit 0)))) (.seq (A z4i 9 .ret) (.exit 0)))) (A z4i 10 (A z4i 11 (.cond (.t 51) (A z4i 12 .ret) .skip))))) (.seq (E z4i 13 .ret) (.exit 0))))) (A z4i 14 .ret)))
def e216:Ent:=.ali c216 68 [.c 2 true 4]
theorem k216:zae Tryz.prog (zfv+1000000) e216:=ekA Tryz.func182 Tryz.ntmps182 [] [17000009,17000036,17000043,2000058,17000058,2000064,17000064,2000066,17000066,3000060,21000061,22000062] (by kernel_rfl)
@[go_sem]def q217:Nat->List AI
|0=>[O 2 (.bxH (.t 0)),O 3 (.bxF (.t 1)),O 4 (.mv (.c .nilf))]
|1=>[O 5 (.mkf (.func zbu) [] [(.t 2),(.t 3)]),Mv 4 5]
|_=>[]
def c217:FC:=A q217 0 (A q217 1 .ret)
def e217:Ent:=.ali c217 6 [.t 4]
theorem k217:zae Tryz.prog (zcf+1000000) e217:=ekA Tryz.func197 Tryz.ntmps197 [2] [5000002,5000003] (by kernel_rfl)
@[go_sem]def yjh:Nat->List AI
|0=>[O 4 (.alcO [(.int .i64 0),(.nils 1)])]
|1=>[Mv 7 0,O 8 (.bldO [(.int .i64 0),(.nils 1)] [(0,1,(.t 7))]),O 5 (.alcO [(.int .i64 0),(.nils 1)]),Sx 2 5 8 []]
|2=>[Mn 6 0]
|3=>[Mv 9 6,Mv 10 1,Bt 11 .lss 9 10]
|4=>[Fa 14 1 5,L1 15 14,O 16 (.bsl 1 1 [(.int .i64 0)] [(0,(N (-1)))]),O 17 (.app 1 (.t 15) (.t 16)),Fa 18 1 5,Sx 1 18 17 []]
|5=>[Mv 12 6,Bn 13 .add 12 1,Mv 6 13]
|6=>[Lk 19 2 5,Sx 2 4 19 []]
|_=>[]
def ybw:FC:=.seq (A yjh 3 (.cond (.t 11) .skip (.exit 0))) (.seq (.block 1 (.reg (R yjh 4))) (.reg (R yjh 5)))
def c218:FC:=A yjh 0 (A yjh 1 (.seq (A yjh 2 (.block 0 (.loop [1,4,5,6] [4,5] ybw))) (A yjh 6 .ret)))
def e218:Ent:=.ali c218 20 [.c 2 true 4]
theorem k218:zae Tryz.prog (zfc+1000000) e218:=ekA Tryz.func106 Tryz.ntmps106 [] [4,8,5] (by kernel_rfl)
end Go.Ab
end
