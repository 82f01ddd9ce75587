/- What the law ConvGather of layer 17 comes to, part 18. Conditions: none. -/
import Derived.Test.YthebfdakjfnpeaaGreatZfaq
section
set_option linter.unusedVariables false
set_option linter.defProp false
set_option maxRecDepth 100000
namespace Go.Ab
open Go.RowKit Go.Proofs
theorem t5:T (ze6)=some e5:=by kernel_rfl
@[go_sem]def al5_0:=@zaa T _ _ l5_0.eq_1
@[go_sem]def a5:=@zaa T _ _ c5.eq_1
def zq9(a0 a1 a2 a3:AV)(H:List AO):=ff (vs:=[a0,a1,a2,a3]) t5 rfl H
noncomputable def zen(H h:List AO)(x9 x14 x19 x22 x23:AV)(v10:List AV):Option RH:=awL T [9,10,14,19,22,23] [10] l5_0 (zbd 0 (thn (aw T (A q5 23 .ret) (zan H [.t 8])) (zan H [.t 8]))) ⟨⟨121,[(9,.v x9),(10,.lp 10 0),(14,.v x14),(19,.v x19),(22,.v x22),(23,.v x23)]⟩,[(10,v10)],h,[]⟩
@[go_sem]def g_law17_ConvGather_0(H h x9 x14 x19 x22 x23 v10):=(zen.eq_1 H h x9 x14 x19 x22 x23 v10).symm
theorem t6:T (zjj)=some e6:=by kernel_rfl
@[go_sem]def a6:=@zaa T _ _ c6.eq_1
def zwf(a0 a1 a2:AV)(H:List AO):=ff (vs:=[a0,a1,a2]) t6 rfl H
theorem t7:T (zg3)=some e7:=by kernel_rfl
@[go_sem]def a7:=@zaa T _ _ c7.eq_1
def z2o(a0 a1 a2:AV)(H:List AO):=ff (vs:=[a0,a1,a2]) t7 rfl H
theorem t8:T (zmr)=some e8:=by kernel_rfl
@[go_sem]def a8:=@zaa T _ _ c8.eq_1
def z2p(a0 a1 a2:AV)(H:List AO):=ff (vs:=[a0,a1,a2]) t8 rfl H
theorem t9:T (zk2)=some e9:=by kernel_rfl
@[go_sem]def a9:=@zaa T _ _ c9.eq_1
def zzz(H:List AO):=ff (vs:=[]) t9 rfl H
theorem t11:T (zih)=some e11:=by kernel_rfl
@[go_sem]def al11_0:=@zaa T _ _ l11_0.eq_1
@[go_sem]def a11:=@zaa T _ _ c11.eq_1
def zzi(a0 a1:AV)(H:List AO):=ff (vs:=[a0,a1]) t11 rfl H
noncomputable def zht(H h:List AO)(x1 x5 x6:AV)(v2:List AV):Option RH:=awL T [1,2,5,6] [2] l11_0 (zbd 0 (thn (aw T (A q11 6 .ret) (zan H [.t 4])) (zan H [.t 4]))) ⟨⟨31,[(1,.v x1),(2,.lp 2 0),(5,.v x5),(6,.v x6)]⟩,[(2,v2)],h,[]⟩
@[go_sem]def g_ref13_Parts_0(H h x1 x5 x6 v2):=(zht.eq_1 H h x1 x5 x6 v2).symm
theorem t12:T (zfe)=some e12:=by kernel_rfl
@[go_sem]def a12:=@zaa T _ _ c12.eq_1
def z2r(a0:AV)(H:List AO):=ff (vs:=[a0]) t12 rfl H
theorem t13:T (zff)=some e13:=by kernel_rfl
@[go_sem]def a13:=@zaa T _ _ c13.eq_1
def z2s(a0 a1:AV)(H:List AO):=ff (vs:=[a0,a1]) t13 rfl H
theorem t16:T (ze8)=some e16:=by kernel_rfl
@[go_sem]def a16:=@zaa T _ _ c16.eq_1
def zvi(a0 a1 a2 a3 a4:AV)(H:List AO):=ff (vs:=[a0,a1,a2,a3,a4]) t16 rfl H
theorem t17:T (zks)=some e17:=by kernel_rfl
@[go_sem]def a17:=@zaa T _ _ c17.eq_1
def zzh(a0 a1 a2 a3:AV)(H:List AO):=ff (vs:=[a0,a1,a2,a3]) t17 rfl H
theorem t18:T (zmh)=some e18:=by kernel_rfl
@[go_sem]def al18_0:=@zaa T _ _ l18_0.eq_1
@[go_sem]def al18_1:=@zaa T _ _ yb4.eq_1
@[go_sem]def a18:=@zaa T _ _ c18.eq_1
def zvd(a0 a1 a2 a3:AV)(H:List AO):=ff (vs:=[a0,a1,a2,a3]) t18 rfl H
noncomputable def ze4(H h:List AO)(x0 x1 x11 x12 x17 x18 x19:AV)(v6 v7 v15:List AV):Option RH:=awL T [0,1,6,7,11,12,15,17,18,19] [6,7,15] l18_0 (zbd 2 (zbd 1 (thn (aw T (.reg (R q18 16)) (thn (again T [0,1,6,7,11] [6,7] yb4 (zbd 0 (thn (aw T (A q18 17 .ret) (zan H [.t 8,.t 9,.t 10])) (zan H [.t 8,.t 9,.t 10])))) (zbd 0 (thn (aw T (A q18 17 .ret) (zan H [.t 8,.t 9,.t 10])) (zan H [.t 8,.t 9,.t 10]))))) (thn (again T [0,1,6,7,11] [6,7] yb4 (zbd 0 (thn (aw T (A q18 17 .ret) (zan H [.t 8,.t 9,.t 10])) (zan H [.t 8,.t 9,.t 10])))) (zbd 0 (thn (aw T (A q18 17 .ret) (zan H [.t 8,.t 9,.t 10])) (zan H [.t 8,.t 9,.t 10]))))))) ⟨⟨84,[(0,.v x0),(1,.v x1),(6,.lp 6 0),(7,.lp 7 0),(11,.v x11),(12,.v x12),(15,.lp 15 0),(17,.v x17),(18,.v x18),(19,.v x19)]⟩,[(6,v6),(7,v7),(15,v15)],h,[]⟩
@[go_sem]def g_ref12_Leq_0(H h x0 x1 x11 x12 x17 x18 x19 v6 v7 v15):=(ze4.eq_1 H h x0 x1 x11 x12 x17 x18 x19 v6 v7 v15).symm
noncomputable def zf6(H h:List AO)(x0 x1 x11:AV)(v6 v7:List AV):Option RH:=awL T [0,1,6,7,11] [6,7] yb4 (zbd 0 (thn (aw T (A q18 17 .ret) (zan H [.t 8,.t 9,.t 10])) (zan H [.t 8,.t 9,.t 10]))) ⟨⟨84,[(0,.v x0),(1,.v x1),(6,.lp 6 0),(7,.lp 7 0),(11,.v x11)]⟩,[(6,v6),(7,v7)],h,[]⟩
@[go_sem]def g_ref12_Leq_1(H h x0 x1 x11 v6 v7):=(zf6.eq_1 H h x0 x1 x11 v6 v7).symm
theorem t19:T (zof)=some e19:=by kernel_rfl
@[go_sem]def al19_0:=@zaa T _ _ l19_0.eq_1
@[go_sem]def a19:=@zaa T _ _ c19.eq_1
def z5b(a0:AV)(H:List AO):=ff (vs:=[a0]) t19 rfl H
noncomputable def zh4(H h:List AO)(x0 x3 x4:AV):Option RH:=awL T [0,3,4] [] l19_0 (zbd 0 (thn (aw T (A q19 6 .ret) (zan H [.t 2])) (zan H [.t 2]))) ⟨⟨27,[(0,.v x0),(3,.v x3),(4,.v x4)]⟩,[],h,[]⟩
@[go_sem]def g_law16_Env_0(H h x0 x3 x4):=(zh4.eq_1 H h x0 x3 x4).symm
theorem t20:T (zms)=some e20:=by kernel_rfl
@[go_sem]def al20_0:=@zaa T _ _ l20_0.eq_1
@[go_sem]def a20:=@zaa T _ _ c20.eq_1
def z2t(a0 a1 a2:AV)(H:List AO):=ff (vs:=[a0,a1,a2]) t20 rfl H
noncomputable def zi7(H h:List AO)(x0 x1 x7 x8:AV):Option RH:=awL T [0,1,7,8] [] l20_0 (zbd 0 (thn (aw T (A q20 6 .ret) (zan H [.t 6])) (zan H [.t 6]))) ⟨⟨28,[(0,.v x0),(1,.v x1),(7,.v x7),(8,.v x8)]⟩,[],h,[]⟩
@[go_sem]def g_law12_Cons_0(H h x0 x1 x7 x8):=(zi7.eq_1 H h x0 x1 x7 x8).symm
theorem t21:T (zde)=some e21:=by kernel_rfl
@[go_sem]def al21_0:=@zaa T _ _ l21_0.eq_1
@[go_sem]def a21:=@zaa T _ _ c21.eq_1
def zsx(a0 a1 a2:AV)(H:List AO):=ff (vs:=[a0,a1,a2]) t21 rfl H
noncomputable def zi6(H h:List AO)(x0 x9:AV)(v6 v8:List AV):Option RH:=awL T [0,6,8,9] [6,8] l21_0 (zbd 1 (thn (aw T (A q21 14 .ret) (zbd 0 (thn (aw T (A q21 21 .ret) (zan H [.c 4 true 6])) (zan H [.c 4 true 6])))) (zbd 0 (thn (aw T (A q21 21 .ret) (zan H [.c 4 true 6])) (zan H [.c 4 true 6]))))) ⟨⟨118,[(0,.v x0),(6,.lp 6 0),(8,.lp 8 0),(9,.v x9)]⟩,[(6,v6),(8,v8)],h,[]⟩
@[go_sem]def g_law13_Term_0(H h x0 x9 v6 v8):=(zi6.eq_1 H h x0 x9 v6 v8).symm
theorem t22:T (zin)=some e22:=by kernel_rfl
@[go_sem]def al22_0:=@zaa T _ _ l22_0.eq_1
@[go_sem]def al22_1:=@zaa T _ _ yhc.eq_1
@[go_sem]def a22:=@zaa T _ _ c22.eq_1
def zzy(a0 a1:AV)(H:List AO):=ff (vs:=[a0,a1]) t22 rfl H
noncomputable def zh3(H h:List AO)(x6:AV)(v2 v3 v4 v5:List AV):Option RH:=awL T [2,3,4,5,6] [2,3,4,5] l22_0 (zbd 0 (thn (aw T (.seq (A q22 9 (.block 2 (.loop [2,3,4,5,8] [2,3,4,5] yhc))) (A q22 13 .ret)) (zan H [.c 4 true 4])) (zan H [.c 4 true 4]))) ⟨⟨55,[(2,.lp 2 0),(3,.lp 3 0),(4,.lp 4 0),(5,.lp 5 0),(6,.v x6)]⟩,[(2,v2),(3,v3),(4,v4),(5,v5)],h,[]⟩
@[go_sem]def g_law17_plain_0(H h x6 v2 v3 v4 v5):=(zh3.eq_1 H h x6 v2 v3 v4 v5).symm
noncomputable def zh2(H h:List AO)(x8:AV)(v2 v3 v4 v5:List AV):Option RH:=awL T [2,3,4,5,8] [2,3,4,5] yhc (zbd 2 (thn (aw T (A q22 13 .ret) (zan H [.c 4 true 4])) (zan H [.c 4 true 4]))) ⟨⟨55,[(2,.lp 2 0),(3,.lp 3 0),(4,.lp 4 0),(5,.lp 5 0),(8,.v x8)]⟩,[(2,v2),(3,v3),(4,v4),(5,v5)],h,[]⟩
@[go_sem]def g_law17_plain_1(H h x8 v2 v3 v4 v5):=(zh2.eq_1 H h x8 v2 v3 v4 v5).symm
theorem t23:T (zmg)=some e23:=by kernel_rfl
@[go_sem]def a23:=@zaa T _ _ c23.eq_1
def z2c(a0 a1 a2:AV)(H:List AO):=ff (vs:=[a0,a1,a2]) t23 rfl H
theorem t24:T (zk3)=some e24:=by kernel_rfl
@[go_sem]def a24:=@zaa T _ _ c24.eq_1
def z5c(a0:AV)(H:List AO):=ff (vs:=[a0]) t24 rfl H
theorem t25:T (zah)=some e25:=by kernel_rfl
@[go_sem]def a25:=@zaa T _ _ c25.eq_1
def zra(a0 a1:AV)(H:List AO):=ff (vs:=[a0,a1]) t25 rfl H
theorem t26:T (zkd)=some e26:=by kernel_rfl
@[go_sem]def al26_0:=@zaa T _ _ l26_0.eq_1
@[go_sem]def a26:=@zaa T _ _ c26.eq_1
def z2n(a0:AV)(H:List AO):=ff (vs:=[a0]) t26 rfl H
noncomputable def zi5(H h:List AO)(x4:AV)(v1 v2 v3:List AV):Option RH:=awL T [1,2,3,4] [1,2,3] l26_0 (zbd 0 (thn (aw T (A q26 8 .ret) (zan H [.c 4 true 2])) (zan H [.c 4 true 2]))) ⟨⟨38,[(1,.lp 1 0),(2,.lp 2 0),(3,.lp 3 0),(4,.v x4)]⟩,[(1,v1),(2,v2),(3,v3)],h,[]⟩
@[go_sem]def g_law17_succ_0(H h x4 v1 v2 v3):=(zi5.eq_1 H h x4 v1 v2 v3).symm
theorem t27:T (zit)=some e27:=by kernel_rfl
@[go_sem]def a27:=@zaa T _ _ c27.eq_1
def z2w(a0:AV)(H:List AO):=ff (vs:=[a0]) t27 rfl H
theorem t32:T (zig)=some e32:=by kernel_rfl
@[go_sem]def a32:=@zaa T _ _ c32.eq_1
def zzg(a0:AV)(H:List AO):=ff (vs:=[a0]) t32 rfl H
theorem t34:T (zgy)=some e34:=by kernel_rfl
@[go_sem]def a34:=@zaa T _ _ c34.eq_1
def z19(a0 a1 a2 a3:AV)(H:List AO):=ff (vs:=[a0,a1,a2,a3]) t34 rfl H
theorem t35:T (zrc)=some e35:=by kernel_rfl
@[go_sem]def a35:=@zaa T _ _ c35.eq_1
def z83(a0 a1:AV)(H:List AO):=ffK (vs:=[a0,a1]) t35 rfl H
theorem t36:T (za8)=some e36:=by kernel_rfl
@[go_sem]def a36:=@zaa T _ _ c36.eq_1
def zaj(a0 a1 a2 a3:AV)(H:List AO):=ff (vs:=[a0,a1,a2,a3]) t36 rfl H
theorem t37:T (zgu)=some e37:=by kernel_rfl
@[go_sem]def al37_0:=@zaa T _ _ l37_0.eq_1
@[go_sem]def a37:=@zaa T _ _ c37.eq_1
def zzd(a0 a1 a2 a3 a4:AV)(H:List AO):=ff (vs:=[a0,a1,a2,a3,a4]) t37 rfl H
noncomputable def zhr(H h:List AO)(x1 x2 x3 x4 x11:AV)(v5:List AV):Option RH:=awL T [1,2,3,4,5,11] [5] l37_0 (zbd 0 (thn (aw T (A q37 8 .ret) (zan H [.t 10])) (zan H [.t 10]))) ⟨⟨55,[(1,.v x1),(2,.v x2),(3,.v x3),(4,.v x4),(5,.lp 5 0),(11,.v x11)]⟩,[(5,v5)],h,[]⟩
@[go_sem]def g_ref13_right_0(H h x1 x2 x3 x4 x11 v5):=(zhr.eq_1 H h x1 x2 x3 x4 x11 v5).symm
theorem t38:T (zkt)=some e38:=by kernel_rfl
@[go_sem]def al38_0:=@zaa T _ _ l38_0.eq_1
@[go_sem]def a38:=@zaa T _ _ c38.eq_1
def zzj(a0 a1:AV)(H:List AO):=ff (vs:=[a0,a1]) t38 rfl H
noncomputable def zhu(H h:List AO)(x0 x1 x5:AV):Option RH:=awL T [0,1,5] [] l38_0 (zbd 0 (thn (aw T (A q38 6 .ret) (zan H [.t 4])) (zan H [.t 4]))) ⟨⟨41,[(0,.v x0),(1,.v x1),(5,.v x5)]⟩,[],h,[]⟩
@[go_sem]def g_ref12_Right_0(H h x0 x1 x5):=(zhu.eq_1 H h x0 x1 x5).symm
theorem t39:T (zeh)=some e39:=by kernel_rfl
@[go_sem]def a39:=@zaa T _ _ c39.eq_1
def zzr(a0 a1 a2:AV)(H:List AO):=ff (vs:=[a0,a1,a2]) t39 rfl H
theorem t40:T (zmk)=some e40:=by kernel_rfl
@[go_sem]def al40_0:=@zaa T _ _ l40_0.eq_1
@[go_sem]def a40:=@zaa T _ _ c40.eq_1
def z2g(a0 a1:AV)(H:List AO):=ff (vs:=[a0,a1]) t40 rfl H
noncomputable def zi2(H h:List AO)(x0 x1 x5 x6:AV):Option RH:=awL T [0,1,5,6] [] l40_0 (zbd 0 (thn (aw T (A q40 7 .ret) (zan H [.t 4])) (zan H [.t 4]))) ⟨⟨21,[(0,.v x0),(1,.v x1),(5,.v x5),(6,.v x6)]⟩,[],h,[]⟩
@[go_sem]def g_ref07_Case_0(H h x0 x1 x5 x6):=(zi2.eq_1 H h x0 x1 x5 x6).symm
theorem t41:T (zea)=some e41:=by kernel_rfl
@[go_sem]def al41_0:=@zaa T _ _ l41_0.eq_1
@[go_sem]def a41:=@zaa T _ _ c41.eq_1
def zve(a0 a1:AV)(H:List AO):=ff (vs:=[a0,a1]) t41 rfl H
noncomputable def zf7(H h:List AO)(x7:AV)(v4 v6:List AV):Option RH:=awL T [4,6,7] [4,6] l41_0 (zbd 0 (thn (aw T (A q41 9 .ret) (zan H [.c 2 true 4,.t 5])) (zan H [.c 2 true 4,.t 5]))) ⟨⟨43,[(4,.lp 4 0),(6,.lp 6 0),(7,.v x7)]⟩,[(4,v4),(6,v6)],h,[]⟩
@[go_sem]def g_ref06_Flatten_0(H h x7 v4 v6):=(zf7.eq_1 H h x7 v4 v6).symm
theorem t42:T (zfp)=some e42:=by kernel_rfl
@[go_sem]def al42_0:=@zaa T _ _ l42_0.eq_1
@[go_sem]def a42:=@zaa T _ _ c42.eq_1
def zzk(a0:AV)(H:List AO):=ff (vs:=[a0]) t42 rfl H
noncomputable def zhv(H h:List AO)(x3 x4:AV)(v1:List AV):Option RH:=awL T [1,3,4] [1] l42_0 (zbd 0 (thn (aw T (A q42 7 .ret) (zan H [.t 2])) (zan H [.t 2]))) ⟨⟨34,[(1,.lp 1 0),(3,.v x3),(4,.v x4)]⟩,[(1,v1)],h,[]⟩
@[go_sem]def g_ref12_Atoms_0(H h x3 x4 v1):=(zhv.eq_1 H h x3 x4 v1).symm
theorem t43:T (zhd)=some e43:=by kernel_rfl
@[go_sem]def al43_0:=@zaa T _ _ l43_0.eq_1
@[go_sem]def al43_1:=@zaa T _ _ l43_1.eq_1
@[go_sem]def al43_2:=@zaa T _ _ z8o.eq_1
@[go_sem]def a43:=@zaa T _ _ c43.eq_1
def zvc(a0 a1:AV)(H:List AO):=ff (vs:=[a0,a1]) t43 rfl H
noncomputable def zeu(H h:List AO)(x0 x1 x5 x6:AV):Option RH:=awL T [0,1,5,6] [] l43_0 (zbd 0 (thn (aw T (.seq (A q43 7 (.block 2 (.loop [0,1,5,7] [] z8o))) (A q43 17 .ret)) (zan H [.t 4])) (zan H [.t 4]))) ⟨⟨79,[(0,.v x0),(1,.v x1),(5,.v x5),(6,.v x6)]⟩,[],h,[]⟩
@[go_sem]def g_ref12_clauses_0(H h x0 x1 x5 x6):=(zeu.eq_1 H h x0 x1 x5 x6).symm
noncomputable def zf5(H h:List AO)(x0 x1 x5 x7 x12 x13:AV)(v10:List AV):Option RH:=awL T [0,1,5,7,10,12,13] [10] l43_1 (zbd 4 (zbd 3 (thn (aw T (.reg (R q43 16)) (thn (again T [0,1,5,7] [] z8o (zbd 2 (thn (aw T (A q43 17 .ret) (zan H [.t 4])) (zan H [.t 4])))) (zbd 2 (thn (aw T (A q43 17 .ret) (zan H [.t 4])) (zan H [.t 4]))))) (thn (again T [0,1,5,7] [] z8o (zbd 2 (thn (aw T (A q43 17 .ret) (zan H [.t 4])) (zan H [.t 4])))) (zbd 2 (thn (aw T (A q43 17 .ret) (zan H [.t 4])) (zan H [.t 4]))))))) ⟨⟨79,[(0,.v x0),(1,.v x1),(5,.v x5),(7,.v x7),(10,.lp 10 0),(12,.v x12),(13,.v x13)]⟩,[(10,v10)],h,[]⟩
@[go_sem]def g_ref12_clauses_1(H h x0 x1 x5 x7 x12 x13 v10):=(zf5.eq_1 H h x0 x1 x5 x7 x12 x13 v10).symm
noncomputable def zdw(H h:List AO)(x0 x1 x5 x7:AV):Option RH:=awL T [0,1,5,7] [] z8o (zbd 2 (thn (aw T (A q43 17 .ret) (zan H [.t 4])) (zan H [.t 4]))) ⟨⟨79,[(0,.v x0),(1,.v x1),(5,.v x5),(7,.v x7)]⟩,[],h,[]⟩
@[go_sem]def g_ref12_clauses_2(H h x0 x1 x5 x7):=(zdw.eq_1 H h x0 x1 x5 x7).symm
theorem t44:T (zhe)=some e44:=by kernel_rfl
@[go_sem]def al44_0:=@zaa T _ _ l44_0.eq_1
@[go_sem]def a44:=@zaa T _ _ c44.eq_1
def zoq(a0 a1 a2 a3:AV)(H:List AO):=ff (vs:=[a0,a1,a2,a3]) t44 rfl H
noncomputable def zev(H h:List AO)(x2 x3 x10 x11:AV)(v5:List AV):Option RH:=awL T [2,3,5,10,11] [5] l44_0 (zbd 0 (thn (aw T (A q44 6 (.seq (A q44 7 (.cond (.t 53) (A q44 8 .ret) .skip)) (A q44 9 .ret))) (zan H [.t 8,.t 9])) (zan H [.t 8,.t 9]))) ⟨⟨57,[(2,.v x2),(3,.v x3),(5,.lp 5 0),(10,.v x10),(11,.v x11)]⟩,[(5,v5)],h,[]⟩
@[go_sem]def g_ref12_against_0(H h x2 x3 x10 x11 v5):=(zev.eq_1 H h x2 x3 x10 x11 v5).symm
theorem t45:T (zke)=some e45:=by kernel_rfl
@[go_sem]def al45_0:=@zaa T _ _ l45_0.eq_1
@[go_sem]def a45:=@zaa T _ _ c45.eq_1
def z2q(a0 a1:AV)(H:List AO):=ff (vs:=[a0,a1]) t45 rfl H
noncomputable def zei(H h:List AO)(x0 x1 x6:AV)(v4 v5:List AV):Option RH:=awL T [0,1,4,5,6] [4,5] l45_0 (zbd 0 (thn (aw T (A q45 6 (.seq (A q45 7 (.cond (.t 38) (A q45 8 (.reg (R q45 9))) .skip)) (A q45 10 .ret))) (zan H [.c 11 true 4])) (zan H [.c 11 true 4]))) ⟨⟨47,[(0,.v x0),(1,.v x1),(4,.lp 4 0),(5,.lp 5 0),(6,.v x6)]⟩,[(4,v4),(5,v5)],h,[]⟩
@[go_sem]def g_law16_Decl_0(H h x0 x1 x6 v4 v5):=(zei.eq_1 H h x0 x1 x6 v4 v5).symm
theorem t46:T (zad)=some e46:=by kernel_rfl
@[go_sem]def a46:=@zaa T _ _ c46.eq_1
def zk9(a0 a1 a2 a3:AV)(H:List AO):=ff (vs:=[a0,a1,a2,a3]) t46 rfl H
theorem t47:T (zf1)=some e47:=by kernel_rfl
@[go_sem]def al47_0:=@zaa T _ _ l47_0.eq_1
@[go_sem]def a47:=@zaa T _ _ c47.eq_1
def zvh(a0:AV)(H:List AO):=ff (vs:=[a0]) t47 rfl H
noncomputable def zf9(H h:List AO)(x3:AV)(v1:List AV):Option RH:=awL T [1,3] [1] l47_0 (zbd 0 (thn (aw T (A q47 6 .ret) (zan H [.t 2])) (zan H [.t 2]))) ⟨⟨20,[(1,.lp 1 0),(3,.v x3)]⟩,[(1,v1)],h,[]⟩
@[go_sem]def g_law17_unknown_0(H h x3 v1):=(zf9.eq_1 H h x3 v1).symm
theorem t48:T (zj9)=some e48:=by kernel_rfl
@[go_sem]def al48_0:=@zaa T _ _ l48_0.eq_1
@[go_sem]def a48:=@zaa T _ _ c48.eq_1
def z2a(a0 a1 a2:AV)(H:List AO):=ff (vs:=[a0,a1,a2]) t48 rfl H
noncomputable def zi0(H h:List AO)(x1 x2 x8:AV)(v3 v6 v7:List AV):Option RH:=awL T [1,2,3,6,7,8] [3,6,7] l48_0 (zbd 0 (thn (aw T (A q48 8 .ret) (zan H [.c 4 true 6])) (zan H [.c 4 true 6]))) ⟨⟨56,[(1,.v x1),(2,.v x2),(3,.lp 3 0),(6,.lp 6 0),(7,.lp 7 0),(8,.v x8)]⟩,[(3,v3),(6,v6),(7,v7)],h,[]⟩
@[go_sem]def g_ref13_lift_0(H h x1 x2 x8 v3 v6 v7):=(zi0.eq_1 H h x1 x2 x8 v3 v6 v7).symm
theorem t49:T (zje)=some e49:=by kernel_rfl
@[go_sem]def al49_0:=@zaa T _ _ l49_0.eq_1
@[go_sem]def a49:=@zaa T _ _ c49.eq_1
def zwe(a0:AV)(H:List AO):=ff (vs:=[a0]) t49 rfl H
noncomputable def zgo(H h:List AO)(x0 x6 x7 x8:AV):Option RH:=awL T [0,6,7,8] [] l49_0 (zbd 0 (thn (aw T (A q49 10 .ret) (zan H [.t 2])) (zan H [.t 2]))) ⟨⟨48,[(0,.v x0),(6,.v x6),(7,.v x7),(8,.v x8)]⟩,[],h,[]⟩
@[go_sem]def g_reduce_Right_0(H h x0 x6 x7 x8):=(zgo.eq_1 H h x0 x6 x7 x8).symm
theorem t50:T (zgr)=some e50:=by kernel_rfl
@[go_sem]def a50:=@zaa T _ _ c50.eq_1
def zy5(a0 a1:AV)(H:List AO):=ff (vs:=[a0,a1]) t50 rfl H
theorem t60:T (zc4)=some e60:=by kernel_rfl
@[go_sem]def a60:=@zaa T _ _ c60.eq_1
def ztc(a0 a1:AV)(H:List AO):=ff (vs:=[a0,a1]) t60 rfl H
theorem t61:T (zai)=some e61:=by kernel_rfl
@[go_sem]def a61:=@zaa T _ _ c61.eq_1
def zot(a0:AV)(H:List AO):=ff (vs:=[a0]) t61 rfl H
theorem t62:T (zax)=some e62:=by kernel_rfl
@[go_sem]def al62_0:=@zaa T _ _ l62_0.eq_1
@[go_sem]def zwm:=@zaa T _ _ za3.eq_1
@[go_sem]theorem zlv:FC.okd za3=true:=by kernel_rfl
@[go_sem]def zwl:=@zaa T _ _ za1.eq_1
@[go_sem]theorem zlu:FC.okd za1=true:=by kernel_rfl
@[go_sem]def a62:=@zaa T _ _ c62.eq_1
def zor(a0 a1:AV)(H:List AO):=ff (vs:=[a0,a1]) t62 rfl H
noncomputable def zao(H h:List AO)(ds:List Nat)(x0 x5 x6:AV)(v4:List AV):Option RH:=awL T [0,4,5,6] [4] l62_0 (zbd 0 (thn (aw T (.seq (A q62 6 (.block 2 (.rf (.t 43) [44,45] [5] za3 za1))) (A q62 9 .ret)) (zan H [.c 4 true 4])) (zan H [.c 4 true 4]))) ⟨⟨60,[(0,.v x0),(4,.lp 4 0),(5,.v x5),(6,.v x6)]⟩,[(4,v4)],h,ds⟩
@[go_sem]def g_reduce_Machine_Head_0(H h ds x0 x5 x6 v4):=(zao.eq_1 H h ds x0 x5 x6 v4).symm
theorem t63:T (zc3)=some e63:=by kernel_rfl
@[go_sem]def a63:=@zaa T _ _ c63.eq_1
def zla(a0 a1:AV)(H:List AO):=ff (vs:=[a0,a1]) t63 rfl H
theorem t64:T (zov)=some e64:=by kernel_rfl
@[go_sem]def a64:=@zaa T _ _ c64.eq_1
def z5f(H:List AO):=ff (vs:=[]) t64 rfl H
theorem t65:T (zmf)=some e65:=by kernel_rfl
@[go_sem]def a65:=@zaa T _ _ c65.eq_1
def z2b(a0:AV)(H:List AO):=ff (vs:=[a0]) t65 rfl H
theorem t66:T (zkr)=some e66:=by kernel_rfl
@[go_sem]def al66_0:=@zaa T _ _ l66_0.eq_1
@[go_sem]def a66:=@zaa T _ _ c66.eq_1
def zze(a0 a1 a2 a3:AV)(H:List AO):=ff (vs:=[a0,a1,a2,a3]) t66 rfl H
noncomputable def zhs(H h:List AO)(x1 x2 x3 x9:AV)(v4:List AV):Option RH:=awL T [1,2,3,4,9] [4] l66_0 (zbd 0 (thn (aw T (.seq (A q66 6 (.block 2 (A q66 7 (.cond (.t 28) (A q66 8 .ret) (A q66 9 (.cond (.t 45) (A q66 10 .ret) (A q66 11 (.cond (.t 56) (A q66 12 .ret) .skip)))))))) (A q66 13 .ret)) (zan H [.t 8])) (zan H [.t 8]))) ⟨⟨81,[(1,.v x1),(2,.v x2),(3,.v x3),(4,.lp 4 0),(9,.v x9)]⟩,[(4,v4)],h,[]⟩
@[go_sem]def g_ref13_named_0(H h x1 x2 x3 x9 v4):=(zhs.eq_1 H h x1 x2 x3 x9 v4).symm
theorem t67:T (zif)=some e67:=by kernel_rfl
@[go_sem]def a67:=@zaa T _ _ c67.eq_1
def zzf(a0 a1:AV)(H:List AO):=ff (vs:=[a0,a1]) t67 rfl H
theorem t68:T (zik)=some e68:=by kernel_rfl
@[go_sem]def al68_0:=@zaa T _ _ l68_0.eq_1
@[go_sem]def a68:=@zaa T _ _ c68.eq_1
def zzs(a0 a1:AV)(H:List AO):=ff (vs:=[a0,a1]) t68 rfl H
noncomputable def zh0(H h:List AO)(x1 x5 x6:AV)(v2:List AV):Option RH:=awL T [1,2,5,6] [2] l68_0 (zbd 0 (thn (aw T (A q68 6 .ret) (zan H [.t 4])) (zan H [.t 4]))) ⟨⟨31,[(1,.v x1),(2,.lp 2 0),(5,.v x5),(6,.v x6)]⟩,[(2,v2)],h,[]⟩
@[go_sem]def g_ref02_Nodes_0(H h x1 x5 x6 v2):=(zh0.eq_1 H h x1 x5 x6 v2).symm
theorem t69:T (zij)=some e69:=by kernel_rfl
@[go_sem]def al69_0:=@zaa T _ _ l69_0.eq_1
@[go_sem]def a69:=@zaa T _ _ c69.eq_1
def zzq(a0 a1 a2 a3:AV)(H:List AO):=ff (vs:=[a0,a1,a2,a3]) t69 rfl H
noncomputable def zhz(H h:List AO)(x1 x2 x3 x9:AV)(v4:List AV):Option RH:=awL T [1,2,3,4,9] [4] l69_0 (zbd 1 (thn (aw T (A q69 13 .ret) (zan H [.t 8])) (zan H [.t 8]))) ⟨⟨66,[(1,.v x1),(2,.v x2),(3,.v x3),(4,.lp 4 0),(9,.v x9)]⟩,[(4,v4)],h,[]⟩
@[go_sem]def g_ref02_right_0(H h x1 x2 x3 x9 v4):=(zhz.eq_1 H h x1 x2 x3 x9 v4).symm
theorem t70:T (zgd)=some e70:=by kernel_rfl
@[go_sem]def al70_0:=@zaa T _ _ l70_0.eq_1
@[go_sem]def a70:=@zaa T _ _ c70.eq_1
def z48(a0 a1:AV)(H:List AO):=ff (vs:=[a0,a1]) t70 rfl H
noncomputable def zj5(H h:List AO)(x7:AV)(v4 v5 v6:List AV):Option RH:=awL T [4,5,6,7] [4,5,6] l70_0 (zbd 1 (thn (aw T (A q70 12 .ret) (zbd 0 (thn (aw T (A q70 25 .ret) (zan H [.c 2 true 4])) (zan H [.c 2 true 4])))) (zbd 0 (thn (aw T (A q70 25 .ret) (zan H [.c 2 true 4])) (zan H [.c 2 true 4]))))) ⟨⟨102,[(4,.lp 4 0),(5,.lp 5 0),(6,.lp 6 0),(7,.v x7)]⟩,[(4,v4),(5,v5),(6,v6)],h,[]⟩
@[go_sem]def g_ref06_raw_0(H h x7 v4 v5 v6):=(zj5.eq_1 H h x7 v4 v5 v6).symm
theorem t71:T (zkv)=some e71:=by kernel_rfl
@[go_sem]def a71:=@zaa T _ _ c71.eq_1
def zzm(a0 a1:AV)(H:List AO):=ff (vs:=[a0,a1]) t71 rfl H
theorem t72:T (zja)=some e72:=by kernel_rfl
@[go_sem]def al72_0:=@zaa T _ _ l72_0.eq_1
@[go_sem]def a72:=@zaa T _ _ c72.eq_1
def zv9(a0 a1:AV)(H:List AO):=ff (vs:=[a0,a1]) t72 rfl H
noncomputable def zgl(H h:List AO)(x0 x1 x5 x6:AV):Option RH:=awL T [0,1,5,6] [] l72_0 (zbd 0 (thn (aw T (A q72 9 .ret) (zan H [.t 4])) (zan H [.t 4]))) ⟨⟨32,[(0,.v x0),(1,.v x1),(5,.v x5),(6,.v x6)]⟩,[],h,[]⟩
@[go_sem]def g_ref12_values_0(H h x0 x1 x5 x6):=(zgl.eq_1 H h x0 x1 x5 x6).symm
theorem t73:T (zba)=some e73:=by kernel_rfl
@[go_sem]def al73_0:=@zaa T _ _ l73_0.eq_1
@[go_sem]def a73:=@zaa T _ _ c73.eq_1
def zpv(a0 a1 a2 a3 a4:AV)(H:List AO):=ff (vs:=[a0,a1,a2,a3,a4]) t73 rfl H
noncomputable def zgp(H h:List AO)(x0 x2 x14:AV)(v10 v13:List AV):Option RH:=awL T [0,2,10,13,14] [10,13] l73_0 (zbd 1 (thn (aw T (A q73 13 .ret) (zbd 0 (thn (aw T (A q73 22 .ret) (zan H [.c 4 true 10])) (zan H [.c 4 true 10])))) (zbd 0 (thn (aw T (A q73 22 .ret) (zan H [.c 4 true 10])) (zan H [.c 4 true 10]))))) ⟨⟨152,[(0,.v x0),(2,.v x2),(10,.lp 10 0),(13,.lp 13 0),(14,.v x14)]⟩,[(10,v10),(13,v13)],h,[]⟩
@[go_sem]def g_law16_closed_0(H h x0 x2 x14 v10 v13):=(zgp.eq_1 H h x0 x2 x14 v10 v13).symm
theorem t74:T (zkm)=some e74:=by kernel_rfl
@[go_sem]def a74:=@zaa T _ _ c74.eq_1
def z44(a0 a1:AV)(H:List AO):=ff (vs:=[a0,a1]) t74 rfl H
theorem t75:T (zkc)=some e75:=by kernel_rfl
@[go_sem]def a75:=@zaa T _ _ c75.eq_1
def z2k(a0 a1 a2:AV)(H:List AO):=ff (vs:=[a0,a1,a2]) t75 rfl H
theorem t76:T (zfy)=some e76:=by kernel_rfl
@[go_sem]def a76:=@zaa T _ _ c76.eq_1
def zu9(a0 a1:AV)(H:List AO):=ff (vs:=[a0,a1]) t76 rfl H
theorem t77:T (zdi)=some e77:=by kernel_rfl
@[go_sem]def a77:=@zaa T _ _ c77.eq_1
def zzx(a0 a1 a2:AV)(H:List AO):=ff (vs:=[a0,a1,a2]) t77 rfl H
theorem t78:T (zbv)=some e78:=by kernel_rfl
@[go_sem]def a78:=@zaa T _ _ c78.eq_1
def zl2(a0 a1:AV)(H:List AO):=ff (vs:=[a0,a1]) t78 rfl H
theorem t88:T (zj8)=some e88:=by kernel_rfl
@[go_sem]def al88_0:=@zaa T _ _ l88_0.eq_1
@[go_sem]def a88:=@zaa T _ _ c88.eq_1
def z17(a0 a1:AV)(H:List AO):=ff (vs:=[a0,a1]) t88 rfl H
noncomputable def ziz(H h:List AO)(x1 x5 x9 x10 x11:AV):Option RH:=awL T [1,5,9,10,11] [] l88_0 (zbd 0 (thn (aw T (A q88 8 .ret) (zan H [.t 4])) (zan H [.t 4]))) ⟨⟨27,[(1,.v x1),(5,.v x5),(9,.v x9),(10,.v x10),(11,.v x11)]⟩,[],h,[]⟩
@[go_sem]def g_term_parts_0(H h x1 x5 x9 x10 x11):=(ziz.eq_1 H h x1 x5 x9 x10 x11).symm
theorem t89:T (zep)=some e89:=by kernel_rfl
@[go_sem]def al89_0:=@zaa T _ _ l89_0.eq_1
@[go_sem]def a89:=@zaa T _ _ c89.eq_1
def zr9(a0 a1 a2:AV)(H:List AO):=ff (vs:=[a0,a1,a2]) t89 rfl H
noncomputable def ze3(H h:List AO)(x2 x3 x48 x49 x50:AV)(v4:List AV):Option RH:=awL T [2,3,4,48,49,50] [4] l89_0 (zbd 0 (thn (aw T (A q89 13 .ret) (zan H [.t 6])) (zan H [.t 6]))) ⟨⟨70,[(2,.v x2),(3,.v x3),(4,.lp 4 0),(48,.v x48),(49,.v x49),(50,.v x50)]⟩,[(4,v4)],h,[]⟩
@[go_sem]def g_term_room_right_0(H h x2 x3 x48 x49 x50 v4):=(ze3.eq_1 H h x2 x3 x48 x49 x50 v4).symm
theorem t90:T (zbr)=some e90:=by kernel_rfl
@[go_sem]def a90:=@zaa T _ _ c90.eq_1
def zos(a0 a1:AV)(H:List AO):=ff (vs:=[a0,a1]) t90 rfl H
theorem t91:T (zjd)=some e91:=by kernel_rfl
@[go_sem]def a91:=@zaa T _ _ c91.eq_1
def zwc(H:List AO):=ff (vs:=[]) t91 rfl H
theorem t92:T (zdo)=some e92:=by kernel_rfl
@[go_sem]def a92:=@zaa T _ _ c92.eq_1
def znz(a0:AV)(H:List AO):=ff (vs:=[a0]) t92 rfl H
theorem t93:T (zb2)=some e93:=by kernel_rfl
@[go_sem]def a93:=@zaa T _ _ c93.eq_1
def zpp(a0 a1 a2:AV)(H:List AO):=ff (vs:=[a0,a1,a2]) t93 rfl H
theorem t94:T (zn3)=some e94:=by kernel_rfl
@[go_sem]def a94:=@zaa T _ _ c94.eq_1
def z46(a0 a1 a2:AV)(H:List AO):=ff (vs:=[a0,a1,a2]) t94 rfl H
theorem t95:T (zbn)=some e95:=by kernel_rfl
@[go_sem]def a95:=@zaa T _ _ c95.eq_1
def zmz(a0 a1 a2 a3:AV)(H:List AO):=ff (vs:=[a0,a1,a2,a3]) t95 rfl H
theorem t96:T (zb3)=some e96:=by kernel_rfl
@[go_sem]def a96:=@zaa T _ _ c96.eq_1
def zjw(a0 a1 a2 a3:AV)(H:List AO):=ff (vs:=[a0,a1,a2,a3]) t96 rfl H
theorem t97:T (zbs)=some e97:=by kernel_rfl
@[go_sem]def al97_0:=@zaa T _ _ l97_0.eq_1
@[go_sem]def a97:=@zaa T _ _ c97.eq_1
def zou(a0 a1 a2 a3:AV)(H:List AO):=ff (vs:=[a0,a1,a2,a3]) t97 rfl H
noncomputable def zbx(H h:List AO)(x0 x12 x13 x14:AV)(v6:List AV):Option RH:=awL T [0,6,12,13,14] [6] l97_0 (zbd 0 (thn (aw T (A q97 7 .ret) (zan H [.t 8])) (zan H [.t 8]))) ⟨⟨40,[(0,.v x0),(6,.lp 6 0),(12,.v x12),(13,.v x13),(14,.v x14)]⟩,[(6,v6)],h,[]⟩
@[go_sem]def g_conv_Machine_levels_0(H h x0 x12 x13 x14 v6):=(zbx.eq_1 H h x0 x12 x13 x14 v6).symm
theorem t98:T (zcc)=some e98:=by kernel_rfl
@[go_sem]def a98:=@zaa T _ _ c98.eq_1
def zlb(a0 a1 a2 a3:AV)(H:List AO):=ff (vs:=[a0,a1,a2,a3]) t98 rfl H
theorem t99:T (zcu)=some e99:=by kernel_rfl
@[go_sem]def a99:=@zaa T _ _ c99.eq_1
def zlq(a0 a1 a2 a3:AV)(H:List AO):=ff (vs:=[a0,a1,a2,a3]) t99 rfl H
theorem t100:T (zml)=some e100:=by kernel_rfl
@[go_sem]def a100:=@zaa T _ _ c100.eq_1
def z2j(a0:AV)(H:List AO):=ff (vs:=[a0]) t100 rfl H
theorem t101:T (zkb)=some e101:=by kernel_rfl
@[go_sem]def al101_0:=@zaa T _ _ ycx.eq_1
@[go_sem]def a101:=@zaa T _ _ c101.eq_1
def z2i(a0 a1:AV)(H:List AO):=ff (vs:=[a0,a1]) t101 rfl H
noncomputable def zi4(H h:List AO)(x6:AV)(v2 v3 v4 v5:List AV):Option RH:=awL T [2,3,4,5,6] [2,3,4,5] ycx (zbd 0 (thn (aw T (A yj3 6 .ret) (zan H [.c 2 true 4])) (zan H [.c 2 true 4]))) ⟨⟨37,[(2,.lp 2 0),(3,.lp 3 0),(4,.lp 4 0),(5,.lp 5 0),(6,.v x6)]⟩,[(2,v2),(3,v3),(4,v4),(5,v5)],h,[]⟩
@[go_sem]def g_ref06_both_0(H h x6 v2 v3 v4 v5):=(zi4.eq_1 H h x6 v2 v3 v4 v5).symm
theorem t102:T (zjc)=some e102:=by kernel_rfl
@[go_sem]def al102_0:=@zaa T _ _ ycw.eq_1
@[go_sem]def a102:=@zaa T _ _ c102.eq_1
def zwb(a0:AV)(H:List AO):=ff (vs:=[a0]) t102 rfl H
noncomputable def zgn(H h:List AO)(x3:AV)(v1:List AV):Option RH:=awL T [1,3] [1] ycw (zbd 0 (thn (aw T (A yj2 6 .ret) (zan H [.t 2])) (zan H [.t 2]))) ⟨⟨20,[(1,.lp 1 0),(3,.v x3)]⟩,[(1,v1)],h,[]⟩
@[go_sem]def g_ref06_nought_0(H h x3 v1):=(zgn.eq_1 H h x3 v1).symm
theorem t103:T (zfd)=some e103:=by kernel_rfl
@[go_sem]def al103_0:=@zaa T _ _ ycv.eq_1
@[go_sem]def a103:=@zaa T _ _ c103.eq_1
def z2h(a0 a1:AV)(H:List AO):=ff (vs:=[a0,a1]) t103 rfl H
noncomputable def zi3(H h:List AO)(x1 x6:AV)(v4 v5:List AV):Option RH:=awL T [1,4,5,6] [4,5] ycv (zbd 0 (thn (aw T (A yj1 6 .ret) (zan H [.c 2 true 4])) (zan H [.c 2 true 4]))) ⟨⟨20,[(1,.v x1),(4,.lp 4 0),(5,.lp 5 0),(6,.v x6)]⟩,[(4,v4),(5,v5)],h,[]⟩
@[go_sem]def g_ref06_none_0(H h x1 x6 v4 v5):=(zi3.eq_1 H h x1 x6 v4 v5).symm
theorem t104:T (zii)=some e104:=by kernel_rfl
@[go_sem]def al104_0:=@zaa T _ _ ycu.eq_1
@[go_sem]def al104_1:=@zaa T _ _ z1v.eq_1
@[go_sem]def a104:=@zaa T _ _ c104.eq_1
def zzo(a0 a1:AV)(H:List AO):=ff (vs:=[a0,a1]) t104 rfl H
noncomputable def zhx(H h:List AO)(x0 x1 x5 x6:AV):Option RH:=awL T [0,1,5,6] [] ycu (zbd 2 (zbd 1 (thn (aw T (.reg (R zw3 12)) (thn (again T [0,1,5] [] z1v (zbd 0 (thn (aw T (A zw3 13 .ret) (zan H [.t 4])) (zan H [.t 4])))) (zbd 0 (thn (aw T (A zw3 13 .ret) (zan H [.t 4])) (zan H [.t 4]))))) (thn (again T [0,1,5] [] z1v (zbd 0 (thn (aw T (A zw3 13 .ret) (zan H [.t 4])) (zan H [.t 4])))) (zbd 0 (thn (aw T (A zw3 13 .ret) (zan H [.t 4])) (zan H [.t 4]))))))) ⟨⟨71,[(0,.v x0),(1,.v x1),(5,.v x5),(6,.v x6)]⟩,[],h,[]⟩
@[go_sem]def g_ref08_Right_0(H h x0 x1 x5 x6):=(zhx.eq_1 H h x0 x1 x5 x6).symm
noncomputable def zfx(H h:List AO)(x0 x1 x5:AV):Option RH:=awL T [0,1,5] [] z1v (zbd 0 (thn (aw T (A zw3 13 .ret) (zan H [.t 4])) (zan H [.t 4]))) ⟨⟨71,[(0,.v x0),(1,.v x1),(5,.v x5)]⟩,[],h,[]⟩
@[go_sem]def g_ref08_Right_1(H h x0 x1 x5):=(zfx.eq_1 H h x0 x1 x5).symm
theorem t105:T (zjb)=some e105:=by kernel_rfl
@[go_sem]def al105_0:=@zaa T _ _ yct.eq_1
@[go_sem]def al105_1:=@zaa T _ _ z1u.eq_1
@[go_sem]def a105:=@zaa T _ _ c105.eq_1
def zwa(a0 a1 a2:AV)(H:List AO):=ff (vs:=[a0,a1,a2]) t105 rfl H
noncomputable def zgm(H h:List AO)(x0 x2 x9 x10 x11 x12:AV):Option RH:=awL T [0,2,9,10,11,12] [] yct (zbd 2 (thn (aw T (.seq (A zw2 12 (.cond (.t 52) (A zw2 13 .ret) .skip)) (A zw2 14 (.cond (.t 55) (A zw2 15 .ret) .skip))) (zbd 1 (thn (again T [0,2,9,10] [] z1u (zbd 0 (zan H [.t 6,.t 7,.t 8]))) (zbd 0 (zan H [.t 6,.t 7,.t 8]))))) (zbd 1 (thn (again T [0,2,9,10] [] z1u (zbd 0 (zan H [.t 6,.t 7,.t 8]))) (zbd 0 (zan H [.t 6,.t 7,.t 8])))))) ⟨⟨58,[(0,.v x0),(2,.v x2),(9,.v x9),(10,.v x10),(11,.v x11),(12,.v x12)]⟩,[],h,[]⟩
@[go_sem]def g_ref09_rounds_0(H h x0 x2 x9 x10 x11 x12):=(zgm.eq_1 H h x0 x2 x9 x10 x11 x12).symm
noncomputable def zd7(H h:List AO)(x0 x2 x9 x10:AV):Option RH:=awL T [0,2,9,10] [] z1u (zbd 0 (zan H [.t 6,.t 7,.t 8])) ⟨⟨58,[(0,.v x0),(2,.v x2),(9,.v x9),(10,.v x10)]⟩,[],h,[]⟩
@[go_sem]def g_ref09_rounds_1(H h x0 x2 x9 x10):=(zd7.eq_1 H h x0 x2 x9 x10).symm
theorem t106:T (zkw)=some e106:=by kernel_rfl
@[go_sem]def a106:=@zaa T _ _ c106.eq_1
def zzn(a0 a1:AV)(H:List AO):=ff (vs:=[a0,a1]) t106 rfl H
theorem t107:T (zb4)=some e107:=by kernel_rfl
@[go_sem]def al107_0:=@zaa T _ _ ycs.eq_1
@[go_sem]def a107:=@zaa T _ _ c107.eq_1
def zmw(a0 a1 a2:AV)(H:List AO):=ff (vs:=[a0,a1,a2]) t107 rfl H
noncomputable def zcw(H h:List AO)(x1 x2 x15 x16 x17:AV):Option RH:=awL T [1,2,15,16,17] [] ycs (zbd 0 (thn (aw T (A z91 10 .ret) (zan H [.t 6])) (zan H [.t 6]))) ⟨⟨32,[(1,.v x1),(2,.v x2),(15,.v x15),(16,.v x16),(17,.v x17)]⟩,[],h,[]⟩
@[go_sem]def g_slices_EqualFunc_Level_0(H h x1 x2 x15 x16 x17):=(zcw.eq_1 H h x1 x2 x15 x16 x17).symm
theorem t108:T (zg2)=some e108:=by kernel_rfl
@[go_sem]def a108:=@zaa T _ _ c108.eq_1
def z2m(a0 a1:AV)(H:List AO):=ff (vs:=[a0,a1]) t108 rfl H
theorem t109:T (zc9)=some e109:=by kernel_rfl
@[go_sem]def al109_0:=@zaa T _ _ ycr.eq_1
@[go_sem]def a109:=@zaa T _ _ c109.eq_1
def znm(a0 a1 a2:AV)(H:List AO):=ff (vs:=[a0,a1,a2]) t109 rfl H
noncomputable def zc7(H h:List AO)(x1 x2 x15 x16 x17:AV):Option RH:=awL T [1,2,15,16,17] [] ycr (zbd 0 (thn (aw T (A z90 10 .ret) (zan H [.t 6])) (zan H [.t 6]))) ⟨⟨32,[(1,.v x1),(2,.v x2),(15,.v x15),(16,.v x16),(17,.v x17)]⟩,[],h,[]⟩
@[go_sem]def g_slices_EqualFunc_Term_0(H h x1 x2 x15 x16 x17):=(zc7.eq_1 H h x1 x2 x15 x16 x17).symm
theorem t110:T (zcp)=some e110:=by kernel_rfl
@[go_sem]def a110:=@zaa T _ _ c110.eq_1
def zl1(a0 a1:AV)(H:List AO):=ff (vs:=[a0,a1]) t110 rfl H
theorem t111:T (zkk)=some e111:=by kernel_rfl
@[go_sem]def z9q:=@zaa T _ _ zda.eq_1
@[go_sem]theorem zru:FC.okd zda=true:=by kernel_rfl
@[go_sem]def z9o:=@zaa T _ _ zc8.eq_1
@[go_sem]theorem zrs:FC.okd zc8=true:=by kernel_rfl
@[go_sem]def a111:=@zaa T _ _ c111.eq_1
def zy7(a0:AV)(H:List AO):=ff (vs:=[a0]) t111 rfl H
theorem t112:T (zg0)=some e112:=by kernel_rfl
@[go_sem]def a112:=@zaa T _ _ c112.eq_1
def zwd(a0 a1:AV)(H:List AO):=ff (vs:=[a0,a1]) t112 rfl H
theorem t113:T (zim)=some e113:=by kernel_rfl
@[go_sem]def al113_0:=@zaa T _ _ ycq.eq_1
@[go_sem]def a113:=@zaa T _ _ c113.eq_1
def zzu(a0 a1:AV)(H:List AO):=ff (vs:=[a0,a1]) t113 rfl H
noncomputable def zh1(H h:List AO)(x1 x5 x9 x10 x11:AV):Option RH:=awL T [1,5,9,10,11] [] ycq (zbd 0 (thn (aw T (A yfr 8 .ret) (zan H [.t 4])) (zan H [.t 4]))) ⟨⟨27,[(1,.v x1),(5,.v x5),(9,.v x9),(10,.v x10),(11,.v x11)]⟩,[],h,[]⟩
@[go_sem]def g_level_nodes_0(H h x1 x5 x9 x10 x11):=(zh1.eq_1 H h x1 x5 x9 x10 x11).symm
theorem t114:T (zil)=some e114:=by kernel_rfl
@[go_sem]def a114:=@zaa T _ _ c114.eq_1
def zzt(a0 a1 a2 a3:AV)(H:List AO):=ff (vs:=[a0,a1,a2,a3]) t114 rfl H
theorem t115:T (zdn)=some e115:=by kernel_rfl
@[go_sem]def al115_0:=@zaa T _ _ ycp.eq_1
@[go_sem]def a115:=@zaa T _ _ c115.eq_1
def zny(a0 a1:AV)(H:List AO):=ff (vs:=[a0,a1]) t115 rfl H
noncomputable def zcg(H h:List AO)(x0 x1 x7 x8:AV):Option RH:=awL T [0,1,7,8] [] ycp (zbd 0 (thn (aw T (A ygv 7 .ret) (zan H [.t 4])) (zan H [.t 4]))) ⟨⟨19,[(0,.v x0),(1,.v x1),(7,.v x7),(8,.v x8)]⟩,[],h,[]⟩
@[go_sem]def g_slices_IndexFunc_Con_0(H h x0 x1 x7 x8):=(zcg.eq_1 H h x0 x1 x7 x8).symm
theorem t119:T (zeo)=some e119:=by kernel_rfl
@[go_sem]def a119:=@zaa T _ _ c119.eq_1
def zp9(a0 a1:AV)(H:List AO):=ff (vs:=[a0,a1]) t119 rfl H
theorem t120:T (zia)=some e120:=by kernel_rfl
@[go_sem]def a120:=@zaa T _ _ c120.eq_1
def zy8(H:List AO):=ff (vs:=[]) t120 rfl H
theorem t121:T (zfn)=some e121:=by kernel_rfl
@[go_sem]def a121:=@zaa T _ _ c121.eq_1
def zsa(a0 a1:AV)(H:List AO):=ff (vs:=[a0,a1]) t121 rfl H
theorem t122:T (zak)=some e122:=by kernel_rfl
@[go_sem]def a122:=@zaa T _ _ c122.eq_1
def zk7(a0 a1:AV)(H:List AO):=ff (vs:=[a0,a1]) t122 rfl H
theorem t123:T (zic)=some e123:=by kernel_rfl
@[go_sem]def a123:=@zaa T _ _ c123.eq_1
def z18(a0 a1:AV)(H:List AO):=ff (vs:=[a0,a1]) t123 rfl H
theorem t124:T (zct)=some e124:=by kernel_rfl
@[go_sem]def a124:=@zaa T _ _ c124.eq_1
def zlp(a0:AV)(H:List AO):=ff (vs:=[a0]) t124 rfl H
theorem t125:T (za4)=some e125:=by kernel_rfl
@[go_sem]def a125:=@zaa T _ _ c125.eq_1
def ze1(a0:AV)(H:List AO):=ff (vs:=[a0]) t125 rfl H
theorem t126:T (zbb)=some e126:=by kernel_rfl
@[go_sem]def a126:=@zaa T _ _ c126.eq_1
def zfv(a0:AV)(H:List AO):=ff (vs:=[a0]) t126 rfl H
theorem t127:T (zdh)=some e127:=by kernel_rfl
@[go_sem]def a127:=@zaa T _ _ c127.eq_1
def zq8(a0:AV)(H:List AO):=ff (vs:=[a0]) t127 rfl H
theorem t128:T (zbk)=some e128:=by kernel_rfl
@[go_sem]def al128_0:=@zaa T _ _ yco.eq_1
@[go_sem]def a128:=@zaa T _ _ c128.eq_1
def zmy(a0 a1:AV)(H:List AO):=ff (vs:=[a0,a1]) t128 rfl H
noncomputable def zcx(H h:List AO)(x0 x1 x3:AV):Option RH:=awL T [0,1,3] [] yco (zbd 0 (zan H [])) ⟨⟨19,[(0,.v x0),(1,.v x1),(3,.v x3)]⟩,[],h,[]⟩
@[go_sem]def g_slices_Backward_Term_1_0(H h x0 x1 x3):=(zcx.eq_1 H h x0 x1 x3).symm
theorem t129:T (zlj)=some e129:=by kernel_rfl
@[go_sem]def a129:=@zaa T _ _ c129.eq_1
def z8y(H:List AO):=ff (vs:=[]) t129 rfl H
theorem t130:T (zl8)=some e130:=by kernel_rfl
@[go_sem]def a130:=@zaa T _ _ c130.eq_1
def z42(a0:AV)(H:List AO):=ff (vs:=[a0]) t130 rfl H
theorem t131:T (zl9)=some e131:=by kernel_rfl
@[go_sem]def a131:=@zaa T _ _ c131.eq_1
def z43(a0 a1 a2:AV)(H:List AO):=ff (vs:=[a0,a1,a2]) t131 rfl H
theorem t132:T (zdk)=some e132:=by kernel_rfl
@[go_sem]def a132:=@zaa T _ _ c132.eq_1
def zrb(a0 a1 a2:AV)(H:List AO):=ff (vs:=[a0,a1,a2]) t132 rfl H
theorem t133:T (zka)=some e133:=by kernel_rfl
@[go_sem]def a133:=@zaa T _ _ c133.eq_1
def z2d(a0 a1:AV)(H:List AO):=ff (vs:=[a0,a1]) t133 rfl H
theorem t134:T (zmj)=some e134:=by kernel_rfl
@[go_sem]def al134_0:=@zaa T _ _ ycn.eq_1
@[go_sem]def a134:=@zaa T _ _ c134.eq_1
def z2f(a0 a1:AV)(H:List AO):=ff (vs:=[a0,a1]) t134 rfl H
noncomputable def zgj(H h:List AO)(x1 x5 x6:AV)(v2:List AV):Option RH:=awL T [1,2,5,6] [2] ycn (zbd 0 (thn (aw T (A yjz 6 .ret) (zan H [.t 4])) (zan H [.t 4]))) ⟨⟨51,[(1,.v x1),(2,.lp 2 0),(5,.v x5),(6,.v x6)]⟩,[(2,v2)],h,[]⟩
@[go_sem]def g_ref08_Asks_0(H h x1 x5 x6 v2):=(zgj.eq_1 H h x1 x5 x6 v2).symm
theorem t135:T (zku)=some e135:=by kernel_rfl
@[go_sem]def al135_0:=@zaa T _ _ ycm.eq_1
@[go_sem]def a135:=@zaa T _ _ c135.eq_1
def zzl(a0 a1:AV)(H:List AO):=ff (vs:=[a0,a1]) t135 rfl H
noncomputable def zhw(H h:List AO)(x0 x1 x5:AV):Option RH:=awL T [0,1,5] [] ycm (zbd 0 (thn (aw T (A yjy 6 .ret) (zan H [.t 4])) (zan H [.t 4]))) ⟨⟨18,[(0,.v x0),(1,.v x1),(5,.v x5)]⟩,[],h,[]⟩
@[go_sem]def g_ref09_great_0(H h x0 x1 x5):=(zhw.eq_1 H h x0 x1 x5).symm
theorem t136:T (zmi)=some e136:=by kernel_rfl
@[go_sem]def al136_0:=@zaa T _ _ ycl.eq_1
@[go_sem]def al136_1:=@zaa T _ _ z1t.eq_1
@[go_sem]def a136:=@zaa T _ _ c136.eq_1
def z2e(a0 a1:AV)(H:List AO):=ff (vs:=[a0,a1]) t136 rfl H
noncomputable def zi1(H h:List AO)(x1 x6 x7 x8:AV):Option RH:=awL T [1,6,7,8] [] ycl (zbd 2 (zbd 1 (thn (aw T (.reg (R z0p 10)) (thn (again T [1,6,7] [] z1t (zbd 0 (thn (aw T (A z0p 11 .ret) (zan H [.t 4,.t 5])) (zan H [.t 4,.t 5])))) (zbd 0 (thn (aw T (A z0p 11 .ret) (zan H [.t 4,.t 5])) (zan H [.t 4,.t 5]))))) (thn (again T [1,6,7] [] z1t (zbd 0 (thn (aw T (A z0p 11 .ret) (zan H [.t 4,.t 5])) (zan H [.t 4,.t 5])))) (zbd 0 (thn (aw T (A z0p 11 .ret) (zan H [.t 4,.t 5])) (zan H [.t 4,.t 5]))))))) ⟨⟨48,[(1,.v x1),(6,.v x6),(7,.v x7),(8,.v x8)]⟩,[],h,[]⟩
@[go_sem]def g_ref08_Most_0(H h x1 x6 x7 x8):=(zi1.eq_1 H h x1 x6 x7 x8).symm
noncomputable def zgi(H h:List AO)(x1 x6 x7:AV):Option RH:=awL T [1,6,7] [] z1t (zbd 0 (thn (aw T (A z0p 11 .ret) (zan H [.t 4,.t 5])) (zan H [.t 4,.t 5]))) ⟨⟨48,[(1,.v x1),(6,.v x6),(7,.v x7)]⟩,[],h,[]⟩
@[go_sem]def g_ref08_Most_1(H h x1 x6 x7):=(zgi.eq_1 H h x1 x6 x7).symm
theorem t137:T (zdm)=some e137:=by kernel_rfl
@[go_sem]def al137_0:=@zaa T _ _ yck.eq_1
@[go_sem]def a137:=@zaa T _ _ c137.eq_1
def znx(a0 a1:AV)(H:List AO):=ff (vs:=[a0,a1]) t137 rfl H
noncomputable def zcf(H h:List AO)(x0 x1 x7 x8:AV):Option RH:=awL T [0,1,7,8] [] yck (zbd 0 (thn (aw T (A ygs 7 .ret) (zan H [.t 4])) (zan H [.t 4]))) ⟨⟨19,[(0,.v x0),(1,.v x1),(7,.v x7),(8,.v x8)]⟩,[],h,[]⟩
@[go_sem]def g_slices_IndexFunc_int_0(H h x0 x1 x7 x8):=(zcf.eq_1 H h x0 x1 x7 x8).symm
theorem t138:T (zo1)=some e138:=by kernel_rfl
@[go_sem]def a138:=@zaa T _ _ c138.eq_1
def z8w(a0:AV)(H:List AO):=ff (vs:=[a0]) t138 rfl H
theorem t139:T (zn2)=some e139:=by kernel_rfl
@[go_sem]def al139_0:=@zaa T _ _ ycj.eq_1
@[go_sem]def a139:=@zaa T _ _ c139.eq_1
def z40(a0 a1 a2:AV)(H:List AO):=ff (vs:=[a0,a1,a2]) t139 rfl H
noncomputable def zj3(H h:List AO)(x0 x1 x11 x12 x13:AV):Option RH:=awL T [0,1,11,12,13] [] ycj (zbd 0 (thn (aw T (A ya5 9 .ret) (zan H [.t 6])) (zan H [.t 6]))) ⟨⟨34,[(0,.v x0),(1,.v x1),(11,.v x11),(12,.v x12),(13,.v x13)]⟩,[],h,[]⟩
@[go_sem]def g_tsub_once_0(H h x0 x1 x11 x12 x13):=(zj3.eq_1 H h x0 x1 x11 x12 x13).symm
theorem t140:T (zk0)=some e140:=by kernel_rfl
@[go_sem]def a140:=@zaa T _ _ c140.eq_1
def zzw(H:List AO):=ff (vs:=[]) t140 rfl H
theorem t141:T (zhf)=some e141:=by kernel_rfl
@[go_sem]def a141:=@zaa T _ _ c141.eq_1
def zvg(a0 a1 a2 a3:AV)(H:List AO):=ff (vs:=[a0,a1,a2,a3]) t141 rfl H
theorem t142:T (zkz)=some e142:=by kernel_rfl
@[go_sem]def a142:=@zaa T _ _ c142.eq_1
def zzv(a0 a1 a2:AV)(H:List AO):=ff (vs:=[a0,a1,a2]) t142 rfl H
theorem t145:T (zcz)=some e145:=by kernel_rfl
@[go_sem]def al145_0:=@zaa T _ _ yci.eq_1
@[go_sem]def a145:=@zaa T _ _ c145.eq_1
def zmv(a0 a1:AV)(H:List AO):=ff (vs:=[a0,a1]) t145 rfl H
noncomputable def zb0(H h:List AO)(x0 x1 x7 x8:AV):Option RH:=awL T [0,1,7,8] [] yci (zbd 0 (thn (aw T (A ygr 7 .ret) (zan H [.t 4])) (zan H [.t 4]))) ⟨⟨19,[(0,.v x0),(1,.v x1),(7,.v x7),(8,.v x8)]⟩,[],h,[]⟩
@[go_sem]def g_slices_IndexFunc_Level_0(H h x0 x1 x7 x8):=(zb0.eq_1 H h x0 x1 x7 x8).symm
theorem t146:T (zma)=some e146:=by kernel_rfl
@[go_sem]def a146:=@zaa T _ _ c146.eq_1
def z45(a0 a1:AV)(H:List AO):=ff (vs:=[a0,a1]) t146 rfl H
theorem t147:T (zqg)=some e147:=by kernel_rfl
@[go_sem]def a147:=@zaa T _ _ c147.eq_1
def z8x(a0 a1 a2:AV)(H:List AO):=ff (vs:=[a0,a1,a2]) t147 rfl H
theorem t148:T (zkl)=some e148:=by kernel_rfl
@[go_sem]def al148_0:=@zaa T _ _ ych.eq_1
@[go_sem]def a148:=@zaa T _ _ c148.eq_1
def z41(a0 a1 a2:AV)(H:List AO):=ff (vs:=[a0,a1,a2]) t148 rfl H
noncomputable def zj4(H h:List AO)(x1 x2 x26 x27 x28:AV)(v3 v6 v7:List AV):Option RH:=awL T [1,2,3,6,7,26,27,28] [3,6,7] ych (zbd 0 (thn (aw T (A ya4 9 .ret) (zan H [.c 4 true 6])) (zan H [.c 4 true 6]))) ⟨⟨48,[(1,.v x1),(2,.v x2),(3,.lp 3 0),(6,.lp 6 0),(7,.lp 7 0),(26,.v x26),(27,.v x27),(28,.v x28)]⟩,[(3,v3),(6,v6),(7,v7)],h,[]⟩
@[go_sem]def g_term_turn_0(H h x1 x2 x26 x27 x28 v3 v6 v7):=(zj4.eq_1 H h x1 x2 x26 x27 x28 v3 v6 v7).symm
theorem t149:T (zib)=some e149:=by kernel_rfl
@[go_sem]def a149:=@zaa T _ _ c149.eq_1
def zy9(a0 a1 a2 a3:AV)(H:List AO):=ff (vs:=[a0,a1,a2,a3]) t149 rfl H
theorem t150:T (zfz)=some e150:=by kernel_rfl
@[go_sem]def a150:=@zaa T _ _ c150.eq_1
def zvb(a0:AV)(H:List AO):=ff (vs:=[a0]) t150 rfl H
theorem t151:T (zl7)=some e151:=by kernel_rfl
@[go_sem]def a151:=@zaa T _ _ c151.eq_1
def zva(a0 a1 a2 a3:AV)(H:List AO):=ff (vs:=[a0,a1,a2,a3]) t151 rfl H
theorem t152:T (zh9)=some e152:=by kernel_rfl
@[go_sem]def z98:=@zaa T _ _ zef.eq_1
@[go_sem]theorem zta:FC.okd zef=true:=by kernel_rfl
@[go_sem]def z96:=@zaa T _ _ zec.eq_1
@[go_sem]theorem zs8:FC.okd zec=true:=by kernel_rfl
@[go_sem]def al152_0:=@zaa T _ _ ycg.eq_1
@[go_sem]def a152:=@zaa T _ _ c152.eq_1
def z16(a0 a1:AV)(H:List AO):=ff (vs:=[a0,a1]) t152 rfl H
noncomputable def ziy(H h:List AO)(ds:List Nat)(x2 x11 x12 x13:AV):Option RH:=awL T [2,11,12,13] [] ycg (zbd 0 (zan H [])) ⟨⟨25,[(2,.v x2),(11,.v x11),(12,.v x12),(13,.v x13)]⟩,[],h,ds⟩
@[go_sem]def g_tsub_all_1_0(H h ds x2 x11 x12 x13):=(ziy.eq_1 H h ds x2 x11 x12 x13).symm
@[go_sem]def a153:=@zaa T _ _ c153.eq_1
@[go_sem]def a154:=@zaa T _ _ c154.eq_1
@[go_sem]def a155:=@zaa T _ _ c155.eq_1
@[go_sem]def a156:=@zaa T _ _ c156.eq_1
@[go_sem]def a157:=@zaa T _ _ c157.eq_1
@[go_sem]def a158:=@zaa T _ _ c158.eq_1
@[go_sem]def a159:=@zaa T _ _ c159.eq_1
theorem t160:T (zid)=some e160:=by kernel_rfl
@[go_sem]def a160:=@zaa T _ _ c160.eq_1
def zza(a0 a1 a2:AV)(H:List AO):=ff (vs:=[a0,a1,a2]) t160 rfl H
theorem t161:T (zc1)=some e161:=by kernel_rfl
@[go_sem]def al161_0:=@zaa T _ _ ycf.eq_1
@[go_sem]def al161_1:=@zaa T _ _ z6y.eq_1
@[go_sem]def a161:=@zaa T _ _ c161.eq_1
def zop(a0:AV)(H:List AO):=ff (vs:=[a0]) t161 rfl H
noncomputable def zdu(H h:List AO)(x0 x3 x9 x10 x11:AV):Option RH:=awL T [0,3,9,10,11] [] ycf (zbd 0 (thn (aw T (A zw1 9 (.seq (A zw1 10 (.block 2 (.loop [6,25,26,27] [] z6y))) (A zw1 15 .ret))) (zan H [.t 2])) (zan H [.t 2]))) ⟨⟨36,[(0,.v x0),(3,.v x3),(9,.v x9),(10,.v x10),(11,.v x11)]⟩,[],h,[]⟩
@[go_sem]def g_slices_Concat_Level_0(H h x0 x3 x9 x10 x11):=(zdu.eq_1 H h x0 x3 x9 x10 x11).symm
noncomputable def zdt(H h:List AO)(x6 x25 x26 x27:AV):Option RH:=awL T [6,25,26,27] [] z6y (zbd 2 (thn (aw T (A zw1 15 .ret) (zan H [.t 2])) (zan H [.t 2]))) ⟨⟨36,[(6,.v x6),(25,.v x25),(26,.v x26),(27,.v x27)]⟩,[],h,[]⟩
@[go_sem]def g_slices_Concat_Level_1(H h x6 x25 x26 x27):=(zdt.eq_1 H h x6 x25 x26 x27).symm
theorem t162:T (zo0)=some e162:=by kernel_rfl
@[go_sem]def a162:=@zaa T _ _ c162.eq_1
def z8v(a0:AV)(H:List AO):=ff (vs:=[a0]) t162 rfl H
theorem t163:T (zd5)=some e163:=by kernel_rfl
@[go_sem]def al163_0:=@zaa T _ _ yce.eq_1
@[go_sem]def al163_1:=@zaa T _ _ z6x.eq_1
@[go_sem]def a163:=@zaa T _ _ c163.eq_1
def zq5(a0 a1:AV)(H:List AO):=ff (vs:=[a0,a1]) t163 rfl H
noncomputable def zem(H h:List AO)(x0 x18 x19 x20:AV)(v3 v4 v5:List AV):Option RH:=awL T [0,3,4,5,18,19,20] [3,4,5] yce (zbd 0 (thn (aw T (.seq (A z0o 9 (.block 2 (.loop [0,4,5,54,55,56] [4,5] z6x))) (A z0o 14 .ret)) (zan H [.c 4 true 4])) (zan H [.c 4 true 4]))) ⟨⟨70,[(0,.v x0),(3,.lp 3 0),(4,.lp 4 0),(5,.lp 5 0),(18,.v x18),(19,.v x19),(20,.v x20)]⟩,[(3,v3),(4,v4),(5,v5)],h,[]⟩
@[go_sem]def g_tsub_putter_term_0(H h x0 x18 x19 x20 v3 v4 v5):=(zem.eq_1 H h x0 x18 x19 x20 v3 v4 v5).symm
noncomputable def zel(H h:List AO)(x0 x54 x55 x56:AV)(v4 v5:List AV):Option RH:=awL T [0,4,5,54,55,56] [4,5] z6x (zbd 2 (thn (aw T (A z0o 14 .ret) (zan H [.c 4 true 4])) (zan H [.c 4 true 4]))) ⟨⟨70,[(0,.v x0),(4,.lp 4 0),(5,.lp 5 0),(54,.v x54),(55,.v x55),(56,.v x56)]⟩,[(4,v4),(5,v5)],h,[]⟩
@[go_sem]def g_tsub_putter_term_1(H h x0 x54 x55 x56 v4 v5):=(zel.eq_1 H h x0 x54 x55 x56 v4 v5).symm
theorem t164:T (zkj)=some e164:=by kernel_rfl
@[go_sem]def z9p:=@zaa T _ _ zcq.eq_1
@[go_sem]theorem zrt:FC.okd zcq=true:=by kernel_rfl
@[go_sem]def z9n:=@zaa T _ _ zcj.eq_1
@[go_sem]theorem zrr:FC.okd zcj=true:=by kernel_rfl
@[go_sem]def a164:=@zaa T _ _ c164.eq_1
def zq4(a0 a1 a2:AV)(H:List AO):=ff (vs:=[a0,a1,a2]) t164 rfl H
theorem t165:T (zgs)=some e165:=by kernel_rfl
@[go_sem]def al165_0:=@zaa T _ _ ycd.eq_1
@[go_sem]def al165_1:=@zaa T _ _ zu4.eq_1
@[go_sem]def a165:=@zaa T _ _ c165.eq_1
def zy6(a0 a1 a2:AV)(H:List AO):=ff (vs:=[a0,a1,a2]) t165 rfl H
noncomputable def zhq(H h:List AO)(x2 x8 x15 x16 x17 x23 x24 x25:AV)(v3 v7:List AV):Option RH:=awL T [2,3,7,8,15,16,17,23,24,25] [3,7] ycd (zbd 2 (thn (aw T (A zqq 10 (A zqq 11 (.cond (.t 48) (A zqq 12 .ret) .skip))) (zbd 1 (thn (aw T (.reg (R zqq 13)) (thn (again T [2,3,15,16,17] [3] zu4 (zbd 0 (thn (aw T (A zqq 14 .ret) (zan H [.t 4,.t 5])) (zan H [.t 4,.t 5])))) (zbd 0 (thn (aw T (A zqq 14 .ret) (zan H [.t 4,.t 5])) (zan H [.t 4,.t 5]))))) (thn (again T [2,3,15,16,17] [3] zu4 (zbd 0 (thn (aw T (A zqq 14 .ret) (zan H [.t 4,.t 5])) (zan H [.t 4,.t 5])))) (zbd 0 (thn (aw T (A zqq 14 .ret) (zan H [.t 4,.t 5])) (zan H [.t 4,.t 5]))))))) (zbd 1 (thn (aw T (.reg (R zqq 13)) (thn (again T [2,3,15,16,17] [3] zu4 (zbd 0 (thn (aw T (A zqq 14 .ret) (zan H [.t 4,.t 5])) (zan H [.t 4,.t 5])))) (zbd 0 (thn (aw T (A zqq 14 .ret) (zan H [.t 4,.t 5])) (zan H [.t 4,.t 5]))))) (thn (again T [2,3,15,16,17] [3] zu4 (zbd 0 (thn (aw T (A zqq 14 .ret) (zan H [.t 4,.t 5])) (zan H [.t 4,.t 5])))) (zbd 0 (thn (aw T (A zqq 14 .ret) (zan H [.t 4,.t 5])) (zan H [.t 4,.t 5])))))))) ⟨⟨51,[(2,.v x2),(3,.lp 3 0),(7,.lp 7 0),(8,.v x8),(15,.v x15),(16,.v x16),(17,.v x17),(23,.v x23),(24,.v x24),(25,.v x25)]⟩,[(3,v3),(7,v7)],h,[]⟩
@[go_sem]def g_under_Leq_1_0(H h x2 x8 x15 x16 x17 x23 x24 x25 v3 v7):=(zhq.eq_1 H h x2 x8 x15 x16 x17 x23 x24 x25 v3 v7).symm
noncomputable def zd0(H h:List AO)(x2 x15 x16 x17:AV)(v3:List AV):Option RH:=awL T [2,3,15,16,17] [3] zu4 (zbd 0 (thn (aw T (A zqq 14 .ret) (zan H [.t 4,.t 5])) (zan H [.t 4,.t 5]))) ⟨⟨51,[(2,.v x2),(3,.lp 3 0),(15,.v x15),(16,.v x16),(17,.v x17)]⟩,[(3,v3)],h,[]⟩
@[go_sem]def g_under_Leq_1_1(H h x2 x15 x16 x17 v3):=(zd0.eq_1 H h x2 x15 x16 x17 v3).symm
theorem t166:T (za9)=some e166:=by kernel_rfl
@[go_sem]def al166_0:=@zaa T _ _ ycc.eq_1
@[go_sem]def a166:=@zaa T _ _ c166.eq_1
def znl(a0 a1:AV)(H:List AO):=ff (vs:=[a0,a1]) t166 rfl H
noncomputable def zc6(H h:List AO)(x7 x22 x23 x24:AV):Option RH:=awL T [7,22,23,24] [] ycc (zbd 0 (thn (aw T (A ya3 9 .ret) (zan H [.t 4])) (zan H [.t 4]))) ⟨⟨40,[(7,.v x7),(22,.v x22),(23,.v x23),(24,.v x24)]⟩,[],h,[]⟩
@[go_sem]def g_under_situation_atoms_0(H h x7 x22 x23 x24):=(zc6.eq_1 H h x7 x22 x23 x24).symm
theorem t167:T (zcy)=some e167:=by kernel_rfl
@[go_sem]def al167_0:=@zaa T _ _ ycb.eq_1
@[go_sem]def a167:=@zaa T _ _ c167.eq_1
def zg8(a0 a1:AV)(H:List AO):=ff (vs:=[a0,a1]) t167 rfl H
noncomputable def zbz(H h:List AO)(x7 x11 x37 x38 x39:AV):Option RH:=awL T [7,11,37,38,39] [] ycb (zbd 0 (thn (aw T (A z6f 12 .ret) (zan H [.t 4,.t 5])) (zan H [.t 4,.t 5]))) ⟨⟨60,[(7,.v x7),(11,.v x11),(37,.v x37),(38,.v x38),(39,.v x39)]⟩,[],h,[]⟩
@[go_sem]def g_under_situation_values_0(H h x7 x11 x37 x38 x39):=(zbz.eq_1 H h x7 x11 x37 x38 x39).symm
theorem t168:T (zer)=some e168:=by kernel_rfl
@[go_sem]def a168:=@zaa T _ _ c168.eq_1
def zqb(a0 a1:AV)(H:List AO):=ffK (vs:=[a0,a1]) t168 rfl H
theorem t169:T (zqy)=some e169:=by kernel_rfl
@[go_sem]def a169:=@zaa T _ _ c169.eq_1
def z81(a0 a1 a2:AV)(H:List AO):=ff (vs:=[a0,a1,a2]) t169 rfl H
theorem t170:T (zu1)=some e170:=by kernel_rfl
@[go_sem]def a170:=@zaa T _ _ c170.eq_1
def ydr(a0:AV)(H:List AO):=ff (vs:=[a0]) t170 rfl H
theorem t171:T (zjl)=some e171:=by kernel_rfl
@[go_sem]def a171:=@zaa T _ _ c171.eq_1
def zwi(a0 a1:AV)(H:List AO):=ff (vs:=[a0,a1]) t171 rfl H
@[go_sem]def a172:=@zaa T _ _ c172.eq_1
theorem t173:T (zck)=some e173:=by kernel_rfl
@[go_sem]def a173:=@zaa T _ _ c173.eq_1
def zlz(a0:AV)(H:List AO):=ff (vs:=[a0]) t173 rfl H
theorem t174:T (zkp)=some e174:=by kernel_rfl
@[go_sem]def a174:=@zaa T _ _ c174.eq_1
def zzc(a0 a1:AV)(H:List AO):=ff (vs:=[a0,a1]) t174 rfl H
theorem t175:T (zll)=some e175:=by kernel_rfl
@[go_sem]def a175:=@zaa T _ _ c175.eq_1
def z80(a0:AV)(H:List AO):=ff (vs:=[a0]) t175 rfl H
theorem t176:T (zmo)=some e176:=by kernel_rfl
@[go_sem]def al176_0:=@zaa T _ _ yca.eq_1
@[go_sem]def a176:=@zaa T _ _ c176.eq_1
def z49(a0 a1:AV)(H:List AO):=ff (vs:=[a0,a1]) t176 rfl H
noncomputable def zj6(H h:List AO)(x1 x24 x25 x26:AV)(v4 v7:List AV):Option RH:=awL T [1,4,7,24,25,26] [4,7] yca (zbd 0 (thn (aw T (A z9y 10 .ret) (zan H [.c 3 true 4])) (zan H [.c 3 true 4]))) ⟨⟨40,[(1,.v x1),(4,.lp 4 0),(7,.lp 7 0),(24,.v x24),(25,.v x25),(26,.v x26)]⟩,[(4,v4),(7,v7)],h,[]⟩
@[go_sem]def g_lsub_turn_0(H h x1 x24 x25 x26 v4 v7):=(zj6.eq_1 H h x1 x24 x25 x26 v4 v7).symm
theorem t177:T (zmp)=some e177:=by kernel_rfl
@[go_sem]def a177:=@zaa T _ _ c177.eq_1
def z2l(a0 a1 a2:AV)(H:List AO):=ff (vs:=[a0,a1,a2]) t177 rfl H
theorem t178:T (zk1)=some e178:=by kernel_rfl
@[go_sem]def al178_0:=@zaa T _ _ yb9.eq_1
@[go_sem]def al178_1:=@zaa T _ _ zu3.eq_1
@[go_sem]def a178:=@zaa T _ _ c178.eq_1
def z5a(a0 a1:AV)(H:List AO):=ff (vs:=[a0,a1]) t178 rfl H
noncomputable def zf8(H h:List AO)(x0 x1 x3 x4 x7 x8 x14 x15:AV):Option RH:=awL T [0,1,3,4,7,8,14,15] [] yb9 (zbd 2 (thn (aw T (A z6e 9 (.cond (.t 30) .ret .skip)) (zbd 1 (thn (aw T (.reg (R z6e 10)) (thn (again T [0,1,7,8] [] zu3 (zbd 0 (zan H []))) (zbd 0 (zan H [])))) (thn (again T [0,1,7,8] [] zu3 (zbd 0 (zan H []))) (zbd 0 (zan H [])))))) (zbd 1 (thn (aw T (.reg (R z6e 10)) (thn (again T [0,1,7,8] [] zu3 (zbd 0 (zan H []))) (zbd 0 (zan H [])))) (thn (again T [0,1,7,8] [] zu3 (zbd 0 (zan H []))) (zbd 0 (zan H []))))))) ⟨⟨32,[(0,.v x0),(1,.v x1),(3,.v x3),(4,.v x4),(7,.v x7),(8,.v x8),(14,.v x14),(15,.v x15)]⟩,[],h,[]⟩
@[go_sem]def g_leq_All_1_0(H h x0 x1 x3 x4 x7 x8 x14 x15):=(zf8.eq_1 H h x0 x1 x3 x4 x7 x8 x14 x15).symm
noncomputable def zj7(H h:List AO)(x0 x1 x7 x8:AV):Option RH:=awL T [0,1,7,8] [] zu3 (zbd 0 (zan H [])) ⟨⟨32,[(0,.v x0),(1,.v x1),(7,.v x7),(8,.v x8)]⟩,[],h,[]⟩
@[go_sem]def g_leq_All_1_1(H h x0 x1 x7 x8):=(zj7.eq_1 H h x0 x1 x7 x8).symm
@[go_sem]def a179:=@zaa T _ _ c179.eq_1
theorem t180:T (znk)=some e180:=by kernel_rfl
@[go_sem]def a180:=@zaa T _ _ c180.eq_1
def zsc(a0:AV)(H:List AO):=ff (vs:=[a0]) t180 rfl H
@[go_sem]def ztf:=@zaa T _ _ zfo.eq_1
@[go_sem]def zte:=@zaa T _ _ zfm.eq_1
@[go_sem]def a181:=@zaa T _ _ c181.eq_1
theorem t182:T (zav)=some e182:=by kernel_rfl
@[go_sem]def al182_0:=@zaa T _ _ yb8.eq_1
@[go_sem]def al182_1:=@zaa T _ _ yb7.eq_1
@[go_sem]def al182_2:=@zaa T _ _ zxa.eq_1
@[go_sem]def a182:=@zaa T _ _ c182.eq_1
def zk6(a0 a1:AV)(H:List AO):=ff (vs:=[a0,a1]) t182 rfl H
noncomputable def zbf(H h:List AO)(x0 x1 x11 x12 x13:AV):Option RH:=awL T [0,1,11,12,13] [] yb8 (zbd 0 (thn (aw T (A z1f 5 (.block 2 (.loop [0,1,33,34,35] [] zxa))) (zan H [])) (zan H []))) ⟨⟨60,[(0,.v x0),(1,.v x1),(11,.v x11),(12,.v x12),(13,.v x13)]⟩,[],h,[]⟩
@[go_sem]def g_under_situation_clauses_1_0(H h x0 x1 x11 x12 x13):=(zbf.eq_1 H h x0 x1 x11 x12 x13).symm
noncomputable def zb8(H h:List AO)(x0 x1 x7 x33 x34 x35 x46 x47 x48:AV):Option RH:=awL T [0,1,7,33,34,35,46,47,48] [] yb7 (zbd 4 (zbd 3 (thn (aw T (.reg (R z1f 14)) (thn (again T [0,1,33,34,35] [] zxa (zbd 2 (zan H []))) (zbd 2 (zan H [])))) (thn (again T [0,1,33,34,35] [] zxa (zbd 2 (zan H []))) (zbd 2 (zan H [])))))) ⟨⟨60,[(0,.v x0),(1,.v x1),(7,.v x7),(33,.v x33),(34,.v x34),(35,.v x35),(46,.v x46),(47,.v x47),(48,.v x48)]⟩,[],h,[]⟩
@[go_sem]def g_under_situation_clauses_1_1(H h x0 x1 x7 x33 x34 x35 x46 x47 x48):=(zb8.eq_1 H h x0 x1 x7 x33 x34 x35 x46 x47 x48).symm
noncomputable def zbe(H h:List AO)(x0 x1 x33 x34 x35:AV):Option RH:=awL T [0,1,33,34,35] [] zxa (zbd 2 (zan H [])) ⟨⟨60,[(0,.v x0),(1,.v x1),(33,.v x33),(34,.v x34),(35,.v x35)]⟩,[],h,[]⟩
@[go_sem]def g_under_situation_clauses_1_2(H h x0 x1 x33 x34 x35):=(zbe.eq_1 H h x0 x1 x33 x34 x35).symm
theorem t183:T (zkg)=some e183:=by kernel_rfl
@[go_sem]def z99:=@zaa T _ _ zeg.eq_1
@[go_sem]theorem ztb:FC.okd zeg=true:=by kernel_rfl
@[go_sem]def z97:=@zaa T _ _ zed.eq_1
@[go_sem]theorem zs9:FC.okd zed=true:=by kernel_rfl
@[go_sem]def a183:=@zaa T _ _ c183.eq_1
def z2v(a0 a1:AV)(H:List AO):=ff (vs:=[a0,a1]) t183 rfl H
theorem t184:T (zn5)=some e184:=by kernel_rfl
@[go_sem]def yez:=@zaa T _ _ zb7.eq_1
@[go_sem]theorem zup:FC.okd zb7=true:=by kernel_rfl
@[go_sem]def yex:=@zaa T _ _ zb6.eq_1
@[go_sem]theorem zun:FC.okd zb6=true:=by kernel_rfl
@[go_sem]def a184:=@zaa T _ _ c184.eq_1
def z47(a0 a1 a2:AV)(H:List AO):=ff (vs:=[a0,a1,a2]) t184 rfl H
theorem t185:T (zko)=some e185:=by kernel_rfl
@[go_sem]def a185:=@zaa T _ _ c185.eq_1
def zzb(a0 a1:AV)(H:List AO):=ff (vs:=[a0,a1]) t185 rfl H
@[go_sem]def a186:=@zaa T _ _ c186.eq_1
theorem t187:T (zho)=some e187:=by kernel_rfl
@[go_sem]def al187_0:=@zaa T _ _ yb6.eq_1
@[go_sem]def a187:=@zaa T _ _ c187.eq_1
def zqc(a0:AV)(H:List AO):=ff (vs:=[a0]) t187 rfl H
noncomputable def zga(H h:List AO)(x10 x11 x12:AV)(v1 v2:List AV):Option RH:=awL T [1,2,10,11,12] [1,2] yb6 (zbd 0 (thn (aw T (A yfq 8 .ret) (zan H [.c 2 true 2])) (zan H [.c 2 true 2]))) ⟨⟨28,[(1,.lp 1 0),(2,.lp 2 0),(10,.v x10),(11,.v x11),(12,.v x12)]⟩,[(1,v1),(2,v2)],h,[]⟩
@[go_sem]def g_flat_succ_0(H h x10 x11 x12 v1 v2):=(zga.eq_1 H h x10 x11 x12 v1 v2).symm
@[go_sem]def al188_0:=@zaa T _ _ yki.eq_1
@[go_sem]def al188_1:=@zaa T _ _ ykh.eq_1
@[go_sem]def a188:=@zaa T _ _ c188.eq_1
theorem t189:T (zee)=some e189:=by kernel_rfl
@[go_sem]def al189_0:=@zaa T _ _ yb5.eq_1
@[go_sem]def a189:=@zaa T _ _ c189.eq_1
def znt(a0:AV)(H:List AO):=ff (vs:=[a0]) t189 rfl H
noncomputable def zcs(H h:List AO)(x0 x3 x4:AV):Option RH:=awL T [0,3,4] [] yb5 (zbd 0 (thn (aw T (A yfp 8 .ret) (zan H [.t 2])) (zan H [.t 2]))) ⟨⟨25,[(0,.v x0),(3,.v x3),(4,.v x4)]⟩,[],h,[]⟩
@[go_sem]def g_slices_Max_int_0(H h x0 x3 x4):=(zcs.eq_1 H h x0 x3 x4).symm
theorem t190:T (zg5)=some e190:=by kernel_rfl
@[go_sem]def a190:=@zaa T _ _ c190.eq_1
def zwh(a0:AV)(H:List AO):=ff (vs:=[a0]) t190 rfl H
theorem t191:T (zby)=some e191:=by kernel_rfl
@[go_sem]def a191:=@zaa T _ _ c191.eq_1
def zj1(a0 a1:AV)(H:List AO):=ff (vs:=[a0,a1]) t191 rfl H
theorem t192:T (zkf)=some e192:=by kernel_rfl
@[go_sem]def a192:=@zaa T _ _ c192.eq_1
def z2u(a0:AV)(H:List AO):=ff (vs:=[a0]) t192 rfl H
theorem t193:T (zqj)=some e193:=by kernel_rfl
@[go_sem]def a193:=@zaa T _ _ c193.eq_1
def z8z(a0:AV)(H:List AO):=ff (vs:=[a0]) t193 rfl H
@[go_sem]def a194:=@zaa T _ _ c194.eq_1
theorem zri:T (zaw)=some (.ext (zvs 1)):=by kernel_rfl
theorem zq7(a0:AV)(H:List AO):F zaw [a0] H=zvs 1 [a0] H:=fnF_ext zri _ H
theorem t196:T (zoh)=some e196:=by kernel_rfl
@[go_sem]def ye0:=@zaa T _ _ zez.eq_1
@[go_sem]theorem zuq:FC.okd zez=true:=by kernel_rfl
@[go_sem]def yey:=@zaa T _ _ zex.eq_1
@[go_sem]theorem zuo:FC.okd zex=true:=by kernel_rfl
@[go_sem]def a196:=@zaa T _ _ c196.eq_1
def z5d(a0 a1:AV)(H:List AO):=ff (vs:=[a0,a1]) t196 rfl H
@[go_sem]def al197_0:=@zaa T _ _ ykg.eq_1
@[go_sem]def a197:=@zaa T _ _ c197.eq_1
theorem t198:T (zco)=some e198:=by kernel_rfl
@[go_sem]def al198_0:=@zaa T _ _ yb3.eq_1
@[go_sem]def a198:=@zaa T _ _ c198.eq_1
def zl0(a0 a1:AV)(H:List AO):=ff (vs:=[a0,a1]) t198 rfl H
noncomputable def zbu(H h:List AO)(x0 x1 x7 x8:AV):Option RH:=awL T [0,1,7,8] [] yb3 (zbd 0 (thn (aw T (A ygo 7 .ret) (zan H [.t 4])) (zan H [.t 4]))) ⟨⟨19,[(0,.v x0),(1,.v x1),(7,.v x7),(8,.v x8)]⟩,[],h,[]⟩
@[go_sem]def g_slices_IndexFunc_Clause_0(H h x0 x1 x7 x8):=(zbu.eq_1 H h x0 x1 x7 x8).symm
theorem t199:T (zg4)=some e199:=by kernel_rfl
@[go_sem]def al199_0:=@zaa T _ _ yb2.eq_1
@[go_sem]def al199_1:=@zaa T _ _ z1s.eq_1
@[go_sem]def a199:=@zaa T _ _ c199.eq_1
def zwg(a0 a1:AV)(H:List AO):=ff (vs:=[a0,a1]) t199 rfl H
noncomputable def zgq(H h:List AO)(x0 x3 x7 x8 x9 x20 x21 x22:AV):Option RH:=awL T [0,3,7,8,9,20,21,22] [] yb2 (zbd 2 (zbd 1 (thn (aw T (.reg (R yfo 8)) (thn (again T [0,7,8,9] [] z1s (zbd 0 (zan H []))) (zbd 0 (zan H [])))) (thn (again T [0,7,8,9] [] z1s (zbd 0 (zan H []))) (zbd 0 (zan H [])))))) ⟨⟨33,[(0,.v x0),(3,.v x3),(7,.v x7),(8,.v x8),(9,.v x9),(20,.v x20),(21,.v x21),(22,.v x22)]⟩,[],h,[]⟩
@[go_sem]def g_horn_atoms_1_0(H h x0 x3 x7 x8 x9 x20 x21 x22):=(zgq.eq_1 H h x0 x3 x7 x8 x9 x20 x21 x22).symm
noncomputable def zfa(H h:List AO)(x0 x7 x8 x9:AV):Option RH:=awL T [0,7,8,9] [] z1s (zbd 0 (zan H [])) ⟨⟨33,[(0,.v x0),(7,.v x7),(8,.v x8),(9,.v x9)]⟩,[],h,[]⟩
@[go_sem]def g_horn_atoms_1_1(H h x0 x7 x8 x9):=(zfa.eq_1 H h x0 x7 x8 x9).symm
theorem t200:T (zd9)=some e200:=by kernel_rfl
@[go_sem]def al200_0:=@zaa T _ _ yb1.eq_1
@[go_sem]def al200_1:=@zaa T _ _ z6w.eq_1
@[go_sem]def a200:=@zaa T _ _ c200.eq_1
def zpo(a0:AV)(H:List AO):=ff (vs:=[a0]) t200 rfl H
noncomputable def zd3(H h:List AO)(x0 x3 x9 x10 x11:AV):Option RH:=awL T [0,3,9,10,11] [] yb1 (zbd 0 (thn (aw T (A zw0 9 (.seq (A zw0 10 (.block 2 (.loop [6,25,26,27] [] z6w))) (A zw0 15 .ret))) (zan H [.t 2])) (zan H [.t 2]))) ⟨⟨36,[(0,.v x0),(3,.v x3),(9,.v x9),(10,.v x10),(11,.v x11)]⟩,[],h,[]⟩
@[go_sem]def g_slices_Concat_Atom_0(H h x0 x3 x9 x10 x11):=(zd3.eq_1 H h x0 x3 x9 x10 x11).symm
noncomputable def zd2(H h:List AO)(x6 x25 x26 x27:AV):Option RH:=awL T [6,25,26,27] [] z6w (zbd 2 (thn (aw T (A zw0 15 .ret) (zan H [.t 2])) (zan H [.t 2]))) ⟨⟨36,[(6,.v x6),(25,.v x25),(26,.v x26),(27,.v x27)]⟩,[],h,[]⟩
@[go_sem]def g_slices_Concat_Atom_1(H h x6 x25 x26 x27):=(zd2.eq_1 H h x6 x25 x26 x27).symm
theorem t201:T (zb1)=some e201:=by kernel_rfl
@[go_sem]def al201_0:=@zaa T _ _ yb0.eq_1
@[go_sem]def a201:=@zaa T _ _ c201.eq_1
def znw(a0 a1 a2:AV)(H:List AO):=ff (vs:=[a0,a1,a2]) t201 rfl H
noncomputable def zce(H h:List AO)(x0 x1 x2:AV):Option RH:=awL T [0,1,2] [] yb0 (zbd 0 (zan H [])) ⟨⟨11,[(0,.v x0),(1,.v x1),(2,.v x2)]⟩,[],h,[]⟩
@[go_sem]def g_solve_model_rounds_1_0(H h x0 x1 x2):=(zce.eq_1 H h x0 x1 x2).symm
theorem t202:T (zeq)=some e202:=by kernel_rfl
@[go_sem]def al202_0:=@zaa T _ _ ybz.eq_1
@[go_sem]def a202:=@zaa T _ _ c202.eq_1
def zqa(a0 a1:AV)(H:List AO):=ff (vs:=[a0,a1]) t202 rfl H
theorem t203:T (zf0)=some e203:=by kernel_rfl
@[go_sem]def a203:=@zaa T _ _ c203.eq_1
def zvf(a0 a1:AV)(H:List AO):=ff (vs:=[a0,a1]) t203 rfl H
theorem t204:T (ze5)=some e204:=by kernel_rfl
@[go_sem]def a204:=@zaa T _ _ c204.eq_1
def zq6(a0 a1:AV)(H:List AO):=ffK (vs:=[a0,a1]) t204 rfl H
theorem t205:T (zoi)=some e205:=by kernel_rfl
@[go_sem]def a205:=@zaa T _ _ c205.eq_1
def z5e(a0 a1:AV)(H:List AO):=ff (vs:=[a0,a1]) t205 rfl H
@[go_sem]def a206:=@zaa T _ _ c206.eq_1
theorem t207:T (zfq)=some e207:=by kernel_rfl
@[go_sem]def a207:=@zaa T _ _ c207.eq_1
def zsb(a0 a1:AV)(H:List AO):=ff (vs:=[a0,a1]) t207 rfl H
theorem t208:T (zio)=some e208:=by kernel_rfl
@[go_sem]def a208:=@zaa T _ _ c208.eq_1
def zz0(a0 a1 a2:AV)(H:List AO):=ff (vs:=[a0,a1,a2]) t208 rfl H
theorem t209:T (zdy)=some e209:=by kernel_rfl
@[go_sem]def al209_0:=@zaa T _ _ yby.eq_1
@[go_sem]def a209:=@zaa T _ _ c209.eq_1
def zoo(a0 a1:AV)(H:List AO):=ff (vs:=[a0,a1]) t209 rfl H
noncomputable def zcr(H h:List AO)(x0 x1 x6:AV)(v4 v5:List AV):Option RH:=awL T [0,1,4,5,6] [4,5] yby (zbd 0 (thn (aw T (A ya0 9 .ret) (zan H [.c 2 true 4])) (zan H [.c 2 true 4]))) ⟨⟨33,[(0,.v x0),(1,.v x1),(4,.lp 4 0),(5,.lp 5 0),(6,.v x6)]⟩,[(4,v4),(5,v5)],h,[]⟩
@[go_sem]def g_slices_MinFunc_Atom_0(H h x0 x1 x6 v4 v5):=(zcr.eq_1 H h x0 x1 x6 v4 v5).symm
theorem t210:T (za2+1000000)=some e210:=by kernel_rfl
@[go_sem]def zs3:=@zaa T _ _ zau.eq_1
@[go_sem]theorem zjh:FC.okd zau=true:=by kernel_rfl
@[go_sem]def zs2:=@zaa T _ _ zat.eq_1
@[go_sem]theorem zjg:FC.okd zat=true:=by kernel_rfl
@[go_sem]def a210:=@zaa T _ _ c210.eq_1
def zli(a0 a1:AV)(H:List AO):=ffA (vs:=[a0,a1]) t210 rfl H
theorem t211:T (zbq+1000000)=some e211:=by kernel_rfl
@[go_sem]def a211:=@zaa T _ _ c211.eq_1
def zmx(a0:AV)(H:List AO):=ffA (vs:=[a0]) t211 rfl H
theorem zqe:T (zaw+1000000)=some (.alx (zs1 1)):=by kernel_rfl
theorem zk8(a0:AV)(H:List AO):FK zaw [a0] H=zs1 1 [a0] H:=fkF_ext zqe _ H
theorem t213:T (zb9+1000000)=some e213:=by kernel_rfl
@[go_sem]def al213_0:=@zaa T _ _ ybx.eq_1
@[go_sem]def a213:=@zaa T _ _ c213.eq_1
def zpn(a0 a1:AV)(H:List AO):=ffA (vs:=[a0,a1]) t213 rfl H
noncomputable def zag(H h:List AO)(x7 x8:AV):Option RH:=awL T [7,8] [] ybx (zbd 0 (thn (aw T (A z9w 10 .ret) (zis H [.t 4])) (zis H [.t 4]))) ⟨⟨48,[(7,.v x7),(8,.v x8)]⟩,[],h,[]⟩
@[go_sem]def g_slices_Repeat_intK_0(H h x7 x8):=(zag.eq_1 H h x7 x8).symm
theorem t214:T (zg7+1000000)=some e214:=by kernel_rfl
@[go_sem]def a214:=@zaa T _ _ c214.eq_1
def zz1(a0 a1:AV)(H:List AO):=ffA (vs:=[a0,a1]) t214 rfl H
theorem t215:T (zfu+1000000)=some e215:=by kernel_rfl
@[go_sem]def al215_0:=@zaa T _ _ ybw.eq_1
@[go_sem]def al215_1:=@zaa T _ _ z1r.eq_1
@[go_sem]def a215:=@zaa T _ _ c215.eq_1
def zsy(a0 a1:AV)(H:List AO):=ffA (vs:=[a0,a1]) t215 rfl H
noncomputable def zej(H h:List AO)(x16 x17 x18 x29 x30 x31:AV)(v4 v5:List AV):Option RH:=awL T [4,5,16,17,18,29,30,31] [4,5] ybw (zbd 2 (zbd 1 (thn (aw T (.reg (R zyg 11)) (thn (again T [4,5,16,17,18] [4,5] z1r (zbd 0 (thn (aw T (A zyg 12 .ret) (zis H [.c 2 true 4])) (zis H [.c 2 true 4])))) (zbd 0 (thn (aw T (A zyg 12 .ret) (zis H [.c 2 true 4])) (zis H [.c 2 true 4]))))) (thn (again T [4,5,16,17,18] [4,5] z1r (zbd 0 (thn (aw T (A zyg 12 .ret) (zis H [.c 2 true 4])) (zis H [.c 2 true 4])))) (zbd 0 (thn (aw T (A zyg 12 .ret) (zis H [.c 2 true 4])) (zis H [.c 2 true 4]))))))) ⟨⟨50,[(4,.lp 4 0),(5,.lp 5 0),(16,.v x16),(17,.v x17),(18,.v x18),(29,.v x29),(30,.v x30),(31,.v x31)]⟩,[(4,v4),(5,v5)],h,[]⟩
@[go_sem]def g_flat_joinK_0(H h x16 x17 x18 x29 x30 x31 v4 v5):=(zej.eq_1 H h x16 x17 x18 x29 x30 x31 v4 v5).symm
noncomputable def zb5(H h:List AO)(x16 x17 x18:AV)(v4 v5:List AV):Option RH:=awL T [4,5,16,17,18] [4,5] z1r (zbd 0 (thn (aw T (A zyg 12 .ret) (zis H [.c 2 true 4])) (zis H [.c 2 true 4]))) ⟨⟨50,[(4,.lp 4 0),(5,.lp 5 0),(16,.v x16),(17,.v x17),(18,.v x18)]⟩,[(4,v4),(5,v5)],h,[]⟩
@[go_sem]def g_flat_joinK_1(H h x16 x17 x18 v4 v5):=(zb5.eq_1 H h x16 x17 x18 v4 v5).symm
theorem t216:T (zft+1000000)=some e216:=by kernel_rfl
@[go_sem]def a216:=@zaa T _ _ c216.eq_1
def z82(a0 a1:AV)(H:List AO):=ffA (vs:=[a0,a1]) t216 rfl H
theorem t217:T (zcn+1000000)=some e217:=by kernel_rfl
@[go_sem]def a217:=@zaa T _ _ c217.eq_1
def zon(a0 a1:AV)(H:List AO):=ffA (vs:=[a0,a1]) t217 rfl H
theorem t218:T (zfd+1000000)=some e218:=by kernel_rfl
@[go_sem]def al218_0:=@zaa T _ _ ybv.eq_1
@[go_sem]def a218:=@zaa T _ _ c218.eq_1
def zzp(a0 a1:AV)(H:List AO):=ffA (vs:=[a0,a1]) t218 rfl H
noncomputable def zhy(H h:List AO)(x1 x6:AV)(v4 v5:List AV):Option RH:=awL T [1,4,5,6] [4,5] ybv (zbd 0 (thn (aw T (A yjt 6 .ret) (zis H [.c 2 true 4])) (zis H [.c 2 true 4]))) ⟨⟨20,[(1,.v x1),(4,.lp 4 0),(5,.lp 5 0),(6,.v x6)]⟩,[(4,v4),(5,v5)],h,[]⟩
@[go_sem]def g_ref06_noneK_0(H h x1 x6 v4 v5):=(zhy.eq_1 H h x1 x6 v4 v5).symm
end Go.Ab
end
