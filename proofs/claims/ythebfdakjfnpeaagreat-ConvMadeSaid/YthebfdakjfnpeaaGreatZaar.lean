/- What the law ConvMade of layer 17 comes to, part 18. Conditions: none. -/
import Derived.Test.YthebfdakjfnpeaaGreatZaaq
section
set_option linter.unusedVariables false
set_option linter.defProp false
set_option maxRecDepth 100000
namespace Go.Ab
open Go.RowKit Go.Proofs
theorem t0:T (zhe)=some e0:=by kernel_rfl
@[go_sem]def a0:=@zaa T _ _ c0.eq_1
def zvp(a0 a1 a2 a3 a4 a5:AV)(H:List AO):=ff (vs:=[a0,a1,a2,a3,a4,a5]) t0 rfl H
theorem t6:T (zkx)=some e6:=by kernel_rfl
@[go_sem]def a6:=@zaa T _ _ c6.eq_1
def zyw(a0 a1 a2:AV)(H:List AO):=ff (vs:=[a0,a1,a2]) t6 rfl H
theorem t7:T (zh9)=some e7:=by kernel_rfl
@[go_sem]def a7:=@zaa T _ _ c7.eq_1
def z5d(a0 a1 a2:AV)(H:List AO):=ff (vs:=[a0,a1,a2]) t7 rfl H
theorem t8:T (zok)=some e8:=by kernel_rfl
@[go_sem]def a8:=@zaa T _ _ c8.eq_1
def z5e(a0 a1 a2:AV)(H:List AO):=ff (vs:=[a0,a1,a2]) t8 rfl H
theorem t9:T (zmr)=some e9:=by kernel_rfl
@[go_sem]def a9:=@zaa T _ _ c9.eq_1
def z2k(H:List AO):=ff (vs:=[]) t9 rfl H
theorem t10:T (zjy)=some e10:=by kernel_rfl
@[go_sem]def a10:=@zaa T _ _ c10.eq_1
def z5c(a0 a1 a2 a3 a4:AV)(H:List AO):=ff (vs:=[a0,a1,a2,a3,a4]) t10 rfl H
theorem t11:T (zjr)=some e11:=by kernel_rfl
@[go_sem]def al11_0:=@zaa T _ _ l11_0.eq_1
@[go_sem]def a11:=@zaa T _ _ c11.eq_1
def z12(a0 a1:AV)(H:List AO):=ff (vs:=[a0,a1]) t11 rfl H
noncomputable def zi3(H h:List AO)(x1 x5 x6:AV)(v2:List AV):Option RH:=awL T [1,2,5,6] [2] l11_0 (zap 0 (thn (aw T (A q11 6 .ret) (zah H [.t 4])) (zah H [.t 4]))) ⟨⟨31,[(1,.v x1),(2,.lp 2 0),(5,.v x5),(6,.v x6)]⟩,[(2,v2)],h,[]⟩
@[go_sem]def g_ref13_Parts_0(H h x1 x5 x6 v2):=(zi3.eq_1 H h x1 x5 x6 v2).symm
theorem t12:T (zf4)=some e12:=by kernel_rfl
@[go_sem]def a12:=@zaa T _ _ c12.eq_1
def z5g(a0:AV)(H:List AO):=ff (vs:=[a0]) t12 rfl H
theorem t13:T (zf5)=some e13:=by kernel_rfl
@[go_sem]def a13:=@zaa T _ _ c13.eq_1
def z5h(a0 a1:AV)(H:List AO):=ff (vs:=[a0,a1]) t13 rfl H
theorem t16:T (zgp)=some e16:=by kernel_rfl
@[go_sem]def a16:=@zaa T _ _ c16.eq_1
def zxw(a0 a1 a2 a3 a4:AV)(H:List AO):=ff (vs:=[a0,a1,a2,a3,a4]) t16 rfl H
theorem t17:T (zfn)=some e17:=by kernel_rfl
@[go_sem]def a17:=@zaa T _ _ c17.eq_1
def z11(a0 a1 a2 a3:AV)(H:List AO):=ff (vs:=[a0,a1,a2,a3]) t17 rfl H
theorem t18:T (zoa)=some e18:=by kernel_rfl
@[go_sem]def al18_0:=@zaa T _ _ l18_0.eq_1
@[go_sem]def al18_1:=@zaa T _ _ ye9.eq_1
@[go_sem]def a18:=@zaa T _ _ c18.eq_1
def zsj(a0 a1 a2 a3:AV)(H:List AO):=ff (vs:=[a0,a1,a2,a3]) t18 rfl H
noncomputable def zfr(H h:List AO)(x0 x1 x11 x12 x17 x18 x19:AV)(v6 v7 v15:List AV):Option RH:=awL T [0,1,6,7,11,12,15,17,18,19] [6,7,15] l18_0 (zap 2 (zap 1 (thn (aw T (.reg (R q18 16)) (thn (zdq T [0,1,6,7,11] [6,7] ye9 (zap 0 (thn (aw T (A q18 17 .ret) (zah H [.t 8,.t 9,.t 10])) (zah H [.t 8,.t 9,.t 10])))) (zap 0 (thn (aw T (A q18 17 .ret) (zah H [.t 8,.t 9,.t 10])) (zah H [.t 8,.t 9,.t 10]))))) (thn (zdq T [0,1,6,7,11] [6,7] ye9 (zap 0 (thn (aw T (A q18 17 .ret) (zah H [.t 8,.t 9,.t 10])) (zah H [.t 8,.t 9,.t 10])))) (zap 0 (thn (aw T (A q18 17 .ret) (zah H [.t 8,.t 9,.t 10])) (zah H [.t 8,.t 9,.t 10]))))))) ⟨⟨84,[(0,.v x0),(1,.v x1),(6,.lp 6 0),(7,.lp 7 0),(11,.v x11),(12,.v x12),(15,.lp 15 0),(17,.v x17),(18,.v x18),(19,.v x19)]⟩,[(6,v6),(7,v7),(15,v15)],h,[]⟩
@[go_sem]def g_ref12_Leq_0(H h x0 x1 x11 x12 x17 x18 x19 v6 v7 v15):=(zfr.eq_1 H h x0 x1 x11 x12 x17 x18 x19 v6 v7 v15).symm
noncomputable def zg3(H h:List AO)(x0 x1 x11:AV)(v6 v7:List AV):Option RH:=awL T [0,1,6,7,11] [6,7] ye9 (zap 0 (thn (aw T (A q18 17 .ret) (zah H [.t 8,.t 9,.t 10])) (zah H [.t 8,.t 9,.t 10]))) ⟨⟨84,[(0,.v x0),(1,.v x1),(6,.lp 6 0),(7,.lp 7 0),(11,.v x11)]⟩,[(6,v6),(7,v7)],h,[]⟩
@[go_sem]def g_ref12_Leq_1(H h x0 x1 x11 v6 v7):=(zg3.eq_1 H h x0 x1 x11 v6 v7).symm
theorem t19:T (zqc)=some e19:=by kernel_rfl
@[go_sem]def al19_0:=@zaa T _ _ l19_0.eq_1
@[go_sem]def a19:=@zaa T _ _ c19.eq_1
def z77(a0:AV)(H:List AO):=ff (vs:=[a0]) t19 rfl H
noncomputable def zjf(H h:List AO)(x0 x3 x4:AV):Option RH:=awL T [0,3,4] [] l19_0 (zap 0 (thn (aw T (A q19 6 .ret) (zah H [.t 2])) (zah H [.t 2]))) ⟨⟨27,[(0,.v x0),(3,.v x3),(4,.v x4)]⟩,[],h,[]⟩
@[go_sem]def g_law16_Env_0(H h x0 x3 x4):=(zjf.eq_1 H h x0 x3 x4).symm
theorem t20:T (zol)=some e20:=by kernel_rfl
@[go_sem]def al20_0:=@zaa T _ _ l20_0.eq_1
@[go_sem]def a20:=@zaa T _ _ c20.eq_1
def z5i(a0 a1 a2:AV)(H:List AO):=ff (vs:=[a0,a1,a2]) t20 rfl H
noncomputable def zkm(H h:List AO)(x0 x1 x7 x8:AV):Option RH:=awL T [0,1,7,8] [] l20_0 (zap 0 (thn (aw T (A q20 6 .ret) (zah H [.t 6])) (zah H [.t 6]))) ⟨⟨28,[(0,.v x0),(1,.v x1),(7,.v x7),(8,.v x8)]⟩,[],h,[]⟩
@[go_sem]def g_law12_Cons_0(H h x0 x1 x7 x8):=(zkm.eq_1 H h x0 x1 x7 x8).symm
theorem t21:T (zdr)=some e21:=by kernel_rfl
@[go_sem]def al21_0:=@zaa T _ _ l21_0.eq_1
@[go_sem]def a21:=@zaa T _ _ c21.eq_1
def zu6(a0 a1 a2:AV)(H:List AO):=ff (vs:=[a0,a1,a2]) t21 rfl H
noncomputable def zkl(H h:List AO)(x0 x9:AV)(v6 v8:List AV):Option RH:=awL T [0,6,8,9] [6,8] l21_0 (zap 1 (thn (aw T (A q21 14 .ret) (zap 0 (thn (aw T (A q21 21 .ret) (zah H [.c 4 true 6])) (zah H [.c 4 true 6])))) (zap 0 (thn (aw T (A q21 21 .ret) (zah H [.c 4 true 6])) (zah H [.c 4 true 6]))))) ⟨⟨118,[(0,.v x0),(6,.lp 6 0),(8,.lp 8 0),(9,.v x9)]⟩,[(6,v6),(8,v8)],h,[]⟩
@[go_sem]def g_law13_Term_0(H h x0 x9 v6 v8):=(zkl.eq_1 H h x0 x9 v6 v8).symm
theorem t22:T (zjz)=some e22:=by kernel_rfl
@[go_sem]def al22_0:=@zaa T _ _ l22_0.eq_1
@[go_sem]def al22_1:=@zaa T _ _ ykp.eq_1
@[go_sem]def a22:=@zaa T _ _ c22.eq_1
def z2j(a0 a1:AV)(H:List AO):=ff (vs:=[a0,a1]) t22 rfl H
noncomputable def zje(H h:List AO)(x6:AV)(v2 v3 v4 v5:List AV):Option RH:=awL T [2,3,4,5,6] [2,3,4,5] l22_0 (zap 0 (thn (aw T (.seq (A q22 9 (.block 2 (.loop [2,3,4,5,8] [2,3,4,5] ykp))) (A q22 13 .ret)) (zah H [.c 4 true 4])) (zah H [.c 4 true 4]))) ⟨⟨55,[(2,.lp 2 0),(3,.lp 3 0),(4,.lp 4 0),(5,.lp 5 0),(6,.v x6)]⟩,[(2,v2),(3,v3),(4,v4),(5,v5)],h,[]⟩
@[go_sem]def g_law17_plain_0(H h x6 v2 v3 v4 v5):=(zje.eq_1 H h x6 v2 v3 v4 v5).symm
noncomputable def zjd(H h:List AO)(x8:AV)(v2 v3 v4 v5:List AV):Option RH:=awL T [2,3,4,5,8] [2,3,4,5] ykp (zap 2 (thn (aw T (A q22 13 .ret) (zah H [.c 4 true 4])) (zah H [.c 4 true 4]))) ⟨⟨55,[(2,.lp 2 0),(3,.lp 3 0),(4,.lp 4 0),(5,.lp 5 0),(8,.v x8)]⟩,[(2,v2),(3,v3),(4,v4),(5,v5)],h,[]⟩
@[go_sem]def g_law17_plain_1(H h x8 v2 v3 v4 v5):=(zjd.eq_1 H h x8 v2 v3 v4 v5).symm
theorem t23:T (zly)=some e23:=by kernel_rfl
@[go_sem]def a23:=@zaa T _ _ c23.eq_1
def z4z(a0 a1 a2:AV)(H:List AO):=ff (vs:=[a0,a1,a2]) t23 rfl H
theorem t24:T (zms)=some e24:=by kernel_rfl
@[go_sem]def a24:=@zaa T _ _ c24.eq_1
def z78(a0:AV)(H:List AO):=ff (vs:=[a0]) t24 rfl H
theorem t25:T (zaj)=some e25:=by kernel_rfl
@[go_sem]def a25:=@zaa T _ _ c25.eq_1
def ztl(a0 a1:AV)(H:List AO):=ff (vs:=[a0,a1]) t25 rfl H
theorem t26:T (zl2)=some e26:=by kernel_rfl
@[go_sem]def al26_0:=@zaa T _ _ l26_0.eq_1
@[go_sem]def a26:=@zaa T _ _ c26.eq_1
def z5b(a0:AV)(H:List AO):=ff (vs:=[a0]) t26 rfl H
noncomputable def zkk(H h:List AO)(x4:AV)(v1 v2 v3:List AV):Option RH:=awL T [1,2,3,4] [1,2,3] l26_0 (zap 0 (thn (aw T (A q26 8 .ret) (zah H [.c 4 true 2])) (zah H [.c 4 true 2]))) ⟨⟨38,[(1,.lp 1 0),(2,.lp 2 0),(3,.lp 3 0),(4,.v x4)]⟩,[(1,v1),(2,v2),(3,v3)],h,[]⟩
@[go_sem]def g_law17_succ_0(H h x4 v1 v2 v3):=(zkk.eq_1 H h x4 v1 v2 v3).symm
theorem t27:T (zif)=some e27:=by kernel_rfl
@[go_sem]def a27:=@zaa T _ _ c27.eq_1
def z5l(a0:AV)(H:List AO):=ff (vs:=[a0]) t27 rfl H
theorem t28:T (zlu)=some e28:=by kernel_rfl
@[go_sem]def a28:=@zaa T _ _ c28.eq_1
def zu5(a0 a1 a2 a3 a4:AV)(H:List AO):=ff (vs:=[a0,a1,a2,a3,a4]) t28 rfl H
theorem t29:T (zhb)=some e29:=by kernel_rfl
@[go_sem]def al29_0:=@zaa T _ _ l29_0.eq_1
@[go_sem]def a29:=@zaa T _ _ c29.eq_1
def zvo(a0 a1:AV)(H:List AO):=ff (vs:=[a0,a1]) t29 rfl H
noncomputable def zgc(H h:List AO)(x0 x1 x5:AV):Option RH:=awL T [0,1,5] [] l29_0 (zap 0 (thn (aw T (A q29 8 .ret) (zah H [.t 4])) (zah H [.t 4]))) ⟨⟨43,[(0,.v x0),(1,.v x1),(5,.v x5)]⟩,[],h,[]⟩
@[go_sem]def g_ref17_SameCons_0(H h x0 x1 x5):=(zgc.eq_1 H h x0 x1 x5).symm
theorem t30:T (zjn)=some e30:=by kernel_rfl
@[go_sem]def a30:=@zaa T _ _ c30.eq_1
def z1t(a0:AV)(H:List AO):=ff (vs:=[a0]) t30 rfl H
theorem t31:T (zmg)=some e31:=by kernel_rfl
@[go_sem]def al31_0:=@zaa T _ _ l31_0.eq_1
@[go_sem]def a31:=@zaa T _ _ c31.eq_1
def z1v(a0:AV)(H:List AO):=ff (vs:=[a0]) t31 rfl H
noncomputable def ziz(H h:List AO)(x0 x3:AV):Option RH:=awL T [0,3] [] l31_0 (zap 0 (thn (aw T (A q31 6 .ret) (zah H [.t 2])) (zah H [.t 2]))) ⟨⟨20,[(0,.v x0),(3,.v x3)]⟩,[],h,[]⟩
@[go_sem]def g_ref16_Right_0(H h x0 x3):=(ziz.eq_1 H h x0 x3).symm
theorem t32:T (zez)=some e32:=by kernel_rfl
@[go_sem]def a32:=@zaa T _ _ c32.eq_1
def z10(a0:AV)(H:List AO):=ff (vs:=[a0]) t32 rfl H
theorem t33:T (za1)=some e33:=by kernel_rfl
@[go_sem]def al33_0:=@zaa T _ _ l33_0.eq_1
@[go_sem]def a33:=@zaa T _ _ c33.eq_1
def zrr(a0 a1:AV)(H:List AO):=ff (vs:=[a0,a1]) t33 rfl H
noncomputable def zae(H h:List AO)(x0:AV)(v3 v4:List AV):Option RH:=awL T [0,3,4] [3,4] l33_0 (zap 0 (thn (aw T (A q33 15 .ret) (zah H [.c 4 true 4])) (zah H [.c 4 true 4]))) ⟨⟨96,[(0,.v x0),(3,.lp 3 0),(4,.lp 4 0)]⟩,[(3,v3),(4,v4)],h,[]⟩
@[go_sem]def g_ref16_Machine_Head_0(H h x0 v3 v4):=(zae.eq_1 H h x0 v3 v4).symm
theorem t34:T (zh3)=some e34:=by kernel_rfl
@[go_sem]def a34:=@zaa T _ _ c34.eq_1
def z4s(a0 a1 a2 a3:AV)(H:List AO):=ff (vs:=[a0,a1,a2,a3]) t34 rfl H
theorem t35:T (zto)=some e35:=by kernel_rfl
@[go_sem]def a35:=@zaa T _ _ c35.eq_1
def yby(a0 a1:AV)(H:List AO):=ffK (vs:=[a0,a1]) t35 rfl H
theorem t36:T (zbe)=some e36:=by kernel_rfl
@[go_sem]def a36:=@zaa T _ _ c36.eq_1
def zal(a0 a1 a2 a3:AV)(H:List AO):=ff (vs:=[a0,a1,a2,a3]) t36 rfl H
theorem t37:T (zhy)=some e37:=by kernel_rfl
@[go_sem]def al37_0:=@zaa T _ _ l37_0.eq_1
@[go_sem]def a37:=@zaa T _ _ c37.eq_1
def z1x(a0 a1 a2 a3 a4:AV)(H:List AO):=ff (vs:=[a0,a1,a2,a3,a4]) t37 rfl H
noncomputable def zi1(H h:List AO)(x1 x2 x3 x4 x11:AV)(v5:List AV):Option RH:=awL T [1,2,3,4,5,11] [5] l37_0 (zap 0 (thn (aw T (A q37 8 .ret) (zah H [.t 10])) (zah H [.t 10]))) ⟨⟨55,[(1,.v x1),(2,.v x2),(3,.v x3),(4,.v x4),(5,.lp 5 0),(11,.v x11)]⟩,[(5,v5)],h,[]⟩
@[go_sem]def g_ref13_right_0(H h x1 x2 x3 x4 x11 v5):=(zi1.eq_1 H h x1 x2 x3 x4 x11 v5).symm
theorem t38:T (zh0)=some e38:=by kernel_rfl
@[go_sem]def al38_0:=@zaa T _ _ l38_0.eq_1
@[go_sem]def a38:=@zaa T _ _ c38.eq_1
def z13(a0 a1:AV)(H:List AO):=ff (vs:=[a0,a1]) t38 rfl H
noncomputable def zi4(H h:List AO)(x0 x1 x5:AV):Option RH:=awL T [0,1,5] [] l38_0 (zap 0 (thn (aw T (A q38 6 .ret) (zah H [.t 4])) (zah H [.t 4]))) ⟨⟨41,[(0,.v x0),(1,.v x1),(5,.v x5)]⟩,[],h,[]⟩
@[go_sem]def g_ref12_Right_0(H h x0 x1 x5):=(zi4.eq_1 H h x0 x1 x5).symm
theorem t39:T (zc0)=some e39:=by kernel_rfl
@[go_sem]def a39:=@zaa T _ _ c39.eq_1
def z2c(a0 a1 a2:AV)(H:List AO):=ff (vs:=[a0,a1,a2]) t39 rfl H
theorem t40:T (zod)=some e40:=by kernel_rfl
@[go_sem]def al40_0:=@zaa T _ _ l40_0.eq_1
@[go_sem]def a40:=@zaa T _ _ c40.eq_1
def z43(a0 a1:AV)(H:List AO):=ff (vs:=[a0,a1]) t40 rfl H
noncomputable def zkg(H h:List AO)(x0 x1 x5 x6:AV):Option RH:=awL T [0,1,5,6] [] l40_0 (zap 0 (thn (aw T (A q40 7 .ret) (zah H [.t 4])) (zah H [.t 4]))) ⟨⟨21,[(0,.v x0),(1,.v x1),(5,.v x5),(6,.v x6)]⟩,[],h,[]⟩
@[go_sem]def g_ref07_Case_0(H h x0 x1 x5 x6):=(zkg.eq_1 H h x0 x1 x5 x6).symm
theorem t41:T (zer)=some e41:=by kernel_rfl
@[go_sem]def al41_0:=@zaa T _ _ l41_0.eq_1
@[go_sem]def a41:=@zaa T _ _ c41.eq_1
def zxs(a0 a1:AV)(H:List AO):=ff (vs:=[a0,a1]) t41 rfl H
noncomputable def zg4(H h:List AO)(x7:AV)(v4 v6:List AV):Option RH:=awL T [4,6,7] [4,6] l41_0 (zap 0 (thn (aw T (A q41 9 .ret) (zah H [.c 2 true 4,.t 5])) (zah H [.c 2 true 4,.t 5]))) ⟨⟨43,[(4,.lp 4 0),(6,.lp 6 0),(7,.v x7)]⟩,[(4,v4),(6,v6)],h,[]⟩
@[go_sem]def g_ref06_Flatten_0(H h x7 v4 v6):=(zg4.eq_1 H h x7 v4 v6).symm
theorem t42:T (zgi)=some e42:=by kernel_rfl
@[go_sem]def al42_0:=@zaa T _ _ l42_0.eq_1
@[go_sem]def a42:=@zaa T _ _ c42.eq_1
def z14(a0:AV)(H:List AO):=ff (vs:=[a0]) t42 rfl H
noncomputable def zi5(H h:List AO)(x3 x4:AV)(v1:List AV):Option RH:=awL T [1,3,4] [1] l42_0 (zap 0 (thn (aw T (A q42 7 .ret) (zah H [.t 2])) (zah H [.t 2]))) ⟨⟨34,[(1,.lp 1 0),(3,.v x3),(4,.v x4)]⟩,[(1,v1)],h,[]⟩
@[go_sem]def g_ref12_Atoms_0(H h x3 x4 v1):=(zi5.eq_1 H h x3 x4 v1).symm
theorem t43:T (zij)=some e43:=by kernel_rfl
@[go_sem]def al43_0:=@zaa T _ _ l43_0.eq_1
@[go_sem]def al43_1:=@zaa T _ _ l43_1.eq_1
@[go_sem]def al43_2:=@zaa T _ _ ybk.eq_1
@[go_sem]def a43:=@zaa T _ _ c43.eq_1
def zxr(a0 a1:AV)(H:List AO):=ff (vs:=[a0,a1]) t43 rfl H
noncomputable def zff(H h:List AO)(x0 x1 x5 x6:AV):Option RH:=awL T [0,1,5,6] [] l43_0 (zap 0 (thn (aw T (.seq (A q43 7 (.block 2 (.loop [0,1,5,7] [] ybk))) (A q43 17 .ret)) (zah H [.t 4])) (zah H [.t 4]))) ⟨⟨79,[(0,.v x0),(1,.v x1),(5,.v x5),(6,.v x6)]⟩,[],h,[]⟩
@[go_sem]def g_ref12_clauses_0(H h x0 x1 x5 x6):=(zff.eq_1 H h x0 x1 x5 x6).symm
noncomputable def zg2(H h:List AO)(x0 x1 x5 x7 x12 x13:AV)(v10:List AV):Option RH:=awL T [0,1,5,7,10,12,13] [10] l43_1 (zap 4 (zap 3 (thn (aw T (.reg (R q43 16)) (thn (zdq T [0,1,5,7] [] ybk (zap 2 (thn (aw T (A q43 17 .ret) (zah H [.t 4])) (zah H [.t 4])))) (zap 2 (thn (aw T (A q43 17 .ret) (zah H [.t 4])) (zah H [.t 4]))))) (thn (zdq T [0,1,5,7] [] ybk (zap 2 (thn (aw T (A q43 17 .ret) (zah H [.t 4])) (zah H [.t 4])))) (zap 2 (thn (aw T (A q43 17 .ret) (zah H [.t 4])) (zah H [.t 4]))))))) ⟨⟨79,[(0,.v x0),(1,.v x1),(5,.v x5),(7,.v x7),(10,.lp 10 0),(12,.v x12),(13,.v x13)]⟩,[(10,v10)],h,[]⟩
@[go_sem]def g_ref12_clauses_1(H h x0 x1 x5 x7 x12 x13 v10):=(zg2.eq_1 H h x0 x1 x5 x7 x12 x13 v10).symm
noncomputable def zd9(H h:List AO)(x0 x1 x5 x7:AV):Option RH:=awL T [0,1,5,7] [] ybk (zap 2 (thn (aw T (A q43 17 .ret) (zah H [.t 4])) (zah H [.t 4]))) ⟨⟨79,[(0,.v x0),(1,.v x1),(5,.v x5),(7,.v x7)]⟩,[],h,[]⟩
@[go_sem]def g_ref12_clauses_2(H h x0 x1 x5 x7):=(zd9.eq_1 H h x0 x1 x5 x7).symm
theorem t44:T (zik)=some e44:=by kernel_rfl
@[go_sem]def al44_0:=@zaa T _ _ l44_0.eq_1
@[go_sem]def a44:=@zaa T _ _ c44.eq_1
def zqo(a0 a1 a2 a3:AV)(H:List AO):=ff (vs:=[a0,a1,a2,a3]) t44 rfl H
noncomputable def zfg(H h:List AO)(x2 x3 x10 x11:AV)(v5:List AV):Option RH:=awL T [2,3,5,10,11] [5] l44_0 (zap 0 (thn (aw T (A q44 6 (.seq (A q44 7 (.cond (.t 53) (A q44 8 .ret) .skip)) (A q44 9 .ret))) (zah H [.t 8,.t 9])) (zah H [.t 8,.t 9]))) ⟨⟨57,[(2,.v x2),(3,.v x3),(5,.lp 5 0),(10,.v x10),(11,.v x11)]⟩,[(5,v5)],h,[]⟩
@[go_sem]def g_ref12_against_0(H h x2 x3 x10 x11 v5):=(zfg.eq_1 H h x2 x3 x10 x11 v5).symm
theorem t45:T (zl3)=some e45:=by kernel_rfl
@[go_sem]def al45_0:=@zaa T _ _ l45_0.eq_1
@[go_sem]def a45:=@zaa T _ _ c45.eq_1
def z5f(a0 a1:AV)(H:List AO):=ff (vs:=[a0,a1]) t45 rfl H
noncomputable def ze1(H h:List AO)(x0 x1 x6:AV)(v4 v5:List AV):Option RH:=awL T [0,1,4,5,6] [4,5] l45_0 (zap 0 (thn (aw T (A q45 6 (.seq (A q45 7 (.cond (.t 38) (A q45 8 (.reg (R q45 9))) .skip)) (A q45 10 .ret))) (zah H [.c 11 true 4])) (zah H [.c 11 true 4]))) ⟨⟨47,[(0,.v x0),(1,.v x1),(4,.lp 4 0),(5,.lp 5 0),(6,.v x6)]⟩,[(4,v4),(5,v5)],h,[]⟩
@[go_sem]def g_law16_Decl_0(H h x0 x1 x6 v4 v5):=(ze1.eq_1 H h x0 x1 x6 v4 v5).symm
theorem t46:T (zaf)=some e46:=by kernel_rfl
@[go_sem]def a46:=@zaa T _ _ c46.eq_1
def zmz(a0 a1 a2 a3:AV)(H:List AO):=ff (vs:=[a0,a1,a2,a3]) t46 rfl H
theorem t47:T (zgw)=some e47:=by kernel_rfl
@[go_sem]def al47_0:=@zaa T _ _ l47_0.eq_1
@[go_sem]def a47:=@zaa T _ _ c47.eq_1
def zxv(a0:AV)(H:List AO):=ff (vs:=[a0]) t47 rfl H
noncomputable def zg6(H h:List AO)(x3:AV)(v1:List AV):Option RH:=awL T [1,3] [1] l47_0 (zap 0 (thn (aw T (A q47 6 .ret) (zah H [.t 2])) (zah H [.t 2]))) ⟨⟨20,[(1,.lp 1 0),(3,.v x3)]⟩,[(1,v1)],h,[]⟩
@[go_sem]def g_law17_unknown_0(H h x3 v1):=(zg6.eq_1 H h x3 v1).symm
theorem t48:T (zjq)=some e48:=by kernel_rfl
@[go_sem]def al48_0:=@zaa T _ _ l48_0.eq_1
@[go_sem]def a48:=@zaa T _ _ c48.eq_1
def z4v(a0 a1 a2:AV)(H:List AO):=ff (vs:=[a0,a1,a2]) t48 rfl H
noncomputable def zkc(H h:List AO)(x1 x2 x8:AV)(v3 v6 v7:List AV):Option RH:=awL T [1,2,3,6,7,8] [3,6,7] l48_0 (zap 0 (thn (aw T (A q48 8 .ret) (zah H [.c 4 true 6])) (zah H [.c 4 true 6]))) ⟨⟨56,[(1,.v x1),(2,.v x2),(3,.lp 3 0),(6,.lp 6 0),(7,.lp 7 0),(8,.v x8)]⟩,[(3,v3),(6,v6),(7,v7)],h,[]⟩
@[go_sem]def g_ref13_lift_0(H h x1 x2 x8 v3 v6 v7):=(zkc.eq_1 H h x1 x2 x8 v3 v6 v7).symm
theorem t49:T (zks)=some e49:=by kernel_rfl
@[go_sem]def al49_0:=@zaa T _ _ l49_0.eq_1
@[go_sem]def a49:=@zaa T _ _ c49.eq_1
def zyv(a0:AV)(H:List AO):=ff (vs:=[a0]) t49 rfl H
noncomputable def zhs(H h:List AO)(x0 x6 x7 x8:AV):Option RH:=awL T [0,6,7,8] [] l49_0 (zap 0 (thn (aw T (A q49 10 .ret) (zah H [.t 2])) (zah H [.t 2]))) ⟨⟨48,[(0,.v x0),(6,.v x6),(7,.v x7),(8,.v x8)]⟩,[],h,[]⟩
@[go_sem]def g_reduce_Right_0(H h x0 x6 x7 x8):=(zhs.eq_1 H h x0 x6 x7 x8).symm
theorem t50:T (zhv)=some e50:=by kernel_rfl
@[go_sem]def a50:=@zaa T _ _ c50.eq_1
def z1l(a0 a1:AV)(H:List AO):=ff (vs:=[a0,a1]) t50 rfl H
theorem t51:T (zp3)=some e51:=by kernel_rfl
@[go_sem]def a51:=@zaa T _ _ c51.eq_1
def z7z(a0 a1:AV)(H:List AO):=ffK (vs:=[a0,a1]) t51 rfl H
theorem t52:T (zbc)=some e52:=by kernel_rfl
@[go_sem]def a52:=@zaa T _ _ c52.eq_1
def zao(a0 a1 a2 a3:AV)(H:List AO):=ff (vs:=[a0,a1,a2,a3]) t52 rfl H
theorem t53:T (zh5)=some e53:=by kernel_rfl
@[go_sem]def al53_0:=@zaa T _ _ l53_0.eq_1
@[go_sem]def a53:=@zaa T _ _ c53.eq_1
def z47(a0 a1:AV)(H:List AO):=ff (vs:=[a0,a1]) t53 rfl H
noncomputable def zkj(H h:List AO)(x5:AV)(v2 v3:List AV):Option RH:=awL T [2,3,5] [2,3] l53_0 (zap 0 (thn (aw T (A q53 8 .ret) (zah H [.t 4])) (zah H [.t 4]))) ⟨⟨46,[(2,.lp 2 0),(3,.lp 3 0),(5,.v x5)]⟩,[(2,v2),(3,v3)],h,[]⟩
@[go_sem]def g_ref02_Same_0(H h x5 v2 v3):=(zkj.eq_1 H h x5 v2 v3).symm
theorem t54:T (zn7)=some e54:=by kernel_rfl
@[go_sem]def a54:=@zaa T _ _ c54.eq_1
def z4t(a0 a1:AV)(H:List AO):=ff (vs:=[a0,a1]) t54 rfl H
theorem t55:T (zbd)=some e55:=by kernel_rfl
@[go_sem]def a55:=@zaa T _ _ c55.eq_1
def zrt(a0:AV)(H:List AO):=ff (vs:=[a0]) t55 rfl H
theorem t56:T (zb2)=some e56:=by kernel_rfl
@[go_sem]def a56:=@zaa T _ _ c56.eq_1
def zsi(a0 a1 a2:AV)(H:List AO):=ff (vs:=[a0,a1,a2]) t56 rfl H
theorem t57:T (zlx)=some e57:=by kernel_rfl
@[go_sem]def a57:=@zaa T _ _ c57.eq_1
def z4y(a0 a1:AV)(H:List AO):=ff (vs:=[a0,a1]) t57 rfl H
theorem t58:T (zdl)=some e58:=by kernel_rfl
@[go_sem]def a58:=@zaa T _ _ c58.eq_1
def zph(a0 a1:AV)(H:List AO):=ff (vs:=[a0,a1]) t58 rfl H
theorem t59:T (zp4)=some e59:=by kernel_rfl
@[go_sem]def a59:=@zaa T _ _ c59.eq_1
def z71(a0 a1 a2:AV)(H:List AO):=ff (vs:=[a0,a1,a2]) t59 rfl H
theorem t60:T (zdd)=some e60:=by kernel_rfl
@[go_sem]def a60:=@zaa T _ _ c60.eq_1
def zvn(a0 a1:AV)(H:List AO):=ff (vs:=[a0,a1]) t60 rfl H
theorem t61:T (zak)=some e61:=by kernel_rfl
@[go_sem]def a61:=@zaa T _ _ c61.eq_1
def zqr(a0:AV)(H:List AO):=ff (vs:=[a0]) t61 rfl H
theorem t62:T (za2)=some e62:=by kernel_rfl
@[go_sem]def al62_0:=@zaa T _ _ l62_0.eq_1
@[go_sem]def zy2:=@zaa T _ _ za6.eq_1
@[go_sem]theorem znm:FC.okd za6=true:=by kernel_rfl
@[go_sem]def zy1:=@zaa T _ _ za4.eq_1
@[go_sem]theorem znl:FC.okd za4=true:=by kernel_rfl
@[go_sem]def a62:=@zaa T _ _ c62.eq_1
def zqp(a0 a1:AV)(H:List AO):=ff (vs:=[a0,a1]) t62 rfl H
noncomputable def zaq(H h:List AO)(ds:List Nat)(x0 x5 x6:AV)(v4:List AV):Option RH:=awL T [0,4,5,6] [4] l62_0 (zap 0 (thn (aw T (.seq (A q62 6 (.block 2 (.rf (.t 43) [44,45] [5] za6 za4))) (A q62 9 .ret)) (zah H [.c 4 true 4])) (zah H [.c 4 true 4]))) ⟨⟨60,[(0,.v x0),(4,.lp 4 0),(5,.v x5),(6,.v x6)]⟩,[(4,v4)],h,ds⟩
@[go_sem]def g_reduce_Machine_Head_0(H h ds x0 x5 x6 v4):=(zaq.eq_1 H h ds x0 x5 x6 v4).symm
theorem t63:T (zdc)=some e63:=by kernel_rfl
@[go_sem]def a63:=@zaa T _ _ c63.eq_1
def zm0(a0 a1:AV)(H:List AO):=ff (vs:=[a0,a1]) t63 rfl H
theorem t64:T (zqt)=some e64:=by kernel_rfl
@[go_sem]def a64:=@zaa T _ _ c64.eq_1
def z8b(H:List AO):=ff (vs:=[]) t64 rfl H
theorem t65:T (zn9)=some e65:=by kernel_rfl
@[go_sem]def a65:=@zaa T _ _ c65.eq_1
def z4w(a0:AV)(H:List AO):=ff (vs:=[a0]) t65 rfl H
theorem t66:T (zmh)=some e66:=by kernel_rfl
@[go_sem]def al66_0:=@zaa T _ _ l66_0.eq_1
@[go_sem]def a66:=@zaa T _ _ c66.eq_1
def z1y(a0 a1 a2 a3:AV)(H:List AO):=ff (vs:=[a0,a1,a2,a3]) t66 rfl H
noncomputable def zi2(H h:List AO)(x1 x2 x3 x9:AV)(v4:List AV):Option RH:=awL T [1,2,3,4,9] [4] l66_0 (zap 0 (thn (aw T (.seq (A q66 6 (.block 2 (A q66 7 (.cond (.t 28) (A q66 8 .ret) (A q66 9 (.cond (.t 45) (A q66 10 .ret) (A q66 11 (.cond (.t 56) (A q66 12 .ret) .skip)))))))) (A q66 13 .ret)) (zah H [.t 8])) (zah H [.t 8]))) ⟨⟨81,[(1,.v x1),(2,.v x2),(3,.v x3),(4,.lp 4 0),(9,.v x9)]⟩,[(4,v4)],h,[]⟩
@[go_sem]def g_ref13_named_0(H h x1 x2 x3 x9 v4):=(zi2.eq_1 H h x1 x2 x3 x9 v4).symm
theorem t67:T (zhz)=some e67:=by kernel_rfl
@[go_sem]def a67:=@zaa T _ _ c67.eq_1
def z1z(a0 a1:AV)(H:List AO):=ff (vs:=[a0,a1]) t67 rfl H
theorem t68:T (zjv)=some e68:=by kernel_rfl
@[go_sem]def al68_0:=@zaa T _ _ l68_0.eq_1
@[go_sem]def a68:=@zaa T _ _ c68.eq_1
def z2d(a0 a1:AV)(H:List AO):=ff (vs:=[a0,a1]) t68 rfl H
noncomputable def zjb(H h:List AO)(x1 x5 x6:AV)(v2:List AV):Option RH:=awL T [1,2,5,6] [2] l68_0 (zap 0 (thn (aw T (A q68 6 .ret) (zah H [.t 4])) (zah H [.t 4]))) ⟨⟨31,[(1,.v x1),(2,.lp 2 0),(5,.v x5),(6,.v x6)]⟩,[(2,v2)],h,[]⟩
@[go_sem]def g_ref02_Nodes_0(H h x1 x5 x6 v2):=(zjb.eq_1 H h x1 x5 x6 v2).symm
theorem t69:T (zju)=some e69:=by kernel_rfl
@[go_sem]def al69_0:=@zaa T _ _ l69_0.eq_1
@[go_sem]def a69:=@zaa T _ _ c69.eq_1
def z2b(a0 a1 a2 a3:AV)(H:List AO):=ff (vs:=[a0,a1,a2,a3]) t69 rfl H
noncomputable def zja(H h:List AO)(x1 x2 x3 x9:AV)(v4:List AV):Option RH:=awL T [1,2,3,4,9] [4] l69_0 (zap 1 (thn (aw T (A q69 13 .ret) (zah H [.t 8])) (zah H [.t 8]))) ⟨⟨66,[(1,.v x1),(2,.v x2),(3,.v x3),(4,.lp 4 0),(9,.v x9)]⟩,[(4,v4)],h,[]⟩
@[go_sem]def g_ref02_right_0(H h x1 x2 x3 x9 v4):=(zja.eq_1 H h x1 x2 x3 x9 v4).symm
theorem t70:T (zhc)=some e70:=by kernel_rfl
@[go_sem]def al70_0:=@zaa T _ _ l70_0.eq_1
@[go_sem]def a70:=@zaa T _ _ c70.eq_1
def z72(a0 a1:AV)(H:List AO):=ff (vs:=[a0,a1]) t70 rfl H
noncomputable def zlo(H h:List AO)(x7:AV)(v4 v5 v6:List AV):Option RH:=awL T [4,5,6,7] [4,5,6] l70_0 (zap 1 (thn (aw T (A q70 12 .ret) (zap 0 (thn (aw T (A q70 25 .ret) (zah H [.c 2 true 4])) (zah H [.c 2 true 4])))) (zap 0 (thn (aw T (A q70 25 .ret) (zah H [.c 2 true 4])) (zah H [.c 2 true 4]))))) ⟨⟨102,[(4,.lp 4 0),(5,.lp 5 0),(6,.lp 6 0),(7,.v x7)]⟩,[(4,v4),(5,v5),(6,v6)],h,[]⟩
@[go_sem]def g_ref06_raw_0(H h x7 v4 v5 v6):=(zlo.eq_1 H h x7 v4 v5 v6).symm
theorem t71:T (zmj)=some e71:=by kernel_rfl
@[go_sem]def a71:=@zaa T _ _ c71.eq_1
def z16(a0 a1:AV)(H:List AO):=ff (vs:=[a0,a1]) t71 rfl H
theorem t72:T (zko)=some e72:=by kernel_rfl
@[go_sem]def al72_0:=@zaa T _ _ l72_0.eq_1
@[go_sem]def a72:=@zaa T _ _ c72.eq_1
def zyq(a0 a1:AV)(H:List AO):=ff (vs:=[a0,a1]) t72 rfl H
noncomputable def zhp(H h:List AO)(x0 x1 x5 x6:AV):Option RH:=awL T [0,1,5,6] [] l72_0 (zap 0 (thn (aw T (A q72 9 .ret) (zah H [.t 4])) (zah H [.t 4]))) ⟨⟨32,[(0,.v x0),(1,.v x1),(5,.v x5),(6,.v x6)]⟩,[],h,[]⟩
@[go_sem]def g_ref12_values_0(H h x0 x1 x5 x6):=(zhp.eq_1 H h x0 x1 x5 x6).symm
theorem t73:T (zbg)=some e73:=by kernel_rfl
@[go_sem]def al73_0:=@zaa T _ _ l73_0.eq_1
@[go_sem]def a73:=@zaa T _ _ c73.eq_1
def zr0(a0 a1 a2 a3 a4:AV)(H:List AO):=ff (vs:=[a0,a1,a2,a3,a4]) t73 rfl H
noncomputable def zht(H h:List AO)(x0 x2 x14:AV)(v10 v13:List AV):Option RH:=awL T [0,2,10,13,14] [10,13] l73_0 (zap 1 (thn (aw T (A q73 13 .ret) (zap 0 (thn (aw T (A q73 22 .ret) (zah H [.c 4 true 10])) (zah H [.c 4 true 10])))) (zap 0 (thn (aw T (A q73 22 .ret) (zah H [.c 4 true 10])) (zah H [.c 4 true 10]))))) ⟨⟨152,[(0,.v x0),(2,.v x2),(10,.lp 10 0),(13,.lp 13 0),(14,.v x14)]⟩,[(10,v10),(13,v13)],h,[]⟩
@[go_sem]def g_law16_closed_0(H h x0 x2 x14 v10 v13):=(zht.eq_1 H h x0 x2 x14 v10 v13).symm
theorem t74:T (zma)=some e74:=by kernel_rfl
@[go_sem]def a74:=@zaa T _ _ c74.eq_1
def z7v(a0 a1:AV)(H:List AO):=ff (vs:=[a0,a1]) t74 rfl H
theorem t75:T (zl1)=some e75:=by kernel_rfl
@[go_sem]def a75:=@zaa T _ _ c75.eq_1
def z48(a0 a1 a2:AV)(H:List AO):=ff (vs:=[a0,a1,a2]) t75 rfl H
theorem t76:T (zgs)=some e76:=by kernel_rfl
@[go_sem]def a76:=@zaa T _ _ c76.eq_1
def zxo(a0 a1:AV)(H:List AO):=ff (vs:=[a0,a1]) t76 rfl H
theorem t77:T (zdv)=some e77:=by kernel_rfl
@[go_sem]def a77:=@zaa T _ _ c77.eq_1
def z2i(a0 a1 a2:AV)(H:List AO):=ff (vs:=[a0,a1,a2]) t77 rfl H
theorem t78:T (zb1)=some e78:=by kernel_rfl
@[go_sem]def a78:=@zaa T _ _ c78.eq_1
def znu(a0 a1:AV)(H:List AO):=ff (vs:=[a0,a1]) t78 rfl H
theorem t79:T (zd8)=some e79:=by kernel_rfl
@[go_sem]def a79:=@zaa T _ _ c79.eq_1
def zsf(a0 a1:AV)(H:List AO):=ff (vs:=[a0,a1]) t79 rfl H
theorem t80:T (zdb)=some e80:=by kernel_rfl
@[go_sem]def a80:=@zaa T _ _ c80.eq_1
def zsh(a0 a1 a2:AV)(H:List AO):=ff (vs:=[a0,a1,a2]) t80 rfl H
theorem t81:T (zfc)=some e81:=by kernel_rfl
@[go_sem]def al81_0:=@zaa T _ _ l81_0.eq_1
@[go_sem]def a81:=@zaa T _ _ c81.eq_1
def zsg(a0 a1 a2:AV)(H:List AO):=ff (vs:=[a0,a1,a2]) t81 rfl H
noncomputable def zdo(H h:List AO)(x0 x1 x2 x7:AV):Option RH:=awL T [0,1,2,7] [] l81_0 (zap 0 (thn (aw T (A q81 6 .ret) (zah H [.t 6])) (zah H [.t 6]))) ⟨⟨25,[(0,.v x0),(1,.v x1),(2,.v x2),(7,.v x7)]⟩,[],h,[]⟩
@[go_sem]def g_ref17_Machine_all_0(H h x0 x1 x2 x7):=(zdo.eq_1 H h x0 x1 x2 x7).symm
theorem t82:T (zjo)=some e82:=by kernel_rfl
@[go_sem]def al82_0:=@zaa T _ _ l82_0.eq_1
@[go_sem]def a82:=@zaa T _ _ c82.eq_1
def z1u(a0 a1:AV)(H:List AO):=ff (vs:=[a0,a1]) t82 rfl H
noncomputable def ziy(H h:List AO)(x1 x5 x6:AV):Option RH:=awL T [1,5,6] [] l82_0 (zap 0 (thn (aw T (A q82 7 .ret) (zah H [.t 4])) (zah H [.t 4]))) ⟨⟨21,[(1,.v x1),(5,.v x5),(6,.v x6)]⟩,[],h,[]⟩
@[go_sem]def g_ref16_below_0(H h x1 x5 x6):=(ziy.eq_1 H h x1 x5 x6).symm
theorem t83:T (zlw)=some e83:=by kernel_rfl
@[go_sem]def al83_0:=@zaa T _ _ l83_0.eq_1
@[go_sem]def al83_1:=@zaa T _ _ yko.eq_1
@[go_sem]def a83:=@zaa T _ _ c83.eq_1
def z4x(a0 a1:AV)(H:List AO):=ff (vs:=[a0,a1]) t83 rfl H
noncomputable def zke(H h:List AO)(x5:AV)(v2 v3:List AV):Option RH:=awL T [2,3,5] [2,3] l83_0 (zap 0 (thn (aw T (.seq (A q83 8 (.block 2 (.loop [2,3,6] [2,3] yko))) (A q83 13 .ret)) (zah H [.t 4])) (zah H [.t 4]))) ⟨⟨75,[(2,.lp 2 0),(3,.lp 3 0),(5,.v x5)]⟩,[(2,v2),(3,v3)],h,[]⟩
@[go_sem]def g_ref13_Same_0(H h x5 v2 v3):=(zke.eq_1 H h x5 v2 v3).symm
noncomputable def zkd(H h:List AO)(x6:AV)(v2 v3:List AV):Option RH:=awL T [2,3,6] [2,3] yko (zap 2 (thn (aw T (A q83 13 .ret) (zah H [.t 4])) (zah H [.t 4]))) ⟨⟨75,[(2,.lp 2 0),(3,.lp 3 0),(6,.v x6)]⟩,[(2,v2),(3,v3)],h,[]⟩
@[go_sem]def g_ref13_Same_1(H h x6 v2 v3):=(zkd.eq_1 H h x6 v2 v3).symm
theorem t84:T (zb9)=some e84:=by kernel_rfl
@[go_sem]def a84:=@zaa T _ _ c84.eq_1
def zrs(a0 a1:AV)(H:List AO):=ff (vs:=[a0,a1]) t84 rfl H
theorem t85:T (zlv)=some e85:=by kernel_rfl
@[go_sem]def al85_0:=@zaa T _ _ l85_0.eq_1
@[go_sem]def a85:=@zaa T _ _ c85.eq_1
def z4u(a0 a1 a2:AV)(H:List AO):=ff (vs:=[a0,a1,a2]) t85 rfl H
noncomputable def zkb(H h:List AO)(x1 x8:AV)(v3 v5 v6 v7:List AV):Option RH:=awL T [1,3,5,6,7,8] [3,5,6,7] l85_0 (zap 0 (thn (aw T (A q85 10 .ret) (zah H [.c 4 true 6])) (zah H [.c 4 true 6]))) ⟨⟨67,[(1,.v x1),(3,.lp 3 0),(5,.lp 5 0),(6,.lp 6 0),(7,.lp 7 0),(8,.v x8)]⟩,[(3,v3),(5,v5),(6,v6),(7,v7)],h,[]⟩
@[go_sem]def g_ref13_open_0(H h x1 x8 v3 v5 v6 v7):=(zkb.eq_1 H h x1 x8 v3 v5 v6 v7).symm
theorem t86:T (zjp)=some e86:=by kernel_rfl
@[go_sem]def al86_0:=@zaa T _ _ l86_0.eq_1
@[go_sem]def a86:=@zaa T _ _ c86.eq_1
def z1w(a0:AV)(H:List AO):=ff (vs:=[a0]) t86 rfl H
noncomputable def zi0(H h:List AO)(x0 x3:AV):Option RH:=awL T [0,3] [] l86_0 (zap 0 (thn (aw T (A q86 6 .ret) (zah H [.t 2])) (zah H [.t 2]))) ⟨⟨16,[(0,.v x0),(3,.v x3)]⟩,[],h,[]⟩
@[go_sem]def g_ref15_right_0(H h x0 x3):=(zi0.eq_1 H h x0 x3).symm
theorem t87:T (zn8)=some e87:=by kernel_rfl
@[go_sem]def al87_0:=@zaa T _ _ l87_0.eq_1
@[go_sem]def al87_1:=@zaa T _ _ ykn.eq_1
@[go_sem]def a87:=@zaa T _ _ c87.eq_1
def z70(a0 a1 a2:AV)(H:List AO):=ff (vs:=[a0,a1,a2]) t87 rfl H
noncomputable def zln(H h:List AO)(x1 x2 x9:AV)(v3 v6 v8:List AV):Option RH:=awL T [1,2,3,6,8,9] [3,6,8] l87_0 (zap 0 (thn (aw T (.seq (A q87 9 (.block 2 (.loop [1,2,3,6,8,12] [3,6,8] ykn))) (A q87 16 .ret)) (zah H [.c 4 true 6,.t 7])) (zah H [.c 4 true 6,.t 7]))) ⟨⟨75,[(1,.v x1),(2,.v x2),(3,.lp 3 0),(6,.lp 6 0),(8,.lp 8 0),(9,.v x9)]⟩,[(3,v3),(6,v6),(8,v8)],h,[]⟩
@[go_sem]def g_ref15_sub_0(H h x1 x2 x9 v3 v6 v8):=(zln.eq_1 H h x1 x2 x9 v3 v6 v8).symm
noncomputable def zlm(H h:List AO)(x1 x2 x12:AV)(v3 v6 v8:List AV):Option RH:=awL T [1,2,3,6,8,12] [3,6,8] ykn (zap 2 (thn (aw T (A q87 16 .ret) (zah H [.c 4 true 6,.t 7])) (zah H [.c 4 true 6,.t 7]))) ⟨⟨75,[(1,.v x1),(2,.v x2),(3,.lp 3 0),(6,.lp 6 0),(8,.lp 8 0),(12,.v x12)]⟩,[(3,v3),(6,v6),(8,v8)],h,[]⟩
@[go_sem]def g_ref15_sub_1(H h x1 x2 x12 v3 v6 v8):=(zlm.eq_1 H h x1 x2 x12 v3 v6 v8).symm
theorem t88:T (zlt)=some e88:=by kernel_rfl
@[go_sem]def al88_0:=@zaa T _ _ l88_0.eq_1
@[go_sem]def a88:=@zaa T _ _ c88.eq_1
def z4q(a0 a1:AV)(H:List AO):=ff (vs:=[a0,a1]) t88 rfl H
noncomputable def zka(H h:List AO)(x1 x5 x9 x10 x11:AV):Option RH:=awL T [1,5,9,10,11] [] l88_0 (zap 0 (thn (aw T (A q88 8 .ret) (zah H [.t 4])) (zah H [.t 4]))) ⟨⟨27,[(1,.v x1),(5,.v x5),(9,.v x9),(10,.v x10),(11,.v x11)]⟩,[],h,[]⟩
@[go_sem]def g_term_parts_0(H h x1 x5 x9 x10 x11):=(zka.eq_1 H h x1 x5 x9 x10 x11).symm
theorem t89:T (ze9)=some e89:=by kernel_rfl
@[go_sem]def al89_0:=@zaa T _ _ l89_0.eq_1
@[go_sem]def a89:=@zaa T _ _ c89.eq_1
def zuk(a0 a1 a2:AV)(H:List AO):=ff (vs:=[a0,a1,a2]) t89 rfl H
noncomputable def zfq(H h:List AO)(x2 x3 x48 x49 x50:AV)(v4:List AV):Option RH:=awL T [2,3,4,48,49,50] [4] l89_0 (zap 0 (thn (aw T (A q89 13 .ret) (zah H [.t 6])) (zah H [.t 6]))) ⟨⟨70,[(2,.v x2),(3,.v x3),(4,.lp 4 0),(48,.v x48),(49,.v x49),(50,.v x50)]⟩,[(4,v4)],h,[]⟩
@[go_sem]def g_term_room_right_0(H h x2 x3 x48 x49 x50 v4):=(zfq.eq_1 H h x2 x3 x48 x49 x50 v4).symm
theorem t90:T (zbw)=some e90:=by kernel_rfl
@[go_sem]def a90:=@zaa T _ _ c90.eq_1
def zqq(a0 a1:AV)(H:List AO):=ff (vs:=[a0,a1]) t90 rfl H
theorem t91:T (zkr)=some e91:=by kernel_rfl
@[go_sem]def a91:=@zaa T _ _ c91.eq_1
def zyt(H:List AO):=ff (vs:=[]) t91 rfl H
theorem t92:T (zd1)=some e92:=by kernel_rfl
@[go_sem]def a92:=@zaa T _ _ c92.eq_1
def zps(a0:AV)(H:List AO):=ff (vs:=[a0]) t92 rfl H
theorem t93:T (zca)=some e93:=by kernel_rfl
@[go_sem]def a93:=@zaa T _ _ c93.eq_1
def zru(a0 a1 a2:AV)(H:List AO):=ff (vs:=[a0,a1,a2]) t93 rfl H
theorem t94:T (zpx)=some e94:=by kernel_rfl
@[go_sem]def a94:=@zaa T _ _ c94.eq_1
def z7x(a0 a1 a2:AV)(H:List AO):=ff (vs:=[a0,a1,a2]) t94 rfl H
theorem t95:T (zbs)=some e95:=by kernel_rfl
@[go_sem]def a95:=@zaa T _ _ c95.eq_1
def zos(a0 a1 a2 a3:AV)(H:List AO):=ff (vs:=[a0,a1,a2,a3]) t95 rfl H
theorem t96:T (zcb)=some e96:=by kernel_rfl
@[go_sem]def a96:=@zaa T _ _ c96.eq_1
def zlc(a0 a1 a2 a3:AV)(H:List AO):=ff (vs:=[a0,a1,a2,a3]) t96 rfl H
theorem t97:T (zbx)=some e97:=by kernel_rfl
@[go_sem]def al97_0:=@zaa T _ _ l97_0.eq_1
@[go_sem]def a97:=@zaa T _ _ c97.eq_1
def zqs(a0 a1 a2 a3:AV)(H:List AO):=ff (vs:=[a0,a1,a2,a3]) t97 rfl H
noncomputable def zb4(H h:List AO)(x0 x12 x13 x14:AV)(v6:List AV):Option RH:=awL T [0,6,12,13,14] [6] l97_0 (zap 0 (thn (aw T (A q97 7 .ret) (zah H [.t 8])) (zah H [.t 8]))) ⟨⟨40,[(0,.v x0),(6,.lp 6 0),(12,.v x12),(13,.v x13),(14,.v x14)]⟩,[(6,v6)],h,[]⟩
@[go_sem]def g_conv_Machine_levels_0(H h x0 x12 x13 x14 v6):=(zb4.eq_1 H h x0 x12 x13 x14 v6).symm
theorem t98:T (zck)=some e98:=by kernel_rfl
@[go_sem]def a98:=@zaa T _ _ c98.eq_1
def zm1(a0 a1 a2 a3:AV)(H:List AO):=ff (vs:=[a0,a1,a2,a3]) t98 rfl H
theorem t99:T (zc4)=some e99:=by kernel_rfl
@[go_sem]def a99:=@zaa T _ _ c99.eq_1
def znh(a0 a1 a2 a3:AV)(H:List AO):=ff (vs:=[a0,a1,a2,a3]) t99 rfl H
theorem t100:T (zof)=some e100:=by kernel_rfl
@[go_sem]def a100:=@zaa T _ _ c100.eq_1
def z46(a0:AV)(H:List AO):=ff (vs:=[a0]) t100 rfl H
theorem t101:T (zl0)=some e101:=by kernel_rfl
@[go_sem]def al101_0:=@zaa T _ _ yf5.eq_1
@[go_sem]def a101:=@zaa T _ _ c101.eq_1
def z45(a0 a1:AV)(H:List AO):=ff (vs:=[a0,a1]) t101 rfl H
noncomputable def zki(H h:List AO)(x6:AV)(v2 v3 v4 v5:List AV):Option RH:=awL T [2,3,4,5,6] [2,3,4,5] yf5 (zap 0 (thn (aw T (A yni 6 .ret) (zah H [.c 2 true 4])) (zah H [.c 2 true 4]))) ⟨⟨37,[(2,.lp 2 0),(3,.lp 3 0),(4,.lp 4 0),(5,.lp 5 0),(6,.v x6)]⟩,[(2,v2),(3,v3),(4,v4),(5,v5)],h,[]⟩
@[go_sem]def g_ref06_both_0(H h x6 v2 v3 v4 v5):=(zki.eq_1 H h x6 v2 v3 v4 v5).symm
theorem t102:T (zkq)=some e102:=by kernel_rfl
@[go_sem]def al102_0:=@zaa T _ _ yf4.eq_1
@[go_sem]def a102:=@zaa T _ _ c102.eq_1
def zys(a0:AV)(H:List AO):=ff (vs:=[a0]) t102 rfl H
noncomputable def zhr(H h:List AO)(x3:AV)(v1:List AV):Option RH:=awL T [1,3] [1] yf4 (zap 0 (thn (aw T (A ynh 6 .ret) (zah H [.t 2])) (zah H [.t 2]))) ⟨⟨20,[(1,.lp 1 0),(3,.v x3)]⟩,[(1,v1)],h,[]⟩
@[go_sem]def g_ref06_nought_0(H h x3 v1):=(zhr.eq_1 H h x3 v1).symm
theorem t103:T (zf3)=some e103:=by kernel_rfl
@[go_sem]def al103_0:=@zaa T _ _ yf3.eq_1
@[go_sem]def a103:=@zaa T _ _ c103.eq_1
def z44(a0 a1:AV)(H:List AO):=ff (vs:=[a0,a1]) t103 rfl H
noncomputable def zkh(H h:List AO)(x1 x6:AV)(v4 v5:List AV):Option RH:=awL T [1,4,5,6] [4,5] yf3 (zap 0 (thn (aw T (A yng 6 .ret) (zah H [.c 2 true 4])) (zah H [.c 2 true 4]))) ⟨⟨20,[(1,.v x1),(4,.lp 4 0),(5,.lp 5 0),(6,.v x6)]⟩,[(4,v4),(5,v5)],h,[]⟩
@[go_sem]def g_ref06_none_0(H h x1 x6 v4 v5):=(zkh.eq_1 H h x1 x6 v4 v5).symm
theorem t104:T (zjs)=some e104:=by kernel_rfl
@[go_sem]def al104_0:=@zaa T _ _ yf2.eq_1
@[go_sem]def al104_1:=@zaa T _ _ z4c.eq_1
@[go_sem]def a104:=@zaa T _ _ c104.eq_1
def z18(a0 a1:AV)(H:List AO):=ff (vs:=[a0,a1]) t104 rfl H
noncomputable def zi7(H h:List AO)(x0 x1 x5 x6:AV):Option RH:=awL T [0,1,5,6] [] yf2 (zap 2 (zap 1 (thn (aw T (.reg (R zzj 12)) (thn (zdq T [0,1,5] [] z4c (zap 0 (thn (aw T (A zzj 13 .ret) (zah H [.t 4])) (zah H [.t 4])))) (zap 0 (thn (aw T (A zzj 13 .ret) (zah H [.t 4])) (zah H [.t 4]))))) (thn (zdq T [0,1,5] [] z4c (zap 0 (thn (aw T (A zzj 13 .ret) (zah H [.t 4])) (zah H [.t 4])))) (zap 0 (thn (aw T (A zzj 13 .ret) (zah H [.t 4])) (zah H [.t 4]))))))) ⟨⟨71,[(0,.v x0),(1,.v x1),(5,.v x5),(6,.v x6)]⟩,[],h,[]⟩
@[go_sem]def g_ref08_Right_0(H h x0 x1 x5 x6):=(zi7.eq_1 H h x0 x1 x5 x6).symm
noncomputable def zgr(H h:List AO)(x0 x1 x5:AV):Option RH:=awL T [0,1,5] [] z4c (zap 0 (thn (aw T (A zzj 13 .ret) (zah H [.t 4])) (zah H [.t 4]))) ⟨⟨71,[(0,.v x0),(1,.v x1),(5,.v x5)]⟩,[],h,[]⟩
@[go_sem]def g_ref08_Right_1(H h x0 x1 x5):=(zgr.eq_1 H h x0 x1 x5).symm
theorem t105:T (zkp)=some e105:=by kernel_rfl
@[go_sem]def al105_0:=@zaa T _ _ yf1.eq_1
@[go_sem]def al105_1:=@zaa T _ _ z4b.eq_1
@[go_sem]def a105:=@zaa T _ _ c105.eq_1
def zyr(a0 a1 a2:AV)(H:List AO):=ff (vs:=[a0,a1,a2]) t105 rfl H
noncomputable def zhq(H h:List AO)(x0 x2 x9 x10 x11 x12:AV):Option RH:=awL T [0,2,9,10,11,12] [] yf1 (zap 2 (thn (aw T (.seq (A zzi 12 (.cond (.t 52) (A zzi 13 .ret) .skip)) (A zzi 14 (.cond (.t 55) (A zzi 15 .ret) .skip))) (zap 1 (thn (zdq T [0,2,9,10] [] z4b (zap 0 (zah H [.t 6,.t 7,.t 8]))) (zap 0 (zah H [.t 6,.t 7,.t 8]))))) (zap 1 (thn (zdq T [0,2,9,10] [] z4b (zap 0 (zah H [.t 6,.t 7,.t 8]))) (zap 0 (zah H [.t 6,.t 7,.t 8])))))) ⟨⟨58,[(0,.v x0),(2,.v x2),(9,.v x9),(10,.v x10),(11,.v x11),(12,.v x12)]⟩,[],h,[]⟩
@[go_sem]def g_ref09_rounds_0(H h x0 x2 x9 x10 x11 x12):=(zhq.eq_1 H h x0 x2 x9 x10 x11 x12).symm
noncomputable def zen(H h:List AO)(x0 x2 x9 x10:AV):Option RH:=awL T [0,2,9,10] [] z4b (zap 0 (zah H [.t 6,.t 7,.t 8])) ⟨⟨58,[(0,.v x0),(2,.v x2),(9,.v x9),(10,.v x10)]⟩,[],h,[]⟩
@[go_sem]def g_ref09_rounds_1(H h x0 x2 x9 x10):=(zen.eq_1 H h x0 x2 x9 x10).symm
theorem t106:T (zmk)=some e106:=by kernel_rfl
@[go_sem]def a106:=@zaa T _ _ c106.eq_1
def z17(a0 a1:AV)(H:List AO):=ff (vs:=[a0,a1]) t106 rfl H
theorem t107:T (zcc)=some e107:=by kernel_rfl
@[go_sem]def al107_0:=@zaa T _ _ yf0.eq_1
@[go_sem]def a107:=@zaa T _ _ c107.eq_1
def zop(a0 a1 a2:AV)(H:List AO):=ff (vs:=[a0,a1,a2]) t107 rfl H
noncomputable def zc5(H h:List AO)(x1 x2 x15 x16 x17:AV):Option RH:=awL T [1,2,15,16,17] [] yf0 (zap 0 (thn (aw T (A yc3 10 .ret) (zah H [.t 6])) (zah H [.t 6]))) ⟨⟨32,[(1,.v x1),(2,.v x2),(15,.v x15),(16,.v x16),(17,.v x17)]⟩,[],h,[]⟩
@[go_sem]def g_slices_EqualFunc_Level_0(H h x1 x2 x15 x16 x17):=(zc5.eq_1 H h x1 x2 x15 x16 x17).symm
theorem t108:T (zh8)=some e108:=by kernel_rfl
@[go_sem]def a108:=@zaa T _ _ c108.eq_1
def z5a(a0 a1:AV)(H:List AO):=ff (vs:=[a0,a1]) t108 rfl H
theorem t109:T (zdj)=some e109:=by kernel_rfl
@[go_sem]def al109_0:=@zaa T _ _ yfz.eq_1
@[go_sem]def a109:=@zaa T _ _ c109.eq_1
def zpg(a0 a1 a2:AV)(H:List AO):=ff (vs:=[a0,a1,a2]) t109 rfl H
noncomputable def zdh(H h:List AO)(x1 x2 x15 x16 x17:AV):Option RH:=awL T [1,2,15,16,17] [] yfz (zap 0 (thn (aw T (A yc2 10 .ret) (zah H [.t 6])) (zah H [.t 6]))) ⟨⟨32,[(1,.v x1),(2,.v x2),(15,.v x15),(16,.v x16),(17,.v x17)]⟩,[],h,[]⟩
@[go_sem]def g_slices_EqualFunc_Term_0(H h x1 x2 x15 x16 x17):=(zdh.eq_1 H h x1 x2 x15 x16 x17).symm
theorem t110:T (zcy)=some e110:=by kernel_rfl
@[go_sem]def a110:=@zaa T _ _ c110.eq_1
def znt(a0 a1:AV)(H:List AO):=ff (vs:=[a0,a1]) t110 rfl H
theorem t111:T (zl8)=some e111:=by kernel_rfl
@[go_sem]def ycn:=@zaa T _ _ zdk.eq_1
@[go_sem]theorem zt8:FC.okd zdk=true:=by kernel_rfl
@[go_sem]def ycl:=@zaa T _ _ zdi.eq_1
@[go_sem]theorem zt6:FC.okd zdi=true:=by kernel_rfl
@[go_sem]def a111:=@zaa T _ _ c111.eq_1
def z1n(a0:AV)(H:List AO):=ff (vs:=[a0]) t111 rfl H
theorem t112:T (zh6)=some e112:=by kernel_rfl
@[go_sem]def a112:=@zaa T _ _ c112.eq_1
def zyu(a0 a1:AV)(H:List AO):=ff (vs:=[a0,a1]) t112 rfl H
theorem t113:T (zjx)=some e113:=by kernel_rfl
@[go_sem]def al113_0:=@zaa T _ _ yfy.eq_1
@[go_sem]def a113:=@zaa T _ _ c113.eq_1
def z2f(a0 a1:AV)(H:List AO):=ff (vs:=[a0,a1]) t113 rfl H
noncomputable def zjc(H h:List AO)(x1 x5 x9 x10 x11:AV):Option RH:=awL T [1,5,9,10,11] [] yfy (zap 0 (thn (aw T (A yix 8 .ret) (zah H [.t 4])) (zah H [.t 4]))) ⟨⟨27,[(1,.v x1),(5,.v x5),(9,.v x9),(10,.v x10),(11,.v x11)]⟩,[],h,[]⟩
@[go_sem]def g_level_nodes_0(H h x1 x5 x9 x10 x11):=(zjc.eq_1 H h x1 x5 x9 x10 x11).symm
theorem t114:T (zjw)=some e114:=by kernel_rfl
@[go_sem]def a114:=@zaa T _ _ c114.eq_1
def z2e(a0 a1 a2 a3:AV)(H:List AO):=ff (vs:=[a0,a1,a2,a3]) t114 rfl H
theorem t115:T (zd0)=some e115:=by kernel_rfl
@[go_sem]def al115_0:=@zaa T _ _ yfx.eq_1
@[go_sem]def a115:=@zaa T _ _ c115.eq_1
def zpr(a0 a1:AV)(H:List AO):=ff (vs:=[a0,a1]) t115 rfl H
noncomputable def zco(H h:List AO)(x0 x1 x7 x8:AV):Option RH:=awL T [0,1,7,8] [] yfx (zap 0 (thn (aw T (A yj4 7 .ret) (zah H [.t 4])) (zah H [.t 4]))) ⟨⟨19,[(0,.v x0),(1,.v x1),(7,.v x7),(8,.v x8)]⟩,[],h,[]⟩
@[go_sem]def g_slices_IndexFunc_Con_0(H h x0 x1 x7 x8):=(zco.eq_1 H h x0 x1 x7 x8).symm
theorem t116:T (zeq)=some e116:=by kernel_rfl
@[go_sem]def a116:=@zaa T _ _ c116.eq_1
def zrq(a0 a1 a2:AV)(H:List AO):=ff (vs:=[a0,a1,a2]) t116 rfl H
theorem t117:T (zh4)=some e117:=by kernel_rfl
@[go_sem]def al117_0:=@zaa T _ _ yfw.eq_1
@[go_sem]def al117_1:=@zaa T _ _ zxj.eq_1
@[go_sem]def al117_2:=@zaa T _ _ zhf.eq_1
@[go_sem]def a117:=@zaa T _ _ c117.eq_1
def zyp(a0:AV)(H:List AO):=ff (vs:=[a0]) t117 rfl H
noncomputable def zho(H h:List AO)(x3 x4 x5 x6 x7 x8:AV)(v1:List AV):Option RH:=awL T [1,3,4,5,6,7,8] [1] yfw (zap 4 (thn (aw T (A zgu 14 (.cond (.t 55) (.reg (R zgu 15)) .skip)) (zap 3 (thn (aw T (.reg (R zgu 16)) (thn (zdq T [1,3,4,5,6] [1] zxj (zap 2 (zap 1 (thn (aw T (.reg (R zgu 17)) (thn (zdq T [1,3,4] [1] zhf (zap 0 (thn (aw T (A zgu 18 .ret) (zah H [.t 2])) (zah H [.t 2])))) (zap 0 (thn (aw T (A zgu 18 .ret) (zah H [.t 2])) (zah H [.t 2]))))) (thn (zdq T [1,3,4] [1] zhf (zap 0 (thn (aw T (A zgu 18 .ret) (zah H [.t 2])) (zah H [.t 2])))) (zap 0 (thn (aw T (A zgu 18 .ret) (zah H [.t 2])) (zah H [.t 2])))))))) (zap 2 (zap 1 (thn (aw T (.reg (R zgu 17)) (thn (zdq T [1,3,4] [1] zhf (zap 0 (thn (aw T (A zgu 18 .ret) (zah H [.t 2])) (zah H [.t 2])))) (zap 0 (thn (aw T (A zgu 18 .ret) (zah H [.t 2])) (zah H [.t 2]))))) (thn (zdq T [1,3,4] [1] zhf (zap 0 (thn (aw T (A zgu 18 .ret) (zah H [.t 2])) (zah H [.t 2])))) (zap 0 (thn (aw T (A zgu 18 .ret) (zah H [.t 2])) (zah H [.t 2]))))))))) (thn (zdq T [1,3,4,5,6] [1] zxj (zap 2 (zap 1 (thn (aw T (.reg (R zgu 17)) (thn (zdq T [1,3,4] [1] zhf (zap 0 (thn (aw T (A zgu 18 .ret) (zah H [.t 2])) (zah H [.t 2])))) (zap 0 (thn (aw T (A zgu 18 .ret) (zah H [.t 2])) (zah H [.t 2]))))) (thn (zdq T [1,3,4] [1] zhf (zap 0 (thn (aw T (A zgu 18 .ret) (zah H [.t 2])) (zah H [.t 2])))) (zap 0 (thn (aw T (A zgu 18 .ret) (zah H [.t 2])) (zah H [.t 2])))))))) (zap 2 (zap 1 (thn (aw T (.reg (R zgu 17)) (thn (zdq T [1,3,4] [1] zhf (zap 0 (thn (aw T (A zgu 18 .ret) (zah H [.t 2])) (zah H [.t 2])))) (zap 0 (thn (aw T (A zgu 18 .ret) (zah H [.t 2])) (zah H [.t 2]))))) (thn (zdq T [1,3,4] [1] zhf (zap 0 (thn (aw T (A zgu 18 .ret) (zah H [.t 2])) (zah H [.t 2])))) (zap 0 (thn (aw T (A zgu 18 .ret) (zah H [.t 2])) (zah H [.t 2]))))))))))) (zap 3 (thn (aw T (.reg (R zgu 16)) (thn (zdq T [1,3,4,5,6] [1] zxj (zap 2 (zap 1 (thn (aw T (.reg (R zgu 17)) (thn (zdq T [1,3,4] [1] zhf (zap 0 (thn (aw T (A zgu 18 .ret) (zah H [.t 2])) (zah H [.t 2])))) (zap 0 (thn (aw T (A zgu 18 .ret) (zah H [.t 2])) (zah H [.t 2]))))) (thn (zdq T [1,3,4] [1] zhf (zap 0 (thn (aw T (A zgu 18 .ret) (zah H [.t 2])) (zah H [.t 2])))) (zap 0 (thn (aw T (A zgu 18 .ret) (zah H [.t 2])) (zah H [.t 2])))))))) (zap 2 (zap 1 (thn (aw T (.reg (R zgu 17)) (thn (zdq T [1,3,4] [1] zhf (zap 0 (thn (aw T (A zgu 18 .ret) (zah H [.t 2])) (zah H [.t 2])))) (zap 0 (thn (aw T (A zgu 18 .ret) (zah H [.t 2])) (zah H [.t 2]))))) (thn (zdq T [1,3,4] [1] zhf (zap 0 (thn (aw T (A zgu 18 .ret) (zah H [.t 2])) (zah H [.t 2])))) (zap 0 (thn (aw T (A zgu 18 .ret) (zah H [.t 2])) (zah H [.t 2]))))))))) (thn (zdq T [1,3,4,5,6] [1] zxj (zap 2 (zap 1 (thn (aw T (.reg (R zgu 17)) (thn (zdq T [1,3,4] [1] zhf (zap 0 (thn (aw T (A zgu 18 .ret) (zah H [.t 2])) (zah H [.t 2])))) (zap 0 (thn (aw T (A zgu 18 .ret) (zah H [.t 2])) (zah H [.t 2]))))) (thn (zdq T [1,3,4] [1] zhf (zap 0 (thn (aw T (A zgu 18 .ret) (zah H [.t 2])) (zah H [.t 2])))) (zap 0 (thn (aw T (A zgu 18 .ret) (zah H [.t 2])) (zah H [.t 2])))))))) (zap 2 (zap 1 (thn (aw T (.reg (R zgu 17)) (thn (zdq T [1,3,4] [1] zhf (zap 0 (thn (aw T (A zgu 18 .ret) (zah H [.t 2])) (zah H [.t 2])))) (zap 0 (thn (aw T (A zgu 18 .ret) (zah H [.t 2])) (zah H [.t 2]))))) (thn (zdq T [1,3,4] [1] zhf (zap 0 (thn (aw T (A zgu 18 .ret) (zah H [.t 2])) (zah H [.t 2])))) (zap 0 (thn (aw T (A zgu 18 .ret) (zah H [.t 2])) (zah H [.t 2])))))))))))) ⟨⟨64,[(1,.lp 1 0),(3,.v x3),(4,.v x4),(5,.v x5),(6,.v x6),(7,.v x7),(8,.v x8)]⟩,[(1,v1)],h,[]⟩
@[go_sem]def g_ref15_Consts_0(H h x3 x4 x5 x6 x7 x8 v1):=(zho.eq_1 H h x3 x4 x5 x6 x7 x8 v1).symm
noncomputable def zfy(H h:List AO)(x3 x4 x5 x6:AV)(v1:List AV):Option RH:=awL T [1,3,4,5,6] [1] zxj (zap 2 (zap 1 (thn (aw T (.reg (R zgu 17)) (thn (zdq T [1,3,4] [1] zhf (zap 0 (thn (aw T (A zgu 18 .ret) (zah H [.t 2])) (zah H [.t 2])))) (zap 0 (thn (aw T (A zgu 18 .ret) (zah H [.t 2])) (zah H [.t 2]))))) (thn (zdq T [1,3,4] [1] zhf (zap 0 (thn (aw T (A zgu 18 .ret) (zah H [.t 2])) (zah H [.t 2])))) (zap 0 (thn (aw T (A zgu 18 .ret) (zah H [.t 2])) (zah H [.t 2]))))))) ⟨⟨64,[(1,.lp 1 0),(3,.v x3),(4,.v x4),(5,.v x5),(6,.v x6)]⟩,[(1,v1)],h,[]⟩
@[go_sem]def g_ref15_Consts_1(H h x3 x4 x5 x6 v1):=(zfy.eq_1 H h x3 x4 x5 x6 v1).symm
noncomputable def zfx(H h:List AO)(x3 x4:AV)(v1:List AV):Option RH:=awL T [1,3,4] [1] zhf (zap 0 (thn (aw T (A zgu 18 .ret) (zah H [.t 2])) (zah H [.t 2]))) ⟨⟨64,[(1,.lp 1 0),(3,.v x3),(4,.v x4)]⟩,[(1,v1)],h,[]⟩
@[go_sem]def g_ref15_Consts_2(H h x3 x4 v1):=(zfx.eq_1 H h x3 x4 v1).symm
theorem t118:T (zp5)=some e118:=by kernel_rfl
@[go_sem]def a118:=@zaa T _ _ c118.eq_1
def z74(a0 a1 a2:AV)(H:List AO):=ff (vs:=[a0,a1,a2]) t118 rfl H
theorem t119:T (ze8)=some e119:=by kernel_rfl
@[go_sem]def a119:=@zaa T _ _ c119.eq_1
def zsc(a0 a1:AV)(H:List AO):=ff (vs:=[a0,a1]) t119 rfl H
theorem t120:T (zji)=some e120:=by kernel_rfl
@[go_sem]def a120:=@zaa T _ _ c120.eq_1
def z1o(H:List AO):=ff (vs:=[]) t120 rfl H
theorem t121:T (zgf)=some e121:=by kernel_rfl
@[go_sem]def a121:=@zaa T _ _ c121.eq_1
def zul(a0 a1:AV)(H:List AO):=ff (vs:=[a0,a1]) t121 rfl H
theorem t122:T (zan)=some e122:=by kernel_rfl
@[go_sem]def a122:=@zaa T _ _ c122.eq_1
def zmx(a0 a1:AV)(H:List AO):=ff (vs:=[a0,a1]) t122 rfl H
theorem t123:T (zjk)=some e123:=by kernel_rfl
@[go_sem]def a123:=@zaa T _ _ c123.eq_1
def z4r(a0 a1:AV)(H:List AO):=ff (vs:=[a0,a1]) t123 rfl H
theorem t124:T (zc3)=some e124:=by kernel_rfl
@[go_sem]def a124:=@zaa T _ _ c124.eq_1
def zng(a0:AV)(H:List AO):=ff (vs:=[a0]) t124 rfl H
theorem t125:T (za8)=some e125:=by kernel_rfl
@[go_sem]def a125:=@zaa T _ _ c125.eq_1
def zfo(a0:AV)(H:List AO):=ff (vs:=[a0]) t125 rfl H
theorem t126:T (zbh)=some e126:=by kernel_rfl
@[go_sem]def a126:=@zaa T _ _ c126.eq_1
def zgo(a0:AV)(H:List AO):=ff (vs:=[a0]) t126 rfl H
theorem t127:T (zdu)=some e127:=by kernel_rfl
@[go_sem]def a127:=@zaa T _ _ c127.eq_1
def ztk(a0:AV)(H:List AO):=ff (vs:=[a0]) t127 rfl H
theorem t128:T (zbp)=some e128:=by kernel_rfl
@[go_sem]def al128_0:=@zaa T _ _ yfv.eq_1
@[go_sem]def a128:=@zaa T _ _ c128.eq_1
def zor(a0 a1:AV)(H:List AO):=ff (vs:=[a0,a1]) t128 rfl H
noncomputable def zc6(H h:List AO)(x0 x1 x3:AV):Option RH:=awL T [0,1,3] [] yfv (zap 0 (zah H [])) ⟨⟨19,[(0,.v x0),(1,.v x1),(3,.v x3)]⟩,[],h,[]⟩
@[go_sem]def g_slices_Backward_Term_1_0(H h x0 x1 x3):=(zc6.eq_1 H h x0 x1 x3).symm
theorem t129:T (zna)=some e129:=by kernel_rfl
@[go_sem]def a129:=@zaa T _ _ c129.eq_1
def ybt(H:List AO):=ff (vs:=[]) t129 rfl H
theorem t130:T (zn0)=some e130:=by kernel_rfl
@[go_sem]def a130:=@zaa T _ _ c130.eq_1
def z7t(a0:AV)(H:List AO):=ff (vs:=[a0]) t130 rfl H
theorem t131:T (zn1)=some e131:=by kernel_rfl
@[go_sem]def a131:=@zaa T _ _ c131.eq_1
def z7u(a0 a1 a2:AV)(H:List AO):=ff (vs:=[a0,a1,a2]) t131 rfl H
theorem t132:T (zdx)=some e132:=by kernel_rfl
@[go_sem]def a132:=@zaa T _ _ c132.eq_1
def ztm(a0 a1 a2:AV)(H:List AO):=ff (vs:=[a0,a1,a2]) t132 rfl H
theorem t133:T (zlz)=some e133:=by kernel_rfl
@[go_sem]def a133:=@zaa T _ _ c133.eq_1
def z40(a0 a1:AV)(H:List AO):=ff (vs:=[a0,a1]) t133 rfl H
theorem t134:T (zoc)=some e134:=by kernel_rfl
@[go_sem]def al134_0:=@zaa T _ _ yfu.eq_1
@[go_sem]def a134:=@zaa T _ _ c134.eq_1
def z42(a0 a1:AV)(H:List AO):=ff (vs:=[a0,a1]) t134 rfl H
noncomputable def zhm(H h:List AO)(x1 x5 x6:AV)(v2:List AV):Option RH:=awL T [1,2,5,6] [2] yfu (zap 0 (thn (aw T (A yne 6 .ret) (zah H [.t 4])) (zah H [.t 4]))) ⟨⟨51,[(1,.v x1),(2,.lp 2 0),(5,.v x5),(6,.v x6)]⟩,[(2,v2)],h,[]⟩
@[go_sem]def g_ref08_Asks_0(H h x1 x5 x6 v2):=(zhm.eq_1 H h x1 x5 x6 v2).symm
theorem t135:T (zmi)=some e135:=by kernel_rfl
@[go_sem]def al135_0:=@zaa T _ _ yft.eq_1
@[go_sem]def a135:=@zaa T _ _ c135.eq_1
def z15(a0 a1:AV)(H:List AO):=ff (vs:=[a0,a1]) t135 rfl H
noncomputable def zi6(H h:List AO)(x0 x1 x5:AV):Option RH:=awL T [0,1,5] [] yft (zap 0 (thn (aw T (A ynd 6 .ret) (zah H [.t 4])) (zah H [.t 4]))) ⟨⟨18,[(0,.v x0),(1,.v x1),(5,.v x5)]⟩,[],h,[]⟩
@[go_sem]def g_ref09_great_0(H h x0 x1 x5):=(zi6.eq_1 H h x0 x1 x5).symm
theorem t136:T (zob)=some e136:=by kernel_rfl
@[go_sem]def al136_0:=@zaa T _ _ yfs.eq_1
@[go_sem]def al136_1:=@zaa T _ _ z4a.eq_1
@[go_sem]def a136:=@zaa T _ _ c136.eq_1
def z41(a0 a1:AV)(H:List AO):=ff (vs:=[a0,a1]) t136 rfl H
noncomputable def zkf(H h:List AO)(x1 x6 x7 x8:AV):Option RH:=awL T [1,6,7,8] [] yfs (zap 2 (zap 1 (thn (aw T (.reg (R z28 10)) (thn (zdq T [1,6,7] [] z4a (zap 0 (thn (aw T (A z28 11 .ret) (zah H [.t 4,.t 5])) (zah H [.t 4,.t 5])))) (zap 0 (thn (aw T (A z28 11 .ret) (zah H [.t 4,.t 5])) (zah H [.t 4,.t 5]))))) (thn (zdq T [1,6,7] [] z4a (zap 0 (thn (aw T (A z28 11 .ret) (zah H [.t 4,.t 5])) (zah H [.t 4,.t 5])))) (zap 0 (thn (aw T (A z28 11 .ret) (zah H [.t 4,.t 5])) (zah H [.t 4,.t 5]))))))) ⟨⟨48,[(1,.v x1),(6,.v x6),(7,.v x7),(8,.v x8)]⟩,[],h,[]⟩
@[go_sem]def g_ref08_Most_0(H h x1 x6 x7 x8):=(zkf.eq_1 H h x1 x6 x7 x8).symm
noncomputable def zhl(H h:List AO)(x1 x6 x7:AV):Option RH:=awL T [1,6,7] [] z4a (zap 0 (thn (aw T (A z28 11 .ret) (zah H [.t 4,.t 5])) (zah H [.t 4,.t 5]))) ⟨⟨48,[(1,.v x1),(6,.v x6),(7,.v x7)]⟩,[],h,[]⟩
@[go_sem]def g_ref08_Most_1(H h x1 x6 x7):=(zhl.eq_1 H h x1 x6 x7).symm
theorem t137:T (zdz)=some e137:=by kernel_rfl
@[go_sem]def al137_0:=@zaa T _ _ yfr.eq_1
@[go_sem]def a137:=@zaa T _ _ c137.eq_1
def zpq(a0 a1:AV)(H:List AO):=ff (vs:=[a0,a1]) t137 rfl H
noncomputable def zcn(H h:List AO)(x0 x1 x7 x8:AV):Option RH:=awL T [0,1,7,8] [] yfr (zap 0 (thn (aw T (A yj1 7 .ret) (zah H [.t 4])) (zah H [.t 4]))) ⟨⟨19,[(0,.v x0),(1,.v x1),(7,.v x7),(8,.v x8)]⟩,[],h,[]⟩
@[go_sem]def g_slices_IndexFunc_int_0(H h x0 x1 x7 x8):=(zcn.eq_1 H h x0 x1 x7 x8).symm
theorem t138:T (zq1)=some e138:=by kernel_rfl
@[go_sem]def a138:=@zaa T _ _ c138.eq_1
def ybr(a0:AV)(H:List AO):=ff (vs:=[a0]) t138 rfl H
theorem t139:T (zpw)=some e139:=by kernel_rfl
@[go_sem]def al139_0:=@zaa T _ _ yfq.eq_1
@[go_sem]def a139:=@zaa T _ _ c139.eq_1
def z7r(a0 a1 a2:AV)(H:List AO):=ff (vs:=[a0,a1,a2]) t139 rfl H
noncomputable def zlk(H h:List AO)(x0 x1 x11 x12 x13:AV):Option RH:=awL T [0,1,11,12,13] [] yfq (zap 0 (thn (aw T (A yea 9 .ret) (zah H [.t 6])) (zah H [.t 6]))) ⟨⟨34,[(0,.v x0),(1,.v x1),(11,.v x11),(12,.v x12),(13,.v x13)]⟩,[],h,[]⟩
@[go_sem]def g_tsub_once_0(H h x0 x1 x11 x12 x13):=(zlk.eq_1 H h x0 x1 x11 x12 x13).symm
theorem t140:T (zmp)=some e140:=by kernel_rfl
@[go_sem]def a140:=@zaa T _ _ c140.eq_1
def z2h(H:List AO):=ff (vs:=[]) t140 rfl H
theorem t141:T (zil)=some e141:=by kernel_rfl
@[go_sem]def a141:=@zaa T _ _ c141.eq_1
def zxu(a0 a1 a2 a3:AV)(H:List AO):=ff (vs:=[a0,a1,a2,a3]) t141 rfl H
theorem t142:T (zmo)=some e142:=by kernel_rfl
@[go_sem]def a142:=@zaa T _ _ c142.eq_1
def z2g(a0 a1 a2:AV)(H:List AO):=ff (vs:=[a0,a1,a2]) t142 rfl H
theorem t143:T (zjt)=some e143:=by kernel_rfl
@[go_sem]def al143_0:=@zaa T _ _ yfp.eq_1
@[go_sem]def a143:=@zaa T _ _ c143.eq_1
def z2a(a0:AV)(H:List AO):=ff (vs:=[a0]) t143 rfl H
noncomputable def zi9(H h:List AO)(x0 x3:AV):Option RH:=awL T [0,3] [] yfp (zap 0 (thn (aw T (A ync 6 .ret) (zah H [.t 2])) (zah H [.t 2]))) ⟨⟨16,[(0,.v x0),(3,.v x3)]⟩,[],h,[]⟩
@[go_sem]def g_ref05_right_0(H h x0 x3):=(zi9.eq_1 H h x0 x3).symm
theorem t144:T (zoe)=some e144:=by kernel_rfl
@[go_sem]def al144_0:=@zaa T _ _ yfo.eq_1
@[go_sem]def a144:=@zaa T _ _ c144.eq_1
def z73(a0 a1 a2:AV)(H:List AO):=ff (vs:=[a0,a1,a2]) t144 rfl H
noncomputable def zlp(H h:List AO)(x1 x2 x8:AV)(v3 v6 v7:List AV):Option RH:=awL T [1,2,3,6,7,8] [3,6,7] yfo (zap 0 (thn (aw T (A yc0 10 .ret) (zah H [.c 3 true 6])) (zah H [.c 3 true 6]))) ⟨⟨65,[(1,.v x1),(2,.v x2),(3,.lp 3 0),(6,.lp 6 0),(7,.lp 7 0),(8,.v x8)]⟩,[(3,v3),(6,v6),(7,v7)],h,[]⟩
@[go_sem]def g_ref05_sub_0(H h x1 x2 x8 v3 v6 v7):=(zlp.eq_1 H h x1 x2 x8 v3 v6 v7).symm
theorem t145:T (zc8)=some e145:=by kernel_rfl
@[go_sem]def al145_0:=@zaa T _ _ yfn.eq_1
@[go_sem]def a145:=@zaa T _ _ c145.eq_1
def zoo(a0 a1:AV)(H:List AO):=ff (vs:=[a0,a1]) t145 rfl H
noncomputable def zb7(H h:List AO)(x0 x1 x7 x8:AV):Option RH:=awL T [0,1,7,8] [] yfn (zap 0 (thn (aw T (A yj0 7 .ret) (zah H [.t 4])) (zah H [.t 4]))) ⟨⟨19,[(0,.v x0),(1,.v x1),(7,.v x7),(8,.v x8)]⟩,[],h,[]⟩
@[go_sem]def g_slices_IndexFunc_Level_0(H h x0 x1 x7 x8):=(zb7.eq_1 H h x0 x1 x7 x8).symm
theorem t146:T (zn2)=some e146:=by kernel_rfl
@[go_sem]def a146:=@zaa T _ _ c146.eq_1
def z7w(a0 a1:AV)(H:List AO):=ff (vs:=[a0,a1]) t146 rfl H
theorem t147:T (zsq)=some e147:=by kernel_rfl
@[go_sem]def a147:=@zaa T _ _ c147.eq_1
def ybs(a0 a1 a2:AV)(H:List AO):=ff (vs:=[a0,a1,a2]) t147 rfl H
theorem t148:T (zl9)=some e148:=by kernel_rfl
@[go_sem]def al148_0:=@zaa T _ _ yfm.eq_1
@[go_sem]def a148:=@zaa T _ _ c148.eq_1
def z7s(a0 a1 a2:AV)(H:List AO):=ff (vs:=[a0,a1,a2]) t148 rfl H
noncomputable def zll(H h:List AO)(x1 x2 x26 x27 x28:AV)(v3 v6 v7:List AV):Option RH:=awL T [1,2,3,6,7,26,27,28] [3,6,7] yfm (zap 0 (thn (aw T (A yd9 9 .ret) (zah H [.c 4 true 6])) (zah H [.c 4 true 6]))) ⟨⟨48,[(1,.v x1),(2,.v x2),(3,.lp 3 0),(6,.lp 6 0),(7,.lp 7 0),(26,.v x26),(27,.v x27),(28,.v x28)]⟩,[(3,v3),(6,v6),(7,v7)],h,[]⟩
@[go_sem]def g_term_turn_0(H h x1 x2 x26 x27 x28 v3 v6 v7):=(zll.eq_1 H h x1 x2 x26 x27 x28 v3 v6 v7).symm
theorem t149:T (zjj)=some e149:=by kernel_rfl
@[go_sem]def a149:=@zaa T _ _ c149.eq_1
def z1p(a0 a1 a2 a3:AV)(H:List AO):=ff (vs:=[a0,a1,a2,a3]) t149 rfl H
theorem t150:T (zgt)=some e150:=by kernel_rfl
@[go_sem]def a150:=@zaa T _ _ c150.eq_1
def zxq(a0:AV)(H:List AO):=ff (vs:=[a0]) t150 rfl H
theorem t151:T (znz)=some e151:=by kernel_rfl
@[go_sem]def a151:=@zaa T _ _ c151.eq_1
def zxp(a0 a1 a2 a3:AV)(H:List AO):=ff (vs:=[a0,a1,a2,a3]) t151 rfl H
theorem t152:T (zjh)=some e152:=by kernel_rfl
@[go_sem]def ydb:=@zaa T _ _ zex.eq_1
@[go_sem]theorem zvl:FC.okd zex=true:=by kernel_rfl
@[go_sem]def yc9:=@zaa T _ _ zeu.eq_1
@[go_sem]theorem zvj:FC.okd zeu=true:=by kernel_rfl
@[go_sem]def al152_0:=@zaa T _ _ yfl.eq_1
@[go_sem]def a152:=@zaa T _ _ c152.eq_1
def z4p(a0 a1:AV)(H:List AO):=ff (vs:=[a0,a1]) t152 rfl H
noncomputable def zj9(H h:List AO)(ds:List Nat)(x2 x11 x12 x13:AV):Option RH:=awL T [2,11,12,13] [] yfl (zap 0 (zah H [])) ⟨⟨25,[(2,.v x2),(11,.v x11),(12,.v x12),(13,.v x13)]⟩,[],h,ds⟩
@[go_sem]def g_tsub_all_1_0(H h ds x2 x11 x12 x13):=(zj9.eq_1 H h ds x2 x11 x12 x13).symm
@[go_sem]def a153:=@zaa T _ _ c153.eq_1
@[go_sem]def a154:=@zaa T _ _ c154.eq_1
@[go_sem]def a155:=@zaa T _ _ c155.eq_1
@[go_sem]def a156:=@zaa T _ _ c156.eq_1
@[go_sem]def a157:=@zaa T _ _ c157.eq_1
@[go_sem]def a158:=@zaa T _ _ c158.eq_1
@[go_sem]def a159:=@zaa T _ _ c159.eq_1
theorem t160:T (zjl)=some e160:=by kernel_rfl
@[go_sem]def a160:=@zaa T _ _ c160.eq_1
def z1q(a0 a1 a2:AV)(H:List AO):=ff (vs:=[a0,a1,a2]) t160 rfl H
theorem t161:T (zc9)=some e161:=by kernel_rfl
@[go_sem]def al161_0:=@zaa T _ _ yfk.eq_1
@[go_sem]def al161_1:=@zaa T _ _ z9s.eq_1
@[go_sem]def a161:=@zaa T _ _ c161.eq_1
def zqn(a0:AV)(H:List AO):=ff (vs:=[a0]) t161 rfl H
noncomputable def zd7(H h:List AO)(x0 x3 x9 x10 x11:AV):Option RH:=awL T [0,3,9,10,11] [] yfk (zap 0 (thn (aw T (A zzh 9 (.seq (A zzh 10 (.block 2 (.loop [6,25,26,27] [] z9s))) (A zzh 15 .ret))) (zah H [.t 2])) (zah H [.t 2]))) ⟨⟨36,[(0,.v x0),(3,.v x3),(9,.v x9),(10,.v x10),(11,.v x11)]⟩,[],h,[]⟩
@[go_sem]def g_slices_Concat_Level_0(H h x0 x3 x9 x10 x11):=(zd7.eq_1 H h x0 x3 x9 x10 x11).symm
noncomputable def zd6(H h:List AO)(x6 x25 x26 x27:AV):Option RH:=awL T [6,25,26,27] [] z9s (zap 2 (thn (aw T (A zzh 15 .ret) (zah H [.t 2])) (zah H [.t 2]))) ⟨⟨36,[(6,.v x6),(25,.v x25),(26,.v x26),(27,.v x27)]⟩,[],h,[]⟩
@[go_sem]def g_slices_Concat_Level_1(H h x6 x25 x26 x27):=(zd6.eq_1 H h x6 x25 x26 x27).symm
theorem t162:T (zq0)=some e162:=by kernel_rfl
@[go_sem]def a162:=@zaa T _ _ c162.eq_1
def ybq(a0:AV)(H:List AO):=ff (vs:=[a0]) t162 rfl H
theorem t163:T (zek)=some e163:=by kernel_rfl
@[go_sem]def al163_0:=@zaa T _ _ yfj.eq_1
@[go_sem]def al163_1:=@zaa T _ _ z9r.eq_1
@[go_sem]def a163:=@zaa T _ _ c163.eq_1
def zth(a0 a1:AV)(H:List AO):=ff (vs:=[a0,a1]) t163 rfl H
noncomputable def ze6(H h:List AO)(x0 x18 x19 x20:AV)(v3 v4 v5:List AV):Option RH:=awL T [0,3,4,5,18,19,20] [3,4,5] yfj (zap 0 (thn (aw T (.seq (A z27 9 (.block 2 (.loop [0,4,5,54,55,56] [4,5] z9r))) (A z27 14 .ret)) (zah H [.c 4 true 4])) (zah H [.c 4 true 4]))) ⟨⟨70,[(0,.v x0),(3,.lp 3 0),(4,.lp 4 0),(5,.lp 5 0),(18,.v x18),(19,.v x19),(20,.v x20)]⟩,[(3,v3),(4,v4),(5,v5)],h,[]⟩
@[go_sem]def g_tsub_putter_term_0(H h x0 x18 x19 x20 v3 v4 v5):=(ze6.eq_1 H h x0 x18 x19 x20 v3 v4 v5).symm
noncomputable def ze5(H h:List AO)(x0 x54 x55 x56:AV)(v4 v5:List AV):Option RH:=awL T [0,4,5,54,55,56] [4,5] z9r (zap 2 (thn (aw T (A z27 14 .ret) (zah H [.c 4 true 4])) (zah H [.c 4 true 4]))) ⟨⟨70,[(0,.v x0),(4,.lp 4 0),(5,.lp 5 0),(54,.v x54),(55,.v x55),(56,.v x56)]⟩,[(4,v4),(5,v5)],h,[]⟩
@[go_sem]def g_tsub_putter_term_1(H h x0 x54 x55 x56 v4 v5):=(ze5.eq_1 H h x0 x54 x55 x56 v4 v5).symm
theorem t164:T (zl7)=some e164:=by kernel_rfl
@[go_sem]def ycm:=@zaa T _ _ zcz.eq_1
@[go_sem]theorem zt7:FC.okd zcz=true:=by kernel_rfl
@[go_sem]def yck:=@zaa T _ _ zcs.eq_1
@[go_sem]theorem zt5:FC.okd zcs=true:=by kernel_rfl
@[go_sem]def a164:=@zaa T _ _ c164.eq_1
def ztg(a0 a1 a2:AV)(H:List AO):=ff (vs:=[a0,a1,a2]) t164 rfl H
theorem t165:T (zhw)=some e165:=by kernel_rfl
@[go_sem]def al165_0:=@zaa T _ _ yfi.eq_1
@[go_sem]def al165_1:=@zaa T _ _ zxi.eq_1
@[go_sem]def a165:=@zaa T _ _ c165.eq_1
def z1m(a0 a1 a2:AV)(H:List AO):=ff (vs:=[a0,a1,a2]) t165 rfl H
noncomputable def zix(H h:List AO)(x2 x8 x15 x16 x17 x23 x24 x25:AV)(v3 v7:List AV):Option RH:=awL T [2,3,7,8,15,16,17,23,24,25] [3,7] yfi (zap 2 (thn (aw T (A zs1 10 (A zs1 11 (.cond (.t 48) (A zs1 12 .ret) .skip))) (zap 1 (thn (aw T (.reg (R zs1 13)) (thn (zdq T [2,3,15,16,17] [3] zxi (zap 0 (thn (aw T (A zs1 14 .ret) (zah H [.t 4,.t 5])) (zah H [.t 4,.t 5])))) (zap 0 (thn (aw T (A zs1 14 .ret) (zah H [.t 4,.t 5])) (zah H [.t 4,.t 5]))))) (thn (zdq T [2,3,15,16,17] [3] zxi (zap 0 (thn (aw T (A zs1 14 .ret) (zah H [.t 4,.t 5])) (zah H [.t 4,.t 5])))) (zap 0 (thn (aw T (A zs1 14 .ret) (zah H [.t 4,.t 5])) (zah H [.t 4,.t 5]))))))) (zap 1 (thn (aw T (.reg (R zs1 13)) (thn (zdq T [2,3,15,16,17] [3] zxi (zap 0 (thn (aw T (A zs1 14 .ret) (zah H [.t 4,.t 5])) (zah H [.t 4,.t 5])))) (zap 0 (thn (aw T (A zs1 14 .ret) (zah H [.t 4,.t 5])) (zah H [.t 4,.t 5]))))) (thn (zdq T [2,3,15,16,17] [3] zxi (zap 0 (thn (aw T (A zs1 14 .ret) (zah H [.t 4,.t 5])) (zah H [.t 4,.t 5])))) (zap 0 (thn (aw T (A zs1 14 .ret) (zah H [.t 4,.t 5])) (zah H [.t 4,.t 5])))))))) ⟨⟨51,[(2,.v x2),(3,.lp 3 0),(7,.lp 7 0),(8,.v x8),(15,.v x15),(16,.v x16),(17,.v x17),(23,.v x23),(24,.v x24),(25,.v x25)]⟩,[(3,v3),(7,v7)],h,[]⟩
@[go_sem]def g_under_Leq_1_0(H h x2 x8 x15 x16 x17 x23 x24 x25 v3 v7):=(zix.eq_1 H h x2 x8 x15 x16 x17 x23 x24 x25 v3 v7).symm
noncomputable def zee(H h:List AO)(x2 x15 x16 x17:AV)(v3:List AV):Option RH:=awL T [2,3,15,16,17] [3] zxi (zap 0 (thn (aw T (A zs1 14 .ret) (zah H [.t 4,.t 5])) (zah H [.t 4,.t 5]))) ⟨⟨51,[(2,.v x2),(3,.lp 3 0),(15,.v x15),(16,.v x16),(17,.v x17)]⟩,[(3,v3)],h,[]⟩
@[go_sem]def g_under_Leq_1_1(H h x2 x15 x16 x17 v3):=(zee.eq_1 H h x2 x15 x16 x17 v3).symm
theorem t166:T (zbf)=some e166:=by kernel_rfl
@[go_sem]def al166_0:=@zaa T _ _ yfh.eq_1
@[go_sem]def a166:=@zaa T _ _ c166.eq_1
def zpf(a0 a1:AV)(H:List AO):=ff (vs:=[a0,a1]) t166 rfl H
noncomputable def zdg(H h:List AO)(x7 x22 x23 x24:AV):Option RH:=awL T [7,22,23,24] [] yfh (zap 0 (thn (aw T (A yd8 9 .ret) (zah H [.t 4])) (zah H [.t 4]))) ⟨⟨40,[(7,.v x7),(22,.v x22),(23,.v x23),(24,.v x24)]⟩,[],h,[]⟩
@[go_sem]def g_under_situation_atoms_0(H h x7 x22 x23 x24):=(zdg.eq_1 H h x7 x22 x23 x24).symm
theorem t167:T (zc7)=some e167:=by kernel_rfl
@[go_sem]def al167_0:=@zaa T _ _ yfg.eq_1
@[go_sem]def a167:=@zaa T _ _ c167.eq_1
def zie(a0 a1:AV)(H:List AO):=ff (vs:=[a0,a1]) t167 rfl H
noncomputable def zb6(H h:List AO)(x7 x11 x37 x38 x39:AV):Option RH:=awL T [7,11,37,38,39] [] yfg (zap 0 (thn (aw T (A z9b 12 .ret) (zah H [.t 4,.t 5])) (zah H [.t 4,.t 5]))) ⟨⟨60,[(7,.v x7),(11,.v x11),(37,.v x37),(38,.v x38),(39,.v x39)]⟩,[],h,[]⟩
@[go_sem]def g_under_situation_values_0(H h x7 x11 x37 x38 x39):=(zb6.eq_1 H h x7 x11 x37 x38 x39).symm
theorem t168:T (zfb)=some e168:=by kernel_rfl
@[go_sem]def a168:=@zaa T _ _ c168.eq_1
def zse(a0 a1:AV)(H:List AO):=ffK (vs:=[a0,a1]) t168 rfl H
theorem t169:T (zta)=some e169:=by kernel_rfl
@[go_sem]def a169:=@zaa T _ _ c169.eq_1
def ybw(a0 a1 a2:AV)(H:List AO):=ff (vs:=[a0,a1,a2]) t169 rfl H
theorem t170:T (zxe)=some e170:=by kernel_rfl
@[go_sem]def a170:=@zaa T _ _ c170.eq_1
def ygz(a0:AV)(H:List AO):=ff (vs:=[a0]) t170 rfl H
theorem t171:T (zkz)=some e171:=by kernel_rfl
@[go_sem]def a171:=@zaa T _ _ c171.eq_1
def zyz(a0 a1:AV)(H:List AO):=ff (vs:=[a0,a1]) t171 rfl H
@[go_sem]def a172:=@zaa T _ _ c172.eq_1
theorem t173:T (zct)=some e173:=by kernel_rfl
@[go_sem]def a173:=@zaa T _ _ c173.eq_1
def znr(a0:AV)(H:List AO):=ff (vs:=[a0]) t173 rfl H
theorem t174:T (zmd)=some e174:=by kernel_rfl
@[go_sem]def a174:=@zaa T _ _ c174.eq_1
def z1s(a0 a1:AV)(H:List AO):=ff (vs:=[a0,a1]) t174 rfl H
theorem t175:T (znc)=some e175:=by kernel_rfl
@[go_sem]def a175:=@zaa T _ _ c175.eq_1
def ybv(a0:AV)(H:List AO):=ff (vs:=[a0]) t175 rfl H
theorem t176:T (zoh)=some e176:=by kernel_rfl
@[go_sem]def al176_0:=@zaa T _ _ yff.eq_1
@[go_sem]def a176:=@zaa T _ _ c176.eq_1
def z75(a0 a1:AV)(H:List AO):=ff (vs:=[a0,a1]) t176 rfl H
noncomputable def zlq(H h:List AO)(x1 x24 x25 x26:AV)(v4 v7:List AV):Option RH:=awL T [1,4,7,24,25,26] [4,7] yff (zap 0 (thn (aw T (A ycz 10 .ret) (zah H [.c 3 true 4])) (zah H [.c 3 true 4]))) ⟨⟨40,[(1,.v x1),(4,.lp 4 0),(7,.lp 7 0),(24,.v x24),(25,.v x25),(26,.v x26)]⟩,[(4,v4),(7,v7)],h,[]⟩
@[go_sem]def g_lsub_turn_0(H h x1 x24 x25 x26 v4 v7):=(zlq.eq_1 H h x1 x24 x25 x26 v4 v7).symm
theorem t177:T (zoi)=some e177:=by kernel_rfl
@[go_sem]def a177:=@zaa T _ _ c177.eq_1
def z49(a0 a1 a2:AV)(H:List AO):=ff (vs:=[a0,a1,a2]) t177 rfl H
theorem t178:T (zmq)=some e178:=by kernel_rfl
@[go_sem]def al178_0:=@zaa T _ _ yfe.eq_1
@[go_sem]def al178_1:=@zaa T _ _ zxh.eq_1
@[go_sem]def a178:=@zaa T _ _ c178.eq_1
def z76(a0 a1:AV)(H:List AO):=ff (vs:=[a0,a1]) t178 rfl H
noncomputable def zg5(H h:List AO)(x0 x1 x3 x4 x7 x8 x14 x15:AV):Option RH:=awL T [0,1,3,4,7,8,14,15] [] yfe (zap 2 (thn (aw T (A z9a 9 (.cond (.t 30) .ret .skip)) (zap 1 (thn (aw T (.reg (R z9a 10)) (thn (zdq T [0,1,7,8] [] zxh (zap 0 (zah H []))) (zap 0 (zah H [])))) (thn (zdq T [0,1,7,8] [] zxh (zap 0 (zah H []))) (zap 0 (zah H [])))))) (zap 1 (thn (aw T (.reg (R z9a 10)) (thn (zdq T [0,1,7,8] [] zxh (zap 0 (zah H []))) (zap 0 (zah H [])))) (thn (zdq T [0,1,7,8] [] zxh (zap 0 (zah H []))) (zap 0 (zah H []))))))) ⟨⟨32,[(0,.v x0),(1,.v x1),(3,.v x3),(4,.v x4),(7,.v x7),(8,.v x8),(14,.v x14),(15,.v x15)]⟩,[],h,[]⟩
@[go_sem]def g_leq_All_1_0(H h x0 x1 x3 x4 x7 x8 x14 x15):=(zg5.eq_1 H h x0 x1 x3 x4 x7 x8 x14 x15).symm
noncomputable def zlr(H h:List AO)(x0 x1 x7 x8:AV):Option RH:=awL T [0,1,7,8] [] zxh (zap 0 (zah H [])) ⟨⟨32,[(0,.v x0),(1,.v x1),(7,.v x7),(8,.v x8)]⟩,[],h,[]⟩
@[go_sem]def g_leq_All_1_1(H h x0 x1 x7 x8):=(zlr.eq_1 H h x0 x1 x7 x8).symm
@[go_sem]def a179:=@zaa T _ _ c179.eq_1
theorem t180:T (zpe)=some e180:=by kernel_rfl
@[go_sem]def a180:=@zaa T _ _ c180.eq_1
def zun(a0:AV)(H:List AO):=ff (vs:=[a0]) t180 rfl H
@[go_sem]def zvs:=@zaa T _ _ zgh.eq_1
@[go_sem]def zvr:=@zaa T _ _ zge.eq_1
@[go_sem]def a181:=@zaa T _ _ c181.eq_1
theorem t182:T (zay)=some e182:=by kernel_rfl
@[go_sem]def al182_0:=@zaa T _ _ yfd.eq_1
@[go_sem]def al182_1:=@zaa T _ _ yfc.eq_1
@[go_sem]def al182_2:=@zaa T _ _ zzs.eq_1
@[go_sem]def a182:=@zaa T _ _ c182.eq_1
def zmw(a0 a1:AV)(H:List AO):=ff (vs:=[a0,a1]) t182 rfl H
noncomputable def zbk(H h:List AO)(x0 x1 x11 x12 x13:AV):Option RH:=awL T [0,1,11,12,13] [] yfd (zap 0 (thn (aw T (A z3x 5 (.block 2 (.loop [0,1,33,34,35] [] zzs))) (zah H [])) (zah H []))) ⟨⟨60,[(0,.v x0),(1,.v x1),(11,.v x11),(12,.v x12),(13,.v x13)]⟩,[],h,[]⟩
@[go_sem]def g_under_situation_clauses_1_0(H h x0 x1 x11 x12 x13):=(zbk.eq_1 H h x0 x1 x11 x12 x13).symm
noncomputable def zch(H h:List AO)(x0 x1 x7 x33 x34 x35 x46 x47 x48:AV):Option RH:=awL T [0,1,7,33,34,35,46,47,48] [] yfc (zap 4 (zap 3 (thn (aw T (.reg (R z3x 14)) (thn (zdq T [0,1,33,34,35] [] zzs (zap 2 (zah H []))) (zap 2 (zah H [])))) (thn (zdq T [0,1,33,34,35] [] zzs (zap 2 (zah H []))) (zap 2 (zah H [])))))) ⟨⟨60,[(0,.v x0),(1,.v x1),(7,.v x7),(33,.v x33),(34,.v x34),(35,.v x35),(46,.v x46),(47,.v x47),(48,.v x48)]⟩,[],h,[]⟩
@[go_sem]def g_under_situation_clauses_1_1(H h x0 x1 x7 x33 x34 x35 x46 x47 x48):=(zch.eq_1 H h x0 x1 x7 x33 x34 x35 x46 x47 x48).symm
noncomputable def zbj(H h:List AO)(x0 x1 x33 x34 x35:AV):Option RH:=awL T [0,1,33,34,35] [] zzs (zap 2 (zah H [])) ⟨⟨60,[(0,.v x0),(1,.v x1),(33,.v x33),(34,.v x34),(35,.v x35)]⟩,[],h,[]⟩
@[go_sem]def g_under_situation_clauses_1_2(H h x0 x1 x33 x34 x35):=(zbj.eq_1 H h x0 x1 x33 x34 x35).symm
theorem t183:T (zl5)=some e183:=by kernel_rfl
@[go_sem]def ydc:=@zaa T _ _ zey.eq_1
@[go_sem]theorem zvm:FC.okd zey=true:=by kernel_rfl
@[go_sem]def yda:=@zaa T _ _ zev.eq_1
@[go_sem]theorem zvk:FC.okd zev=true:=by kernel_rfl
@[go_sem]def a183:=@zaa T _ _ c183.eq_1
def z5k(a0 a1:AV)(H:List AO):=ff (vs:=[a0,a1]) t183 rfl H
theorem t184:T (zpz)=some e184:=by kernel_rfl
@[go_sem]def yh6:=@zaa T _ _ zcg.eq_1
@[go_sem]theorem zw2:FC.okd zcg=true:=by kernel_rfl
@[go_sem]def yh4:=@zaa T _ _ zcf.eq_1
@[go_sem]theorem zw0:FC.okd zcf=true:=by kernel_rfl
@[go_sem]def a184:=@zaa T _ _ c184.eq_1
def z7y(a0 a1 a2:AV)(H:List AO):=ff (vs:=[a0,a1,a2]) t184 rfl H
theorem t185:T (zmc)=some e185:=by kernel_rfl
@[go_sem]def a185:=@zaa T _ _ c185.eq_1
def z1r(a0 a1:AV)(H:List AO):=ff (vs:=[a0,a1]) t185 rfl H
@[go_sem]def a186:=@zaa T _ _ c186.eq_1
theorem t187:T (ziv)=some e187:=by kernel_rfl
@[go_sem]def al187_0:=@zaa T _ _ yfb.eq_1
@[go_sem]def a187:=@zaa T _ _ c187.eq_1
def zsk(a0:AV)(H:List AO):=ff (vs:=[a0]) t187 rfl H
noncomputable def zg7(H h:List AO)(x10 x11 x12:AV)(v1 v2:List AV):Option RH:=awL T [1,2,10,11,12] [1,2] yfb (zap 0 (thn (aw T (A yiw 8 .ret) (zah H [.c 2 true 2])) (zah H [.c 2 true 2]))) ⟨⟨28,[(1,.lp 1 0),(2,.lp 2 0),(10,.v x10),(11,.v x11),(12,.v x12)]⟩,[(1,v1),(2,v2)],h,[]⟩
@[go_sem]def g_flat_succ_0(H h x10 x11 x12 v1 v2):=(zg7.eq_1 H h x10 x11 x12 v1 v2).symm
@[go_sem]def al188_0:=@zaa T _ _ ynw.eq_1
@[go_sem]def al188_1:=@zaa T _ _ ynv.eq_1
@[go_sem]def a188:=@zaa T _ _ c188.eq_1
theorem t189:T (zew)=some e189:=by kernel_rfl
@[go_sem]def al189_0:=@zaa T _ _ yfa.eq_1
@[go_sem]def a189:=@zaa T _ _ c189.eq_1
def zpn(a0:AV)(H:List AO):=ff (vs:=[a0]) t189 rfl H
noncomputable def zc2(H h:List AO)(x0 x3 x4:AV):Option RH:=awL T [0,3,4] [] yfa (zap 0 (thn (aw T (A yiv 8 .ret) (zah H [.t 2])) (zah H [.t 2]))) ⟨⟨25,[(0,.v x0),(3,.v x3),(4,.v x4)]⟩,[],h,[]⟩
@[go_sem]def g_slices_Max_int_0(H h x0 x3 x4):=(zc2.eq_1 H h x0 x3 x4).symm
theorem t190:T (zib)=some e190:=by kernel_rfl
@[go_sem]def a190:=@zaa T _ _ c190.eq_1
def zyy(a0:AV)(H:List AO):=ff (vs:=[a0]) t190 rfl H
theorem t191:T (zb5)=some e191:=by kernel_rfl
@[go_sem]def a191:=@zaa T _ _ c191.eq_1
def zlj(a0 a1:AV)(H:List AO):=ff (vs:=[a0,a1]) t191 rfl H
theorem t192:T (zl4)=some e192:=by kernel_rfl
@[go_sem]def a192:=@zaa T _ _ c192.eq_1
def z5j(a0:AV)(H:List AO):=ff (vs:=[a0]) t192 rfl H
theorem t193:T (zst)=some e193:=by kernel_rfl
@[go_sem]def a193:=@zaa T _ _ c193.eq_1
def ybu(a0:AV)(H:List AO):=ff (vs:=[a0]) t193 rfl H
@[go_sem]def a194:=@zaa T _ _ c194.eq_1
theorem ztv:T (za0)=some (.ext (zx7 1)):=by kernel_rfl
theorem ztj(a0:AV)(H:List AO):F za0 [a0] H=zx7 1 [a0] H:=fnF_ext ztv _ H
theorem t196:T (zqe)=some e196:=by kernel_rfl
@[go_sem]def yh7:=@zaa T _ _ zfm.eq_1
@[go_sem]theorem zw3:FC.okd zfm=true:=by kernel_rfl
@[go_sem]def yh5:=@zaa T _ _ zfk.eq_1
@[go_sem]theorem zw1:FC.okd zfk=true:=by kernel_rfl
@[go_sem]def a196:=@zaa T _ _ c196.eq_1
def z79(a0 a1:AV)(H:List AO):=ff (vs:=[a0,a1]) t196 rfl H
@[go_sem]def al197_0:=@zaa T _ _ ynu.eq_1
@[go_sem]def a197:=@zaa T _ _ c197.eq_1
theorem t198:T (zcx)=some e198:=by kernel_rfl
@[go_sem]def al198_0:=@zaa T _ _ ye8.eq_1
@[go_sem]def a198:=@zaa T _ _ c198.eq_1
def zns(a0 a1:AV)(H:List AO):=ff (vs:=[a0,a1]) t198 rfl H
noncomputable def zbz(H h:List AO)(x0 x1 x7 x8:AV):Option RH:=awL T [0,1,7,8] [] ye8 (zap 0 (thn (aw T (A yjx 7 .ret) (zah H [.t 4])) (zah H [.t 4]))) ⟨⟨19,[(0,.v x0),(1,.v x1),(7,.v x7),(8,.v x8)]⟩,[],h,[]⟩
@[go_sem]def g_slices_IndexFunc_Clause_0(H h x0 x1 x7 x8):=(zbz.eq_1 H h x0 x1 x7 x8).symm
theorem t199:T (zia)=some e199:=by kernel_rfl
@[go_sem]def al199_0:=@zaa T _ _ ye7.eq_1
@[go_sem]def al199_1:=@zaa T _ _ z39.eq_1
@[go_sem]def a199:=@zaa T _ _ c199.eq_1
def zyx(a0 a1:AV)(H:List AO):=ff (vs:=[a0,a1]) t199 rfl H
noncomputable def zhu(H h:List AO)(x0 x3 x7 x8 x9 x20 x21 x22:AV):Option RH:=awL T [0,3,7,8,9,20,21,22] [] ye7 (zap 2 (zap 1 (thn (aw T (.reg (R yiu 8)) (thn (zdq T [0,7,8,9] [] z39 (zap 0 (zah H []))) (zap 0 (zah H [])))) (thn (zdq T [0,7,8,9] [] z39 (zap 0 (zah H []))) (zap 0 (zah H [])))))) ⟨⟨33,[(0,.v x0),(3,.v x3),(7,.v x7),(8,.v x8),(9,.v x9),(20,.v x20),(21,.v x21),(22,.v x22)]⟩,[],h,[]⟩
@[go_sem]def g_horn_atoms_1_0(H h x0 x3 x7 x8 x9 x20 x21 x22):=(zhu.eq_1 H h x0 x3 x7 x8 x9 x20 x21 x22).symm
noncomputable def zfz(H h:List AO)(x0 x7 x8 x9:AV):Option RH:=awL T [0,7,8,9] [] z39 (zap 0 (zah H [])) ⟨⟨33,[(0,.v x0),(7,.v x7),(8,.v x8),(9,.v x9)]⟩,[],h,[]⟩
@[go_sem]def g_horn_atoms_1_1(H h x0 x7 x8 x9):=(zfz.eq_1 H h x0 x7 x8 x9).symm
theorem t200:T (zep)=some e200:=by kernel_rfl
@[go_sem]def al200_0:=@zaa T _ _ ye6.eq_1
@[go_sem]def al200_1:=@zaa T _ _ z9q.eq_1
@[go_sem]def a200:=@zaa T _ _ c200.eq_1
def zrp(a0:AV)(H:List AO):=ff (vs:=[a0]) t200 rfl H
noncomputable def zei(H h:List AO)(x0 x3 x9 x10 x11:AV):Option RH:=awL T [0,3,9,10,11] [] ye6 (zap 0 (thn (aw T (A zzg 9 (.seq (A zzg 10 (.block 2 (.loop [6,25,26,27] [] z9q))) (A zzg 15 .ret))) (zah H [.t 2])) (zah H [.t 2]))) ⟨⟨36,[(0,.v x0),(3,.v x3),(9,.v x9),(10,.v x10),(11,.v x11)]⟩,[],h,[]⟩
@[go_sem]def g_slices_Concat_Atom_0(H h x0 x3 x9 x10 x11):=(zei.eq_1 H h x0 x3 x9 x10 x11).symm
noncomputable def zeh(H h:List AO)(x6 x25 x26 x27:AV):Option RH:=awL T [6,25,26,27] [] z9q (zap 2 (thn (aw T (A zzg 15 .ret) (zah H [.t 2])) (zah H [.t 2]))) ⟨⟨36,[(6,.v x6),(25,.v x25),(26,.v x26),(27,.v x27)]⟩,[],h,[]⟩
@[go_sem]def g_slices_Concat_Atom_1(H h x6 x25 x26 x27):=(zeh.eq_1 H h x6 x25 x26 x27).symm
theorem t201:T (zb8)=some e201:=by kernel_rfl
@[go_sem]def al201_0:=@zaa T _ _ ye5.eq_1
@[go_sem]def a201:=@zaa T _ _ c201.eq_1
def zpp(a0 a1 a2:AV)(H:List AO):=ff (vs:=[a0,a1,a2]) t201 rfl H
noncomputable def zcm(H h:List AO)(x0 x1 x2:AV):Option RH:=awL T [0,1,2] [] ye5 (zap 0 (zah H [])) ⟨⟨11,[(0,.v x0),(1,.v x1),(2,.v x2)]⟩,[],h,[]⟩
@[go_sem]def g_solve_model_rounds_1_0(H h x0 x1 x2):=(zcm.eq_1 H h x0 x1 x2).symm
theorem t202:T (zfa)=some e202:=by kernel_rfl
@[go_sem]def al202_0:=@zaa T _ _ ye4.eq_1
@[go_sem]def a202:=@zaa T _ _ c202.eq_1
def zsd(a0 a1:AV)(H:List AO):=ff (vs:=[a0,a1]) t202 rfl H
theorem t203:T (zgv)=some e203:=by kernel_rfl
@[go_sem]def a203:=@zaa T _ _ c203.eq_1
def zxt(a0 a1:AV)(H:List AO):=ff (vs:=[a0,a1]) t203 rfl H
theorem t204:T (zfs)=some e204:=by kernel_rfl
@[go_sem]def a204:=@zaa T _ _ c204.eq_1
def zti(a0 a1:AV)(H:List AO):=ffK (vs:=[a0,a1]) t204 rfl H
theorem t205:T (zqf)=some e205:=by kernel_rfl
@[go_sem]def a205:=@zaa T _ _ c205.eq_1
def z8a(a0 a1:AV)(H:List AO):=ff (vs:=[a0,a1]) t205 rfl H
@[go_sem]def a206:=@zaa T _ _ c206.eq_1
theorem t207:T (zgj)=some e207:=by kernel_rfl
@[go_sem]def a207:=@zaa T _ _ c207.eq_1
def zum(a0 a1:AV)(H:List AO):=ff (vs:=[a0,a1]) t207 rfl H
theorem t208:T (zj0)=some e208:=by kernel_rfl
@[go_sem]def a208:=@zaa T _ _ c208.eq_1
def z2l(a0 a1 a2:AV)(H:List AO):=ff (vs:=[a0,a1,a2]) t208 rfl H
theorem t209:T (zec)=some e209:=by kernel_rfl
@[go_sem]def al209_0:=@zaa T _ _ ye3.eq_1
@[go_sem]def a209:=@zaa T _ _ c209.eq_1
def zqm(a0 a1:AV)(H:List AO):=ff (vs:=[a0,a1]) t209 rfl H
noncomputable def zc1(H h:List AO)(x0 x1 x6:AV)(v4 v5:List AV):Option RH:=awL T [0,1,4,5,6] [4,5] ye3 (zap 0 (thn (aw T (A yd5 9 .ret) (zah H [.c 2 true 4])) (zah H [.c 2 true 4]))) ⟨⟨33,[(0,.v x0),(1,.v x1),(4,.lp 4 0),(5,.lp 5 0),(6,.v x6)]⟩,[(4,v4),(5,v5)],h,[]⟩
@[go_sem]def g_slices_MinFunc_Atom_0(H h x0 x1 x6 v4 v5):=(zc1.eq_1 H h x0 x1 x6 v4 v5).symm
theorem t210:T (za5+1000000)=some e210:=by kernel_rfl
@[go_sem]def zvd:=@zaa T _ _ zax.eq_1
@[go_sem]theorem zkv:FC.okd zax=true:=by kernel_rfl
@[go_sem]def zvc:=@zaa T _ _ zaw.eq_1
@[go_sem]theorem zku:FC.okd zaw=true:=by kernel_rfl
@[go_sem]def a210:=@zaa T _ _ c210.eq_1
def zm9(a0 a1:AV)(H:List AO):=ffA (vs:=[a0,a1]) t210 rfl H
theorem t211:T (zbv+1000000)=some e211:=by kernel_rfl
@[go_sem]def a211:=@zaa T _ _ c211.eq_1
def zoq(a0:AV)(H:List AO):=ffA (vs:=[a0]) t211 rfl H
theorem zso:T (za0+1000000)=some (.alx (zva 1)):=by kernel_rfl
theorem zmy(a0:AV)(H:List AO):FK za0 [a0] H=zva 1 [a0] H:=fkF_ext zso _ H
theorem t213:T (zci+1000000)=some e213:=by kernel_rfl
@[go_sem]def al213_0:=@zaa T _ _ ye2.eq_1
@[go_sem]def a213:=@zaa T _ _ c213.eq_1
def zro(a0 a1:AV)(H:List AO):=ffA (vs:=[a0,a1]) t213 rfl H
noncomputable def zai(H h:List AO)(x7 x8:AV):Option RH:=awL T [7,8] [] ye2 (zap 0 (thn (aw T (A ycx 10 .ret) (zj3 H [.t 4])) (zj3 H [.t 4]))) ⟨⟨48,[(7,.v x7),(8,.v x8)]⟩,[],h,[]⟩
@[go_sem]def g_slices_Repeat_intK_0(H h x7 x8):=(zai.eq_1 H h x7 x8).symm
theorem t214:T (zid+1000000)=some e214:=by kernel_rfl
@[go_sem]def a214:=@zaa T _ _ c214.eq_1
def z2m(a0 a1:AV)(H:List AO):=ffA (vs:=[a0,a1]) t214 rfl H
theorem t215:T (zgn+1000000)=some e215:=by kernel_rfl
@[go_sem]def al215_0:=@zaa T _ _ ye1.eq_1
@[go_sem]def al215_1:=@zaa T _ _ z38.eq_1
@[go_sem]def a215:=@zaa T _ _ c215.eq_1
def zu7(a0 a1:AV)(H:List AO):=ffA (vs:=[a0,a1]) t215 rfl H
noncomputable def ze2(H h:List AO)(x16 x17 x18 x29 x30 x31:AV)(v4 v5:List AV):Option RH:=awL T [4,5,16,17,18,29,30,31] [4,5] ye1 (zap 2 (zap 1 (thn (aw T (.reg (R z0x 11)) (thn (zdq T [4,5,16,17,18] [4,5] z38 (zap 0 (thn (aw T (A z0x 12 .ret) (zj3 H [.c 2 true 4])) (zj3 H [.c 2 true 4])))) (zap 0 (thn (aw T (A z0x 12 .ret) (zj3 H [.c 2 true 4])) (zj3 H [.c 2 true 4]))))) (thn (zdq T [4,5,16,17,18] [4,5] z38 (zap 0 (thn (aw T (A z0x 12 .ret) (zj3 H [.c 2 true 4])) (zj3 H [.c 2 true 4])))) (zap 0 (thn (aw T (A z0x 12 .ret) (zj3 H [.c 2 true 4])) (zj3 H [.c 2 true 4]))))))) ⟨⟨50,[(4,.lp 4 0),(5,.lp 5 0),(16,.v x16),(17,.v x17),(18,.v x18),(29,.v x29),(30,.v x30),(31,.v x31)]⟩,[(4,v4),(5,v5)],h,[]⟩
@[go_sem]def g_flat_joinK_0(H h x16 x17 x18 x29 x30 x31 v4 v5):=(ze2.eq_1 H h x16 x17 x18 x29 x30 x31 v4 v5).symm
noncomputable def zce(H h:List AO)(x16 x17 x18:AV)(v4 v5:List AV):Option RH:=awL T [4,5,16,17,18] [4,5] z38 (zap 0 (thn (aw T (A z0x 12 .ret) (zj3 H [.c 2 true 4])) (zj3 H [.c 2 true 4]))) ⟨⟨50,[(4,.lp 4 0),(5,.lp 5 0),(16,.v x16),(17,.v x17),(18,.v x18)]⟩,[(4,v4),(5,v5)],h,[]⟩
@[go_sem]def g_flat_joinK_1(H h x16 x17 x18 v4 v5):=(zce.eq_1 H h x16 x17 x18 v4 v5).symm
theorem t216:T (zgm+1000000)=some e216:=by kernel_rfl
@[go_sem]def a216:=@zaa T _ _ c216.eq_1
def ybx(a0 a1:AV)(H:List AO):=ffA (vs:=[a0,a1]) t216 rfl H
theorem t217:T (zcw+1000000)=some e217:=by kernel_rfl
@[go_sem]def a217:=@zaa T _ _ c217.eq_1
def zql(a0 a1:AV)(H:List AO):=ffA (vs:=[a0,a1]) t217 rfl H
theorem t218:T (zf3+1000000)=some e218:=by kernel_rfl
@[go_sem]def al218_0:=@zaa T _ _ ye0.eq_1
@[go_sem]def a218:=@zaa T _ _ c218.eq_1
def z19(a0 a1:AV)(H:List AO):=ffA (vs:=[a0,a1]) t218 rfl H
noncomputable def zi8(H h:List AO)(x1 x6:AV)(v4 v5:List AV):Option RH:=awL T [1,4,5,6] [4,5] ye0 (zap 0 (thn (aw T (A ym7 6 .ret) (zj3 H [.c 2 true 4])) (zj3 H [.c 2 true 4]))) ⟨⟨20,[(1,.v x1),(4,.lp 4 0),(5,.lp 5 0),(6,.v x6)]⟩,[(4,v4),(5,v5)],h,[]⟩
@[go_sem]def g_ref06_noneK_0(H h x1 x6 v4 v5):=(zi8.eq_1 H h x1 x6 v4 v5).symm
end Go.Ab
end
