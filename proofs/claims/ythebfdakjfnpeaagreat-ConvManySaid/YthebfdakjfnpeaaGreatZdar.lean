/- What the law ConvMany of layer 17 comes to, part 18. Conditions: none. -/
import Derived.Test.YthebfdakjfnpeaaGreatZdaq
section
set_option linter.unusedVariables false
set_option linter.defProp false
set_option maxRecDepth 100000
namespace Go.Ab
open Go.RowKit Go.Proofs
theorem t3:T (zgn)=some e3:=by kernel_rfl
@[go_sem]def al3_0:=@zaa T _ _ l3_0.eq_1
@[go_sem]def al3_1:=@zaa T _ _ l3_1.eq_1
@[go_sem]def a3:=@zaa T _ _ c3.eq_1
def ztx(a0 a1:AV)(H:List AO):=ff (vs:=[a0,a1]) t3 rfl H
noncomputable def zfl(H h:List AO)(x0 x1 x7:AV)(v5 v6:List AV):Option RH:=awL T [0,1,5,6,7] [5,6] l3_0 (zao 0 (thn (aw T (A q3 12 (.seq (A q3 13 (.block 2 (.loop [0,1,5,6,9,10] [5,6,9] l3_1))) (E q3 17 (A q3 18 .ret)))) (zah H [.t 4])) (zah H [.t 4]))) ⟨⟨84,[(0,.v x0),(1,.v x1),(5,.lp 5 0),(6,.lp 6 0),(7,.v x7)]⟩,[(5,v5),(6,v6)],h,[]⟩
@[go_sem]def g_law17_ConvMany_0(H h x0 x1 x7 v5 v6):=(zfl.eq_1 H h x0 x1 x7 v5 v6).symm
noncomputable def zfk(H h:List AO)(x0 x1 x10:AV)(v5 v6 v9:List AV):Option RH:=awL T [0,1,5,6,9,10] [5,6,9] l3_1 (zao 2 (thn (aw T (E q3 17 (A q3 18 .ret)) (zah H [.t 4])) (zah H [.t 4]))) ⟨⟨84,[(0,.v x0),(1,.v x1),(5,.lp 5 0),(6,.lp 6 0),(9,.lp 9 0),(10,.v x10)]⟩,[(5,v5),(6,v6),(9,v9)],h,[]⟩
@[go_sem]def g_law17_ConvMany_1(H h x0 x1 x10 v5 v6 v9):=(zfk.eq_1 H h x0 x1 x10 v5 v6 v9).symm
theorem t9:T (zll)=some e9:=by kernel_rfl
@[go_sem]def a9:=@zaa T _ _ c9.eq_1
def zz6(H:List AO):=ff (vs:=[]) t9 rfl H
theorem t10:T (zkx)=some e10:=by kernel_rfl
@[go_sem]def a10:=@zaa T _ _ c10.eq_1
def z2z(a0 a1 a2 a3 a4:AV)(H:List AO):=ff (vs:=[a0,a1,a2,a3,a4]) t10 rfl H
theorem t11:T (ziu)=some e11:=by kernel_rfl
@[go_sem]def al11_0:=@zaa T _ _ l11_0.eq_1
@[go_sem]def a11:=@zaa T _ _ c11.eq_1
def zzp(a0 a1:AV)(H:List AO):=ff (vs:=[a0,a1]) t11 rfl H
noncomputable def zh8(H h:List AO)(x1 x5 x6:AV)(v2:List AV):Option RH:=awL T [1,2,5,6] [2] l11_0 (zao 0 (thn (aw T (A q11 6 .ret) (zah H [.t 4])) (zah H [.t 4]))) ⟨⟨31,[(1,.v x1),(2,.lp 2 0),(5,.v x5),(6,.v x6)]⟩,[(2,v2)],h,[]⟩
@[go_sem]def g_ref13_Parts_0(H h x1 x5 x6 v2):=(zh8.eq_1 H h x1 x5 x6 v2).symm
theorem t12:T (zfd)=some e12:=by kernel_rfl
@[go_sem]def a12:=@zaa T _ _ c12.eq_1
def z20(a0:AV)(H:List AO):=ff (vs:=[a0]) t12 rfl H
theorem t13:T (zf7)=some e13:=by kernel_rfl
@[go_sem]def a13:=@zaa T _ _ c13.eq_1
def z21(a0 a1:AV)(H:List AO):=ff (vs:=[a0,a1]) t13 rfl H
theorem t14:T (zi1)=some e14:=by kernel_rfl
@[go_sem]def a14:=@zaa T _ _ c14.eq_1
def ztf(a0:AV)(H:List AO):=ff (vs:=[a0]) t14 rfl H
theorem t16:T (zfy)=some e16:=by kernel_rfl
@[go_sem]def a16:=@zaa T _ _ c16.eq_1
def zvu(a0 a1 a2 a3 a4:AV)(H:List AO):=ff (vs:=[a0,a1,a2,a3,a4]) t16 rfl H
theorem t17:T (zex)=some e17:=by kernel_rfl
@[go_sem]def a17:=@zaa T _ _ c17.eq_1
def zzo(a0 a1 a2 a3:AV)(H:List AO):=ff (vs:=[a0,a1,a2,a3]) t17 rfl H
theorem t18:T (zm2)=some e18:=by kernel_rfl
@[go_sem]def al18_0:=@zaa T _ _ l18_0.eq_1
@[go_sem]def al18_1:=@zaa T _ _ yb5.eq_1
@[go_sem]def a18:=@zaa T _ _ c18.eq_1
def zqy(a0 a1 a2 a3:AV)(H:List AO):=ff (vs:=[a0,a1,a2,a3]) t18 rfl H
noncomputable def ze1(H h:List AO)(x0 x1 x11 x12 x17 x18 x19:AV)(v6 v7 v15:List AV):Option RH:=awL T [0,1,6,7,11,12,15,17,18,19] [6,7,15] l18_0 (zao 2 (zao 1 (thn (aw T (.reg (R q18 16)) (thn (zc9 T [0,1,6,7,11] [6,7] yb5 (zao 0 (thn (aw T (A q18 17 .ret) (zah H [.t 8,.t 9,.t 10])) (zah H [.t 8,.t 9,.t 10])))) (zao 0 (thn (aw T (A q18 17 .ret) (zah H [.t 8,.t 9,.t 10])) (zah H [.t 8,.t 9,.t 10]))))) (thn (zc9 T [0,1,6,7,11] [6,7] yb5 (zao 0 (thn (aw T (A q18 17 .ret) (zah H [.t 8,.t 9,.t 10])) (zah H [.t 8,.t 9,.t 10])))) (zao 0 (thn (aw T (A q18 17 .ret) (zah H [.t 8,.t 9,.t 10])) (zah H [.t 8,.t 9,.t 10]))))))) ⟨⟨84,[(0,.v x0),(1,.v x1),(6,.lp 6 0),(7,.lp 7 0),(11,.v x11),(12,.v x12),(15,.lp 15 0),(17,.v x17),(18,.v x18),(19,.v x19)]⟩,[(6,v6),(7,v7),(15,v15)],h,[]⟩
@[go_sem]def g_ref12_Leq_0(H h x0 x1 x11 x12 x17 x18 x19 v6 v7 v15):=(ze1.eq_1 H h x0 x1 x11 x12 x17 x18 x19 v6 v7 v15).symm
noncomputable def zge(H h:List AO)(x0 x1 x11:AV)(v6 v7:List AV):Option RH:=awL T [0,1,6,7,11] [6,7] yb5 (zao 0 (thn (aw T (A q18 17 .ret) (zah H [.t 8,.t 9,.t 10])) (zah H [.t 8,.t 9,.t 10]))) ⟨⟨84,[(0,.v x0),(1,.v x1),(6,.lp 6 0),(7,.lp 7 0),(11,.v x11)]⟩,[(6,v6),(7,v7)],h,[]⟩
@[go_sem]def g_ref12_Leq_1(H h x0 x1 x11 v6 v7):=(zge.eq_1 H h x0 x1 x11 v6 v7).symm
theorem t23:T (zm1)=some e23:=by kernel_rfl
@[go_sem]def a23:=@zaa T _ _ c23.eq_1
def z2n(a0 a1 a2:AV)(H:List AO):=ff (vs:=[a0,a1,a2]) t23 rfl H
theorem t27:T (zhm)=some e27:=by kernel_rfl
@[go_sem]def a27:=@zaa T _ _ c27.eq_1
def z24(a0:AV)(H:List AO):=ff (vs:=[a0]) t27 rfl H
theorem t28:T (zkq)=some e28:=by kernel_rfl
@[go_sem]def a28:=@zaa T _ _ c28.eq_1
def zte(a0 a1 a2 a3 a4:AV)(H:List AO):=ff (vs:=[a0,a1,a2,a3,a4]) t28 rfl H
theorem t29:T (zgk)=some e29:=by kernel_rfl
@[go_sem]def al29_0:=@zaa T _ _ l29_0.eq_1
@[go_sem]def a29:=@zaa T _ _ c29.eq_1
def ztw(a0 a1:AV)(H:List AO):=ff (vs:=[a0,a1]) t29 rfl H
noncomputable def zfj(H h:List AO)(x0 x1 x5:AV):Option RH:=awL T [0,1,5] [] l29_0 (zao 0 (thn (aw T (A q29 8 .ret) (zah H [.t 4])) (zah H [.t 4]))) ⟨⟨43,[(0,.v x0),(1,.v x1),(5,.v x5)]⟩,[],h,[]⟩
@[go_sem]def g_ref17_SameCons_0(H h x0 x1 x5):=(zfj.eq_1 H h x0 x1 x5).symm
theorem t30:T (ziq)=some e30:=by kernel_rfl
@[go_sem]def a30:=@zaa T _ _ c30.eq_1
def zzg(a0:AV)(H:List AO):=ff (vs:=[a0]) t30 rfl H
theorem t31:T (zla)=some e31:=by kernel_rfl
@[go_sem]def al31_0:=@zaa T _ _ l31_0.eq_1
@[go_sem]def a31:=@zaa T _ _ c31.eq_1
def zzi(a0:AV)(H:List AO):=ff (vs:=[a0]) t31 rfl H
noncomputable def zh4(H h:List AO)(x0 x3:AV):Option RH:=awL T [0,3] [] l31_0 (zao 0 (thn (aw T (A q31 6 .ret) (zah H [.t 2])) (zah H [.t 2]))) ⟨⟨20,[(0,.v x0),(3,.v x3)]⟩,[],h,[]⟩
@[go_sem]def g_ref16_Right_0(H h x0 x3):=(zh4.eq_1 H h x0 x3).symm
theorem t32:T (zec)=some e32:=by kernel_rfl
@[go_sem]def a32:=@zaa T _ _ c32.eq_1
def zzn(a0:AV)(H:List AO):=ff (vs:=[a0]) t32 rfl H
theorem t33:T (zav)=some e33:=by kernel_rfl
@[go_sem]def al33_0:=@zaa T _ _ l33_0.eq_1
@[go_sem]def a33:=@zaa T _ _ c33.eq_1
def zp9(a0 a1:AV)(H:List AO):=ff (vs:=[a0,a1]) t33 rfl H
noncomputable def zad(H h:List AO)(x0:AV)(v3 v4:List AV):Option RH:=awL T [0,3,4] [3,4] l33_0 (zao 0 (thn (aw T (A q33 15 .ret) (zah H [.c 4 true 4])) (zah H [.c 4 true 4]))) ⟨⟨96,[(0,.v x0),(3,.lp 3 0),(4,.lp 4 0)]⟩,[(3,v3),(4,v4)],h,[]⟩
@[go_sem]def g_ref16_Machine_Head_0(H h x0 v3 v4):=(zad.eq_1 H h x0 v3 v4).symm
theorem t34:T (zhb)=some e34:=by kernel_rfl
@[go_sem]def a34:=@zaa T _ _ c34.eq_1
def z2g(a0 a1 a2 a3:AV)(H:List AO):=ff (vs:=[a0,a1,a2,a3]) t34 rfl H
theorem t35:T (zrz)=some e35:=by kernel_rfl
@[go_sem]def a35:=@zaa T _ _ c35.eq_1
def z8z(a0 a1:AV)(H:List AO):=ffK (vs:=[a0,a1]) t35 rfl H
theorem t36:T (za8)=some e36:=by kernel_rfl
@[go_sem]def a36:=@zaa T _ _ c36.eq_1
def zaj(a0 a1 a2 a3:AV)(H:List AO):=ff (vs:=[a0,a1,a2,a3]) t36 rfl H
theorem t37:T (zg6)=some e37:=by kernel_rfl
@[go_sem]def al37_0:=@zaa T _ _ l37_0.eq_1
@[go_sem]def a37:=@zaa T _ _ c37.eq_1
def zzk(a0 a1 a2 a3 a4:AV)(H:List AO):=ff (vs:=[a0,a1,a2,a3,a4]) t37 rfl H
noncomputable def zh6(H h:List AO)(x1 x2 x3 x4 x11:AV)(v5:List AV):Option RH:=awL T [1,2,3,4,5,11] [5] l37_0 (zao 0 (thn (aw T (A q37 8 .ret) (zah H [.t 10])) (zah H [.t 10]))) ⟨⟨55,[(1,.v x1),(2,.v x2),(3,.v x3),(4,.v x4),(5,.lp 5 0),(11,.v x11)]⟩,[(5,v5)],h,[]⟩
@[go_sem]def g_ref13_right_0(H h x1 x2 x3 x4 x11 v5):=(zh6.eq_1 H h x1 x2 x3 x4 x11 v5).symm
theorem t38:T (zg8)=some e38:=by kernel_rfl
@[go_sem]def al38_0:=@zaa T _ _ l38_0.eq_1
@[go_sem]def a38:=@zaa T _ _ c38.eq_1
def zzq(a0 a1:AV)(H:List AO):=ff (vs:=[a0,a1]) t38 rfl H
noncomputable def zh9(H h:List AO)(x0 x1 x5:AV):Option RH:=awL T [0,1,5] [] l38_0 (zao 0 (thn (aw T (A q38 6 .ret) (zah H [.t 4])) (zah H [.t 4]))) ⟨⟨41,[(0,.v x0),(1,.v x1),(5,.v x5)]⟩,[],h,[]⟩
@[go_sem]def g_ref12_Right_0(H h x0 x1 x5):=(zh9.eq_1 H h x0 x1 x5).symm
theorem t39:T (zcj)=some e39:=by kernel_rfl
@[go_sem]def a39:=@zaa T _ _ c39.eq_1
def zzz(a0 a1 a2:AV)(H:List AO):=ff (vs:=[a0,a1,a2]) t39 rfl H
theorem t40:T (zm5)=some e40:=by kernel_rfl
@[go_sem]def al40_0:=@zaa T _ _ l40_0.eq_1
@[go_sem]def a40:=@zaa T _ _ c40.eq_1
def z2r(a0 a1:AV)(H:List AO):=ff (vs:=[a0,a1]) t40 rfl H
noncomputable def zjf(H h:List AO)(x0 x1 x5 x6:AV):Option RH:=awL T [0,1,5,6] [] l40_0 (zao 0 (thn (aw T (A q40 7 .ret) (zah H [.t 4])) (zah H [.t 4]))) ⟨⟨21,[(0,.v x0),(1,.v x1),(5,.v x5),(6,.v x6)]⟩,[],h,[]⟩
@[go_sem]def g_ref07_Case_0(H h x0 x1 x5 x6):=(zjf.eq_1 H h x0 x1 x5 x6).symm
theorem t41:T (zd5)=some e41:=by kernel_rfl
@[go_sem]def al41_0:=@zaa T _ _ l41_0.eq_1
@[go_sem]def a41:=@zaa T _ _ c41.eq_1
def zvr(a0 a1:AV)(H:List AO):=ff (vs:=[a0,a1]) t41 rfl H
noncomputable def zgf(H h:List AO)(x7:AV)(v4 v6:List AV):Option RH:=awL T [4,6,7] [4,6] l41_0 (zao 0 (thn (aw T (A q41 9 .ret) (zah H [.c 2 true 4,.t 5])) (zah H [.c 2 true 4,.t 5]))) ⟨⟨43,[(4,.lp 4 0),(6,.lp 6 0),(7,.v x7)]⟩,[(4,v4),(6,v6)],h,[]⟩
@[go_sem]def g_ref06_Flatten_0(H h x7 v4 v6):=(zgf.eq_1 H h x7 v4 v6).symm
theorem t42:T (zfr)=some e42:=by kernel_rfl
@[go_sem]def al42_0:=@zaa T _ _ l42_0.eq_1
@[go_sem]def a42:=@zaa T _ _ c42.eq_1
def zzr(a0:AV)(H:List AO):=ff (vs:=[a0]) t42 rfl H
noncomputable def zia(H h:List AO)(x3 x4:AV)(v1:List AV):Option RH:=awL T [1,3,4] [1] l42_0 (zao 0 (thn (aw T (A q42 7 .ret) (zah H [.t 2])) (zah H [.t 2]))) ⟨⟨34,[(1,.lp 1 0),(3,.v x3),(4,.v x4)]⟩,[(1,v1)],h,[]⟩
@[go_sem]def g_ref12_Atoms_0(H h x3 x4 v1):=(zia.eq_1 H h x3 x4 v1).symm
theorem t43:T (zhp)=some e43:=by kernel_rfl
@[go_sem]def al43_0:=@zaa T _ _ l43_0.eq_1
@[go_sem]def al43_1:=@zaa T _ _ l43_1.eq_1
@[go_sem]def al43_2:=@zaa T _ _ z8n.eq_1
@[go_sem]def a43:=@zaa T _ _ c43.eq_1
def zvq(a0 a1:AV)(H:List AO):=ff (vs:=[a0,a1]) t43 rfl H
noncomputable def zeq(H h:List AO)(x0 x1 x5 x6:AV):Option RH:=awL T [0,1,5,6] [] l43_0 (zao 0 (thn (aw T (.seq (A q43 7 (.block 2 (.loop [0,1,5,7] [] z8n))) (A q43 17 .ret)) (zah H [.t 4])) (zah H [.t 4]))) ⟨⟨79,[(0,.v x0),(1,.v x1),(5,.v x5),(6,.v x6)]⟩,[],h,[]⟩
@[go_sem]def g_ref12_clauses_0(H h x0 x1 x5 x6):=(zeq.eq_1 H h x0 x1 x5 x6).symm
noncomputable def zgd(H h:List AO)(x0 x1 x5 x7 x12 x13:AV)(v10:List AV):Option RH:=awL T [0,1,5,7,10,12,13] [10] l43_1 (zao 4 (zao 3 (thn (aw T (.reg (R q43 16)) (thn (zc9 T [0,1,5,7] [] z8n (zao 2 (thn (aw T (A q43 17 .ret) (zah H [.t 4])) (zah H [.t 4])))) (zao 2 (thn (aw T (A q43 17 .ret) (zah H [.t 4])) (zah H [.t 4]))))) (thn (zc9 T [0,1,5,7] [] z8n (zao 2 (thn (aw T (A q43 17 .ret) (zah H [.t 4])) (zah H [.t 4])))) (zao 2 (thn (aw T (A q43 17 .ret) (zah H [.t 4])) (zah H [.t 4]))))))) ⟨⟨79,[(0,.v x0),(1,.v x1),(5,.v x5),(7,.v x7),(10,.lp 10 0),(12,.v x12),(13,.v x13)]⟩,[(10,v10)],h,[]⟩
@[go_sem]def g_ref12_clauses_1(H h x0 x1 x5 x7 x12 x13 v10):=(zgd.eq_1 H h x0 x1 x5 x7 x12 x13 v10).symm
noncomputable def zdp(H h:List AO)(x0 x1 x5 x7:AV):Option RH:=awL T [0,1,5,7] [] z8n (zao 2 (thn (aw T (A q43 17 .ret) (zah H [.t 4])) (zah H [.t 4]))) ⟨⟨79,[(0,.v x0),(1,.v x1),(5,.v x5),(7,.v x7)]⟩,[],h,[]⟩
@[go_sem]def g_ref12_clauses_2(H h x0 x1 x5 x7):=(zdp.eq_1 H h x0 x1 x5 x7).symm
theorem t44:T (zhq)=some e44:=by kernel_rfl
@[go_sem]def al44_0:=@zaa T _ _ l44_0.eq_1
@[go_sem]def a44:=@zaa T _ _ c44.eq_1
def zpa(a0 a1 a2 a3:AV)(H:List AO):=ff (vs:=[a0,a1,a2,a3]) t44 rfl H
noncomputable def zer(H h:List AO)(x2 x3 x10 x11:AV)(v5:List AV):Option RH:=awL T [2,3,5,10,11] [5] l44_0 (zao 0 (thn (aw T (A q44 6 (.seq (A q44 7 (.cond (.t 53) (A q44 8 .ret) .skip)) (A q44 9 .ret))) (zah H [.t 8,.t 9])) (zah H [.t 8,.t 9]))) ⟨⟨57,[(2,.v x2),(3,.v x3),(5,.lp 5 0),(10,.v x10),(11,.v x11)]⟩,[(5,v5)],h,[]⟩
@[go_sem]def g_ref12_against_0(H h x2 x3 x10 x11 v5):=(zer.eq_1 H h x2 x3 x10 x11 v5).symm
theorem t48:T (zit)=some e48:=by kernel_rfl
@[go_sem]def al48_0:=@zaa T _ _ l48_0.eq_1
@[go_sem]def a48:=@zaa T _ _ c48.eq_1
def z2j(a0 a1 a2:AV)(H:List AO):=ff (vs:=[a0,a1,a2]) t48 rfl H
noncomputable def zjb(H h:List AO)(x1 x2 x8:AV)(v3 v6 v7:List AV):Option RH:=awL T [1,2,3,6,7,8] [3,6,7] l48_0 (zao 0 (thn (aw T (A q48 8 .ret) (zah H [.c 4 true 6])) (zah H [.c 4 true 6]))) ⟨⟨56,[(1,.v x1),(2,.v x2),(3,.lp 3 0),(6,.lp 6 0),(7,.lp 7 0),(8,.v x8)]⟩,[(3,v3),(6,v6),(7,v7)],h,[]⟩
@[go_sem]def g_ref13_lift_0(H h x1 x2 x8 v3 v6 v7):=(zjb.eq_1 H h x1 x2 x8 v3 v6 v7).symm
theorem t49:T (zjq)=some e49:=by kernel_rfl
@[go_sem]def al49_0:=@zaa T _ _ l49_0.eq_1
@[go_sem]def a49:=@zaa T _ _ c49.eq_1
def zws(a0:AV)(H:List AO):=ff (vs:=[a0]) t49 rfl H
noncomputable def zg1(H h:List AO)(x0 x6 x7 x8:AV):Option RH:=awL T [0,6,7,8] [] l49_0 (zao 0 (thn (aw T (A q49 10 .ret) (zah H [.t 2])) (zah H [.t 2]))) ⟨⟨48,[(0,.v x0),(6,.v x6),(7,.v x7),(8,.v x8)]⟩,[],h,[]⟩
@[go_sem]def g_reduce_Right_0(H h x0 x6 x7 x8):=(zg1.eq_1 H h x0 x6 x7 x8).symm
theorem t50:T (zg3)=some e50:=by kernel_rfl
@[go_sem]def a50:=@zaa T _ _ c50.eq_1
def zy8(a0 a1:AV)(H:List AO):=ff (vs:=[a0,a1]) t50 rfl H
theorem t51:T (zoq)=some e51:=by kernel_rfl
@[go_sem]def a51:=@zaa T _ _ c51.eq_1
def z5e(a0 a1:AV)(H:List AO):=ffK (vs:=[a0,a1]) t51 rfl H
theorem t52:T (za6)=some e52:=by kernel_rfl
@[go_sem]def a52:=@zaa T _ _ c52.eq_1
def zal(a0 a1 a2 a3:AV)(H:List AO):=ff (vs:=[a0,a1,a2,a3]) t52 rfl H
theorem t53:T (zhd)=some e53:=by kernel_rfl
@[go_sem]def al53_0:=@zaa T _ _ l53_0.eq_1
@[go_sem]def a53:=@zaa T _ _ c53.eq_1
def z2v(a0 a1:AV)(H:List AO):=ff (vs:=[a0,a1]) t53 rfl H
noncomputable def zji(H h:List AO)(x5:AV)(v2 v3:List AV):Option RH:=awL T [2,3,5] [2,3] l53_0 (zao 0 (thn (aw T (A q53 8 .ret) (zah H [.t 4])) (zah H [.t 4]))) ⟨⟨46,[(2,.lp 2 0),(3,.lp 3 0),(5,.v x5)]⟩,[(2,v2),(3,v3)],h,[]⟩
@[go_sem]def g_ref02_Same_0(H h x5 v2 v3):=(zji.eq_1 H h x5 v2 v3).symm
theorem t54:T (zmy)=some e54:=by kernel_rfl
@[go_sem]def a54:=@zaa T _ _ c54.eq_1
def z2h(a0 a1:AV)(H:List AO):=ff (vs:=[a0,a1]) t54 rfl H
theorem t55:T (za7)=some e55:=by kernel_rfl
@[go_sem]def a55:=@zaa T _ _ c55.eq_1
def zqb(a0:AV)(H:List AO):=ff (vs:=[a0]) t55 rfl H
theorem t56:T (zbp)=some e56:=by kernel_rfl
@[go_sem]def a56:=@zaa T _ _ c56.eq_1
def zqx(a0 a1 a2:AV)(H:List AO):=ff (vs:=[a0,a1,a2]) t56 rfl H
theorem t57:T (zkt)=some e57:=by kernel_rfl
@[go_sem]def a57:=@zaa T _ _ c57.eq_1
def z2m(a0 a1:AV)(H:List AO):=ff (vs:=[a0,a1]) t57 rfl H
theorem t58:T (zc4)=some e58:=by kernel_rfl
@[go_sem]def a58:=@zaa T _ _ c58.eq_1
def zn4(a0 a1:AV)(H:List AO):=ff (vs:=[a0,a1]) t58 rfl H
theorem t59:T (zor)=some e59:=by kernel_rfl
@[go_sem]def a59:=@zaa T _ _ c59.eq_1
def z5g(a0 a1 a2:AV)(H:List AO):=ff (vs:=[a0,a1,a2]) t59 rfl H
theorem t60:T (zcw)=some e60:=by kernel_rfl
@[go_sem]def a60:=@zaa T _ _ c60.eq_1
def ztv(a0 a1:AV)(H:List AO):=ff (vs:=[a0,a1]) t60 rfl H
theorem t61:T (zai)=some e61:=by kernel_rfl
@[go_sem]def a61:=@zaa T _ _ c61.eq_1
def zpd(a0:AV)(H:List AO):=ff (vs:=[a0]) t61 rfl H
theorem t62:T (zaw)=some e62:=by kernel_rfl
@[go_sem]def al62_0:=@zaa T _ _ l62_0.eq_1
@[go_sem]def zwx:=@zaa T _ _ za0.eq_1
@[go_sem]theorem zmf:FC.okd za0=true:=by kernel_rfl
@[go_sem]def zww:=@zaa T _ _ zay.eq_1
@[go_sem]theorem zme:FC.okd zay=true:=by kernel_rfl
@[go_sem]def a62:=@zaa T _ _ c62.eq_1
def zpb(a0 a1:AV)(H:List AO):=ff (vs:=[a0,a1]) t62 rfl H
noncomputable def zan(H h:List AO)(ds:List Nat)(x0 x5 x6:AV)(v4:List AV):Option RH:=awL T [0,4,5,6] [4] l62_0 (zao 0 (thn (aw T (.seq (A q62 6 (.block 2 (.rf (.t 43) [44,45] [5] za0 zay))) (A q62 9 .ret)) (zah H [.c 4 true 4])) (zah H [.c 4 true 4]))) ⟨⟨60,[(0,.v x0),(4,.lp 4 0),(5,.v x5),(6,.v x6)]⟩,[(4,v4)],h,ds⟩
@[go_sem]def g_reduce_Machine_Head_0(H h ds x0 x5 x6 v4):=(zan.eq_1 H h ds x0 x5 x6 v4).symm
theorem t63:T (zcv)=some e63:=by kernel_rfl
@[go_sem]def a63:=@zaa T _ _ c63.eq_1
def zls(a0 a1:AV)(H:List AO):=ff (vs:=[a0,a1]) t63 rfl H
theorem t64:T (zpf)=some e64:=by kernel_rfl
@[go_sem]def a64:=@zaa T _ _ c64.eq_1
def z5o(H:List AO):=ff (vs:=[]) t64 rfl H
theorem t65:T (zm0)=some e65:=by kernel_rfl
@[go_sem]def a65:=@zaa T _ _ c65.eq_1
def z2k(a0:AV)(H:List AO):=ff (vs:=[a0]) t65 rfl H
theorem t66:T (zlb)=some e66:=by kernel_rfl
@[go_sem]def al66_0:=@zaa T _ _ l66_0.eq_1
@[go_sem]def a66:=@zaa T _ _ c66.eq_1
def zzl(a0 a1 a2 a3:AV)(H:List AO):=ff (vs:=[a0,a1,a2,a3]) t66 rfl H
noncomputable def zh7(H h:List AO)(x1 x2 x3 x9:AV)(v4:List AV):Option RH:=awL T [1,2,3,4,9] [4] l66_0 (zao 0 (thn (aw T (.seq (A q66 6 (.block 2 (A q66 7 (.cond (.t 28) (A q66 8 .ret) (A q66 9 (.cond (.t 45) (A q66 10 .ret) (A q66 11 (.cond (.t 56) (A q66 12 .ret) .skip)))))))) (A q66 13 .ret)) (zah H [.t 8])) (zah H [.t 8]))) ⟨⟨81,[(1,.v x1),(2,.v x2),(3,.v x3),(4,.lp 4 0),(9,.v x9)]⟩,[(4,v4)],h,[]⟩
@[go_sem]def g_ref13_named_0(H h x1 x2 x3 x9 v4):=(zh7.eq_1 H h x1 x2 x3 x9 v4).symm
theorem t67:T (zg7)=some e67:=by kernel_rfl
@[go_sem]def a67:=@zaa T _ _ c67.eq_1
def zzm(a0 a1:AV)(H:List AO):=ff (vs:=[a0,a1]) t67 rfl H
theorem t68:T (ziy)=some e68:=by kernel_rfl
@[go_sem]def al68_0:=@zaa T _ _ l68_0.eq_1
@[go_sem]def a68:=@zaa T _ _ c68.eq_1
def zz0(a0 a1:AV)(H:List AO):=ff (vs:=[a0,a1]) t68 rfl H
noncomputable def zig(H h:List AO)(x1 x5 x6:AV)(v2:List AV):Option RH:=awL T [1,2,5,6] [2] l68_0 (zao 0 (thn (aw T (A q68 6 .ret) (zah H [.t 4])) (zah H [.t 4]))) ⟨⟨31,[(1,.v x1),(2,.lp 2 0),(5,.v x5),(6,.v x6)]⟩,[(2,v2)],h,[]⟩
@[go_sem]def g_ref02_Nodes_0(H h x1 x5 x6 v2):=(zig.eq_1 H h x1 x5 x6 v2).symm
theorem t69:T (zix)=some e69:=by kernel_rfl
@[go_sem]def al69_0:=@zaa T _ _ l69_0.eq_1
@[go_sem]def a69:=@zaa T _ _ c69.eq_1
def zzy(a0 a1 a2 a3:AV)(H:List AO):=ff (vs:=[a0,a1,a2,a3]) t69 rfl H
noncomputable def zif(H h:List AO)(x1 x2 x3 x9:AV)(v4:List AV):Option RH:=awL T [1,2,3,4,9] [4] l69_0 (zao 1 (thn (aw T (A q69 13 .ret) (zah H [.t 8])) (zah H [.t 8]))) ⟨⟨66,[(1,.v x1),(2,.v x2),(3,.v x3),(4,.lp 4 0),(9,.v x9)]⟩,[(4,v4)],h,[]⟩
@[go_sem]def g_ref02_right_0(H h x1 x2 x3 x9 v4):=(zif.eq_1 H h x1 x2 x3 x9 v4).symm
theorem t70:T (zgl)=some e70:=by kernel_rfl
@[go_sem]def al70_0:=@zaa T _ _ l70_0.eq_1
@[go_sem]def a70:=@zaa T _ _ c70.eq_1
def z5h(a0 a1:AV)(H:List AO):=ff (vs:=[a0,a1]) t70 rfl H
noncomputable def zkk(H h:List AO)(x7:AV)(v4 v5 v6:List AV):Option RH:=awL T [4,5,6,7] [4,5,6] l70_0 (zao 1 (thn (aw T (A q70 12 .ret) (zao 0 (thn (aw T (A q70 25 .ret) (zah H [.c 2 true 4])) (zah H [.c 2 true 4])))) (zao 0 (thn (aw T (A q70 25 .ret) (zah H [.c 2 true 4])) (zah H [.c 2 true 4]))))) ⟨⟨102,[(4,.lp 4 0),(5,.lp 5 0),(6,.lp 6 0),(7,.v x7)]⟩,[(4,v4),(5,v5),(6,v6)],h,[]⟩
@[go_sem]def g_ref06_raw_0(H h x7 v4 v5 v6):=(zkk.eq_1 H h x7 v4 v5 v6).symm
theorem t71:T (zld)=some e71:=by kernel_rfl
@[go_sem]def a71:=@zaa T _ _ c71.eq_1
def zzt(a0 a1:AV)(H:List AO):=ff (vs:=[a0,a1]) t71 rfl H
theorem t72:T (zjm)=some e72:=by kernel_rfl
@[go_sem]def al72_0:=@zaa T _ _ l72_0.eq_1
@[go_sem]def a72:=@zaa T _ _ c72.eq_1
def zwn(a0 a1:AV)(H:List AO):=ff (vs:=[a0,a1]) t72 rfl H
noncomputable def zgy(H h:List AO)(x0 x1 x5 x6:AV):Option RH:=awL T [0,1,5,6] [] l72_0 (zao 0 (thn (aw T (A q72 9 .ret) (zah H [.t 4])) (zah H [.t 4]))) ⟨⟨32,[(0,.v x0),(1,.v x1),(5,.v x5),(6,.v x6)]⟩,[],h,[]⟩
@[go_sem]def g_ref12_values_0(H h x0 x1 x5 x6):=(zgy.eq_1 H h x0 x1 x5 x6).symm
theorem t74:T (zk4)=some e74:=by kernel_rfl
@[go_sem]def a74:=@zaa T _ _ c74.eq_1
def z5a(a0 a1:AV)(H:List AO):=ff (vs:=[a0,a1]) t74 rfl H
theorem t75:T (zkw)=some e75:=by kernel_rfl
@[go_sem]def a75:=@zaa T _ _ c75.eq_1
def z2w(a0 a1 a2:AV)(H:List AO):=ff (vs:=[a0,a1,a2]) t75 rfl H
theorem t76:T (zf1)=some e76:=by kernel_rfl
@[go_sem]def a76:=@zaa T _ _ c76.eq_1
def zvn(a0 a1:AV)(H:List AO):=ff (vs:=[a0,a1]) t76 rfl H
theorem t77:T (zdd)=some e77:=by kernel_rfl
@[go_sem]def a77:=@zaa T _ _ c77.eq_1
def zz5(a0 a1 a2:AV)(H:List AO):=ff (vs:=[a0,a1,a2]) t77 rfl H
theorem t78:T (zbo)=some e78:=by kernel_rfl
@[go_sem]def a78:=@zaa T _ _ c78.eq_1
def zmm(a0 a1:AV)(H:List AO):=ff (vs:=[a0,a1]) t78 rfl H
theorem t79:T (zdo)=some e79:=by kernel_rfl
@[go_sem]def a79:=@zaa T _ _ c79.eq_1
def zqu(a0 a1:AV)(H:List AO):=ff (vs:=[a0,a1]) t79 rfl H
theorem t80:T (zcu)=some e80:=by kernel_rfl
@[go_sem]def a80:=@zaa T _ _ c80.eq_1
def zqw(a0 a1 a2:AV)(H:List AO):=ff (vs:=[a0,a1,a2]) t80 rfl H
theorem t81:T (zen)=some e81:=by kernel_rfl
@[go_sem]def al81_0:=@zaa T _ _ l81_0.eq_1
@[go_sem]def a81:=@zaa T _ _ c81.eq_1
def zqv(a0 a1 a2:AV)(H:List AO):=ff (vs:=[a0,a1,a2]) t81 rfl H
noncomputable def zc7(H h:List AO)(x0 x1 x2 x7:AV):Option RH:=awL T [0,1,2,7] [] l81_0 (zao 0 (thn (aw T (A q81 6 .ret) (zah H [.t 6])) (zah H [.t 6]))) ⟨⟨25,[(0,.v x0),(1,.v x1),(2,.v x2),(7,.v x7)]⟩,[],h,[]⟩
@[go_sem]def g_ref17_Machine_all_0(H h x0 x1 x2 x7):=(zc7.eq_1 H h x0 x1 x2 x7).symm
theorem t82:T (zir)=some e82:=by kernel_rfl
@[go_sem]def al82_0:=@zaa T _ _ l82_0.eq_1
@[go_sem]def a82:=@zaa T _ _ c82.eq_1
def zzh(a0 a1:AV)(H:List AO):=ff (vs:=[a0,a1]) t82 rfl H
noncomputable def zh3(H h:List AO)(x1 x5 x6:AV):Option RH:=awL T [1,5,6] [] l82_0 (zao 0 (thn (aw T (A q82 7 .ret) (zah H [.t 4])) (zah H [.t 4]))) ⟨⟨21,[(1,.v x1),(5,.v x5),(6,.v x6)]⟩,[],h,[]⟩
@[go_sem]def g_ref16_below_0(H h x1 x5 x6):=(zh3.eq_1 H h x1 x5 x6).symm
theorem t83:T (zks)=some e83:=by kernel_rfl
@[go_sem]def al83_0:=@zaa T _ _ l83_0.eq_1
@[go_sem]def al83_1:=@zaa T _ _ yg9.eq_1
@[go_sem]def a83:=@zaa T _ _ c83.eq_1
def z2l(a0 a1:AV)(H:List AO):=ff (vs:=[a0,a1]) t83 rfl H
noncomputable def zjd(H h:List AO)(x5:AV)(v2 v3:List AV):Option RH:=awL T [2,3,5] [2,3] l83_0 (zao 0 (thn (aw T (.seq (A q83 8 (.block 2 (.loop [2,3,6] [2,3] yg9))) (A q83 13 .ret)) (zah H [.t 4])) (zah H [.t 4]))) ⟨⟨75,[(2,.lp 2 0),(3,.lp 3 0),(5,.v x5)]⟩,[(2,v2),(3,v3)],h,[]⟩
@[go_sem]def g_ref13_Same_0(H h x5 v2 v3):=(zjd.eq_1 H h x5 v2 v3).symm
noncomputable def zjc(H h:List AO)(x6:AV)(v2 v3:List AV):Option RH:=awL T [2,3,6] [2,3] yg9 (zao 2 (thn (aw T (A q83 13 .ret) (zah H [.t 4])) (zah H [.t 4]))) ⟨⟨75,[(2,.lp 2 0),(3,.lp 3 0),(6,.v x6)]⟩,[(2,v2),(3,v3)],h,[]⟩
@[go_sem]def g_ref13_Same_1(H h x6 v2 v3):=(zjc.eq_1 H h x6 v2 v3).symm
theorem t84:T (zbv)=some e84:=by kernel_rfl
@[go_sem]def a84:=@zaa T _ _ c84.eq_1
def zqa(a0 a1:AV)(H:List AO):=ff (vs:=[a0,a1]) t84 rfl H
theorem t85:T (zkr)=some e85:=by kernel_rfl
@[go_sem]def al85_0:=@zaa T _ _ l85_0.eq_1
@[go_sem]def a85:=@zaa T _ _ c85.eq_1
def z2i(a0 a1 a2:AV)(H:List AO):=ff (vs:=[a0,a1,a2]) t85 rfl H
noncomputable def zja(H h:List AO)(x1 x8:AV)(v3 v5 v6 v7:List AV):Option RH:=awL T [1,3,5,6,7,8] [3,5,6,7] l85_0 (zao 0 (thn (aw T (A q85 10 .ret) (zah H [.c 4 true 6])) (zah H [.c 4 true 6]))) ⟨⟨67,[(1,.v x1),(3,.lp 3 0),(5,.lp 5 0),(6,.lp 6 0),(7,.lp 7 0),(8,.v x8)]⟩,[(3,v3),(5,v5),(6,v6),(7,v7)],h,[]⟩
@[go_sem]def g_ref13_open_0(H h x1 x8 v3 v5 v6 v7):=(zja.eq_1 H h x1 x8 v3 v5 v6 v7).symm
theorem t86:T (zis)=some e86:=by kernel_rfl
@[go_sem]def al86_0:=@zaa T _ _ l86_0.eq_1
@[go_sem]def a86:=@zaa T _ _ c86.eq_1
def zzj(a0:AV)(H:List AO):=ff (vs:=[a0]) t86 rfl H
noncomputable def zh5(H h:List AO)(x0 x3:AV):Option RH:=awL T [0,3] [] l86_0 (zao 0 (thn (aw T (A q86 6 .ret) (zah H [.t 2])) (zah H [.t 2]))) ⟨⟨16,[(0,.v x0),(3,.v x3)]⟩,[],h,[]⟩
@[go_sem]def g_ref15_right_0(H h x0 x3):=(zh5.eq_1 H h x0 x3).symm
theorem t87:T (zmz)=some e87:=by kernel_rfl
@[go_sem]def al87_0:=@zaa T _ _ l87_0.eq_1
@[go_sem]def al87_1:=@zaa T _ _ yg8.eq_1
@[go_sem]def a87:=@zaa T _ _ c87.eq_1
def z5f(a0 a1 a2:AV)(H:List AO):=ff (vs:=[a0,a1,a2]) t87 rfl H
noncomputable def zkj(H h:List AO)(x1 x2 x9:AV)(v3 v6 v8:List AV):Option RH:=awL T [1,2,3,6,8,9] [3,6,8] l87_0 (zao 0 (thn (aw T (.seq (A q87 9 (.block 2 (.loop [1,2,3,6,8,12] [3,6,8] yg8))) (A q87 16 .ret)) (zah H [.c 4 true 6,.t 7])) (zah H [.c 4 true 6,.t 7]))) ⟨⟨75,[(1,.v x1),(2,.v x2),(3,.lp 3 0),(6,.lp 6 0),(8,.lp 8 0),(9,.v x9)]⟩,[(3,v3),(6,v6),(8,v8)],h,[]⟩
@[go_sem]def g_ref15_sub_0(H h x1 x2 x9 v3 v6 v8):=(zkj.eq_1 H h x1 x2 x9 v3 v6 v8).symm
noncomputable def zki(H h:List AO)(x1 x2 x12:AV)(v3 v6 v8:List AV):Option RH:=awL T [1,2,3,6,8,12] [3,6,8] yg8 (zao 2 (thn (aw T (A q87 16 .ret) (zah H [.c 4 true 6,.t 7])) (zah H [.c 4 true 6,.t 7]))) ⟨⟨75,[(1,.v x1),(2,.v x2),(3,.lp 3 0),(6,.lp 6 0),(8,.lp 8 0),(12,.v x12)]⟩,[(3,v3),(6,v6),(8,v8)],h,[]⟩
@[go_sem]def g_ref15_sub_1(H h x1 x2 x12 v3 v6 v8):=(zki.eq_1 H h x1 x2 x12 v3 v6 v8).symm
theorem t88:T (zkp)=some e88:=by kernel_rfl
@[go_sem]def al88_0:=@zaa T _ _ l88_0.eq_1
@[go_sem]def a88:=@zaa T _ _ c88.eq_1
def z2e(a0 a1:AV)(H:List AO):=ff (vs:=[a0,a1]) t88 rfl H
noncomputable def zi9(H h:List AO)(x1 x5 x9 x10 x11:AV):Option RH:=awL T [1,5,9,10,11] [] l88_0 (zao 0 (thn (aw T (A q88 8 .ret) (zah H [.t 4])) (zah H [.t 4]))) ⟨⟨27,[(1,.v x1),(5,.v x5),(9,.v x9),(10,.v x10),(11,.v x11)]⟩,[],h,[]⟩
@[go_sem]def g_term_parts_0(H h x1 x5 x9 x10 x11):=(zi9.eq_1 H h x1 x5 x9 x10 x11).symm
theorem t89:T (zek)=some e89:=by kernel_rfl
@[go_sem]def al89_0:=@zaa T _ _ l89_0.eq_1
@[go_sem]def a89:=@zaa T _ _ c89.eq_1
def zsw(a0 a1 a2:AV)(H:List AO):=ff (vs:=[a0,a1,a2]) t89 rfl H
noncomputable def ze0(H h:List AO)(x2 x3 x48 x49 x50:AV)(v4:List AV):Option RH:=awL T [2,3,4,48,49,50] [4] l89_0 (zao 0 (thn (aw T (A q89 13 .ret) (zah H [.t 6])) (zah H [.t 6]))) ⟨⟨70,[(2,.v x2),(3,.v x3),(4,.lp 4 0),(48,.v x48),(49,.v x49),(50,.v x50)]⟩,[(4,v4)],h,[]⟩
@[go_sem]def g_term_room_right_0(H h x2 x3 x48 x49 x50 v4):=(ze0.eq_1 H h x2 x3 x48 x49 x50 v4).symm
theorem t90:T (zbj)=some e90:=by kernel_rfl
@[go_sem]def a90:=@zaa T _ _ c90.eq_1
def zpc(a0 a1:AV)(H:List AO):=ff (vs:=[a0,a1]) t90 rfl H
theorem t91:T (zjp)=some e91:=by kernel_rfl
@[go_sem]def a91:=@zaa T _ _ c91.eq_1
def zwq(H:List AO):=ff (vs:=[]) t91 rfl H
theorem t92:T (zdj)=some e92:=by kernel_rfl
@[go_sem]def a92:=@zaa T _ _ c92.eq_1
def zof(a0:AV)(H:List AO):=ff (vs:=[a0]) t92 rfl H
theorem t93:T (zbw)=some e93:=by kernel_rfl
@[go_sem]def a93:=@zaa T _ _ c93.eq_1
def zqc(a0 a1 a2:AV)(H:List AO):=ff (vs:=[a0,a1,a2]) t93 rfl H
theorem t94:T (zok)=some e94:=by kernel_rfl
@[go_sem]def a94:=@zaa T _ _ c94.eq_1
def z5c(a0 a1 a2:AV)(H:List AO):=ff (vs:=[a0,a1,a2]) t94 rfl H
theorem t95:T (zbg)=some e95:=by kernel_rfl
@[go_sem]def a95:=@zaa T _ _ c95.eq_1
def znh(a0 a1 a2 a3:AV)(H:List AO):=ff (vs:=[a0,a1,a2,a3]) t95 rfl H
theorem t96:T (zbx)=some e96:=by kernel_rfl
@[go_sem]def a96:=@zaa T _ _ c96.eq_1
def zj8(a0 a1 a2 a3:AV)(H:List AO):=ff (vs:=[a0,a1,a2,a3]) t96 rfl H
theorem t97:T (zbk)=some e97:=by kernel_rfl
@[go_sem]def al97_0:=@zaa T _ _ l97_0.eq_1
@[go_sem]def a97:=@zaa T _ _ c97.eq_1
def zpe(a0 a1 a2 a3:AV)(H:List AO):=ff (vs:=[a0,a1,a2,a3]) t97 rfl H
noncomputable def zbq(H h:List AO)(x0 x12 x13 x14:AV)(v6:List AV):Option RH:=awL T [0,6,12,13,14] [6] l97_0 (zao 0 (thn (aw T (A q97 7 .ret) (zah H [.t 8])) (zah H [.t 8]))) ⟨⟨40,[(0,.v x0),(6,.lp 6 0),(12,.v x12),(13,.v x13),(14,.v x14)]⟩,[(6,v6)],h,[]⟩
@[go_sem]def g_conv_Machine_levels_0(H h x0 x12 x13 x14 v6):=(zbq.eq_1 H h x0 x12 x13 x14 v6).symm
theorem t98:T (zb6)=some e98:=by kernel_rfl
@[go_sem]def a98:=@zaa T _ _ c98.eq_1
def zlt(a0 a1 a2 a3:AV)(H:List AO):=ff (vs:=[a0,a1,a2,a3]) t98 rfl H
theorem t99:T (zcn)=some e99:=by kernel_rfl
@[go_sem]def a99:=@zaa T _ _ c99.eq_1
def zma(a0 a1 a2 a3:AV)(H:List AO):=ff (vs:=[a0,a1,a2,a3]) t99 rfl H
theorem t100:T (zm7)=some e100:=by kernel_rfl
@[go_sem]def a100:=@zaa T _ _ c100.eq_1
def z2u(a0:AV)(H:List AO):=ff (vs:=[a0]) t100 rfl H
theorem t101:T (zkv)=some e101:=by kernel_rfl
@[go_sem]def al101_0:=@zaa T _ _ yc1.eq_1
@[go_sem]def a101:=@zaa T _ _ c101.eq_1
def z2t(a0 a1:AV)(H:List AO):=ff (vs:=[a0,a1]) t101 rfl H
noncomputable def zjh(H h:List AO)(x6:AV)(v2 v3 v4 v5:List AV):Option RH:=awL T [2,3,4,5,6] [2,3,4,5] yc1 (zao 0 (thn (aw T (A yjs 6 .ret) (zah H [.c 2 true 4])) (zah H [.c 2 true 4]))) ⟨⟨37,[(2,.lp 2 0),(3,.lp 3 0),(4,.lp 4 0),(5,.lp 5 0),(6,.v x6)]⟩,[(2,v2),(3,v3),(4,v4),(5,v5)],h,[]⟩
@[go_sem]def g_ref06_both_0(H h x6 v2 v3 v4 v5):=(zjh.eq_1 H h x6 v2 v3 v4 v5).symm
theorem t102:T (zjo)=some e102:=by kernel_rfl
@[go_sem]def al102_0:=@zaa T _ _ yc0.eq_1
@[go_sem]def a102:=@zaa T _ _ c102.eq_1
def zwp(a0:AV)(H:List AO):=ff (vs:=[a0]) t102 rfl H
noncomputable def zg0(H h:List AO)(x3:AV)(v1:List AV):Option RH:=awL T [1,3] [1] yc0 (zao 0 (thn (aw T (A yjr 6 .ret) (zah H [.t 2])) (zah H [.t 2]))) ⟨⟨20,[(1,.lp 1 0),(3,.v x3)]⟩,[(1,v1)],h,[]⟩
@[go_sem]def g_ref06_nought_0(H h x3 v1):=(zg0.eq_1 H h x3 v1).symm
theorem t103:T (zfc)=some e103:=by kernel_rfl
@[go_sem]def al103_0:=@zaa T _ _ ycz.eq_1
@[go_sem]def a103:=@zaa T _ _ c103.eq_1
def z2s(a0 a1:AV)(H:List AO):=ff (vs:=[a0,a1]) t103 rfl H
noncomputable def zjg(H h:List AO)(x1 x6:AV)(v4 v5:List AV):Option RH:=awL T [1,4,5,6] [4,5] ycz (zao 0 (thn (aw T (A yjq 6 .ret) (zah H [.c 2 true 4])) (zah H [.c 2 true 4]))) ⟨⟨20,[(1,.v x1),(4,.lp 4 0),(5,.lp 5 0),(6,.v x6)]⟩,[(4,v4),(5,v5)],h,[]⟩
@[go_sem]def g_ref06_none_0(H h x1 x6 v4 v5):=(zjg.eq_1 H h x1 x6 v4 v5).symm
theorem t104:T (ziv)=some e104:=by kernel_rfl
@[go_sem]def al104_0:=@zaa T _ _ ycy.eq_1
@[go_sem]def al104_1:=@zaa T _ _ z1z.eq_1
@[go_sem]def a104:=@zaa T _ _ c104.eq_1
def zzv(a0 a1:AV)(H:List AO):=ff (vs:=[a0,a1]) t104 rfl H
noncomputable def zic(H h:List AO)(x0 x1 x5 x6:AV):Option RH:=awL T [0,1,5,6] [] ycy (zao 2 (zao 1 (thn (aw T (.reg (R zxc 12)) (thn (zc9 T [0,1,5] [] z1z (zao 0 (thn (aw T (A zxc 13 .ret) (zah H [.t 4])) (zah H [.t 4])))) (zao 0 (thn (aw T (A zxc 13 .ret) (zah H [.t 4])) (zah H [.t 4]))))) (thn (zc9 T [0,1,5] [] z1z (zao 0 (thn (aw T (A zxc 13 .ret) (zah H [.t 4])) (zah H [.t 4])))) (zao 0 (thn (aw T (A zxc 13 .ret) (zah H [.t 4])) (zah H [.t 4]))))))) ⟨⟨71,[(0,.v x0),(1,.v x1),(5,.v x5),(6,.v x6)]⟩,[],h,[]⟩
@[go_sem]def g_ref08_Right_0(H h x0 x1 x5 x6):=(zic.eq_1 H h x0 x1 x5 x6).symm
noncomputable def zf0(H h:List AO)(x0 x1 x5:AV):Option RH:=awL T [0,1,5] [] z1z (zao 0 (thn (aw T (A zxc 13 .ret) (zah H [.t 4])) (zah H [.t 4]))) ⟨⟨71,[(0,.v x0),(1,.v x1),(5,.v x5)]⟩,[],h,[]⟩
@[go_sem]def g_ref08_Right_1(H h x0 x1 x5):=(zf0.eq_1 H h x0 x1 x5).symm
theorem t105:T (zjn)=some e105:=by kernel_rfl
@[go_sem]def al105_0:=@zaa T _ _ ycx.eq_1
@[go_sem]def al105_1:=@zaa T _ _ z1y.eq_1
@[go_sem]def a105:=@zaa T _ _ c105.eq_1
def zwo(a0 a1 a2:AV)(H:List AO):=ff (vs:=[a0,a1,a2]) t105 rfl H
noncomputable def zgz(H h:List AO)(x0 x2 x9 x10 x11 x12:AV):Option RH:=awL T [0,2,9,10,11,12] [] ycx (zao 2 (thn (aw T (.seq (A zxb 12 (.cond (.t 52) (A zxb 13 .ret) .skip)) (A zxb 14 (.cond (.t 55) (A zxb 15 .ret) .skip))) (zao 1 (thn (zc9 T [0,2,9,10] [] z1y (zao 0 (zah H [.t 6,.t 7,.t 8]))) (zao 0 (zah H [.t 6,.t 7,.t 8]))))) (zao 1 (thn (zc9 T [0,2,9,10] [] z1y (zao 0 (zah H [.t 6,.t 7,.t 8]))) (zao 0 (zah H [.t 6,.t 7,.t 8])))))) ⟨⟨58,[(0,.v x0),(2,.v x2),(9,.v x9),(10,.v x10),(11,.v x11),(12,.v x12)]⟩,[],h,[]⟩
@[go_sem]def g_ref09_rounds_0(H h x0 x2 x9 x10 x11 x12):=(zgz.eq_1 H h x0 x2 x9 x10 x11 x12).symm
noncomputable def zd1(H h:List AO)(x0 x2 x9 x10:AV):Option RH:=awL T [0,2,9,10] [] z1y (zao 0 (zah H [.t 6,.t 7,.t 8])) ⟨⟨58,[(0,.v x0),(2,.v x2),(9,.v x9),(10,.v x10)]⟩,[],h,[]⟩
@[go_sem]def g_ref09_rounds_1(H h x0 x2 x9 x10):=(zd1.eq_1 H h x0 x2 x9 x10).symm
theorem t106:T (zle)=some e106:=by kernel_rfl
@[go_sem]def a106:=@zaa T _ _ c106.eq_1
def zzu(a0 a1:AV)(H:List AO):=ff (vs:=[a0,a1]) t106 rfl H
theorem t107:T (zby)=some e107:=by kernel_rfl
@[go_sem]def al107_0:=@zaa T _ _ ycw.eq_1
@[go_sem]def a107:=@zaa T _ _ c107.eq_1
def zne(a0 a1 a2:AV)(H:List AO):=ff (vs:=[a0,a1,a2]) t107 rfl H
noncomputable def zco(H h:List AO)(x1 x2 x15 x16 x17:AV):Option RH:=awL T [1,2,15,16,17] [] ycw (zao 0 (thn (aw T (A z91 10 .ret) (zah H [.t 6])) (zah H [.t 6]))) ⟨⟨32,[(1,.v x1),(2,.v x2),(15,.v x15),(16,.v x16),(17,.v x17)]⟩,[],h,[]⟩
@[go_sem]def g_slices_EqualFunc_Level_0(H h x1 x2 x15 x16 x17):=(zco.eq_1 H h x1 x2 x15 x16 x17).symm
theorem t108:T (zhg)=some e108:=by kernel_rfl
@[go_sem]def a108:=@zaa T _ _ c108.eq_1
def z2y(a0 a1:AV)(H:List AO):=ff (vs:=[a0,a1]) t108 rfl H
theorem t109:T (zc2)=some e109:=by kernel_rfl
@[go_sem]def al109_0:=@zaa T _ _ ycv.eq_1
@[go_sem]def a109:=@zaa T _ _ c109.eq_1
def zn3(a0 a1 a2:AV)(H:List AO):=ff (vs:=[a0,a1,a2]) t109 rfl H
noncomputable def zc0(H h:List AO)(x1 x2 x15 x16 x17:AV):Option RH:=awL T [1,2,15,16,17] [] ycv (zao 0 (thn (aw T (A z90 10 .ret) (zah H [.t 6])) (zah H [.t 6]))) ⟨⟨32,[(1,.v x1),(2,.v x2),(15,.v x15),(16,.v x16),(17,.v x17)]⟩,[],h,[]⟩
@[go_sem]def g_slices_EqualFunc_Term_0(H h x1 x2 x15 x16 x17):=(zc0.eq_1 H h x1 x2 x15 x16 x17).symm
theorem t110:T (zch)=some e110:=by kernel_rfl
@[go_sem]def a110:=@zaa T _ _ c110.eq_1
def zml(a0 a1:AV)(H:List AO):=ff (vs:=[a0,a1]) t110 rfl H
theorem t111:T (zk2)=some e111:=by kernel_rfl
@[go_sem]def z9l:=@zaa T _ _ zc3.eq_1
@[go_sem]theorem zsl:FC.okd zc3=true:=by kernel_rfl
@[go_sem]def z9j:=@zaa T _ _ zc1.eq_1
@[go_sem]theorem zsj:FC.okd zc1=true:=by kernel_rfl
@[go_sem]def a111:=@zaa T _ _ c111.eq_1
def zza(a0:AV)(H:List AO):=ff (vs:=[a0]) t111 rfl H
theorem t112:T (zhe)=some e112:=by kernel_rfl
@[go_sem]def a112:=@zaa T _ _ c112.eq_1
def zwr(a0 a1:AV)(H:List AO):=ff (vs:=[a0,a1]) t112 rfl H
theorem t113:T (zi0)=some e113:=by kernel_rfl
@[go_sem]def al113_0:=@zaa T _ _ ycu.eq_1
@[go_sem]def a113:=@zaa T _ _ c113.eq_1
def zz2(a0 a1:AV)(H:List AO):=ff (vs:=[a0,a1]) t113 rfl H
noncomputable def zih(H h:List AO)(x1 x5 x9 x10 x11:AV):Option RH:=awL T [1,5,9,10,11] [] ycu (zao 0 (thn (aw T (A yfq 8 .ret) (zah H [.t 4])) (zah H [.t 4]))) ⟨⟨27,[(1,.v x1),(5,.v x5),(9,.v x9),(10,.v x10),(11,.v x11)]⟩,[],h,[]⟩
@[go_sem]def g_level_nodes_0(H h x1 x5 x9 x10 x11):=(zih.eq_1 H h x1 x5 x9 x10 x11).symm
theorem t114:T (ziz)=some e114:=by kernel_rfl
@[go_sem]def a114:=@zaa T _ _ c114.eq_1
def zz1(a0 a1 a2 a3:AV)(H:List AO):=ff (vs:=[a0,a1,a2,a3]) t114 rfl H
theorem t115:T (zdi)=some e115:=by kernel_rfl
@[go_sem]def al115_0:=@zaa T _ _ yct.eq_1
@[go_sem]def a115:=@zaa T _ _ c115.eq_1
def zoe(a0 a1:AV)(H:List AO):=ff (vs:=[a0,a1]) t115 rfl H
noncomputable def zb9(H h:List AO)(x0 x1 x7 x8:AV):Option RH:=awL T [0,1,7,8] [] yct (zao 0 (thn (aw T (A ygs 7 .ret) (zah H [.t 4])) (zah H [.t 4]))) ⟨⟨19,[(0,.v x0),(1,.v x1),(7,.v x7),(8,.v x8)]⟩,[],h,[]⟩
@[go_sem]def g_slices_IndexFunc_Con_0(H h x0 x1 x7 x8):=(zb9.eq_1 H h x0 x1 x7 x8).symm
theorem t116:T (zd4)=some e116:=by kernel_rfl
@[go_sem]def a116:=@zaa T _ _ c116.eq_1
def zp8(a0 a1 a2:AV)(H:List AO):=ff (vs:=[a0,a1,a2]) t116 rfl H
theorem t117:T (zhc)=some e117:=by kernel_rfl
@[go_sem]def al117_0:=@zaa T _ _ ycs.eq_1
@[go_sem]def al117_1:=@zaa T _ _ zvj.eq_1
@[go_sem]def al117_2:=@zaa T _ _ zgo.eq_1
@[go_sem]def a117:=@zaa T _ _ c117.eq_1
def zwm(a0:AV)(H:List AO):=ff (vs:=[a0]) t117 rfl H
noncomputable def zgx(H h:List AO)(x3 x4 x5 x6 x7 x8:AV)(v1:List AV):Option RH:=awL T [1,3,4,5,6,7,8] [1] ycs (zao 4 (thn (aw T (A zf4 14 (.cond (.t 55) (.reg (R zf4 15)) .skip)) (zao 3 (thn (aw T (.reg (R zf4 16)) (thn (zc9 T [1,3,4,5,6] [1] zvj (zao 2 (zao 1 (thn (aw T (.reg (R zf4 17)) (thn (zc9 T [1,3,4] [1] zgo (zao 0 (thn (aw T (A zf4 18 .ret) (zah H [.t 2])) (zah H [.t 2])))) (zao 0 (thn (aw T (A zf4 18 .ret) (zah H [.t 2])) (zah H [.t 2]))))) (thn (zc9 T [1,3,4] [1] zgo (zao 0 (thn (aw T (A zf4 18 .ret) (zah H [.t 2])) (zah H [.t 2])))) (zao 0 (thn (aw T (A zf4 18 .ret) (zah H [.t 2])) (zah H [.t 2])))))))) (zao 2 (zao 1 (thn (aw T (.reg (R zf4 17)) (thn (zc9 T [1,3,4] [1] zgo (zao 0 (thn (aw T (A zf4 18 .ret) (zah H [.t 2])) (zah H [.t 2])))) (zao 0 (thn (aw T (A zf4 18 .ret) (zah H [.t 2])) (zah H [.t 2]))))) (thn (zc9 T [1,3,4] [1] zgo (zao 0 (thn (aw T (A zf4 18 .ret) (zah H [.t 2])) (zah H [.t 2])))) (zao 0 (thn (aw T (A zf4 18 .ret) (zah H [.t 2])) (zah H [.t 2]))))))))) (thn (zc9 T [1,3,4,5,6] [1] zvj (zao 2 (zao 1 (thn (aw T (.reg (R zf4 17)) (thn (zc9 T [1,3,4] [1] zgo (zao 0 (thn (aw T (A zf4 18 .ret) (zah H [.t 2])) (zah H [.t 2])))) (zao 0 (thn (aw T (A zf4 18 .ret) (zah H [.t 2])) (zah H [.t 2]))))) (thn (zc9 T [1,3,4] [1] zgo (zao 0 (thn (aw T (A zf4 18 .ret) (zah H [.t 2])) (zah H [.t 2])))) (zao 0 (thn (aw T (A zf4 18 .ret) (zah H [.t 2])) (zah H [.t 2])))))))) (zao 2 (zao 1 (thn (aw T (.reg (R zf4 17)) (thn (zc9 T [1,3,4] [1] zgo (zao 0 (thn (aw T (A zf4 18 .ret) (zah H [.t 2])) (zah H [.t 2])))) (zao 0 (thn (aw T (A zf4 18 .ret) (zah H [.t 2])) (zah H [.t 2]))))) (thn (zc9 T [1,3,4] [1] zgo (zao 0 (thn (aw T (A zf4 18 .ret) (zah H [.t 2])) (zah H [.t 2])))) (zao 0 (thn (aw T (A zf4 18 .ret) (zah H [.t 2])) (zah H [.t 2]))))))))))) (zao 3 (thn (aw T (.reg (R zf4 16)) (thn (zc9 T [1,3,4,5,6] [1] zvj (zao 2 (zao 1 (thn (aw T (.reg (R zf4 17)) (thn (zc9 T [1,3,4] [1] zgo (zao 0 (thn (aw T (A zf4 18 .ret) (zah H [.t 2])) (zah H [.t 2])))) (zao 0 (thn (aw T (A zf4 18 .ret) (zah H [.t 2])) (zah H [.t 2]))))) (thn (zc9 T [1,3,4] [1] zgo (zao 0 (thn (aw T (A zf4 18 .ret) (zah H [.t 2])) (zah H [.t 2])))) (zao 0 (thn (aw T (A zf4 18 .ret) (zah H [.t 2])) (zah H [.t 2])))))))) (zao 2 (zao 1 (thn (aw T (.reg (R zf4 17)) (thn (zc9 T [1,3,4] [1] zgo (zao 0 (thn (aw T (A zf4 18 .ret) (zah H [.t 2])) (zah H [.t 2])))) (zao 0 (thn (aw T (A zf4 18 .ret) (zah H [.t 2])) (zah H [.t 2]))))) (thn (zc9 T [1,3,4] [1] zgo (zao 0 (thn (aw T (A zf4 18 .ret) (zah H [.t 2])) (zah H [.t 2])))) (zao 0 (thn (aw T (A zf4 18 .ret) (zah H [.t 2])) (zah H [.t 2]))))))))) (thn (zc9 T [1,3,4,5,6] [1] zvj (zao 2 (zao 1 (thn (aw T (.reg (R zf4 17)) (thn (zc9 T [1,3,4] [1] zgo (zao 0 (thn (aw T (A zf4 18 .ret) (zah H [.t 2])) (zah H [.t 2])))) (zao 0 (thn (aw T (A zf4 18 .ret) (zah H [.t 2])) (zah H [.t 2]))))) (thn (zc9 T [1,3,4] [1] zgo (zao 0 (thn (aw T (A zf4 18 .ret) (zah H [.t 2])) (zah H [.t 2])))) (zao 0 (thn (aw T (A zf4 18 .ret) (zah H [.t 2])) (zah H [.t 2])))))))) (zao 2 (zao 1 (thn (aw T (.reg (R zf4 17)) (thn (zc9 T [1,3,4] [1] zgo (zao 0 (thn (aw T (A zf4 18 .ret) (zah H [.t 2])) (zah H [.t 2])))) (zao 0 (thn (aw T (A zf4 18 .ret) (zah H [.t 2])) (zah H [.t 2]))))) (thn (zc9 T [1,3,4] [1] zgo (zao 0 (thn (aw T (A zf4 18 .ret) (zah H [.t 2])) (zah H [.t 2])))) (zao 0 (thn (aw T (A zf4 18 .ret) (zah H [.t 2])) (zah H [.t 2])))))))))))) ⟨⟨64,[(1,.lp 1 0),(3,.v x3),(4,.v x4),(5,.v x5),(6,.v x6),(7,.v x7),(8,.v x8)]⟩,[(1,v1)],h,[]⟩
@[go_sem]def g_ref15_Consts_0(H h x3 x4 x5 x6 x7 x8 v1):=(zgx.eq_1 H h x3 x4 x5 x6 x7 x8 v1).symm
noncomputable def ze8(H h:List AO)(x3 x4 x5 x6:AV)(v1:List AV):Option RH:=awL T [1,3,4,5,6] [1] zvj (zao 2 (zao 1 (thn (aw T (.reg (R zf4 17)) (thn (zc9 T [1,3,4] [1] zgo (zao 0 (thn (aw T (A zf4 18 .ret) (zah H [.t 2])) (zah H [.t 2])))) (zao 0 (thn (aw T (A zf4 18 .ret) (zah H [.t 2])) (zah H [.t 2]))))) (thn (zc9 T [1,3,4] [1] zgo (zao 0 (thn (aw T (A zf4 18 .ret) (zah H [.t 2])) (zah H [.t 2])))) (zao 0 (thn (aw T (A zf4 18 .ret) (zah H [.t 2])) (zah H [.t 2]))))))) ⟨⟨64,[(1,.lp 1 0),(3,.v x3),(4,.v x4),(5,.v x5),(6,.v x6)]⟩,[(1,v1)],h,[]⟩
@[go_sem]def g_ref15_Consts_1(H h x3 x4 x5 x6 v1):=(ze8.eq_1 H h x3 x4 x5 x6 v1).symm
noncomputable def ze7(H h:List AO)(x3 x4:AV)(v1:List AV):Option RH:=awL T [1,3,4] [1] zgo (zao 0 (thn (aw T (A zf4 18 .ret) (zah H [.t 2])) (zah H [.t 2]))) ⟨⟨64,[(1,.lp 1 0),(3,.v x3),(4,.v x4)]⟩,[(1,v1)],h,[]⟩
@[go_sem]def g_ref15_Consts_2(H h x3 x4 v1):=(ze7.eq_1 H h x3 x4 v1).symm
theorem t118:T (zos)=some e118:=by kernel_rfl
@[go_sem]def a118:=@zaa T _ _ c118.eq_1
def z5j(a0 a1 a2:AV)(H:List AO):=ff (vs:=[a0,a1,a2]) t118 rfl H
theorem t119:T (zej)=some e119:=by kernel_rfl
@[go_sem]def a119:=@zaa T _ _ c119.eq_1
def zqr(a0 a1:AV)(H:List AO):=ff (vs:=[a0,a1]) t119 rfl H
theorem t120:T (zik)=some e120:=by kernel_rfl
@[go_sem]def a120:=@zaa T _ _ c120.eq_1
def zzb(H:List AO):=ff (vs:=[]) t120 rfl H
theorem t121:T (zfo)=some e121:=by kernel_rfl
@[go_sem]def a121:=@zaa T _ _ c121.eq_1
def zsx(a0 a1:AV)(H:List AO):=ff (vs:=[a0,a1]) t121 rfl H
theorem t122:T (zak)=some e122:=by kernel_rfl
@[go_sem]def a122:=@zaa T _ _ c122.eq_1
def zlq(a0 a1:AV)(H:List AO):=ff (vs:=[a0,a1]) t122 rfl H
theorem t123:T (zim)=some e123:=by kernel_rfl
@[go_sem]def a123:=@zaa T _ _ c123.eq_1
def z2f(a0 a1:AV)(H:List AO):=ff (vs:=[a0,a1]) t123 rfl H
theorem t124:T (zcm)=some e124:=by kernel_rfl
@[go_sem]def a124:=@zaa T _ _ c124.eq_1
def zl9(a0:AV)(H:List AO):=ff (vs:=[a0]) t124 rfl H
theorem t125:T (za2)=some e125:=by kernel_rfl
@[go_sem]def a125:=@zaa T _ _ c125.eq_1
def zey(a0:AV)(H:List AO):=ff (vs:=[a0]) t125 rfl H
theorem t126:T (zba)=some e126:=by kernel_rfl
@[go_sem]def a126:=@zaa T _ _ c126.eq_1
def zfx(a0:AV)(H:List AO):=ff (vs:=[a0]) t126 rfl H
theorem t127:T (zdc)=some e127:=by kernel_rfl
@[go_sem]def a127:=@zaa T _ _ c127.eq_1
def zrw(a0:AV)(H:List AO):=ff (vs:=[a0]) t127 rfl H
theorem t128:T (zbe)=some e128:=by kernel_rfl
@[go_sem]def al128_0:=@zaa T _ _ ycr.eq_1
@[go_sem]def a128:=@zaa T _ _ c128.eq_1
def zng(a0 a1:AV)(H:List AO):=ff (vs:=[a0,a1]) t128 rfl H
noncomputable def zcp(H h:List AO)(x0 x1 x3:AV):Option RH:=awL T [0,1,3] [] ycr (zao 0 (zah H [])) ⟨⟨19,[(0,.v x0),(1,.v x1),(3,.v x3)]⟩,[],h,[]⟩
@[go_sem]def g_slices_Backward_Term_1_0(H h x0 x1 x3):=(zcp.eq_1 H h x0 x1 x3).symm
theorem t129:T (zl2)=some e129:=by kernel_rfl
@[go_sem]def a129:=@zaa T _ _ c129.eq_1
def z8u(H:List AO):=ff (vs:=[]) t129 rfl H
theorem t130:T (zmr)=some e130:=by kernel_rfl
@[go_sem]def a130:=@zaa T _ _ c130.eq_1
def z48(a0:AV)(H:List AO):=ff (vs:=[a0]) t130 rfl H
theorem t131:T (zms)=some e131:=by kernel_rfl
@[go_sem]def a131:=@zaa T _ _ c131.eq_1
def z49(a0 a1 a2:AV)(H:List AO):=ff (vs:=[a0,a1,a2]) t131 rfl H
theorem t132:T (zdf)=some e132:=by kernel_rfl
@[go_sem]def a132:=@zaa T _ _ c132.eq_1
def zrx(a0 a1 a2:AV)(H:List AO):=ff (vs:=[a0,a1,a2]) t132 rfl H
theorem t133:T (zku)=some e133:=by kernel_rfl
@[go_sem]def a133:=@zaa T _ _ c133.eq_1
def z2o(a0 a1:AV)(H:List AO):=ff (vs:=[a0,a1]) t133 rfl H
theorem t134:T (zm4)=some e134:=by kernel_rfl
@[go_sem]def al134_0:=@zaa T _ _ ycq.eq_1
@[go_sem]def a134:=@zaa T _ _ c134.eq_1
def z2q(a0 a1:AV)(H:List AO):=ff (vs:=[a0,a1]) t134 rfl H
noncomputable def zgv(H h:List AO)(x1 x5 x6:AV)(v2:List AV):Option RH:=awL T [1,2,5,6] [2] ycq (zao 0 (thn (aw T (A yjo 6 .ret) (zah H [.t 4])) (zah H [.t 4]))) ⟨⟨51,[(1,.v x1),(2,.lp 2 0),(5,.v x5),(6,.v x6)]⟩,[(2,v2)],h,[]⟩
@[go_sem]def g_ref08_Asks_0(H h x1 x5 x6 v2):=(zgv.eq_1 H h x1 x5 x6 v2).symm
theorem t135:T (zlc)=some e135:=by kernel_rfl
@[go_sem]def al135_0:=@zaa T _ _ ycp.eq_1
@[go_sem]def a135:=@zaa T _ _ c135.eq_1
def zzs(a0 a1:AV)(H:List AO):=ff (vs:=[a0,a1]) t135 rfl H
noncomputable def zib(H h:List AO)(x0 x1 x5:AV):Option RH:=awL T [0,1,5] [] ycp (zao 0 (thn (aw T (A yjn 6 .ret) (zah H [.t 4])) (zah H [.t 4]))) ⟨⟨18,[(0,.v x0),(1,.v x1),(5,.v x5)]⟩,[],h,[]⟩
@[go_sem]def g_ref09_great_0(H h x0 x1 x5):=(zib.eq_1 H h x0 x1 x5).symm
theorem t136:T (zm3)=some e136:=by kernel_rfl
@[go_sem]def al136_0:=@zaa T _ _ yco.eq_1
@[go_sem]def al136_1:=@zaa T _ _ z1x.eq_1
@[go_sem]def a136:=@zaa T _ _ c136.eq_1
def z2p(a0 a1:AV)(H:List AO):=ff (vs:=[a0,a1]) t136 rfl H
noncomputable def zje(H h:List AO)(x1 x6 x7 x8:AV):Option RH:=awL T [1,6,7,8] [] yco (zao 2 (zao 1 (thn (aw T (.reg (R z0x 10)) (thn (zc9 T [1,6,7] [] z1x (zao 0 (thn (aw T (A z0x 11 .ret) (zah H [.t 4,.t 5])) (zah H [.t 4,.t 5])))) (zao 0 (thn (aw T (A z0x 11 .ret) (zah H [.t 4,.t 5])) (zah H [.t 4,.t 5]))))) (thn (zc9 T [1,6,7] [] z1x (zao 0 (thn (aw T (A z0x 11 .ret) (zah H [.t 4,.t 5])) (zah H [.t 4,.t 5])))) (zao 0 (thn (aw T (A z0x 11 .ret) (zah H [.t 4,.t 5])) (zah H [.t 4,.t 5]))))))) ⟨⟨48,[(1,.v x1),(6,.v x6),(7,.v x7),(8,.v x8)]⟩,[],h,[]⟩
@[go_sem]def g_ref08_Most_0(H h x1 x6 x7 x8):=(zje.eq_1 H h x1 x6 x7 x8).symm
noncomputable def zgu(H h:List AO)(x1 x6 x7:AV):Option RH:=awL T [1,6,7] [] z1x (zao 0 (thn (aw T (A z0x 11 .ret) (zah H [.t 4,.t 5])) (zah H [.t 4,.t 5]))) ⟨⟨48,[(1,.v x1),(6,.v x6),(7,.v x7)]⟩,[],h,[]⟩
@[go_sem]def g_ref08_Most_1(H h x1 x6 x7):=(zgu.eq_1 H h x1 x6 x7).symm
theorem t137:T (zdh)=some e137:=by kernel_rfl
@[go_sem]def al137_0:=@zaa T _ _ ycn.eq_1
@[go_sem]def a137:=@zaa T _ _ c137.eq_1
def zod(a0 a1:AV)(H:List AO):=ff (vs:=[a0,a1]) t137 rfl H
noncomputable def zb8(H h:List AO)(x0 x1 x7 x8:AV):Option RH:=awL T [0,1,7,8] [] ycn (zao 0 (thn (aw T (A ygp 7 .ret) (zah H [.t 4])) (zah H [.t 4]))) ⟨⟨19,[(0,.v x0),(1,.v x1),(7,.v x7),(8,.v x8)]⟩,[],h,[]⟩
@[go_sem]def g_slices_IndexFunc_int_0(H h x0 x1 x7 x8):=(zb8.eq_1 H h x0 x1 x7 x8).symm
theorem t138:T (zpo)=some e138:=by kernel_rfl
@[go_sem]def a138:=@zaa T _ _ c138.eq_1
def z8s(a0:AV)(H:List AO):=ff (vs:=[a0]) t138 rfl H
theorem t139:T (zoj)=some e139:=by kernel_rfl
@[go_sem]def al139_0:=@zaa T _ _ ycm.eq_1
@[go_sem]def a139:=@zaa T _ _ c139.eq_1
def z46(a0 a1 a2:AV)(H:List AO):=ff (vs:=[a0,a1,a2]) t139 rfl H
noncomputable def zkg(H h:List AO)(x0 x1 x11 x12 x13:AV):Option RH:=awL T [0,1,11,12,13] [] ycm (zao 0 (thn (aw T (A ya7 9 .ret) (zah H [.t 6])) (zah H [.t 6]))) ⟨⟨34,[(0,.v x0),(1,.v x1),(11,.v x11),(12,.v x12),(13,.v x13)]⟩,[],h,[]⟩
@[go_sem]def g_tsub_once_0(H h x0 x1 x11 x12 x13):=(zkg.eq_1 H h x0 x1 x11 x12 x13).symm
theorem t140:T (zlj)=some e140:=by kernel_rfl
@[go_sem]def a140:=@zaa T _ _ c140.eq_1
def zz4(H:List AO):=ff (vs:=[]) t140 rfl H
theorem t141:T (zhr)=some e141:=by kernel_rfl
@[go_sem]def a141:=@zaa T _ _ c141.eq_1
def zvt(a0 a1 a2 a3:AV)(H:List AO):=ff (vs:=[a0,a1,a2,a3]) t141 rfl H
theorem t142:T (zli)=some e142:=by kernel_rfl
@[go_sem]def a142:=@zaa T _ _ c142.eq_1
def zz3(a0 a1 a2:AV)(H:List AO):=ff (vs:=[a0,a1,a2]) t142 rfl H
theorem t143:T (ziw)=some e143:=by kernel_rfl
@[go_sem]def al143_0:=@zaa T _ _ ycl.eq_1
@[go_sem]def a143:=@zaa T _ _ c143.eq_1
def zzx(a0:AV)(H:List AO):=ff (vs:=[a0]) t143 rfl H
noncomputable def zie(H h:List AO)(x0 x3:AV):Option RH:=awL T [0,3] [] ycl (zao 0 (thn (aw T (A yjm 6 .ret) (zah H [.t 2])) (zah H [.t 2]))) ⟨⟨16,[(0,.v x0),(3,.v x3)]⟩,[],h,[]⟩
@[go_sem]def g_ref05_right_0(H h x0 x3):=(zie.eq_1 H h x0 x3).symm
theorem t144:T (zm6)=some e144:=by kernel_rfl
@[go_sem]def al144_0:=@zaa T _ _ yck.eq_1
@[go_sem]def a144:=@zaa T _ _ c144.eq_1
def z5i(a0 a1 a2:AV)(H:List AO):=ff (vs:=[a0,a1,a2]) t144 rfl H
noncomputable def zkl(H h:List AO)(x1 x2 x8:AV)(v3 v6 v7:List AV):Option RH:=awL T [1,2,3,6,7,8] [3,6,7] yck (zao 0 (thn (aw T (A z9y 10 .ret) (zah H [.c 3 true 6])) (zah H [.c 3 true 6]))) ⟨⟨65,[(1,.v x1),(2,.v x2),(3,.lp 3 0),(6,.lp 6 0),(7,.lp 7 0),(8,.v x8)]⟩,[(3,v3),(6,v6),(7,v7)],h,[]⟩
@[go_sem]def g_ref05_sub_0(H h x1 x2 x8 v3 v6 v7):=(zkl.eq_1 H h x1 x2 x8 v3 v6 v7).symm
theorem t145:T (zcr)=some e145:=by kernel_rfl
@[go_sem]def al145_0:=@zaa T _ _ ycj.eq_1
@[go_sem]def a145:=@zaa T _ _ c145.eq_1
def znd(a0 a1:AV)(H:List AO):=ff (vs:=[a0,a1]) t145 rfl H
noncomputable def zbt(H h:List AO)(x0 x1 x7 x8:AV):Option RH:=awL T [0,1,7,8] [] ycj (zao 0 (thn (aw T (A ygo 7 .ret) (zah H [.t 4])) (zah H [.t 4]))) ⟨⟨19,[(0,.v x0),(1,.v x1),(7,.v x7),(8,.v x8)]⟩,[],h,[]⟩
@[go_sem]def g_slices_IndexFunc_Level_0(H h x0 x1 x7 x8):=(zbt.eq_1 H h x0 x1 x7 x8).symm
theorem t146:T (zmt)=some e146:=by kernel_rfl
@[go_sem]def a146:=@zaa T _ _ c146.eq_1
def z5b(a0 a1:AV)(H:List AO):=ff (vs:=[a0,a1]) t146 rfl H
theorem t147:T (zq3)=some e147:=by kernel_rfl
@[go_sem]def a147:=@zaa T _ _ c147.eq_1
def z8t(a0 a1 a2:AV)(H:List AO):=ff (vs:=[a0,a1,a2]) t147 rfl H
theorem t148:T (zk3)=some e148:=by kernel_rfl
@[go_sem]def al148_0:=@zaa T _ _ yci.eq_1
@[go_sem]def a148:=@zaa T _ _ c148.eq_1
def z47(a0 a1 a2:AV)(H:List AO):=ff (vs:=[a0,a1,a2]) t148 rfl H
noncomputable def zkh(H h:List AO)(x1 x2 x26 x27 x28:AV)(v3 v6 v7:List AV):Option RH:=awL T [1,2,3,6,7,26,27,28] [3,6,7] yci (zao 0 (thn (aw T (A ya6 9 .ret) (zah H [.c 4 true 6])) (zah H [.c 4 true 6]))) ⟨⟨48,[(1,.v x1),(2,.v x2),(3,.lp 3 0),(6,.lp 6 0),(7,.lp 7 0),(26,.v x26),(27,.v x27),(28,.v x28)]⟩,[(3,v3),(6,v6),(7,v7)],h,[]⟩
@[go_sem]def g_term_turn_0(H h x1 x2 x26 x27 x28 v3 v6 v7):=(zkh.eq_1 H h x1 x2 x26 x27 x28 v3 v6 v7).symm
theorem t149:T (zil)=some e149:=by kernel_rfl
@[go_sem]def a149:=@zaa T _ _ c149.eq_1
def zzc(a0 a1 a2 a3:AV)(H:List AO):=ff (vs:=[a0,a1,a2,a3]) t149 rfl H
theorem t150:T (zf2)=some e150:=by kernel_rfl
@[go_sem]def a150:=@zaa T _ _ c150.eq_1
def zvp(a0:AV)(H:List AO):=ff (vs:=[a0]) t150 rfl H
theorem t151:T (zmq)=some e151:=by kernel_rfl
@[go_sem]def a151:=@zaa T _ _ c151.eq_1
def zvo(a0 a1 a2 a3:AV)(H:List AO):=ff (vs:=[a0,a1,a2,a3]) t151 rfl H
theorem t152:T (zij)=some e152:=by kernel_rfl
@[go_sem]def z98:=@zaa T _ _ zea.eq_1
@[go_sem]theorem ztt:FC.okd zea=true:=by kernel_rfl
@[go_sem]def z96:=@zaa T _ _ zd7.eq_1
@[go_sem]theorem ztr:FC.okd zd7=true:=by kernel_rfl
@[go_sem]def al152_0:=@zaa T _ _ ych.eq_1
@[go_sem]def a152:=@zaa T _ _ c152.eq_1
def z2d(a0 a1:AV)(H:List AO):=ff (vs:=[a0,a1]) t152 rfl H
noncomputable def zi8(H h:List AO)(ds:List Nat)(x2 x11 x12 x13:AV):Option RH:=awL T [2,11,12,13] [] ych (zao 0 (zah H [])) ⟨⟨25,[(2,.v x2),(11,.v x11),(12,.v x12),(13,.v x13)]⟩,[],h,ds⟩
@[go_sem]def g_tsub_all_1_0(H h ds x2 x11 x12 x13):=(zi8.eq_1 H h ds x2 x11 x12 x13).symm
@[go_sem]def a153:=@zaa T _ _ c153.eq_1
@[go_sem]def a154:=@zaa T _ _ c154.eq_1
@[go_sem]def a155:=@zaa T _ _ c155.eq_1
@[go_sem]def a156:=@zaa T _ _ c156.eq_1
@[go_sem]def a157:=@zaa T _ _ c157.eq_1
@[go_sem]def a158:=@zaa T _ _ c158.eq_1
@[go_sem]def a159:=@zaa T _ _ c159.eq_1
theorem t160:T (zin)=some e160:=by kernel_rfl
@[go_sem]def a160:=@zaa T _ _ c160.eq_1
def zzd(a0 a1 a2:AV)(H:List AO):=ff (vs:=[a0,a1,a2]) t160 rfl H
theorem t161:T (zcs)=some e161:=by kernel_rfl
@[go_sem]def al161_0:=@zaa T _ _ ycg.eq_1
@[go_sem]def al161_1:=@zaa T _ _ z64.eq_1
@[go_sem]def a161:=@zaa T _ _ c161.eq_1
def zo9(a0:AV)(H:List AO):=ff (vs:=[a0]) t161 rfl H
noncomputable def zdn(H h:List AO)(x0 x3 x9 x10 x11:AV):Option RH:=awL T [0,3,9,10,11] [] ycg (zao 0 (thn (aw T (A zxa 9 (.seq (A zxa 10 (.block 2 (.loop [6,25,26,27] [] z64))) (A zxa 15 .ret))) (zah H [.t 2])) (zah H [.t 2]))) ⟨⟨36,[(0,.v x0),(3,.v x3),(9,.v x9),(10,.v x10),(11,.v x11)]⟩,[],h,[]⟩
@[go_sem]def g_slices_Concat_Level_0(H h x0 x3 x9 x10 x11):=(zdn.eq_1 H h x0 x3 x9 x10 x11).symm
noncomputable def zdm(H h:List AO)(x6 x25 x26 x27:AV):Option RH:=awL T [6,25,26,27] [] z64 (zao 2 (thn (aw T (A zxa 15 .ret) (zah H [.t 2])) (zah H [.t 2]))) ⟨⟨36,[(6,.v x6),(25,.v x25),(26,.v x26),(27,.v x27)]⟩,[],h,[]⟩
@[go_sem]def g_slices_Concat_Level_1(H h x6 x25 x26 x27):=(zdm.eq_1 H h x6 x25 x26 x27).symm
theorem t162:T (zpn)=some e162:=by kernel_rfl
@[go_sem]def a162:=@zaa T _ _ c162.eq_1
def z8r(a0:AV)(H:List AO):=ff (vs:=[a0]) t162 rfl H
theorem t163:T (zdy)=some e163:=by kernel_rfl
@[go_sem]def al163_0:=@zaa T _ _ ycf.eq_1
@[go_sem]def al163_1:=@zaa T _ _ z63.eq_1
@[go_sem]def a163:=@zaa T _ _ c163.eq_1
def zrt(a0 a1:AV)(H:List AO):=ff (vs:=[a0,a1]) t163 rfl H
noncomputable def zeh(H h:List AO)(x0 x18 x19 x20:AV)(v3 v4 v5:List AV):Option RH:=awL T [0,3,4,5,18,19,20] [3,4,5] ycf (zao 0 (thn (aw T (.seq (A z0w 9 (.block 2 (.loop [0,4,5,54,55,56] [4,5] z63))) (A z0w 14 .ret)) (zah H [.c 4 true 4])) (zah H [.c 4 true 4]))) ⟨⟨70,[(0,.v x0),(3,.lp 3 0),(4,.lp 4 0),(5,.lp 5 0),(18,.v x18),(19,.v x19),(20,.v x20)]⟩,[(3,v3),(4,v4),(5,v5)],h,[]⟩
@[go_sem]def g_tsub_putter_term_0(H h x0 x18 x19 x20 v3 v4 v5):=(zeh.eq_1 H h x0 x18 x19 x20 v3 v4 v5).symm
noncomputable def zeg(H h:List AO)(x0 x54 x55 x56:AV)(v4 v5:List AV):Option RH:=awL T [0,4,5,54,55,56] [4,5] z63 (zao 2 (thn (aw T (A z0w 14 .ret) (zah H [.c 4 true 4])) (zah H [.c 4 true 4]))) ⟨⟨70,[(0,.v x0),(4,.lp 4 0),(5,.lp 5 0),(54,.v x54),(55,.v x55),(56,.v x56)]⟩,[(4,v4),(5,v5)],h,[]⟩
@[go_sem]def g_tsub_putter_term_1(H h x0 x54 x55 x56 v4 v5):=(zeg.eq_1 H h x0 x54 x55 x56 v4 v5).symm
theorem t164:T (zk1)=some e164:=by kernel_rfl
@[go_sem]def z9k:=@zaa T _ _ zci.eq_1
@[go_sem]theorem zsk:FC.okd zci=true:=by kernel_rfl
@[go_sem]def z9i:=@zaa T _ _ zcd.eq_1
@[go_sem]theorem zsi:FC.okd zcd=true:=by kernel_rfl
@[go_sem]def a164:=@zaa T _ _ c164.eq_1
def zrs(a0 a1 a2:AV)(H:List AO):=ff (vs:=[a0,a1,a2]) t164 rfl H
theorem t165:T (zg4)=some e165:=by kernel_rfl
@[go_sem]def al165_0:=@zaa T _ _ yce.eq_1
@[go_sem]def al165_1:=@zaa T _ _ zvi.eq_1
@[go_sem]def a165:=@zaa T _ _ c165.eq_1
def zy9(a0 a1 a2:AV)(H:List AO):=ff (vs:=[a0,a1,a2]) t165 rfl H
noncomputable def zh2(H h:List AO)(x2 x8 x15 x16 x17 x23 x24 x25:AV)(v3 v7:List AV):Option RH:=awL T [2,3,7,8,15,16,17,23,24,25] [3,7] yce (zao 2 (thn (aw T (A zre 10 (A zre 11 (.cond (.t 48) (A zre 12 .ret) .skip))) (zao 1 (thn (aw T (.reg (R zre 13)) (thn (zc9 T [2,3,15,16,17] [3] zvi (zao 0 (thn (aw T (A zre 14 .ret) (zah H [.t 4,.t 5])) (zah H [.t 4,.t 5])))) (zao 0 (thn (aw T (A zre 14 .ret) (zah H [.t 4,.t 5])) (zah H [.t 4,.t 5]))))) (thn (zc9 T [2,3,15,16,17] [3] zvi (zao 0 (thn (aw T (A zre 14 .ret) (zah H [.t 4,.t 5])) (zah H [.t 4,.t 5])))) (zao 0 (thn (aw T (A zre 14 .ret) (zah H [.t 4,.t 5])) (zah H [.t 4,.t 5]))))))) (zao 1 (thn (aw T (.reg (R zre 13)) (thn (zc9 T [2,3,15,16,17] [3] zvi (zao 0 (thn (aw T (A zre 14 .ret) (zah H [.t 4,.t 5])) (zah H [.t 4,.t 5])))) (zao 0 (thn (aw T (A zre 14 .ret) (zah H [.t 4,.t 5])) (zah H [.t 4,.t 5]))))) (thn (zc9 T [2,3,15,16,17] [3] zvi (zao 0 (thn (aw T (A zre 14 .ret) (zah H [.t 4,.t 5])) (zah H [.t 4,.t 5])))) (zao 0 (thn (aw T (A zre 14 .ret) (zah H [.t 4,.t 5])) (zah H [.t 4,.t 5])))))))) ⟨⟨51,[(2,.v x2),(3,.lp 3 0),(7,.lp 7 0),(8,.v x8),(15,.v x15),(16,.v x16),(17,.v x17),(23,.v x23),(24,.v x24),(25,.v x25)]⟩,[(3,v3),(7,v7)],h,[]⟩
@[go_sem]def g_under_Leq_1_0(H h x2 x8 x15 x16 x17 x23 x24 x25 v3 v7):=(zh2.eq_1 H h x2 x8 x15 x16 x17 x23 x24 x25 v3 v7).symm
noncomputable def zdu(H h:List AO)(x2 x15 x16 x17:AV)(v3:List AV):Option RH:=awL T [2,3,15,16,17] [3] zvi (zao 0 (thn (aw T (A zre 14 .ret) (zah H [.t 4,.t 5])) (zah H [.t 4,.t 5]))) ⟨⟨51,[(2,.v x2),(3,.lp 3 0),(15,.v x15),(16,.v x16),(17,.v x17)]⟩,[(3,v3)],h,[]⟩
@[go_sem]def g_under_Leq_1_1(H h x2 x15 x16 x17 v3):=(zdu.eq_1 H h x2 x15 x16 x17 v3).symm
theorem t166:T (za9)=some e166:=by kernel_rfl
@[go_sem]def al166_0:=@zaa T _ _ ycd.eq_1
@[go_sem]def a166:=@zaa T _ _ c166.eq_1
def zn2(a0 a1:AV)(H:List AO):=ff (vs:=[a0,a1]) t166 rfl H
noncomputable def zcz(H h:List AO)(x7 x22 x23 x24:AV):Option RH:=awL T [7,22,23,24] [] ycd (zao 0 (thn (aw T (A ya5 9 .ret) (zah H [.t 4])) (zah H [.t 4]))) ⟨⟨40,[(7,.v x7),(22,.v x22),(23,.v x23),(24,.v x24)]⟩,[],h,[]⟩
@[go_sem]def g_under_situation_atoms_0(H h x7 x22 x23 x24):=(zcz.eq_1 H h x7 x22 x23 x24).symm
theorem t167:T (zcq)=some e167:=by kernel_rfl
@[go_sem]def al167_0:=@zaa T _ _ ycc.eq_1
@[go_sem]def a167:=@zaa T _ _ c167.eq_1
def zhl(a0 a1:AV)(H:List AO):=ff (vs:=[a0,a1]) t167 rfl H
noncomputable def zbs(H h:List AO)(x7 x11 x37 x38 x39:AV):Option RH:=awL T [7,11,37,38,39] [] ycc (zao 0 (thn (aw T (A z6n 12 .ret) (zah H [.t 4,.t 5])) (zah H [.t 4,.t 5]))) ⟨⟨60,[(7,.v x7),(11,.v x11),(37,.v x37),(38,.v x38),(39,.v x39)]⟩,[],h,[]⟩
@[go_sem]def g_under_situation_values_0(H h x7 x11 x37 x38 x39):=(zbs.eq_1 H h x7 x11 x37 x38 x39).symm
theorem t168:T (zem)=some e168:=by kernel_rfl
@[go_sem]def a168:=@zaa T _ _ c168.eq_1
def zqt(a0 a1:AV)(H:List AO):=ffK (vs:=[a0,a1]) t168 rfl H
theorem t169:T (zrn)=some e169:=by kernel_rfl
@[go_sem]def a169:=@zaa T _ _ c169.eq_1
def z8x(a0 a1 a2:AV)(H:List AO):=ff (vs:=[a0,a1,a2]) t169 rfl H
theorem t170:T (zve)=some e170:=by kernel_rfl
@[go_sem]def a170:=@zaa T _ _ c170.eq_1
def ydt(a0:AV)(H:List AO):=ff (vs:=[a0]) t170 rfl H
theorem t171:T (zjv)=some e171:=by kernel_rfl
@[go_sem]def a171:=@zaa T _ _ c171.eq_1
def zwv(a0 a1:AV)(H:List AO):=ff (vs:=[a0,a1]) t171 rfl H
@[go_sem]def a172:=@zaa T _ _ c172.eq_1
theorem t173:T (zce)=some e173:=by kernel_rfl
@[go_sem]def a173:=@zaa T _ _ c173.eq_1
def zmj(a0:AV)(H:List AO):=ff (vs:=[a0]) t173 rfl H
theorem t174:T (zk7)=some e174:=by kernel_rfl
@[go_sem]def a174:=@zaa T _ _ c174.eq_1
def zzf(a0 a1:AV)(H:List AO):=ff (vs:=[a0,a1]) t174 rfl H
theorem t175:T (zl5)=some e175:=by kernel_rfl
@[go_sem]def a175:=@zaa T _ _ c175.eq_1
def z8w(a0:AV)(H:List AO):=ff (vs:=[a0]) t175 rfl H
theorem t176:T (zm9)=some e176:=by kernel_rfl
@[go_sem]def al176_0:=@zaa T _ _ ycb.eq_1
@[go_sem]def a176:=@zaa T _ _ c176.eq_1
def z5k(a0 a1:AV)(H:List AO):=ff (vs:=[a0,a1]) t176 rfl H
noncomputable def zkm(H h:List AO)(x1 x24 x25 x26:AV)(v4 v7:List AV):Option RH:=awL T [1,4,7,24,25,26] [4,7] ycb (zao 0 (thn (aw T (A z9x 10 .ret) (zah H [.c 3 true 4])) (zah H [.c 3 true 4]))) ⟨⟨40,[(1,.v x1),(4,.lp 4 0),(7,.lp 7 0),(24,.v x24),(25,.v x25),(26,.v x26)]⟩,[(4,v4),(7,v7)],h,[]⟩
@[go_sem]def g_lsub_turn_0(H h x1 x24 x25 x26 v4 v7):=(zkm.eq_1 H h x1 x24 x25 x26 v4 v7).symm
theorem t177:T (zna)=some e177:=by kernel_rfl
@[go_sem]def a177:=@zaa T _ _ c177.eq_1
def z2x(a0 a1 a2:AV)(H:List AO):=ff (vs:=[a0,a1,a2]) t177 rfl H
theorem t178:T (zlk)=some e178:=by kernel_rfl
@[go_sem]def al178_0:=@zaa T _ _ yca.eq_1
@[go_sem]def al178_1:=@zaa T _ _ zvh.eq_1
@[go_sem]def a178:=@zaa T _ _ c178.eq_1
def z5l(a0 a1:AV)(H:List AO):=ff (vs:=[a0,a1]) t178 rfl H
noncomputable def zgg(H h:List AO)(x0 x1 x3 x4 x7 x8 x14 x15:AV):Option RH:=awL T [0,1,3,4,7,8,14,15] [] yca (zao 2 (thn (aw T (A z6m 9 (.cond (.t 30) .ret .skip)) (zao 1 (thn (aw T (.reg (R z6m 10)) (thn (zc9 T [0,1,7,8] [] zvh (zao 0 (zah H []))) (zao 0 (zah H [])))) (thn (zc9 T [0,1,7,8] [] zvh (zao 0 (zah H []))) (zao 0 (zah H [])))))) (zao 1 (thn (aw T (.reg (R z6m 10)) (thn (zc9 T [0,1,7,8] [] zvh (zao 0 (zah H []))) (zao 0 (zah H [])))) (thn (zc9 T [0,1,7,8] [] zvh (zao 0 (zah H []))) (zao 0 (zah H []))))))) ⟨⟨32,[(0,.v x0),(1,.v x1),(3,.v x3),(4,.v x4),(7,.v x7),(8,.v x8),(14,.v x14),(15,.v x15)]⟩,[],h,[]⟩
@[go_sem]def g_leq_All_1_0(H h x0 x1 x3 x4 x7 x8 x14 x15):=(zgg.eq_1 H h x0 x1 x3 x4 x7 x8 x14 x15).symm
noncomputable def zkn(H h:List AO)(x0 x1 x7 x8:AV):Option RH:=awL T [0,1,7,8] [] zvh (zao 0 (zah H [])) ⟨⟨32,[(0,.v x0),(1,.v x1),(7,.v x7),(8,.v x8)]⟩,[],h,[]⟩
@[go_sem]def g_leq_All_1_1(H h x0 x1 x7 x8):=(zkn.eq_1 H h x0 x1 x7 x8).symm
@[go_sem]def a179:=@zaa T _ _ c179.eq_1
theorem t180:T (zn1)=some e180:=by kernel_rfl
@[go_sem]def a180:=@zaa T _ _ c180.eq_1
def zsz(a0:AV)(H:List AO):=ff (vs:=[a0]) t180 rfl H
@[go_sem]def zt0:=@zaa T _ _ zfq.eq_1
@[go_sem]def ztz:=@zaa T _ _ zfn.eq_1
@[go_sem]def a181:=@zaa T _ _ c181.eq_1
theorem t182:T (zat)=some e182:=by kernel_rfl
@[go_sem]def al182_0:=@zaa T _ _ yb9.eq_1
@[go_sem]def al182_1:=@zaa T _ _ yb8.eq_1
@[go_sem]def al182_2:=@zaa T _ _ zxi.eq_1
@[go_sem]def a182:=@zaa T _ _ c182.eq_1
def zlp(a0 a1:AV)(H:List AO):=ff (vs:=[a0,a1]) t182 rfl H
noncomputable def zbd(H h:List AO)(x0 x1 x11 x12 x13:AV):Option RH:=awL T [0,1,11,12,13] [] yb9 (zao 0 (thn (aw T (A z1n 5 (.block 2 (.loop [0,1,33,34,35] [] zxi))) (zah H [])) (zah H []))) ⟨⟨60,[(0,.v x0),(1,.v x1),(11,.v x11),(12,.v x12),(13,.v x13)]⟩,[],h,[]⟩
@[go_sem]def g_under_situation_clauses_1_0(H h x0 x1 x11 x12 x13):=(zbd.eq_1 H h x0 x1 x11 x12 x13).symm
noncomputable def zb3(H h:List AO)(x0 x1 x7 x33 x34 x35 x46 x47 x48:AV):Option RH:=awL T [0,1,7,33,34,35,46,47,48] [] yb8 (zao 4 (zao 3 (thn (aw T (.reg (R z1n 14)) (thn (zc9 T [0,1,33,34,35] [] zxi (zao 2 (zah H []))) (zao 2 (zah H [])))) (thn (zc9 T [0,1,33,34,35] [] zxi (zao 2 (zah H []))) (zao 2 (zah H [])))))) ⟨⟨60,[(0,.v x0),(1,.v x1),(7,.v x7),(33,.v x33),(34,.v x34),(35,.v x35),(46,.v x46),(47,.v x47),(48,.v x48)]⟩,[],h,[]⟩
@[go_sem]def g_under_situation_clauses_1_1(H h x0 x1 x7 x33 x34 x35 x46 x47 x48):=(zb3.eq_1 H h x0 x1 x7 x33 x34 x35 x46 x47 x48).symm
noncomputable def zbc(H h:List AO)(x0 x1 x33 x34 x35:AV):Option RH:=awL T [0,1,33,34,35] [] zxi (zao 2 (zah H [])) ⟨⟨60,[(0,.v x0),(1,.v x1),(33,.v x33),(34,.v x34),(35,.v x35)]⟩,[],h,[]⟩
@[go_sem]def g_under_situation_clauses_1_2(H h x0 x1 x33 x34 x35):=(zbc.eq_1 H h x0 x1 x33 x34 x35).symm
theorem t183:T (zkz)=some e183:=by kernel_rfl
@[go_sem]def z99:=@zaa T _ _ zeb.eq_1
@[go_sem]theorem ztu:FC.okd zeb=true:=by kernel_rfl
@[go_sem]def z97:=@zaa T _ _ zd8.eq_1
@[go_sem]theorem zts:FC.okd zd8=true:=by kernel_rfl
@[go_sem]def a183:=@zaa T _ _ c183.eq_1
def z23(a0 a1:AV)(H:List AO):=ff (vs:=[a0,a1]) t183 rfl H
theorem t184:T (zom)=some e184:=by kernel_rfl
@[go_sem]def yez:=@zaa T _ _ zb2.eq_1
@[go_sem]theorem zu3:FC.okd zb2=true:=by kernel_rfl
@[go_sem]def yex:=@zaa T _ _ zb1.eq_1
@[go_sem]theorem zu1:FC.okd zb1=true:=by kernel_rfl
@[go_sem]def a184:=@zaa T _ _ c184.eq_1
def z5d(a0 a1 a2:AV)(H:List AO):=ff (vs:=[a0,a1,a2]) t184 rfl H
theorem t185:T (zk6)=some e185:=by kernel_rfl
@[go_sem]def a185:=@zaa T _ _ c185.eq_1
def zze(a0 a1:AV)(H:List AO):=ff (vs:=[a0,a1]) t185 rfl H
@[go_sem]def a186:=@zaa T _ _ c186.eq_1
theorem t187:T (zhz)=some e187:=by kernel_rfl
@[go_sem]def al187_0:=@zaa T _ _ yb7.eq_1
@[go_sem]def a187:=@zaa T _ _ c187.eq_1
def zqz(a0:AV)(H:List AO):=ff (vs:=[a0]) t187 rfl H
noncomputable def zgh(H h:List AO)(x10 x11 x12:AV)(v1 v2:List AV):Option RH:=awL T [1,2,10,11,12] [1,2] yb7 (zao 0 (thn (aw T (A yfp 8 .ret) (zah H [.c 2 true 2])) (zah H [.c 2 true 2]))) ⟨⟨28,[(1,.lp 1 0),(2,.lp 2 0),(10,.v x10),(11,.v x11),(12,.v x12)]⟩,[(1,v1),(2,v2)],h,[]⟩
@[go_sem]def g_flat_succ_0(H h x10 x11 x12 v1 v2):=(zgh.eq_1 H h x10 x11 x12 v1 v2).symm
@[go_sem]def al188_0:=@zaa T _ _ yj5.eq_1
@[go_sem]def al188_1:=@zaa T _ _ yj4.eq_1
@[go_sem]def a188:=@zaa T _ _ c188.eq_1
theorem t189:T (zd9)=some e189:=by kernel_rfl
@[go_sem]def al189_0:=@zaa T _ _ yb6.eq_1
@[go_sem]def a189:=@zaa T _ _ c189.eq_1
def zoa(a0:AV)(H:List AO):=ff (vs:=[a0]) t189 rfl H
noncomputable def zcl(H h:List AO)(x0 x3 x4:AV):Option RH:=awL T [0,3,4] [] yb6 (zao 0 (thn (aw T (A yfo 8 .ret) (zah H [.t 2])) (zah H [.t 2]))) ⟨⟨25,[(0,.v x0),(3,.v x3),(4,.v x4)]⟩,[],h,[]⟩
@[go_sem]def g_slices_Max_int_0(H h x0 x3 x4):=(zcl.eq_1 H h x0 x3 x4).symm
theorem t190:T (zhi)=some e190:=by kernel_rfl
@[go_sem]def a190:=@zaa T _ _ c190.eq_1
def zwu(a0:AV)(H:List AO):=ff (vs:=[a0]) t190 rfl H
theorem t191:T (zbr)=some e191:=by kernel_rfl
@[go_sem]def a191:=@zaa T _ _ c191.eq_1
def zkf(a0 a1:AV)(H:List AO):=ff (vs:=[a0,a1]) t191 rfl H
theorem t192:T (zky)=some e192:=by kernel_rfl
@[go_sem]def a192:=@zaa T _ _ c192.eq_1
def z22(a0:AV)(H:List AO):=ff (vs:=[a0]) t192 rfl H
theorem t193:T (zq6)=some e193:=by kernel_rfl
@[go_sem]def a193:=@zaa T _ _ c193.eq_1
def z8v(a0:AV)(H:List AO):=ff (vs:=[a0]) t193 rfl H
@[go_sem]def a194:=@zaa T _ _ c194.eq_1
theorem zr7:T (zau)=some (.ext (zv4 1)):=by kernel_rfl
theorem zrv(a0:AV)(H:List AO):F zau [a0] H=zv4 1 [a0] H:=fnF_ext zr7 _ H
theorem t196:T (zo1)=some e196:=by kernel_rfl
@[go_sem]def ye0:=@zaa T _ _ zew.eq_1
@[go_sem]theorem zu4:FC.okd zew=true:=by kernel_rfl
@[go_sem]def yey:=@zaa T _ _ zev.eq_1
@[go_sem]theorem zu2:FC.okd zev=true:=by kernel_rfl
@[go_sem]def a196:=@zaa T _ _ c196.eq_1
def z5m(a0 a1:AV)(H:List AO):=ff (vs:=[a0,a1]) t196 rfl H
@[go_sem]def al197_0:=@zaa T _ _ yj3.eq_1
@[go_sem]def a197:=@zaa T _ _ c197.eq_1
theorem t198:T (zcg)=some e198:=by kernel_rfl
@[go_sem]def al198_0:=@zaa T _ _ yb4.eq_1
@[go_sem]def a198:=@zaa T _ _ c198.eq_1
def zmk(a0 a1:AV)(H:List AO):=ff (vs:=[a0,a1]) t198 rfl H
noncomputable def zbm(H h:List AO)(x0 x1 x7 x8:AV):Option RH:=awL T [0,1,7,8] [] yb4 (zao 0 (thn (aw T (A ygl 7 .ret) (zah H [.t 4])) (zah H [.t 4]))) ⟨⟨19,[(0,.v x0),(1,.v x1),(7,.v x7),(8,.v x8)]⟩,[],h,[]⟩
@[go_sem]def g_slices_IndexFunc_Clause_0(H h x0 x1 x7 x8):=(zbm.eq_1 H h x0 x1 x7 x8).symm
theorem t199:T (zhh)=some e199:=by kernel_rfl
@[go_sem]def al199_0:=@zaa T _ _ yb3.eq_1
@[go_sem]def al199_1:=@zaa T _ _ z1w.eq_1
@[go_sem]def a199:=@zaa T _ _ c199.eq_1
def zwt(a0 a1:AV)(H:List AO):=ff (vs:=[a0,a1]) t199 rfl H
noncomputable def zg2(H h:List AO)(x0 x3 x7 x8 x9 x20 x21 x22:AV):Option RH:=awL T [0,3,7,8,9,20,21,22] [] yb3 (zao 2 (zao 1 (thn (aw T (.reg (R yfn 8)) (thn (zc9 T [0,7,8,9] [] z1w (zao 0 (zah H []))) (zao 0 (zah H [])))) (thn (zc9 T [0,7,8,9] [] z1w (zao 0 (zah H []))) (zao 0 (zah H [])))))) ⟨⟨33,[(0,.v x0),(3,.v x3),(7,.v x7),(8,.v x8),(9,.v x9),(20,.v x20),(21,.v x21),(22,.v x22)]⟩,[],h,[]⟩
@[go_sem]def g_horn_atoms_1_0(H h x0 x3 x7 x8 x9 x20 x21 x22):=(zg2.eq_1 H h x0 x3 x7 x8 x9 x20 x21 x22).symm
noncomputable def ze9(H h:List AO)(x0 x7 x8 x9:AV):Option RH:=awL T [0,7,8,9] [] z1w (zao 0 (zah H [])) ⟨⟨33,[(0,.v x0),(7,.v x7),(8,.v x8),(9,.v x9)]⟩,[],h,[]⟩
@[go_sem]def g_horn_atoms_1_1(H h x0 x7 x8 x9):=(ze9.eq_1 H h x0 x7 x8 x9).symm
theorem t200:T (zd3)=some e200:=by kernel_rfl
@[go_sem]def al200_0:=@zaa T _ _ yb2.eq_1
@[go_sem]def al200_1:=@zaa T _ _ z62.eq_1
@[go_sem]def a200:=@zaa T _ _ c200.eq_1
def zp7(a0:AV)(H:List AO):=ff (vs:=[a0]) t200 rfl H
noncomputable def zdw(H h:List AO)(x0 x3 x9 x10 x11:AV):Option RH:=awL T [0,3,9,10,11] [] yb2 (zao 0 (thn (aw T (A zw9 9 (.seq (A zw9 10 (.block 2 (.loop [6,25,26,27] [] z62))) (A zw9 15 .ret))) (zah H [.t 2])) (zah H [.t 2]))) ⟨⟨36,[(0,.v x0),(3,.v x3),(9,.v x9),(10,.v x10),(11,.v x11)]⟩,[],h,[]⟩
@[go_sem]def g_slices_Concat_Atom_0(H h x0 x3 x9 x10 x11):=(zdw.eq_1 H h x0 x3 x9 x10 x11).symm
noncomputable def zdv(H h:List AO)(x6 x25 x26 x27:AV):Option RH:=awL T [6,25,26,27] [] z62 (zao 2 (thn (aw T (A zw9 15 .ret) (zah H [.t 2])) (zah H [.t 2]))) ⟨⟨36,[(6,.v x6),(25,.v x25),(26,.v x26),(27,.v x27)]⟩,[],h,[]⟩
@[go_sem]def g_slices_Concat_Atom_1(H h x6 x25 x26 x27):=(zdv.eq_1 H h x6 x25 x26 x27).symm
theorem t201:T (zbu)=some e201:=by kernel_rfl
@[go_sem]def al201_0:=@zaa T _ _ yb1.eq_1
@[go_sem]def a201:=@zaa T _ _ c201.eq_1
def zoc(a0 a1 a2:AV)(H:List AO):=ff (vs:=[a0,a1,a2]) t201 rfl H
noncomputable def zb7(H h:List AO)(x0 x1 x2:AV):Option RH:=awL T [0,1,2] [] yb1 (zao 0 (zah H [])) ⟨⟨11,[(0,.v x0),(1,.v x1),(2,.v x2)]⟩,[],h,[]⟩
@[go_sem]def g_solve_model_rounds_1_0(H h x0 x1 x2):=(zb7.eq_1 H h x0 x1 x2).symm
theorem t202:T (zel)=some e202:=by kernel_rfl
@[go_sem]def al202_0:=@zaa T _ _ yb0.eq_1
@[go_sem]def a202:=@zaa T _ _ c202.eq_1
def zqs(a0 a1:AV)(H:List AO):=ff (vs:=[a0,a1]) t202 rfl H
theorem t203:T (zf5)=some e203:=by kernel_rfl
@[go_sem]def a203:=@zaa T _ _ c203.eq_1
def zvs(a0 a1:AV)(H:List AO):=ff (vs:=[a0,a1]) t203 rfl H
theorem t204:T (ze2)=some e204:=by kernel_rfl
@[go_sem]def a204:=@zaa T _ _ c204.eq_1
def zru(a0 a1:AV)(H:List AO):=ffK (vs:=[a0,a1]) t204 rfl H
theorem t205:T (zo2)=some e205:=by kernel_rfl
@[go_sem]def a205:=@zaa T _ _ c205.eq_1
def z5n(a0 a1:AV)(H:List AO):=ff (vs:=[a0,a1]) t205 rfl H
@[go_sem]def a206:=@zaa T _ _ c206.eq_1
theorem t207:T (zfs)=some e207:=by kernel_rfl
@[go_sem]def a207:=@zaa T _ _ c207.eq_1
def zsy(a0 a1:AV)(H:List AO):=ff (vs:=[a0,a1]) t207 rfl H
theorem t208:T (zi2)=some e208:=by kernel_rfl
@[go_sem]def a208:=@zaa T _ _ c208.eq_1
def zz7(a0 a1 a2:AV)(H:List AO):=ff (vs:=[a0,a1,a2]) t208 rfl H
theorem t209:T (zds)=some e209:=by kernel_rfl
@[go_sem]def al209_0:=@zaa T _ _ ybz.eq_1
@[go_sem]def a209:=@zaa T _ _ c209.eq_1
def zo8(a0 a1:AV)(H:List AO):=ff (vs:=[a0,a1]) t209 rfl H
noncomputable def zck(H h:List AO)(x0 x1 x6:AV)(v4 v5:List AV):Option RH:=awL T [0,1,4,5,6] [4,5] ybz (zao 0 (thn (aw T (A ya2 9 .ret) (zah H [.c 2 true 4])) (zah H [.c 2 true 4]))) ⟨⟨33,[(0,.v x0),(1,.v x1),(4,.lp 4 0),(5,.lp 5 0),(6,.v x6)]⟩,[(4,v4),(5,v5)],h,[]⟩
@[go_sem]def g_slices_MinFunc_Atom_0(H h x0 x1 x6 v4 v5):=(zck.eq_1 H h x0 x1 x6 v4 v5).symm
theorem t210:T (zaz+1000000)=some e210:=by kernel_rfl
@[go_sem]def ztm:=@zaa T _ _ zas.eq_1
@[go_sem]theorem zjs:FC.okd zas=true:=by kernel_rfl
@[go_sem]def ztl:=@zaa T _ _ zar.eq_1
@[go_sem]theorem zjr:FC.okd zar=true:=by kernel_rfl
@[go_sem]def a210:=@zaa T _ _ c210.eq_1
def zl1(a0 a1:AV)(H:List AO):=ffA (vs:=[a0,a1]) t210 rfl H
theorem t211:T (zbi+1000000)=some e211:=by kernel_rfl
@[go_sem]def a211:=@zaa T _ _ c211.eq_1
def znf(a0:AV)(H:List AO):=ffA (vs:=[a0]) t211 rfl H
theorem zq2:T (zau+1000000)=some (.alx (ztj 1)):=by kernel_rfl
theorem zlr(a0:AV)(H:List AO):FK zau [a0] H=ztj 1 [a0] H:=fkF_ext zq2 _ H
theorem t213:T (zb4+1000000)=some e213:=by kernel_rfl
@[go_sem]def al213_0:=@zaa T _ _ yby.eq_1
@[go_sem]def a213:=@zaa T _ _ c213.eq_1
def zp6(a0 a1:AV)(H:List AO):=ffA (vs:=[a0,a1]) t213 rfl H
noncomputable def zag(H h:List AO)(x7 x8:AV):Option RH:=awL T [7,8] [] yby (zao 0 (thn (aw T (A z9v 10 .ret) (zi5 H [.t 4])) (zi5 H [.t 4]))) ⟨⟨48,[(7,.v x7),(8,.v x8)]⟩,[],h,[]⟩
@[go_sem]def g_slices_Repeat_intK_0(H h x7 x8):=(zag.eq_1 H h x7 x8).symm
theorem t214:T (zhk+1000000)=some e214:=by kernel_rfl
@[go_sem]def a214:=@zaa T _ _ c214.eq_1
def zz8(a0 a1:AV)(H:List AO):=ffA (vs:=[a0,a1]) t214 rfl H
theorem t215:T (zfw+1000000)=some e215:=by kernel_rfl
@[go_sem]def al215_0:=@zaa T _ _ ybx.eq_1
@[go_sem]def al215_1:=@zaa T _ _ z1v.eq_1
@[go_sem]def a215:=@zaa T _ _ c215.eq_1
def ztg(a0 a1:AV)(H:List AO):=ffA (vs:=[a0,a1]) t215 rfl H
noncomputable def zed(H h:List AO)(x16 x17 x18 x29 x30 x31:AV)(v4 v5:List AV):Option RH:=awL T [4,5,16,17,18,29,30,31] [4,5] ybx (zao 2 (zao 1 (thn (aw T (.reg (R zyl 11)) (thn (zc9 T [4,5,16,17,18] [4,5] z1v (zao 0 (thn (aw T (A zyl 12 .ret) (zi5 H [.c 2 true 4])) (zi5 H [.c 2 true 4])))) (zao 0 (thn (aw T (A zyl 12 .ret) (zi5 H [.c 2 true 4])) (zi5 H [.c 2 true 4]))))) (thn (zc9 T [4,5,16,17,18] [4,5] z1v (zao 0 (thn (aw T (A zyl 12 .ret) (zi5 H [.c 2 true 4])) (zi5 H [.c 2 true 4])))) (zao 0 (thn (aw T (A zyl 12 .ret) (zi5 H [.c 2 true 4])) (zi5 H [.c 2 true 4]))))))) ⟨⟨50,[(4,.lp 4 0),(5,.lp 5 0),(16,.v x16),(17,.v x17),(18,.v x18),(29,.v x29),(30,.v x30),(31,.v x31)]⟩,[(4,v4),(5,v5)],h,[]⟩
@[go_sem]def g_flat_joinK_0(H h x16 x17 x18 x29 x30 x31 v4 v5):=(zed.eq_1 H h x16 x17 x18 x29 x30 x31 v4 v5).symm
noncomputable def zb0(H h:List AO)(x16 x17 x18:AV)(v4 v5:List AV):Option RH:=awL T [4,5,16,17,18] [4,5] z1v (zao 0 (thn (aw T (A zyl 12 .ret) (zi5 H [.c 2 true 4])) (zi5 H [.c 2 true 4]))) ⟨⟨50,[(4,.lp 4 0),(5,.lp 5 0),(16,.v x16),(17,.v x17),(18,.v x18)]⟩,[(4,v4),(5,v5)],h,[]⟩
@[go_sem]def g_flat_joinK_1(H h x16 x17 x18 v4 v5):=(zb0.eq_1 H h x16 x17 x18 v4 v5).symm
theorem t216:T (zfv+1000000)=some e216:=by kernel_rfl
@[go_sem]def a216:=@zaa T _ _ c216.eq_1
def z8y(a0 a1:AV)(H:List AO):=ffA (vs:=[a0,a1]) t216 rfl H
theorem t217:T (zcf+1000000)=some e217:=by kernel_rfl
@[go_sem]def a217:=@zaa T _ _ c217.eq_1
def zo7(a0 a1:AV)(H:List AO):=ffA (vs:=[a0,a1]) t217 rfl H
theorem t218:T (zfc+1000000)=some e218:=by kernel_rfl
@[go_sem]def al218_0:=@zaa T _ _ ybw.eq_1
@[go_sem]def a218:=@zaa T _ _ c218.eq_1
def zzw(a0 a1:AV)(H:List AO):=ffA (vs:=[a0,a1]) t218 rfl H
noncomputable def zid(H h:List AO)(x1 x6:AV)(v4 v5:List AV):Option RH:=awL T [1,4,5,6] [4,5] ybw (zao 0 (thn (aw T (A yjh 6 .ret) (zi5 H [.c 2 true 4])) (zi5 H [.c 2 true 4]))) ⟨⟨20,[(1,.v x1),(4,.lp 4 0),(5,.lp 5 0),(6,.v x6)]⟩,[(4,v4),(5,v5)],h,[]⟩
@[go_sem]def g_ref06_noneK_0(H h x1 x6 v4 v5):=(zid.eq_1 H h x1 x6 v4 v5).symm
end Go.Ab
end
