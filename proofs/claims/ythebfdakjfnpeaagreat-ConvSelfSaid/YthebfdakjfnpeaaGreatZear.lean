/- What the law ConvSelf of layer 17 comes to, part 18. Conditions: none. -/
import Derived.Test.YthebfdakjfnpeaaGreatZeaq
section
set_option linter.unusedVariables false
set_option linter.defProp false
set_option maxRecDepth 100000
namespace Go.Ab
open Go.RowKit Go.Proofs
theorem t4:T (zgd)=some e4:=by kernel_rfl
@[go_sem]def a4:=@zaa T _ _ c4.eq_1
def zth(a0 a1 a2:AV)(H:List AO):=ff (vs:=[a0,a1,a2]) t4 rfl H
theorem t6:T (zjb)=some e6:=by kernel_rfl
@[go_sem]def a6:=@zaa T _ _ c6.eq_1
def zwc(a0 a1 a2:AV)(H:List AO):=ff (vs:=[a0,a1,a2]) t6 rfl H
theorem t7:T (zgz)=some e7:=by kernel_rfl
@[go_sem]def a7:=@zaa T _ _ c7.eq_1
def z14(a0 a1 a2:AV)(H:List AO):=ff (vs:=[a0,a1,a2]) t7 rfl H
theorem t8:T (zmm)=some e8:=by kernel_rfl
@[go_sem]def a8:=@zaa T _ _ c8.eq_1
def z15(a0 a1 a2:AV)(H:List AO):=ff (vs:=[a0,a1,a2]) t8 rfl H
theorem t9:T (zky)=some e9:=by kernel_rfl
@[go_sem]def a9:=@zaa T _ _ c9.eq_1
def zzn(H:List AO):=ff (vs:=[]) t9 rfl H
theorem t11:T (zic)=some e11:=by kernel_rfl
@[go_sem]def al11_0:=@zaa T _ _ l11_0.eq_1
@[go_sem]def a11:=@zaa T _ _ c11.eq_1
def zzb(a0 a1:AV)(H:List AO):=ff (vs:=[a0,a1]) t11 rfl H
noncomputable def zhr(H h:List AO)(x1 x5 x6:AV)(v2:List AV):Option RH:=awL T [1,2,5,6] [2] l11_0 (za5 0 (thn (aw T (A q11 6 .ret) (zam H [.t 4])) (zam H [.t 4]))) ⟨⟨31,[(1,.v x1),(2,.lp 2 0),(5,.v x5),(6,.v x6)]⟩,[(2,v2)],h,[]⟩
@[go_sem]def g_ref13_Parts_0(H h x1 x5 x6 v2):=(zhr.eq_1 H h x1 x5 x6 v2).symm
theorem t12:T (zfi)=some e12:=by kernel_rfl
@[go_sem]def a12:=@zaa T _ _ c12.eq_1
def z17(a0:AV)(H:List AO):=ff (vs:=[a0]) t12 rfl H
theorem t13:T (zfj)=some e13:=by kernel_rfl
@[go_sem]def a13:=@zaa T _ _ c13.eq_1
def z18(a0 a1:AV)(H:List AO):=ff (vs:=[a0,a1]) t13 rfl H
theorem t15:T (zgv)=some e15:=by kernel_rfl
@[go_sem]def a15:=@zaa T _ _ c15.eq_1
def zpz(a0 a1 a2:AV)(H:List AO):=ff (vs:=[a0,a1,a2]) t15 rfl H
theorem t16:T (zd4)=some e16:=by kernel_rfl
@[go_sem]def a16:=@zaa T _ _ c16.eq_1
def zvg(a0 a1 a2 a3 a4:AV)(H:List AO):=ff (vs:=[a0,a1,a2,a3,a4]) t16 rfl H
theorem t17:T (zfu)=some e17:=by kernel_rfl
@[go_sem]def a17:=@zaa T _ _ c17.eq_1
def zza(a0 a1 a2 a3:AV)(H:List AO):=ff (vs:=[a0,a1,a2,a3]) t17 rfl H
theorem t19:T (zog)=some e19:=by kernel_rfl
@[go_sem]def al19_0:=@zaa T _ _ l19_0.eq_1
@[go_sem]def a19:=@zaa T _ _ c19.eq_1
def z4t(a0:AV)(H:List AO):=ff (vs:=[a0]) t19 rfl H
noncomputable def zhz(H h:List AO)(x0 x3 x4:AV):Option RH:=awL T [0,3,4] [] l19_0 (za5 0 (thn (aw T (A q19 6 .ret) (zam H [.t 2])) (zam H [.t 2]))) ⟨⟨27,[(0,.v x0),(3,.v x3),(4,.v x4)]⟩,[],h,[]⟩
@[go_sem]def g_law16_Env_0(H h x0 x3 x4):=(zhz.eq_1 H h x0 x3 x4).symm
theorem t20:T (zmn)=some e20:=by kernel_rfl
@[go_sem]def al20_0:=@zaa T _ _ l20_0.eq_1
@[go_sem]def a20:=@zaa T _ _ c20.eq_1
def z19(a0 a1 a2:AV)(H:List AO):=ff (vs:=[a0,a1,a2]) t20 rfl H
noncomputable def zi1(H h:List AO)(x0 x1 x7 x8:AV):Option RH:=awL T [0,1,7,8] [] l20_0 (za5 0 (thn (aw T (A q20 6 .ret) (zam H [.t 6])) (zam H [.t 6]))) ⟨⟨28,[(0,.v x0),(1,.v x1),(7,.v x7),(8,.v x8)]⟩,[],h,[]⟩
@[go_sem]def g_law12_Cons_0(H h x0 x1 x7 x8):=(zi1.eq_1 H h x0 x1 x7 x8).symm
theorem t21:T (zdk)=some e21:=by kernel_rfl
@[go_sem]def al21_0:=@zaa T _ _ l21_0.eq_1
@[go_sem]def a21:=@zaa T _ _ c21.eq_1
def zsy(a0 a1 a2:AV)(H:List AO):=ff (vs:=[a0,a1,a2]) t21 rfl H
noncomputable def zi0(H h:List AO)(x0 x9:AV)(v6 v8:List AV):Option RH:=awL T [0,6,8,9] [6,8] l21_0 (za5 1 (thn (aw T (A q21 14 .ret) (za5 0 (thn (aw T (A q21 21 .ret) (zam H [.c 4 true 6])) (zam H [.c 4 true 6])))) (za5 0 (thn (aw T (A q21 21 .ret) (zam H [.c 4 true 6])) (zam H [.c 4 true 6]))))) ⟨⟨118,[(0,.v x0),(6,.lp 6 0),(8,.lp 8 0),(9,.v x9)]⟩,[(6,v6),(8,v8)],h,[]⟩
@[go_sem]def g_law13_Term_0(H h x0 x9 v6 v8):=(zi0.eq_1 H h x0 x9 v6 v8).symm
theorem t22:T (zii)=some e22:=by kernel_rfl
@[go_sem]def al22_0:=@zaa T _ _ l22_0.eq_1
@[go_sem]def al22_1:=@zaa T _ _ ygg.eq_1
@[go_sem]def a22:=@zaa T _ _ c22.eq_1
def zzm(a0 a1:AV)(H:List AO):=ff (vs:=[a0,a1]) t22 rfl H
noncomputable def zhy(H h:List AO)(x6:AV)(v2 v3 v4 v5:List AV):Option RH:=awL T [2,3,4,5,6] [2,3,4,5] l22_0 (za5 0 (thn (aw T (.seq (A q22 9 (.block 2 (.loop [2,3,4,5,8] [2,3,4,5] ygg))) (A q22 13 .ret)) (zam H [.c 4 true 4])) (zam H [.c 4 true 4]))) ⟨⟨55,[(2,.lp 2 0),(3,.lp 3 0),(4,.lp 4 0),(5,.lp 5 0),(6,.v x6)]⟩,[(2,v2),(3,v3),(4,v4),(5,v5)],h,[]⟩
@[go_sem]def g_law17_plain_0(H h x6 v2 v3 v4 v5):=(zhy.eq_1 H h x6 v2 v3 v4 v5).symm
noncomputable def zhx(H h:List AO)(x8:AV)(v2 v3 v4 v5:List AV):Option RH:=awL T [2,3,4,5,8] [2,3,4,5] ygg (za5 2 (thn (aw T (A q22 13 .ret) (zam H [.c 4 true 4])) (zam H [.c 4 true 4]))) ⟨⟨55,[(2,.lp 2 0),(3,.lp 3 0),(4,.lp 4 0),(5,.lp 5 0),(8,.v x8)]⟩,[(2,v2),(3,v3),(4,v4),(5,v5)],h,[]⟩
@[go_sem]def g_law17_plain_1(H h x8 v2 v3 v4 v5):=(zhx.eq_1 H h x8 v2 v3 v4 v5).symm
theorem t23:T (zmf)=some e23:=by kernel_rfl
@[go_sem]def a23:=@zaa T _ _ c23.eq_1
def z1x(a0 a1 a2:AV)(H:List AO):=ff (vs:=[a0,a1,a2]) t23 rfl H
theorem t24:T (zkz)=some e24:=by kernel_rfl
@[go_sem]def a24:=@zaa T _ _ c24.eq_1
def z4u(a0:AV)(H:List AO):=ff (vs:=[a0]) t24 rfl H
theorem t25:T (zai)=some e25:=by kernel_rfl
@[go_sem]def a25:=@zaa T _ _ c25.eq_1
def zrd(a0 a1:AV)(H:List AO):=ff (vs:=[a0,a1]) t25 rfl H
theorem t26:T (zj8)=some e26:=by kernel_rfl
@[go_sem]def al26_0:=@zaa T _ _ l26_0.eq_1
@[go_sem]def a26:=@zaa T _ _ c26.eq_1
def z13(a0:AV)(H:List AO):=ff (vs:=[a0]) t26 rfl H
noncomputable def ziz(H h:List AO)(x4:AV)(v1 v2 v3:List AV):Option RH:=awL T [1,2,3,4] [1,2,3] l26_0 (za5 0 (thn (aw T (A q26 8 .ret) (zam H [.c 4 true 2])) (zam H [.c 4 true 2]))) ⟨⟨38,[(1,.lp 1 0),(2,.lp 2 0),(3,.lp 3 0),(4,.v x4)]⟩,[(1,v1),(2,v2),(3,v3)],h,[]⟩
@[go_sem]def g_law17_succ_0(H h x4 v1 v2 v3):=(ziz.eq_1 H h x4 v1 v2 v3).symm
theorem t27:T (zil)=some e27:=by kernel_rfl
@[go_sem]def a27:=@zaa T _ _ c27.eq_1
def z2c(a0:AV)(H:List AO):=ff (vs:=[a0]) t27 rfl H
theorem t31:T (zko)=some e31:=by kernel_rfl
@[go_sem]def al31_0:=@zaa T _ _ l31_0.eq_1
@[go_sem]def a31:=@zaa T _ _ c31.eq_1
def zy4(a0:AV)(H:List AO):=ff (vs:=[a0]) t31 rfl H
noncomputable def zhn(H h:List AO)(x0 x3:AV):Option RH:=awL T [0,3] [] l31_0 (za5 0 (thn (aw T (A q31 6 .ret) (zam H [.t 2])) (zam H [.t 2]))) ⟨⟨20,[(0,.v x0),(3,.v x3)]⟩,[],h,[]⟩
@[go_sem]def g_ref16_Right_0(H h x0 x3):=(zhn.eq_1 H h x0 x3).symm
theorem t32:T (zdm)=some e32:=by kernel_rfl
@[go_sem]def a32:=@zaa T _ _ c32.eq_1
def zy9(a0:AV)(H:List AO):=ff (vs:=[a0]) t32 rfl H
theorem t33:T (za2)=some e33:=by kernel_rfl
@[go_sem]def al33_0:=@zaa T _ _ l33_0.eq_1
@[go_sem]def a33:=@zaa T _ _ c33.eq_1
def zpq(a0 a1:AV)(H:List AO):=ff (vs:=[a0,a1]) t33 rfl H
noncomputable def zac(H h:List AO)(x0:AV)(v3 v4:List AV):Option RH:=awL T [0,3,4] [3,4] l33_0 (za5 0 (thn (aw T (A q33 15 .ret) (zam H [.c 4 true 4])) (zam H [.c 4 true 4]))) ⟨⟨96,[(0,.v x0),(3,.lp 3 0),(4,.lp 4 0)]⟩,[(3,v3),(4,v4)],h,[]⟩
@[go_sem]def g_ref16_Machine_Head_0(H h x0 v3 v4):=(zac.eq_1 H h x0 v3 v4).symm
theorem t34:T (zgt)=some e34:=by kernel_rfl
@[go_sem]def a34:=@zaa T _ _ c34.eq_1
def z1q(a0 a1 a2 a3:AV)(H:List AO):=ff (vs:=[a0,a1,a2,a3]) t34 rfl H
theorem t35:T (zrf)=some e35:=by kernel_rfl
@[go_sem]def a35:=@zaa T _ _ c35.eq_1
def z8d(a0 a1:AV)(H:List AO):=ffK (vs:=[a0,a1]) t35 rfl H
theorem t36:T (za9)=some e36:=by kernel_rfl
@[go_sem]def a36:=@zaa T _ _ c36.eq_1
def zak(a0 a1 a2 a3:AV)(H:List AO):=ff (vs:=[a0,a1,a2,a3]) t36 rfl H
theorem t37:T (zgq)=some e37:=by kernel_rfl
@[go_sem]def al37_0:=@zaa T _ _ l37_0.eq_1
@[go_sem]def a37:=@zaa T _ _ c37.eq_1
def zy6(a0 a1 a2 a3 a4:AV)(H:List AO):=ff (vs:=[a0,a1,a2,a3,a4]) t37 rfl H
noncomputable def zhp(H h:List AO)(x1 x2 x3 x4 x11:AV)(v5:List AV):Option RH:=awL T [1,2,3,4,5,11] [5] l37_0 (za5 0 (thn (aw T (A q37 8 .ret) (zam H [.t 10])) (zam H [.t 10]))) ⟨⟨55,[(1,.v x1),(2,.v x2),(3,.v x3),(4,.v x4),(5,.lp 5 0),(11,.v x11)]⟩,[(5,v5)],h,[]⟩
@[go_sem]def g_ref13_right_0(H h x1 x2 x3 x4 x11 v5):=(zhp.eq_1 H h x1 x2 x3 x4 x11 v5).symm
theorem t38:T (zkq)=some e38:=by kernel_rfl
@[go_sem]def al38_0:=@zaa T _ _ l38_0.eq_1
@[go_sem]def a38:=@zaa T _ _ c38.eq_1
def zzc(a0 a1:AV)(H:List AO):=ff (vs:=[a0,a1]) t38 rfl H
noncomputable def zhs(H h:List AO)(x0 x1 x5:AV):Option RH:=awL T [0,1,5] [] l38_0 (za5 0 (thn (aw T (A q38 6 .ret) (zam H [.t 4])) (zam H [.t 4]))) ⟨⟨41,[(0,.v x0),(1,.v x1),(5,.v x5)]⟩,[],h,[]⟩
@[go_sem]def g_ref12_Right_0(H h x0 x1 x5):=(zhs.eq_1 H h x0 x1 x5).symm
theorem t39:T (zd3)=some e39:=by kernel_rfl
@[go_sem]def a39:=@zaa T _ _ c39.eq_1
def zzf(a0 a1 a2:AV)(H:List AO):=ff (vs:=[a0,a1,a2]) t39 rfl H
theorem t45:T (zj9)=some e45:=by kernel_rfl
@[go_sem]def al45_0:=@zaa T _ _ l45_0.eq_1
@[go_sem]def a45:=@zaa T _ _ c45.eq_1
def z16(a0 a1:AV)(H:List AO):=ff (vs:=[a0,a1]) t45 rfl H
noncomputable def zen(H h:List AO)(x0 x1 x6:AV)(v4 v5:List AV):Option RH:=awL T [0,1,4,5,6] [4,5] l45_0 (za5 0 (thn (aw T (A q45 6 (.seq (A q45 7 (.cond (.t 38) (A q45 8 (.reg (R q45 9))) .skip)) (A q45 10 .ret))) (zam H [.c 11 true 4])) (zam H [.c 11 true 4]))) ⟨⟨47,[(0,.v x0),(1,.v x1),(4,.lp 4 0),(5,.lp 5 0),(6,.v x6)]⟩,[(4,v4),(5,v5)],h,[]⟩
@[go_sem]def g_law16_Decl_0(H h x0 x1 x6 v4 v5):=(zen.eq_1 H h x0 x1 x6 v4 v5).symm
theorem t46:T (zae)=some e46:=by kernel_rfl
@[go_sem]def a46:=@zaa T _ _ c46.eq_1
def zk4(a0 a1 a2 a3:AV)(H:List AO):=ff (vs:=[a0,a1,a2,a3]) t46 rfl H
theorem t47:T (zf6)=some e47:=by kernel_rfl
@[go_sem]def al47_0:=@zaa T _ _ l47_0.eq_1
@[go_sem]def a47:=@zaa T _ _ c47.eq_1
def zvf(a0:AV)(H:List AO):=ff (vs:=[a0]) t47 rfl H
noncomputable def zf9(H h:List AO)(x3:AV)(v1:List AV):Option RH:=awL T [1,3] [1] l47_0 (za5 0 (thn (aw T (A q47 6 .ret) (zam H [.t 2])) (zam H [.t 2]))) ⟨⟨20,[(1,.lp 1 0),(3,.v x3)]⟩,[(1,v1)],h,[]⟩
@[go_sem]def g_law17_unknown_0(H h x3 v1):=(zf9.eq_1 H h x3 v1).symm
theorem t48:T (zib)=some e48:=by kernel_rfl
@[go_sem]def al48_0:=@zaa T _ _ l48_0.eq_1
@[go_sem]def a48:=@zaa T _ _ c48.eq_1
def z1t(a0 a1 a2:AV)(H:List AO):=ff (vs:=[a0,a1,a2]) t48 rfl H
noncomputable def ziv(H h:List AO)(x1 x2 x8:AV)(v3 v6 v7:List AV):Option RH:=awL T [1,2,3,6,7,8] [3,6,7] l48_0 (za5 0 (thn (aw T (A q48 8 .ret) (zam H [.c 4 true 6])) (zam H [.c 4 true 6]))) ⟨⟨56,[(1,.v x1),(2,.v x2),(3,.lp 3 0),(6,.lp 6 0),(7,.lp 7 0),(8,.v x8)]⟩,[(3,v3),(6,v6),(7,v7)],h,[]⟩
@[go_sem]def g_ref13_lift_0(H h x1 x2 x8 v3 v6 v7):=(ziv.eq_1 H h x1 x2 x8 v3 v6 v7).symm
theorem t49:T (zi6)=some e49:=by kernel_rfl
@[go_sem]def al49_0:=@zaa T _ _ l49_0.eq_1
@[go_sem]def a49:=@zaa T _ _ c49.eq_1
def zwb(a0:AV)(H:List AO):=ff (vs:=[a0]) t49 rfl H
noncomputable def zgk(H h:List AO)(x0 x6 x7 x8:AV):Option RH:=awL T [0,6,7,8] [] l49_0 (za5 0 (thn (aw T (A q49 10 .ret) (zam H [.t 2])) (zam H [.t 2]))) ⟨⟨48,[(0,.v x0),(6,.v x6),(7,.v x7),(8,.v x8)]⟩,[],h,[]⟩
@[go_sem]def g_reduce_Right_0(H h x0 x6 x7 x8):=(zgk.eq_1 H h x0 x6 x7 x8).symm
theorem t50:T (zgn)=some e50:=by kernel_rfl
@[go_sem]def a50:=@zaa T _ _ c50.eq_1
def zyv(a0 a1:AV)(H:List AO):=ff (vs:=[a0,a1]) t50 rfl H
theorem t53:T (zj6)=some e53:=by kernel_rfl
@[go_sem]def al53_0:=@zaa T _ _ l53_0.eq_1
@[go_sem]def a53:=@zaa T _ _ c53.eq_1
def z1z(a0 a1:AV)(H:List AO):=ff (vs:=[a0,a1]) t53 rfl H
noncomputable def ziy(H h:List AO)(x5:AV)(v2 v3:List AV):Option RH:=awL T [2,3,5] [2,3] l53_0 (za5 0 (thn (aw T (A q53 8 .ret) (zam H [.t 4])) (zam H [.t 4]))) ⟨⟨46,[(2,.lp 2 0),(3,.lp 3 0),(5,.v x5)]⟩,[(2,v2),(3,v3)],h,[]⟩
@[go_sem]def g_ref02_Same_0(H h x5 v2 v3):=(ziy.eq_1 H h x5 v2 v3).symm
theorem t54:T (zmc)=some e54:=by kernel_rfl
@[go_sem]def a54:=@zaa T _ _ c54.eq_1
def z1r(a0 a1:AV)(H:List AO):=ff (vs:=[a0,a1]) t54 rfl H
theorem t55:T (zcu)=some e55:=by kernel_rfl
@[go_sem]def a55:=@zaa T _ _ c55.eq_1
def zps(a0:AV)(H:List AO):=ff (vs:=[a0]) t55 rfl H
theorem t56:T (zc7)=some e56:=by kernel_rfl
@[go_sem]def a56:=@zaa T _ _ c56.eq_1
def zqd(a0 a1 a2:AV)(H:List AO):=ff (vs:=[a0,a1,a2]) t56 rfl H
theorem t57:T (zj5)=some e57:=by kernel_rfl
@[go_sem]def a57:=@zaa T _ _ c57.eq_1
def z1w(a0 a1:AV)(H:List AO):=ff (vs:=[a0,a1]) t57 rfl H
theorem t58:T (zdh)=some e58:=by kernel_rfl
@[go_sem]def a58:=@zaa T _ _ c58.eq_1
def znk(a0 a1:AV)(H:List AO):=ff (vs:=[a0,a1]) t58 rfl H
theorem t59:T (zn9)=some e59:=by kernel_rfl
@[go_sem]def a59:=@zaa T _ _ c59.eq_1
def z4o(a0 a1 a2:AV)(H:List AO):=ff (vs:=[a0,a1,a2]) t59 rfl H
theorem t60:T (zda)=some e60:=by kernel_rfl
@[go_sem]def a60:=@zaa T _ _ c60.eq_1
def ztg(a0 a1:AV)(H:List AO):=ff (vs:=[a0,a1]) t60 rfl H
theorem t61:T (zaj)=some e61:=by kernel_rfl
@[go_sem]def a61:=@zaa T _ _ c61.eq_1
def zot(a0:AV)(H:List AO):=ff (vs:=[a0]) t61 rfl H
theorem t62:T (zaw)=some e62:=by kernel_rfl
@[go_sem]def al62_0:=@zaa T _ _ l62_0.eq_1
@[go_sem]def zwi:=@zaa T _ _ za1.eq_1
@[go_sem]theorem zlr:FC.okd za1=true:=by kernel_rfl
@[go_sem]def zwh:=@zaa T _ _ zaz.eq_1
@[go_sem]theorem zlq:FC.okd zaz=true:=by kernel_rfl
@[go_sem]def a62:=@zaa T _ _ c62.eq_1
def zor(a0 a1:AV)(H:List AO):=ff (vs:=[a0,a1]) t62 rfl H
noncomputable def zan(H h:List AO)(ds:List Nat)(x0 x5 x6:AV)(v4:List AV):Option RH:=awL T [0,4,5,6] [4] l62_0 (za5 0 (thn (aw T (.seq (A q62 6 (.block 2 (.rf (.t 43) [44,45] [5] za1 zaz))) (A q62 9 .ret)) (zam H [.c 4 true 4])) (zam H [.c 4 true 4]))) ⟨⟨60,[(0,.v x0),(4,.lp 4 0),(5,.v x5),(6,.v x6)]⟩,[(4,v4)],h,ds⟩
@[go_sem]def g_reduce_Machine_Head_0(H h ds x0 x5 x6 v4):=(zan.eq_1 H h ds x0 x5 x6 v4).symm
theorem t63:T (zc8)=some e63:=by kernel_rfl
@[go_sem]def a63:=@zaa T _ _ c63.eq_1
def zk5(a0 a1:AV)(H:List AO):=ff (vs:=[a0,a1]) t63 rfl H
theorem t64:T (zow)=some e64:=by kernel_rfl
@[go_sem]def a64:=@zaa T _ _ c64.eq_1
def z4x(H:List AO):=ff (vs:=[]) t64 rfl H
theorem t65:T (zme)=some e65:=by kernel_rfl
@[go_sem]def a65:=@zaa T _ _ c65.eq_1
def z1u(a0:AV)(H:List AO):=ff (vs:=[a0]) t65 rfl H
theorem t66:T (zkp)=some e66:=by kernel_rfl
@[go_sem]def al66_0:=@zaa T _ _ l66_0.eq_1
@[go_sem]def a66:=@zaa T _ _ c66.eq_1
def zy7(a0 a1 a2 a3:AV)(H:List AO):=ff (vs:=[a0,a1,a2,a3]) t66 rfl H
noncomputable def zhq(H h:List AO)(x1 x2 x3 x9:AV)(v4:List AV):Option RH:=awL T [1,2,3,4,9] [4] l66_0 (za5 0 (thn (aw T (.seq (A q66 6 (.block 2 (A q66 7 (.cond (.t 28) (A q66 8 .ret) (A q66 9 (.cond (.t 45) (A q66 10 .ret) (A q66 11 (.cond (.t 56) (A q66 12 .ret) .skip)))))))) (A q66 13 .ret)) (zam H [.t 8])) (zam H [.t 8]))) ⟨⟨81,[(1,.v x1),(2,.v x2),(3,.v x3),(4,.lp 4 0),(9,.v x9)]⟩,[(4,v4)],h,[]⟩
@[go_sem]def g_ref13_named_0(H h x1 x2 x3 x9 v4):=(zhq.eq_1 H h x1 x2 x3 x9 v4).symm
theorem t67:T (zgr)=some e67:=by kernel_rfl
@[go_sem]def a67:=@zaa T _ _ c67.eq_1
def zy8(a0 a1:AV)(H:List AO):=ff (vs:=[a0,a1]) t67 rfl H
theorem t68:T (zif)=some e68:=by kernel_rfl
@[go_sem]def al68_0:=@zaa T _ _ l68_0.eq_1
@[go_sem]def a68:=@zaa T _ _ c68.eq_1
def zzg(a0 a1:AV)(H:List AO):=ff (vs:=[a0,a1]) t68 rfl H
noncomputable def zhv(H h:List AO)(x1 x5 x6:AV)(v2:List AV):Option RH:=awL T [1,2,5,6] [2] l68_0 (za5 0 (thn (aw T (A q68 6 .ret) (zam H [.t 4])) (zam H [.t 4]))) ⟨⟨31,[(1,.v x1),(2,.lp 2 0),(5,.v x5),(6,.v x6)]⟩,[(2,v2)],h,[]⟩
@[go_sem]def g_ref02_Nodes_0(H h x1 x5 x6 v2):=(zhv.eq_1 H h x1 x5 x6 v2).symm
theorem t69:T (zie)=some e69:=by kernel_rfl
@[go_sem]def al69_0:=@zaa T _ _ l69_0.eq_1
@[go_sem]def a69:=@zaa T _ _ c69.eq_1
def zze(a0 a1 a2 a3:AV)(H:List AO):=ff (vs:=[a0,a1,a2,a3]) t69 rfl H
noncomputable def zhu(H h:List AO)(x1 x2 x3 x9:AV)(v4:List AV):Option RH:=awL T [1,2,3,4,9] [4] l69_0 (za5 1 (thn (aw T (A q69 13 .ret) (zam H [.t 8])) (zam H [.t 8]))) ⟨⟨66,[(1,.v x1),(2,.v x2),(3,.v x3),(4,.lp 4 0),(9,.v x9)]⟩,[(4,v4)],h,[]⟩
@[go_sem]def g_ref02_right_0(H h x1 x2 x3 x9 v4):=(zhu.eq_1 H h x1 x2 x3 x9 v4).symm
theorem t73:T (zbb)=some e73:=by kernel_rfl
@[go_sem]def al73_0:=@zaa T _ _ l73_0.eq_1
@[go_sem]def a73:=@zaa T _ _ c73.eq_1
def zp0(a0 a1 a2 a3 a4:AV)(H:List AO):=ff (vs:=[a0,a1,a2,a3,a4]) t73 rfl H
noncomputable def zgl(H h:List AO)(x0 x2 x14:AV)(v10 v13:List AV):Option RH:=awL T [0,2,10,13,14] [10,13] l73_0 (za5 1 (thn (aw T (A q73 13 .ret) (za5 0 (thn (aw T (A q73 22 .ret) (zam H [.c 4 true 10])) (zam H [.c 4 true 10])))) (za5 0 (thn (aw T (A q73 22 .ret) (zam H [.c 4 true 10])) (zam H [.c 4 true 10]))))) ⟨⟨152,[(0,.v x0),(2,.v x2),(10,.lp 10 0),(13,.lp 13 0),(14,.v x14)]⟩,[(10,v10),(13,v13)],h,[]⟩
@[go_sem]def g_law16_closed_0(H h x0 x2 x14 v10 v13):=(zgl.eq_1 H h x0 x2 x14 v10 v13).symm
theorem t74:T (zki)=some e74:=by kernel_rfl
@[go_sem]def a74:=@zaa T _ _ c74.eq_1
def z4j(a0 a1:AV)(H:List AO):=ff (vs:=[a0,a1]) t74 rfl H
theorem t75:T (zj7)=some e75:=by kernel_rfl
@[go_sem]def a75:=@zaa T _ _ c75.eq_1
def z10(a0 a1 a2:AV)(H:List AO):=ff (vs:=[a0,a1,a2]) t75 rfl H
theorem t76:T (zf2)=some e76:=by kernel_rfl
@[go_sem]def a76:=@zaa T _ _ c76.eq_1
def zva(a0 a1:AV)(H:List AO):=ff (vs:=[a0,a1]) t76 rfl H
theorem t77:T (zdo)=some e77:=by kernel_rfl
@[go_sem]def a77:=@zaa T _ _ c77.eq_1
def zzl(a0 a1 a2:AV)(H:List AO):=ff (vs:=[a0,a1,a2]) t77 rfl H
theorem t78:T (zby)=some e78:=by kernel_rfl
@[go_sem]def a78:=@zaa T _ _ c78.eq_1
def zlz(a0 a1:AV)(H:List AO):=ff (vs:=[a0,a1]) t78 rfl H
theorem t82:T (zh9)=some e82:=by kernel_rfl
@[go_sem]def al82_0:=@zaa T _ _ l82_0.eq_1
@[go_sem]def a82:=@zaa T _ _ c82.eq_1
def zy3(a0 a1:AV)(H:List AO):=ff (vs:=[a0,a1]) t82 rfl H
noncomputable def zhm(H h:List AO)(x1 x5 x6:AV):Option RH:=awL T [1,5,6] [] l82_0 (za5 0 (thn (aw T (A q82 7 .ret) (zam H [.t 4])) (zam H [.t 4]))) ⟨⟨21,[(1,.v x1),(5,.v x5),(6,.v x6)]⟩,[],h,[]⟩
@[go_sem]def g_ref16_below_0(H h x1 x5 x6):=(zhm.eq_1 H h x1 x5 x6).symm
theorem t83:T (zj4)=some e83:=by kernel_rfl
@[go_sem]def al83_0:=@zaa T _ _ l83_0.eq_1
@[go_sem]def al83_1:=@zaa T _ _ ygf.eq_1
@[go_sem]def a83:=@zaa T _ _ c83.eq_1
def z1v(a0 a1:AV)(H:List AO):=ff (vs:=[a0,a1]) t83 rfl H
noncomputable def zix(H h:List AO)(x5:AV)(v2 v3:List AV):Option RH:=awL T [2,3,5] [2,3] l83_0 (za5 0 (thn (aw T (.seq (A q83 8 (.block 2 (.loop [2,3,6] [2,3] ygf))) (A q83 13 .ret)) (zam H [.t 4])) (zam H [.t 4]))) ⟨⟨75,[(2,.lp 2 0),(3,.lp 3 0),(5,.v x5)]⟩,[(2,v2),(3,v3)],h,[]⟩
@[go_sem]def g_ref13_Same_0(H h x5 v2 v3):=(zix.eq_1 H h x5 v2 v3).symm
noncomputable def ziw(H h:List AO)(x6:AV)(v2 v3:List AV):Option RH:=awL T [2,3,6] [2,3] ygf (za5 2 (thn (aw T (A q83 13 .ret) (zam H [.t 4])) (zam H [.t 4]))) ⟨⟨75,[(2,.lp 2 0),(3,.lp 3 0),(6,.v x6)]⟩,[(2,v2),(3,v3)],h,[]⟩
@[go_sem]def g_ref13_Same_1(H h x6 v2 v3):=(ziw.eq_1 H h x6 v2 v3).symm
theorem t84:T (zeg)=some e84:=by kernel_rfl
@[go_sem]def a84:=@zaa T _ _ c84.eq_1
def zpr(a0 a1:AV)(H:List AO):=ff (vs:=[a0,a1]) t84 rfl H
theorem t85:T (zj3)=some e85:=by kernel_rfl
@[go_sem]def al85_0:=@zaa T _ _ l85_0.eq_1
@[go_sem]def a85:=@zaa T _ _ c85.eq_1
def z1s(a0 a1 a2:AV)(H:List AO):=ff (vs:=[a0,a1,a2]) t85 rfl H
noncomputable def ziu(H h:List AO)(x1 x8:AV)(v3 v5 v6 v7:List AV):Option RH:=awL T [1,3,5,6,7,8] [3,5,6,7] l85_0 (za5 0 (thn (aw T (A q85 10 .ret) (zam H [.c 4 true 6])) (zam H [.c 4 true 6]))) ⟨⟨67,[(1,.v x1),(3,.lp 3 0),(5,.lp 5 0),(6,.lp 6 0),(7,.lp 7 0),(8,.v x8)]⟩,[(3,v3),(5,v5),(6,v6),(7,v7)],h,[]⟩
@[go_sem]def g_ref13_open_0(H h x1 x8 v3 v5 v6 v7):=(ziu.eq_1 H h x1 x8 v3 v5 v6 v7).symm
theorem t86:T (zia)=some e86:=by kernel_rfl
@[go_sem]def al86_0:=@zaa T _ _ l86_0.eq_1
@[go_sem]def a86:=@zaa T _ _ c86.eq_1
def zy5(a0:AV)(H:List AO):=ff (vs:=[a0]) t86 rfl H
noncomputable def zho(H h:List AO)(x0 x3:AV):Option RH:=awL T [0,3] [] l86_0 (za5 0 (thn (aw T (A q86 6 .ret) (zam H [.t 2])) (zam H [.t 2]))) ⟨⟨16,[(0,.v x0),(3,.v x3)]⟩,[],h,[]⟩
@[go_sem]def g_ref15_right_0(H h x0 x3):=(zho.eq_1 H h x0 x3).symm
theorem t87:T (zmd)=some e87:=by kernel_rfl
@[go_sem]def al87_0:=@zaa T _ _ l87_0.eq_1
@[go_sem]def al87_1:=@zaa T _ _ yge.eq_1
@[go_sem]def a87:=@zaa T _ _ c87.eq_1
def z4n(a0 a1 a2:AV)(H:List AO):=ff (vs:=[a0,a1,a2]) t87 rfl H
noncomputable def zjy(H h:List AO)(x1 x2 x9:AV)(v3 v6 v8:List AV):Option RH:=awL T [1,2,3,6,8,9] [3,6,8] l87_0 (za5 0 (thn (aw T (.seq (A q87 9 (.block 2 (.loop [1,2,3,6,8,12] [3,6,8] yge))) (A q87 16 .ret)) (zam H [.c 4 true 6,.t 7])) (zam H [.c 4 true 6,.t 7]))) ⟨⟨75,[(1,.v x1),(2,.v x2),(3,.lp 3 0),(6,.lp 6 0),(8,.lp 8 0),(9,.v x9)]⟩,[(3,v3),(6,v6),(8,v8)],h,[]⟩
@[go_sem]def g_ref15_sub_0(H h x1 x2 x9 v3 v6 v8):=(zjy.eq_1 H h x1 x2 x9 v3 v6 v8).symm
noncomputable def zjx(H h:List AO)(x1 x2 x12:AV)(v3 v6 v8:List AV):Option RH:=awL T [1,2,3,6,8,12] [3,6,8] yge (za5 2 (thn (aw T (A q87 16 .ret) (zam H [.c 4 true 6,.t 7])) (zam H [.c 4 true 6,.t 7]))) ⟨⟨75,[(1,.v x1),(2,.v x2),(3,.lp 3 0),(6,.lp 6 0),(8,.lp 8 0),(12,.v x12)]⟩,[(3,v3),(6,v6),(8,v8)],h,[]⟩
@[go_sem]def g_ref15_sub_1(H h x1 x2 x12 v3 v6 v8):=(zjx.eq_1 H h x1 x2 x12 v3 v6 v8).symm
theorem t88:T (zj2)=some e88:=by kernel_rfl
@[go_sem]def al88_0:=@zaa T _ _ l88_0.eq_1
@[go_sem]def a88:=@zaa T _ _ c88.eq_1
def z1o(a0 a1:AV)(H:List AO):=ff (vs:=[a0,a1]) t88 rfl H
noncomputable def zit(H h:List AO)(x1 x5 x9 x10 x11:AV):Option RH:=awL T [1,5,9,10,11] [] l88_0 (za5 0 (thn (aw T (A q88 8 .ret) (zam H [.t 4])) (zam H [.t 4]))) ⟨⟨27,[(1,.v x1),(5,.v x5),(9,.v x9),(10,.v x10),(11,.v x11)]⟩,[],h,[]⟩
@[go_sem]def g_term_parts_0(H h x1 x5 x9 x10 x11):=(zit.eq_1 H h x1 x5 x9 x10 x11).symm
theorem t89:T (zev)=some e89:=by kernel_rfl
@[go_sem]def al89_0:=@zaa T _ _ l89_0.eq_1
@[go_sem]def a89:=@zaa T _ _ c89.eq_1
def zsg(a0 a1 a2:AV)(H:List AO):=ff (vs:=[a0,a1,a2]) t89 rfl H
noncomputable def ze7(H h:List AO)(x2 x3 x48 x49 x50:AV)(v4:List AV):Option RH:=awL T [2,3,4,48,49,50] [4] l89_0 (za5 0 (thn (aw T (A q89 13 .ret) (zam H [.t 6])) (zam H [.t 6]))) ⟨⟨70,[(2,.v x2),(3,.v x3),(4,.lp 4 0),(48,.v x48),(49,.v x49),(50,.v x50)]⟩,[(4,v4)],h,[]⟩
@[go_sem]def g_term_room_right_0(H h x2 x3 x48 x49 x50 v4):=(ze7.eq_1 H h x2 x3 x48 x49 x50 v4).symm
theorem t90:T (zbt)=some e90:=by kernel_rfl
@[go_sem]def a90:=@zaa T _ _ c90.eq_1
def zos(a0 a1:AV)(H:List AO):=ff (vs:=[a0,a1]) t90 rfl H
theorem t91:T (zi5)=some e91:=by kernel_rfl
@[go_sem]def a91:=@zaa T _ _ c91.eq_1
def zv9(H:List AO):=ff (vs:=[]) t91 rfl H
theorem t92:T (zdu)=some e92:=by kernel_rfl
@[go_sem]def a92:=@zaa T _ _ c92.eq_1
def znz(a0:AV)(H:List AO):=ff (vs:=[a0]) t92 rfl H
theorem t93:T (zb5)=some e93:=by kernel_rfl
@[go_sem]def a93:=@zaa T _ _ c93.eq_1
def zpt(a0 a1 a2:AV)(H:List AO):=ff (vs:=[a0,a1,a2]) t93 rfl H
theorem t94:T (zn3)=some e94:=by kernel_rfl
@[go_sem]def a94:=@zaa T _ _ c94.eq_1
def z4l(a0 a1 a2:AV)(H:List AO):=ff (vs:=[a0,a1,a2]) t94 rfl H
theorem t95:T (zbp)=some e95:=by kernel_rfl
@[go_sem]def a95:=@zaa T _ _ c95.eq_1
def zmv(a0 a1 a2 a3:AV)(H:List AO):=ff (vs:=[a0,a1,a2,a3]) t95 rfl H
theorem t96:T (zb6)=some e96:=by kernel_rfl
@[go_sem]def a96:=@zaa T _ _ c96.eq_1
def zjr(a0 a1 a2 a3:AV)(H:List AO):=ff (vs:=[a0,a1,a2,a3]) t96 rfl H
theorem t97:T (zbu)=some e97:=by kernel_rfl
@[go_sem]def al97_0:=@zaa T _ _ l97_0.eq_1
@[go_sem]def a97:=@zaa T _ _ c97.eq_1
def zou(a0 a1 a2 a3:AV)(H:List AO):=ff (vs:=[a0,a1,a2,a3]) t97 rfl H
noncomputable def zb0(H h:List AO)(x0 x12 x13 x14:AV)(v6:List AV):Option RH:=awL T [0,6,12,13,14] [6] l97_0 (za5 0 (thn (aw T (A q97 7 .ret) (zam H [.t 8])) (zam H [.t 8]))) ⟨⟨40,[(0,.v x0),(6,.lp 6 0),(12,.v x12),(13,.v x13),(14,.v x14)]⟩,[(6,v6)],h,[]⟩
@[go_sem]def g_conv_Machine_levels_0(H h x0 x12 x13 x14 v6):=(zb0.eq_1 H h x0 x12 x13 x14 v6).symm
theorem t98:T (zcf)=some e98:=by kernel_rfl
@[go_sem]def a98:=@zaa T _ _ c98.eq_1
def zk6(a0 a1 a2 a3:AV)(H:List AO):=ff (vs:=[a0,a1,a2,a3]) t98 rfl H
theorem t99:T (zcz)=some e99:=by kernel_rfl
@[go_sem]def a99:=@zaa T _ _ c99.eq_1
def zln(a0 a1 a2 a3:AV)(H:List AO):=ff (vs:=[a0,a1,a2,a3]) t99 rfl H
theorem t100:T (zmh)=some e100:=by kernel_rfl
@[go_sem]def a100:=@zaa T _ _ c100.eq_1
def z1y(a0:AV)(H:List AO):=ff (vs:=[a0]) t100 rfl H
theorem t107:T (zb7)=some e107:=by kernel_rfl
@[go_sem]def al107_0:=@zaa T _ _ yb2.eq_1
@[go_sem]def a107:=@zaa T _ _ c107.eq_1
def zms(a0 a1 a2:AV)(H:List AO):=ff (vs:=[a0,a1,a2]) t107 rfl H
noncomputable def zc1(H h:List AO)(x1 x2 x15 x16 x17:AV):Option RH:=awL T [1,2,15,16,17] [] yb2 (za5 0 (thn (aw T (A z9g 10 .ret) (zam H [.t 6])) (zam H [.t 6]))) ⟨⟨32,[(1,.v x1),(2,.v x2),(15,.v x15),(16,.v x16),(17,.v x17)]⟩,[],h,[]⟩
@[go_sem]def g_slices_EqualFunc_Level_0(H h x1 x2 x15 x16 x17):=(zc1.eq_1 H h x1 x2 x15 x16 x17).symm
theorem t108:T (zgy)=some e108:=by kernel_rfl
@[go_sem]def a108:=@zaa T _ _ c108.eq_1
def z12(a0 a1:AV)(H:List AO):=ff (vs:=[a0,a1]) t108 rfl H
theorem t109:T (zdf)=some e109:=by kernel_rfl
@[go_sem]def al109_0:=@zaa T _ _ yb1.eq_1
@[go_sem]def a109:=@zaa T _ _ c109.eq_1
def znj(a0 a1 a2:AV)(H:List AO):=ff (vs:=[a0,a1,a2]) t109 rfl H
noncomputable def zdd(H h:List AO)(x1 x2 x15 x16 x17:AV):Option RH:=awL T [1,2,15,16,17] [] yb1 (za5 0 (thn (aw T (A z9f 10 .ret) (zam H [.t 6])) (zam H [.t 6]))) ⟨⟨32,[(1,.v x1),(2,.v x2),(15,.v x15),(16,.v x16),(17,.v x17)]⟩,[],h,[]⟩
@[go_sem]def g_slices_EqualFunc_Term_0(H h x1 x2 x15 x16 x17):=(zdd.eq_1 H h x1 x2 x15 x16 x17).symm
theorem t110:T (zcs)=some e110:=by kernel_rfl
@[go_sem]def a110:=@zaa T _ _ c110.eq_1
def zly(a0 a1:AV)(H:List AO):=ff (vs:=[a0,a1]) t110 rfl H
theorem t111:T (zkg)=some e111:=by kernel_rfl
@[go_sem]def z83:=@zaa T _ _ zdg.eq_1
@[go_sem]theorem zrz:FC.okd zdg=true:=by kernel_rfl
@[go_sem]def z81:=@zaa T _ _ zde.eq_1
@[go_sem]theorem zrx:FC.okd zde=true:=by kernel_rfl
@[go_sem]def a111:=@zaa T _ _ c111.eq_1
def zyx(a0:AV)(H:List AO):=ff (vs:=[a0]) t111 rfl H
theorem t112:T (zgx)=some e112:=by kernel_rfl
@[go_sem]def a112:=@zaa T _ _ c112.eq_1
def zwa(a0 a1:AV)(H:List AO):=ff (vs:=[a0,a1]) t112 rfl H
theorem t113:T (zih)=some e113:=by kernel_rfl
@[go_sem]def al113_0:=@zaa T _ _ yb0.eq_1
@[go_sem]def a113:=@zaa T _ _ c113.eq_1
def zzi(a0 a1:AV)(H:List AO):=ff (vs:=[a0,a1]) t113 rfl H
noncomputable def zhw(H h:List AO)(x1 x5 x9 x10 x11:AV):Option RH:=awL T [1,5,9,10,11] [] yb0 (za5 0 (thn (aw T (A yep 8 .ret) (zam H [.t 4])) (zam H [.t 4]))) ⟨⟨27,[(1,.v x1),(5,.v x5),(9,.v x9),(10,.v x10),(11,.v x11)]⟩,[],h,[]⟩
@[go_sem]def g_level_nodes_0(H h x1 x5 x9 x10 x11):=(zhw.eq_1 H h x1 x5 x9 x10 x11).symm
theorem t114:T (zig)=some e114:=by kernel_rfl
@[go_sem]def a114:=@zaa T _ _ c114.eq_1
def zzh(a0 a1 a2 a3:AV)(H:List AO):=ff (vs:=[a0,a1,a2,a3]) t114 rfl H
theorem t115:T (zdt)=some e115:=by kernel_rfl
@[go_sem]def al115_0:=@zaa T _ _ ybz.eq_1
@[go_sem]def a115:=@zaa T _ _ c115.eq_1
def zny(a0 a1:AV)(H:List AO):=ff (vs:=[a0,a1]) t115 rfl H
noncomputable def zck(H h:List AO)(x0 x1 x7 x8:AV):Option RH:=awL T [0,1,7,8] [] ybz (za5 0 (thn (aw T (A yfx 7 .ret) (zam H [.t 4])) (zam H [.t 4]))) ⟨⟨19,[(0,.v x0),(1,.v x1),(7,.v x7),(8,.v x8)]⟩,[],h,[]⟩
@[go_sem]def g_slices_IndexFunc_Con_0(H h x0 x1 x7 x8):=(zck.eq_1 H h x0 x1 x7 x8).symm
theorem t117:T (zgw)=some e117:=by kernel_rfl
@[go_sem]def al117_0:=@zaa T _ _ yby.eq_1
@[go_sem]def al117_1:=@zaa T _ _ zu5.eq_1
@[go_sem]def al117_2:=@zaa T _ _ zge.eq_1
@[go_sem]def a117:=@zaa T _ _ c117.eq_1
def zv8(a0:AV)(H:List AO):=ff (vs:=[a0]) t117 rfl H
noncomputable def zgj(H h:List AO)(x3 x4 x5 x6 x7 x8:AV)(v1:List AV):Option RH:=awL T [1,3,4,5,6,7,8] [1] yby (za5 4 (thn (aw T (A zf4 14 (.cond (.t 55) (.reg (R zf4 15)) .skip)) (za5 3 (thn (aw T (.reg (R zf4 16)) (thn (again T [1,3,4,5,6] [1] zu5 (za5 2 (za5 1 (thn (aw T (.reg (R zf4 17)) (thn (again T [1,3,4] [1] zge (za5 0 (thn (aw T (A zf4 18 .ret) (zam H [.t 2])) (zam H [.t 2])))) (za5 0 (thn (aw T (A zf4 18 .ret) (zam H [.t 2])) (zam H [.t 2]))))) (thn (again T [1,3,4] [1] zge (za5 0 (thn (aw T (A zf4 18 .ret) (zam H [.t 2])) (zam H [.t 2])))) (za5 0 (thn (aw T (A zf4 18 .ret) (zam H [.t 2])) (zam H [.t 2])))))))) (za5 2 (za5 1 (thn (aw T (.reg (R zf4 17)) (thn (again T [1,3,4] [1] zge (za5 0 (thn (aw T (A zf4 18 .ret) (zam H [.t 2])) (zam H [.t 2])))) (za5 0 (thn (aw T (A zf4 18 .ret) (zam H [.t 2])) (zam H [.t 2]))))) (thn (again T [1,3,4] [1] zge (za5 0 (thn (aw T (A zf4 18 .ret) (zam H [.t 2])) (zam H [.t 2])))) (za5 0 (thn (aw T (A zf4 18 .ret) (zam H [.t 2])) (zam H [.t 2]))))))))) (thn (again T [1,3,4,5,6] [1] zu5 (za5 2 (za5 1 (thn (aw T (.reg (R zf4 17)) (thn (again T [1,3,4] [1] zge (za5 0 (thn (aw T (A zf4 18 .ret) (zam H [.t 2])) (zam H [.t 2])))) (za5 0 (thn (aw T (A zf4 18 .ret) (zam H [.t 2])) (zam H [.t 2]))))) (thn (again T [1,3,4] [1] zge (za5 0 (thn (aw T (A zf4 18 .ret) (zam H [.t 2])) (zam H [.t 2])))) (za5 0 (thn (aw T (A zf4 18 .ret) (zam H [.t 2])) (zam H [.t 2])))))))) (za5 2 (za5 1 (thn (aw T (.reg (R zf4 17)) (thn (again T [1,3,4] [1] zge (za5 0 (thn (aw T (A zf4 18 .ret) (zam H [.t 2])) (zam H [.t 2])))) (za5 0 (thn (aw T (A zf4 18 .ret) (zam H [.t 2])) (zam H [.t 2]))))) (thn (again T [1,3,4] [1] zge (za5 0 (thn (aw T (A zf4 18 .ret) (zam H [.t 2])) (zam H [.t 2])))) (za5 0 (thn (aw T (A zf4 18 .ret) (zam H [.t 2])) (zam H [.t 2]))))))))))) (za5 3 (thn (aw T (.reg (R zf4 16)) (thn (again T [1,3,4,5,6] [1] zu5 (za5 2 (za5 1 (thn (aw T (.reg (R zf4 17)) (thn (again T [1,3,4] [1] zge (za5 0 (thn (aw T (A zf4 18 .ret) (zam H [.t 2])) (zam H [.t 2])))) (za5 0 (thn (aw T (A zf4 18 .ret) (zam H [.t 2])) (zam H [.t 2]))))) (thn (again T [1,3,4] [1] zge (za5 0 (thn (aw T (A zf4 18 .ret) (zam H [.t 2])) (zam H [.t 2])))) (za5 0 (thn (aw T (A zf4 18 .ret) (zam H [.t 2])) (zam H [.t 2])))))))) (za5 2 (za5 1 (thn (aw T (.reg (R zf4 17)) (thn (again T [1,3,4] [1] zge (za5 0 (thn (aw T (A zf4 18 .ret) (zam H [.t 2])) (zam H [.t 2])))) (za5 0 (thn (aw T (A zf4 18 .ret) (zam H [.t 2])) (zam H [.t 2]))))) (thn (again T [1,3,4] [1] zge (za5 0 (thn (aw T (A zf4 18 .ret) (zam H [.t 2])) (zam H [.t 2])))) (za5 0 (thn (aw T (A zf4 18 .ret) (zam H [.t 2])) (zam H [.t 2]))))))))) (thn (again T [1,3,4,5,6] [1] zu5 (za5 2 (za5 1 (thn (aw T (.reg (R zf4 17)) (thn (again T [1,3,4] [1] zge (za5 0 (thn (aw T (A zf4 18 .ret) (zam H [.t 2])) (zam H [.t 2])))) (za5 0 (thn (aw T (A zf4 18 .ret) (zam H [.t 2])) (zam H [.t 2]))))) (thn (again T [1,3,4] [1] zge (za5 0 (thn (aw T (A zf4 18 .ret) (zam H [.t 2])) (zam H [.t 2])))) (za5 0 (thn (aw T (A zf4 18 .ret) (zam H [.t 2])) (zam H [.t 2])))))))) (za5 2 (za5 1 (thn (aw T (.reg (R zf4 17)) (thn (again T [1,3,4] [1] zge (za5 0 (thn (aw T (A zf4 18 .ret) (zam H [.t 2])) (zam H [.t 2])))) (za5 0 (thn (aw T (A zf4 18 .ret) (zam H [.t 2])) (zam H [.t 2]))))) (thn (again T [1,3,4] [1] zge (za5 0 (thn (aw T (A zf4 18 .ret) (zam H [.t 2])) (zam H [.t 2])))) (za5 0 (thn (aw T (A zf4 18 .ret) (zam H [.t 2])) (zam H [.t 2])))))))))))) ⟨⟨64,[(1,.lp 1 0),(3,.v x3),(4,.v x4),(5,.v x5),(6,.v x6),(7,.v x7),(8,.v x8)]⟩,[(1,v1)],h,[]⟩
@[go_sem]def g_ref15_Consts_0(H h x3 x4 x5 x6 x7 x8 v1):=(zgj.eq_1 H h x3 x4 x5 x6 x7 x8 v1).symm
noncomputable def zfd(H h:List AO)(x3 x4 x5 x6:AV)(v1:List AV):Option RH:=awL T [1,3,4,5,6] [1] zu5 (za5 2 (za5 1 (thn (aw T (.reg (R zf4 17)) (thn (again T [1,3,4] [1] zge (za5 0 (thn (aw T (A zf4 18 .ret) (zam H [.t 2])) (zam H [.t 2])))) (za5 0 (thn (aw T (A zf4 18 .ret) (zam H [.t 2])) (zam H [.t 2]))))) (thn (again T [1,3,4] [1] zge (za5 0 (thn (aw T (A zf4 18 .ret) (zam H [.t 2])) (zam H [.t 2])))) (za5 0 (thn (aw T (A zf4 18 .ret) (zam H [.t 2])) (zam H [.t 2]))))))) ⟨⟨64,[(1,.lp 1 0),(3,.v x3),(4,.v x4),(5,.v x5),(6,.v x6)]⟩,[(1,v1)],h,[]⟩
@[go_sem]def g_ref15_Consts_1(H h x3 x4 x5 x6 v1):=(zfd.eq_1 H h x3 x4 x5 x6 v1).symm
noncomputable def zfc(H h:List AO)(x3 x4:AV)(v1:List AV):Option RH:=awL T [1,3,4] [1] zge (za5 0 (thn (aw T (A zf4 18 .ret) (zam H [.t 2])) (zam H [.t 2]))) ⟨⟨64,[(1,.lp 1 0),(3,.v x3),(4,.v x4)]⟩,[(1,v1)],h,[]⟩
@[go_sem]def g_ref15_Consts_2(H h x3 x4 v1):=(zfc.eq_1 H h x3 x4 v1).symm
theorem t118:T (zoa)=some e118:=by kernel_rfl
@[go_sem]def a118:=@zaa T _ _ c118.eq_1
def z4q(a0 a1 a2:AV)(H:List AO):=ff (vs:=[a0,a1,a2]) t118 rfl H
theorem t119:T (zeu)=some e119:=by kernel_rfl
@[go_sem]def a119:=@zaa T _ _ c119.eq_1
def zqa(a0 a1:AV)(H:List AO):=ff (vs:=[a0,a1]) t119 rfl H
theorem t120:T (zh4)=some e120:=by kernel_rfl
@[go_sem]def a120:=@zaa T _ _ c120.eq_1
def zyy(H:List AO):=ff (vs:=[]) t120 rfl H
theorem t121:T (zfs)=some e121:=by kernel_rfl
@[go_sem]def a121:=@zaa T _ _ c121.eq_1
def zsh(a0 a1:AV)(H:List AO):=ff (vs:=[a0,a1]) t121 rfl H
theorem t122:T (zal)=some e122:=by kernel_rfl
@[go_sem]def a122:=@zaa T _ _ c122.eq_1
def zk2(a0 a1:AV)(H:List AO):=ff (vs:=[a0,a1]) t122 rfl H
theorem t123:T (zh6)=some e123:=by kernel_rfl
@[go_sem]def a123:=@zaa T _ _ c123.eq_1
def z1p(a0 a1:AV)(H:List AO):=ff (vs:=[a0,a1]) t123 rfl H
theorem t124:T (zcy)=some e124:=by kernel_rfl
@[go_sem]def a124:=@zaa T _ _ c124.eq_1
def zlm(a0:AV)(H:List AO):=ff (vs:=[a0]) t124 rfl H
theorem t125:T (za3)=some e125:=by kernel_rfl
@[go_sem]def a125:=@zaa T _ _ c125.eq_1
def ze4(a0:AV)(H:List AO):=ff (vs:=[a0]) t125 rfl H
theorem t126:T (zbc)=some e126:=by kernel_rfl
@[go_sem]def a126:=@zaa T _ _ c126.eq_1
def zfz(a0:AV)(H:List AO):=ff (vs:=[a0]) t126 rfl H
theorem t127:T (zdn)=some e127:=by kernel_rfl
@[go_sem]def a127:=@zaa T _ _ c127.eq_1
def zrc(a0:AV)(H:List AO):=ff (vs:=[a0]) t127 rfl H
theorem t128:T (zbl)=some e128:=by kernel_rfl
@[go_sem]def al128_0:=@zaa T _ _ ybx.eq_1
@[go_sem]def a128:=@zaa T _ _ c128.eq_1
def zmu(a0 a1:AV)(H:List AO):=ff (vs:=[a0,a1]) t128 rfl H
noncomputable def zc2(H h:List AO)(x0 x1 x3:AV):Option RH:=awL T [0,1,3] [] ybx (za5 0 (zam H [])) ⟨⟨19,[(0,.v x0),(1,.v x1),(3,.v x3)]⟩,[],h,[]⟩
@[go_sem]def g_slices_Backward_Term_1_0(H h x0 x1 x3):=(zc2.eq_1 H h x0 x1 x3).symm
theorem t129:T (zlf)=some e129:=by kernel_rfl
@[go_sem]def a129:=@zaa T _ _ c129.eq_1
def z78(H:List AO):=ff (vs:=[]) t129 rfl H
theorem t130:T (zl5)=some e130:=by kernel_rfl
@[go_sem]def a130:=@zaa T _ _ c130.eq_1
def z4h(a0:AV)(H:List AO):=ff (vs:=[a0]) t130 rfl H
theorem t131:T (zl6)=some e131:=by kernel_rfl
@[go_sem]def a131:=@zaa T _ _ c131.eq_1
def z4i(a0 a1 a2:AV)(H:List AO):=ff (vs:=[a0,a1,a2]) t131 rfl H
theorem t132:T (zdq)=some e132:=by kernel_rfl
@[go_sem]def a132:=@zaa T _ _ c132.eq_1
def zre(a0 a1 a2:AV)(H:List AO):=ff (vs:=[a0,a1,a2]) t132 rfl H
theorem t137:T (zds)=some e137:=by kernel_rfl
@[go_sem]def al137_0:=@zaa T _ _ ybw.eq_1
@[go_sem]def a137:=@zaa T _ _ c137.eq_1
def znx(a0 a1:AV)(H:List AO):=ff (vs:=[a0,a1]) t137 rfl H
noncomputable def zcj(H h:List AO)(x0 x1 x7 x8:AV):Option RH:=awL T [0,1,7,8] [] ybw (za5 0 (thn (aw T (A yfu 7 .ret) (zam H [.t 4])) (zam H [.t 4]))) ⟨⟨19,[(0,.v x0),(1,.v x1),(7,.v x7),(8,.v x8)]⟩,[],h,[]⟩
@[go_sem]def g_slices_IndexFunc_int_0(H h x0 x1 x7 x8):=(zcj.eq_1 H h x0 x1 x7 x8).symm
theorem t138:T (zo2)=some e138:=by kernel_rfl
@[go_sem]def a138:=@zaa T _ _ c138.eq_1
def z76(a0:AV)(H:List AO):=ff (vs:=[a0]) t138 rfl H
theorem t139:T (zn2)=some e139:=by kernel_rfl
@[go_sem]def al139_0:=@zaa T _ _ ybv.eq_1
@[go_sem]def a139:=@zaa T _ _ c139.eq_1
def z4f(a0 a1 a2:AV)(H:List AO):=ff (vs:=[a0,a1,a2]) t139 rfl H
noncomputable def zjv(H h:List AO)(x0 x1 x11 x12 x13:AV):Option RH:=awL T [0,1,11,12,13] [] ybv (za5 0 (thn (aw T (A yam 9 .ret) (zam H [.t 6])) (zam H [.t 6]))) ⟨⟨34,[(0,.v x0),(1,.v x1),(11,.v x11),(12,.v x12),(13,.v x13)]⟩,[],h,[]⟩
@[go_sem]def g_tsub_once_0(H h x0 x1 x11 x12 x13):=(zjv.eq_1 H h x0 x1 x11 x12 x13).symm
theorem t140:T (zkw)=some e140:=by kernel_rfl
@[go_sem]def a140:=@zaa T _ _ c140.eq_1
def zzk(H:List AO):=ff (vs:=[]) t140 rfl H
theorem t141:T (zg8)=some e141:=by kernel_rfl
@[go_sem]def a141:=@zaa T _ _ c141.eq_1
def zve(a0 a1 a2 a3:AV)(H:List AO):=ff (vs:=[a0,a1,a2,a3]) t141 rfl H
theorem t142:T (zkv)=some e142:=by kernel_rfl
@[go_sem]def a142:=@zaa T _ _ c142.eq_1
def zzj(a0 a1 a2:AV)(H:List AO):=ff (vs:=[a0,a1,a2]) t142 rfl H
theorem t143:T (zid)=some e143:=by kernel_rfl
@[go_sem]def al143_0:=@zaa T _ _ ybu.eq_1
@[go_sem]def a143:=@zaa T _ _ c143.eq_1
def zzd(a0:AV)(H:List AO):=ff (vs:=[a0]) t143 rfl H
noncomputable def zht(H h:List AO)(x0 x3:AV):Option RH:=awL T [0,3] [] ybu (za5 0 (thn (aw T (A yiy 6 .ret) (zam H [.t 2])) (zam H [.t 2]))) ⟨⟨16,[(0,.v x0),(3,.v x3)]⟩,[],h,[]⟩
@[go_sem]def g_ref05_right_0(H h x0 x3):=(zht.eq_1 H h x0 x3).symm
theorem t144:T (zmg)=some e144:=by kernel_rfl
@[go_sem]def al144_0:=@zaa T _ _ ybt.eq_1
@[go_sem]def a144:=@zaa T _ _ c144.eq_1
def z4p(a0 a1 a2:AV)(H:List AO):=ff (vs:=[a0,a1,a2]) t144 rfl H
noncomputable def zjz(H h:List AO)(x1 x2 x8:AV)(v3 v6 v7:List AV):Option RH:=awL T [1,2,3,6,7,8] [3,6,7] ybt (za5 0 (thn (aw T (A z9d 10 .ret) (zam H [.c 3 true 6])) (zam H [.c 3 true 6]))) ⟨⟨65,[(1,.v x1),(2,.v x2),(3,.lp 3 0),(6,.lp 6 0),(7,.lp 7 0),(8,.v x8)]⟩,[(3,v3),(6,v6),(7,v7)],h,[]⟩
@[go_sem]def g_ref05_sub_0(H h x1 x2 x8 v3 v6 v7):=(zjz.eq_1 H h x1 x2 x8 v3 v6 v7).symm
theorem t145:T (zc4)=some e145:=by kernel_rfl
@[go_sem]def al145_0:=@zaa T _ _ ybs.eq_1
@[go_sem]def a145:=@zaa T _ _ c145.eq_1
def zmr(a0 a1:AV)(H:List AO):=ff (vs:=[a0,a1]) t145 rfl H
noncomputable def zb3(H h:List AO)(x0 x1 x7 x8:AV):Option RH:=awL T [0,1,7,8] [] ybs (za5 0 (thn (aw T (A yft 7 .ret) (zam H [.t 4])) (zam H [.t 4]))) ⟨⟨19,[(0,.v x0),(1,.v x1),(7,.v x7),(8,.v x8)]⟩,[],h,[]⟩
@[go_sem]def g_slices_IndexFunc_Level_0(H h x0 x1 x7 x8):=(zb3.eq_1 H h x0 x1 x7 x8).symm
theorem t146:T (zl7)=some e146:=by kernel_rfl
@[go_sem]def a146:=@zaa T _ _ c146.eq_1
def z4k(a0 a1:AV)(H:List AO):=ff (vs:=[a0,a1]) t146 rfl H
theorem t147:T (zqj)=some e147:=by kernel_rfl
@[go_sem]def a147:=@zaa T _ _ c147.eq_1
def z77(a0 a1 a2:AV)(H:List AO):=ff (vs:=[a0,a1,a2]) t147 rfl H
theorem t148:T (zkh)=some e148:=by kernel_rfl
@[go_sem]def al148_0:=@zaa T _ _ ybr.eq_1
@[go_sem]def a148:=@zaa T _ _ c148.eq_1
def z4g(a0 a1 a2:AV)(H:List AO):=ff (vs:=[a0,a1,a2]) t148 rfl H
noncomputable def zjw(H h:List AO)(x1 x2 x26 x27 x28:AV)(v3 v6 v7:List AV):Option RH:=awL T [1,2,3,6,7,26,27,28] [3,6,7] ybr (za5 0 (thn (aw T (A yal 9 .ret) (zam H [.c 4 true 6])) (zam H [.c 4 true 6]))) ⟨⟨48,[(1,.v x1),(2,.v x2),(3,.lp 3 0),(6,.lp 6 0),(7,.lp 7 0),(26,.v x26),(27,.v x27),(28,.v x28)]⟩,[(3,v3),(6,v6),(7,v7)],h,[]⟩
@[go_sem]def g_term_turn_0(H h x1 x2 x26 x27 x28 v3 v6 v7):=(zjw.eq_1 H h x1 x2 x26 x27 x28 v3 v6 v7).symm
theorem t149:T (zh5)=some e149:=by kernel_rfl
@[go_sem]def a149:=@zaa T _ _ c149.eq_1
def zyz(a0 a1 a2 a3:AV)(H:List AO):=ff (vs:=[a0,a1,a2,a3]) t149 rfl H
theorem t150:T (zf3)=some e150:=by kernel_rfl
@[go_sem]def a150:=@zaa T _ _ c150.eq_1
def zvc(a0:AV)(H:List AO):=ff (vs:=[a0]) t150 rfl H
theorem t151:T (zl4)=some e151:=by kernel_rfl
@[go_sem]def a151:=@zaa T _ _ c151.eq_1
def zvb(a0 a1 a2 a3:AV)(H:List AO):=ff (vs:=[a0,a1,a2,a3]) t151 rfl H
theorem t152:T (zh3)=some e152:=by kernel_rfl
@[go_sem]def z9o:=@zaa T _ _ zel.eq_1
@[go_sem]theorem ztd:FC.okd zel=true:=by kernel_rfl
@[go_sem]def z9m:=@zaa T _ _ zei.eq_1
@[go_sem]theorem ztb:FC.okd zei=true:=by kernel_rfl
@[go_sem]def al152_0:=@zaa T _ _ ybq.eq_1
@[go_sem]def a152:=@zaa T _ _ c152.eq_1
def z1n(a0 a1:AV)(H:List AO):=ff (vs:=[a0,a1]) t152 rfl H
noncomputable def zis(H h:List AO)(ds:List Nat)(x2 x11 x12 x13:AV):Option RH:=awL T [2,11,12,13] [] ybq (za5 0 (zam H [])) ⟨⟨25,[(2,.v x2),(11,.v x11),(12,.v x12),(13,.v x13)]⟩,[],h,ds⟩
@[go_sem]def g_tsub_all_1_0(H h ds x2 x11 x12 x13):=(zis.eq_1 H h ds x2 x11 x12 x13).symm
@[go_sem]def a153:=@zaa T _ _ c153.eq_1
@[go_sem]def a154:=@zaa T _ _ c154.eq_1
@[go_sem]def a155:=@zaa T _ _ c155.eq_1
@[go_sem]def a156:=@zaa T _ _ c156.eq_1
@[go_sem]def a157:=@zaa T _ _ c157.eq_1
@[go_sem]def a158:=@zaa T _ _ c158.eq_1
@[go_sem]def a159:=@zaa T _ _ c159.eq_1
theorem t160:T (zh7)=some e160:=by kernel_rfl
@[go_sem]def a160:=@zaa T _ _ c160.eq_1
def zy0(a0 a1 a2:AV)(H:List AO):=ff (vs:=[a0,a1,a2]) t160 rfl H
theorem t161:T (zc5)=some e161:=by kernel_rfl
@[go_sem]def al161_0:=@zaa T _ _ ybp.eq_1
@[go_sem]def al161_1:=@zaa T _ _ z6d.eq_1
@[go_sem]def a161:=@zaa T _ _ c161.eq_1
def zoq(a0:AV)(H:List AO):=ff (vs:=[a0]) t161 rfl H
noncomputable def zd0(H h:List AO)(x0 x3 x9 x10 x11:AV):Option RH:=awL T [0,3,9,10,11] [] ybp (za5 0 (thn (aw T (A zww 9 (.seq (A zww 10 (.block 2 (.loop [6,25,26,27] [] z6d))) (A zww 15 .ret))) (zam H [.t 2])) (zam H [.t 2]))) ⟨⟨36,[(0,.v x0),(3,.v x3),(9,.v x9),(10,.v x10),(11,.v x11)]⟩,[],h,[]⟩
@[go_sem]def g_slices_Concat_Level_0(H h x0 x3 x9 x10 x11):=(zd0.eq_1 H h x0 x3 x9 x10 x11).symm
noncomputable def zdz(H h:List AO)(x6 x25 x26 x27:AV):Option RH:=awL T [6,25,26,27] [] z6d (za5 2 (thn (aw T (A zww 15 .ret) (zam H [.t 2])) (zam H [.t 2]))) ⟨⟨36,[(6,.v x6),(25,.v x25),(26,.v x26),(27,.v x27)]⟩,[],h,[]⟩
@[go_sem]def g_slices_Concat_Level_1(H h x6 x25 x26 x27):=(zdz.eq_1 H h x6 x25 x26 x27).symm
theorem t162:T (zo1)=some e162:=by kernel_rfl
@[go_sem]def a162:=@zaa T _ _ c162.eq_1
def z75(a0:AV)(H:List AO):=ff (vs:=[a0]) t162 rfl H
theorem t163:T (zec)=some e163:=by kernel_rfl
@[go_sem]def al163_0:=@zaa T _ _ ybo.eq_1
@[go_sem]def al163_1:=@zaa T _ _ z6c.eq_1
@[go_sem]def a163:=@zaa T _ _ c163.eq_1
def zq9(a0 a1:AV)(H:List AO):=ff (vs:=[a0,a1]) t163 rfl H
noncomputable def zes(H h:List AO)(x0 x18 x19 x20:AV)(v3 v4 v5:List AV):Option RH:=awL T [0,3,4,5,18,19,20] [3,4,5] ybo (za5 0 (thn (aw T (.seq (A z0b 9 (.block 2 (.loop [0,4,5,54,55,56] [4,5] z6c))) (A z0b 14 .ret)) (zam H [.c 4 true 4])) (zam H [.c 4 true 4]))) ⟨⟨70,[(0,.v x0),(3,.lp 3 0),(4,.lp 4 0),(5,.lp 5 0),(18,.v x18),(19,.v x19),(20,.v x20)]⟩,[(3,v3),(4,v4),(5,v5)],h,[]⟩
@[go_sem]def g_tsub_putter_term_0(H h x0 x18 x19 x20 v3 v4 v5):=(zes.eq_1 H h x0 x18 x19 x20 v3 v4 v5).symm
noncomputable def zer(H h:List AO)(x0 x54 x55 x56:AV)(v4 v5:List AV):Option RH:=awL T [0,4,5,54,55,56] [4,5] z6c (za5 2 (thn (aw T (A z0b 14 .ret) (zam H [.c 4 true 4])) (zam H [.c 4 true 4]))) ⟨⟨70,[(0,.v x0),(4,.lp 4 0),(5,.lp 5 0),(54,.v x54),(55,.v x55),(56,.v x56)]⟩,[(4,v4),(5,v5)],h,[]⟩
@[go_sem]def g_tsub_putter_term_1(H h x0 x54 x55 x56 v4 v5):=(zer.eq_1 H h x0 x54 x55 x56 v4 v5).symm
theorem t164:T (zkf)=some e164:=by kernel_rfl
@[go_sem]def z82:=@zaa T _ _ zct.eq_1
@[go_sem]theorem zry:FC.okd zct=true:=by kernel_rfl
@[go_sem]def z80:=@zaa T _ _ zcm.eq_1
@[go_sem]theorem zrw:FC.okd zcm=true:=by kernel_rfl
@[go_sem]def a164:=@zaa T _ _ c164.eq_1
def zq8(a0 a1 a2:AV)(H:List AO):=ff (vs:=[a0,a1,a2]) t164 rfl H
theorem t165:T (zgo)=some e165:=by kernel_rfl
@[go_sem]def al165_0:=@zaa T _ _ ybn.eq_1
@[go_sem]def al165_1:=@zaa T _ _ zu4.eq_1
@[go_sem]def a165:=@zaa T _ _ c165.eq_1
def zyw(a0 a1 a2:AV)(H:List AO):=ff (vs:=[a0,a1,a2]) t165 rfl H
noncomputable def zhl(H h:List AO)(x2 x8 x15 x16 x17 x23 x24 x25:AV)(v3 v7:List AV):Option RH:=awL T [2,3,7,8,15,16,17,23,24,25] [3,7] ybn (za5 2 (thn (aw T (A zqv 10 (A zqv 11 (.cond (.t 48) (A zqv 12 .ret) .skip))) (za5 1 (thn (aw T (.reg (R zqv 13)) (thn (again T [2,3,15,16,17] [3] zu4 (za5 0 (thn (aw T (A zqv 14 .ret) (zam H [.t 4,.t 5])) (zam H [.t 4,.t 5])))) (za5 0 (thn (aw T (A zqv 14 .ret) (zam H [.t 4,.t 5])) (zam H [.t 4,.t 5]))))) (thn (again T [2,3,15,16,17] [3] zu4 (za5 0 (thn (aw T (A zqv 14 .ret) (zam H [.t 4,.t 5])) (zam H [.t 4,.t 5])))) (za5 0 (thn (aw T (A zqv 14 .ret) (zam H [.t 4,.t 5])) (zam H [.t 4,.t 5]))))))) (za5 1 (thn (aw T (.reg (R zqv 13)) (thn (again T [2,3,15,16,17] [3] zu4 (za5 0 (thn (aw T (A zqv 14 .ret) (zam H [.t 4,.t 5])) (zam H [.t 4,.t 5])))) (za5 0 (thn (aw T (A zqv 14 .ret) (zam H [.t 4,.t 5])) (zam H [.t 4,.t 5]))))) (thn (again T [2,3,15,16,17] [3] zu4 (za5 0 (thn (aw T (A zqv 14 .ret) (zam H [.t 4,.t 5])) (zam H [.t 4,.t 5])))) (za5 0 (thn (aw T (A zqv 14 .ret) (zam H [.t 4,.t 5])) (zam H [.t 4,.t 5])))))))) ⟨⟨51,[(2,.v x2),(3,.lp 3 0),(7,.lp 7 0),(8,.v x8),(15,.v x15),(16,.v x16),(17,.v x17),(23,.v x23),(24,.v x24),(25,.v x25)]⟩,[(3,v3),(7,v7)],h,[]⟩
@[go_sem]def g_under_Leq_1_0(H h x2 x8 x15 x16 x17 x23 x24 x25 v3 v7):=(zhl.eq_1 H h x2 x8 x15 x16 x17 x23 x24 x25 v3 v7).symm
noncomputable def zd5(H h:List AO)(x2 x15 x16 x17:AV)(v3:List AV):Option RH:=awL T [2,3,15,16,17] [3] zu4 (za5 0 (thn (aw T (A zqv 14 .ret) (zam H [.t 4,.t 5])) (zam H [.t 4,.t 5]))) ⟨⟨51,[(2,.v x2),(3,.lp 3 0),(15,.v x15),(16,.v x16),(17,.v x17)]⟩,[(3,v3)],h,[]⟩
@[go_sem]def g_under_Leq_1_1(H h x2 x15 x16 x17 v3):=(zd5.eq_1 H h x2 x15 x16 x17 v3).symm
theorem t166:T (zba)=some e166:=by kernel_rfl
@[go_sem]def al166_0:=@zaa T _ _ ybm.eq_1
@[go_sem]def a166:=@zaa T _ _ c166.eq_1
def zni(a0 a1:AV)(H:List AO):=ff (vs:=[a0,a1]) t166 rfl H
noncomputable def zdc(H h:List AO)(x7 x22 x23 x24:AV):Option RH:=awL T [7,22,23,24] [] ybm (za5 0 (thn (aw T (A yak 9 .ret) (zam H [.t 4])) (zam H [.t 4]))) ⟨⟨40,[(7,.v x7),(22,.v x22),(23,.v x23),(24,.v x24)]⟩,[],h,[]⟩
@[go_sem]def g_under_situation_atoms_0(H h x7 x22 x23 x24):=(zdc.eq_1 H h x7 x22 x23 x24).symm
theorem t167:T (zc3)=some e167:=by kernel_rfl
@[go_sem]def al167_0:=@zaa T _ _ ybl.eq_1
@[go_sem]def a167:=@zaa T _ _ c167.eq_1
def zg4(a0 a1:AV)(H:List AO):=ff (vs:=[a0,a1]) t167 rfl H
noncomputable def zb2(H h:List AO)(x7 x11 x37 x38 x39:AV):Option RH:=awL T [7,11,37,38,39] [] ybl (za5 0 (thn (aw T (A z5w 12 .ret) (zam H [.t 4,.t 5])) (zam H [.t 4,.t 5]))) ⟨⟨60,[(7,.v x7),(11,.v x11),(37,.v x37),(38,.v x38),(39,.v x39)]⟩,[],h,[]⟩
@[go_sem]def g_under_situation_values_0(H h x7 x11 x37 x38 x39):=(zb2.eq_1 H h x7 x11 x37 x38 x39).symm
theorem t168:T (zex)=some e168:=by kernel_rfl
@[go_sem]def a168:=@zaa T _ _ c168.eq_1
def zqc(a0 a1:AV)(H:List AO):=ffK (vs:=[a0,a1]) t168 rfl H
theorem t169:T (zq1)=some e169:=by kernel_rfl
@[go_sem]def a169:=@zaa T _ _ c169.eq_1
def z8b(a0 a1 a2:AV)(H:List AO):=ff (vs:=[a0,a1,a2]) t169 rfl H
theorem t170:T (zu1)=some e170:=by kernel_rfl
@[go_sem]def a170:=@zaa T _ _ c170.eq_1
def ycw(a0:AV)(H:List AO):=ff (vs:=[a0]) t170 rfl H
theorem t171:T (zjd)=some e171:=by kernel_rfl
@[go_sem]def a171:=@zaa T _ _ c171.eq_1
def zwf(a0 a1:AV)(H:List AO):=ff (vs:=[a0,a1]) t171 rfl H
@[go_sem]def a172:=@zaa T _ _ c172.eq_1
theorem t173:T (zcn)=some e173:=by kernel_rfl
@[go_sem]def a173:=@zaa T _ _ c173.eq_1
def zlw(a0:AV)(H:List AO):=ff (vs:=[a0]) t173 rfl H
theorem t174:T (zkl)=some e174:=by kernel_rfl
@[go_sem]def a174:=@zaa T _ _ c174.eq_1
def zy2(a0 a1:AV)(H:List AO):=ff (vs:=[a0,a1]) t174 rfl H
theorem t175:T (zlh)=some e175:=by kernel_rfl
@[go_sem]def a175:=@zaa T _ _ c175.eq_1
def z8a(a0:AV)(H:List AO):=ff (vs:=[a0]) t175 rfl H
theorem t176:T (zmj)=some e176:=by kernel_rfl
@[go_sem]def al176_0:=@zaa T _ _ ybk.eq_1
@[go_sem]def a176:=@zaa T _ _ c176.eq_1
def z4r(a0 a1:AV)(H:List AO):=ff (vs:=[a0,a1]) t176 rfl H
noncomputable def zj0(H h:List AO)(x1 x24 x25 x26:AV)(v4 v7:List AV):Option RH:=awL T [1,4,7,24,25,26] [4,7] ybk (za5 0 (thn (aw T (A z9c 10 .ret) (zam H [.c 3 true 4])) (zam H [.c 3 true 4]))) ⟨⟨40,[(1,.v x1),(4,.lp 4 0),(7,.lp 7 0),(24,.v x24),(25,.v x25),(26,.v x26)]⟩,[(4,v4),(7,v7)],h,[]⟩
@[go_sem]def g_lsub_turn_0(H h x1 x24 x25 x26 v4 v7):=(zj0.eq_1 H h x1 x24 x25 x26 v4 v7).symm
theorem t177:T (zmk)=some e177:=by kernel_rfl
@[go_sem]def a177:=@zaa T _ _ c177.eq_1
def z11(a0 a1 a2:AV)(H:List AO):=ff (vs:=[a0,a1,a2]) t177 rfl H
theorem t178:T (zkx)=some e178:=by kernel_rfl
@[go_sem]def al178_0:=@zaa T _ _ ybj.eq_1
@[go_sem]def al178_1:=@zaa T _ _ zu3.eq_1
@[go_sem]def a178:=@zaa T _ _ c178.eq_1
def z4s(a0 a1:AV)(H:List AO):=ff (vs:=[a0,a1]) t178 rfl H
noncomputable def zf8(H h:List AO)(x0 x1 x3 x4 x7 x8 x14 x15:AV):Option RH:=awL T [0,1,3,4,7,8,14,15] [] ybj (za5 2 (thn (aw T (A z5v 9 (.cond (.t 30) .ret .skip)) (za5 1 (thn (aw T (.reg (R z5v 10)) (thn (again T [0,1,7,8] [] zu3 (za5 0 (zam H []))) (za5 0 (zam H [])))) (thn (again T [0,1,7,8] [] zu3 (za5 0 (zam H []))) (za5 0 (zam H [])))))) (za5 1 (thn (aw T (.reg (R z5v 10)) (thn (again T [0,1,7,8] [] zu3 (za5 0 (zam H []))) (za5 0 (zam H [])))) (thn (again T [0,1,7,8] [] zu3 (za5 0 (zam H []))) (za5 0 (zam H []))))))) ⟨⟨32,[(0,.v x0),(1,.v x1),(3,.v x3),(4,.v x4),(7,.v x7),(8,.v x8),(14,.v x14),(15,.v x15)]⟩,[],h,[]⟩
@[go_sem]def g_leq_All_1_0(H h x0 x1 x3 x4 x7 x8 x14 x15):=(zf8.eq_1 H h x0 x1 x3 x4 x7 x8 x14 x15).symm
noncomputable def zj1(H h:List AO)(x0 x1 x7 x8:AV):Option RH:=awL T [0,1,7,8] [] zu3 (za5 0 (zam H [])) ⟨⟨32,[(0,.v x0),(1,.v x1),(7,.v x7),(8,.v x8)]⟩,[],h,[]⟩
@[go_sem]def g_leq_All_1_1(H h x0 x1 x7 x8):=(zj1.eq_1 H h x0 x1 x7 x8).symm
@[go_sem]def a179:=@zaa T _ _ c179.eq_1
theorem t180:T (znh)=some e180:=by kernel_rfl
@[go_sem]def a180:=@zaa T _ _ c180.eq_1
def zsj(a0:AV)(H:List AO):=ff (vs:=[a0]) t180 rfl H
@[go_sem]def ztj:=@zaa T _ _ zft.eq_1
@[go_sem]def zti:=@zaa T _ _ zfr.eq_1
@[go_sem]def a181:=@zaa T _ _ c181.eq_1
theorem t182:T (zau)=some e182:=by kernel_rfl
@[go_sem]def al182_0:=@zaa T _ _ ybi.eq_1
@[go_sem]def al182_1:=@zaa T _ _ ybh.eq_1
@[go_sem]def al182_2:=@zaa T _ _ zw2.eq_1
@[go_sem]def a182:=@zaa T _ _ c182.eq_1
def zk1(a0 a1:AV)(H:List AO):=ff (vs:=[a0,a1]) t182 rfl H
noncomputable def zbg(H h:List AO)(x0 x1 x11 x12 x13:AV):Option RH:=awL T [0,1,11,12,13] [] ybi (za5 0 (thn (aw T (A z0z 5 (.block 2 (.loop [0,1,33,34,35] [] zw2))) (zam H [])) (zam H []))) ⟨⟨60,[(0,.v x0),(1,.v x1),(11,.v x11),(12,.v x12),(13,.v x13)]⟩,[],h,[]⟩
@[go_sem]def g_under_situation_clauses_1_0(H h x0 x1 x11 x12 x13):=(zbg.eq_1 H h x0 x1 x11 x12 x13).symm
noncomputable def zcc(H h:List AO)(x0 x1 x7 x33 x34 x35 x46 x47 x48:AV):Option RH:=awL T [0,1,7,33,34,35,46,47,48] [] ybh (za5 4 (za5 3 (thn (aw T (.reg (R z0z 14)) (thn (again T [0,1,33,34,35] [] zw2 (za5 2 (zam H []))) (za5 2 (zam H [])))) (thn (again T [0,1,33,34,35] [] zw2 (za5 2 (zam H []))) (za5 2 (zam H [])))))) ⟨⟨60,[(0,.v x0),(1,.v x1),(7,.v x7),(33,.v x33),(34,.v x34),(35,.v x35),(46,.v x46),(47,.v x47),(48,.v x48)]⟩,[],h,[]⟩
@[go_sem]def g_under_situation_clauses_1_1(H h x0 x1 x7 x33 x34 x35 x46 x47 x48):=(zcc.eq_1 H h x0 x1 x7 x33 x34 x35 x46 x47 x48).symm
noncomputable def zbf(H h:List AO)(x0 x1 x33 x34 x35:AV):Option RH:=awL T [0,1,33,34,35] [] zw2 (za5 2 (zam H [])) ⟨⟨60,[(0,.v x0),(1,.v x1),(33,.v x33),(34,.v x34),(35,.v x35)]⟩,[],h,[]⟩
@[go_sem]def g_under_situation_clauses_1_2(H h x0 x1 x33 x34 x35):=(zbf.eq_1 H h x0 x1 x33 x34 x35).symm
theorem t183:T (zkb)=some e183:=by kernel_rfl
@[go_sem]def z9p:=@zaa T _ _ zem.eq_1
@[go_sem]theorem zte:FC.okd zem=true:=by kernel_rfl
@[go_sem]def z9n:=@zaa T _ _ zej.eq_1
@[go_sem]theorem ztc:FC.okd zej=true:=by kernel_rfl
@[go_sem]def a183:=@zaa T _ _ c183.eq_1
def z2b(a0 a1:AV)(H:List AO):=ff (vs:=[a0,a1]) t183 rfl H
theorem t184:T (zn5)=some e184:=by kernel_rfl
@[go_sem]def yd0:=@zaa T _ _ zcb.eq_1
@[go_sem]theorem zup:FC.okd zcb=true:=by kernel_rfl
@[go_sem]def ydy:=@zaa T _ _ zca.eq_1
@[go_sem]theorem zun:FC.okd zca=true:=by kernel_rfl
@[go_sem]def a184:=@zaa T _ _ c184.eq_1
def z4m(a0 a1 a2:AV)(H:List AO):=ff (vs:=[a0,a1,a2]) t184 rfl H
theorem t185:T (zkk)=some e185:=by kernel_rfl
@[go_sem]def a185:=@zaa T _ _ c185.eq_1
def zy1(a0 a1:AV)(H:List AO):=ff (vs:=[a0,a1]) t185 rfl H
@[go_sem]def a186:=@zaa T _ _ c186.eq_1
theorem t187:T (zhi)=some e187:=by kernel_rfl
@[go_sem]def al187_0:=@zaa T _ _ ybg.eq_1
@[go_sem]def a187:=@zaa T _ _ c187.eq_1
def zqe(a0:AV)(H:List AO):=ff (vs:=[a0]) t187 rfl H
noncomputable def zga(H h:List AO)(x10 x11 x12:AV)(v1 v2:List AV):Option RH:=awL T [1,2,10,11,12] [1,2] ybg (za5 0 (thn (aw T (A yeo 8 .ret) (zam H [.c 2 true 2])) (zam H [.c 2 true 2]))) ⟨⟨28,[(1,.lp 1 0),(2,.lp 2 0),(10,.v x10),(11,.v x11),(12,.v x12)]⟩,[(1,v1),(2,v2)],h,[]⟩
@[go_sem]def g_flat_succ_0(H h x10 x11 x12 v1 v2):=(zga.eq_1 H h x10 x11 x12 v1 v2).symm
@[go_sem]def al188_0:=@zaa T _ _ yjf.eq_1
@[go_sem]def al188_1:=@zaa T _ _ yje.eq_1
@[go_sem]def a188:=@zaa T _ _ c188.eq_1
theorem t189:T (zek)=some e189:=by kernel_rfl
@[go_sem]def al189_0:=@zaa T _ _ ybf.eq_1
@[go_sem]def a189:=@zaa T _ _ c189.eq_1
def zns(a0:AV)(H:List AO):=ff (vs:=[a0]) t189 rfl H
noncomputable def zcw(H h:List AO)(x0 x3 x4:AV):Option RH:=awL T [0,3,4] [] ybf (za5 0 (thn (aw T (A yen 8 .ret) (zam H [.t 2])) (zam H [.t 2]))) ⟨⟨25,[(0,.v x0),(3,.v x3),(4,.v x4)]⟩,[],h,[]⟩
@[go_sem]def g_slices_Max_int_0(H h x0 x3 x4):=(zcw.eq_1 H h x0 x3 x4).symm
theorem t190:T (zg1)=some e190:=by kernel_rfl
@[go_sem]def a190:=@zaa T _ _ c190.eq_1
def zwe(a0:AV)(H:List AO):=ff (vs:=[a0]) t190 rfl H
theorem t191:T (zb1)=some e191:=by kernel_rfl
@[go_sem]def a191:=@zaa T _ _ c191.eq_1
def zju(a0 a1:AV)(H:List AO):=ff (vs:=[a0,a1]) t191 rfl H
theorem t192:T (zka)=some e192:=by kernel_rfl
@[go_sem]def a192:=@zaa T _ _ c192.eq_1
def z2a(a0:AV)(H:List AO):=ff (vs:=[a0]) t192 rfl H
theorem t193:T (zqn)=some e193:=by kernel_rfl
@[go_sem]def a193:=@zaa T _ _ c193.eq_1
def z79(a0:AV)(H:List AO):=ff (vs:=[a0]) t193 rfl H
@[go_sem]def a194:=@zaa T _ _ c194.eq_1
theorem zrl:T (zav)=some (.ext (zvq 1)):=by kernel_rfl
theorem zrb(a0:AV)(H:List AO):F zav [a0] H=zvq 1 [a0] H:=fnF_ext zrl _ H
theorem t196:T (zoi)=some e196:=by kernel_rfl
@[go_sem]def yd1:=@zaa T _ _ ze3.eq_1
@[go_sem]theorem zuq:FC.okd ze3=true:=by kernel_rfl
@[go_sem]def ydz:=@zaa T _ _ ze1.eq_1
@[go_sem]theorem zuo:FC.okd ze1=true:=by kernel_rfl
@[go_sem]def a196:=@zaa T _ _ c196.eq_1
def z4v(a0 a1:AV)(H:List AO):=ff (vs:=[a0,a1]) t196 rfl H
@[go_sem]def al197_0:=@zaa T _ _ yjd.eq_1
@[go_sem]def a197:=@zaa T _ _ c197.eq_1
theorem t198:T (zcr)=some e198:=by kernel_rfl
@[go_sem]def al198_0:=@zaa T _ _ ybe.eq_1
@[go_sem]def a198:=@zaa T _ _ c198.eq_1
def zlx(a0 a1:AV)(H:List AO):=ff (vs:=[a0,a1]) t198 rfl H
noncomputable def zbx(H h:List AO)(x0 x1 x7 x8:AV):Option RH:=awL T [0,1,7,8] [] ybe (za5 0 (thn (aw T (A yfq 7 .ret) (zam H [.t 4])) (zam H [.t 4]))) ⟨⟨19,[(0,.v x0),(1,.v x1),(7,.v x7),(8,.v x8)]⟩,[],h,[]⟩
@[go_sem]def g_slices_IndexFunc_Clause_0(H h x0 x1 x7 x8):=(zbx.eq_1 H h x0 x1 x7 x8).symm
theorem t199:T (zg0)=some e199:=by kernel_rfl
@[go_sem]def al199_0:=@zaa T _ _ ybd.eq_1
@[go_sem]def al199_1:=@zaa T _ _ z1a.eq_1
@[go_sem]def a199:=@zaa T _ _ c199.eq_1
def zwd(a0 a1:AV)(H:List AO):=ff (vs:=[a0,a1]) t199 rfl H
noncomputable def zgm(H h:List AO)(x0 x3 x7 x8 x9 x20 x21 x22:AV):Option RH:=awL T [0,3,7,8,9,20,21,22] [] ybd (za5 2 (za5 1 (thn (aw T (.reg (R yem 8)) (thn (again T [0,7,8,9] [] z1a (za5 0 (zam H []))) (za5 0 (zam H [])))) (thn (again T [0,7,8,9] [] z1a (za5 0 (zam H []))) (za5 0 (zam H [])))))) ⟨⟨33,[(0,.v x0),(3,.v x3),(7,.v x7),(8,.v x8),(9,.v x9),(20,.v x20),(21,.v x21),(22,.v x22)]⟩,[],h,[]⟩
@[go_sem]def g_horn_atoms_1_0(H h x0 x3 x7 x8 x9 x20 x21 x22):=(zgm.eq_1 H h x0 x3 x7 x8 x9 x20 x21 x22).symm
noncomputable def zfe(H h:List AO)(x0 x7 x8 x9:AV):Option RH:=awL T [0,7,8,9] [] z1a (za5 0 (zam H [])) ⟨⟨33,[(0,.v x0),(7,.v x7),(8,.v x8),(9,.v x9)]⟩,[],h,[]⟩
@[go_sem]def g_horn_atoms_1_1(H h x0 x7 x8 x9):=(zfe.eq_1 H h x0 x7 x8 x9).symm
theorem t200:T (zef)=some e200:=by kernel_rfl
@[go_sem]def al200_0:=@zaa T _ _ ybc.eq_1
@[go_sem]def al200_1:=@zaa T _ _ z6b.eq_1
@[go_sem]def a200:=@zaa T _ _ c200.eq_1
def zpp(a0:AV)(H:List AO):=ff (vs:=[a0]) t200 rfl H
noncomputable def zea(H h:List AO)(x0 x3 x9 x10 x11:AV):Option RH:=awL T [0,3,9,10,11] [] ybc (za5 0 (thn (aw T (A zwv 9 (.seq (A zwv 10 (.block 2 (.loop [6,25,26,27] [] z6b))) (A zwv 15 .ret))) (zam H [.t 2])) (zam H [.t 2]))) ⟨⟨36,[(0,.v x0),(3,.v x3),(9,.v x9),(10,.v x10),(11,.v x11)]⟩,[],h,[]⟩
@[go_sem]def g_slices_Concat_Atom_0(H h x0 x3 x9 x10 x11):=(zea.eq_1 H h x0 x3 x9 x10 x11).symm
noncomputable def zd9(H h:List AO)(x6 x25 x26 x27:AV):Option RH:=awL T [6,25,26,27] [] z6b (za5 2 (thn (aw T (A zwv 15 .ret) (zam H [.t 2])) (zam H [.t 2]))) ⟨⟨36,[(6,.v x6),(25,.v x25),(26,.v x26),(27,.v x27)]⟩,[],h,[]⟩
@[go_sem]def g_slices_Concat_Atom_1(H h x6 x25 x26 x27):=(zd9.eq_1 H h x6 x25 x26 x27).symm
theorem t201:T (zb4)=some e201:=by kernel_rfl
@[go_sem]def al201_0:=@zaa T _ _ ybb.eq_1
@[go_sem]def a201:=@zaa T _ _ c201.eq_1
def znw(a0 a1 a2:AV)(H:List AO):=ff (vs:=[a0,a1,a2]) t201 rfl H
noncomputable def zci(H h:List AO)(x0 x1 x2:AV):Option RH:=awL T [0,1,2] [] ybb (za5 0 (zam H [])) ⟨⟨11,[(0,.v x0),(1,.v x1),(2,.v x2)]⟩,[],h,[]⟩
@[go_sem]def g_solve_model_rounds_1_0(H h x0 x1 x2):=(zci.eq_1 H h x0 x1 x2).symm
theorem t202:T (zew)=some e202:=by kernel_rfl
@[go_sem]def al202_0:=@zaa T _ _ yba.eq_1
@[go_sem]def a202:=@zaa T _ _ c202.eq_1
def zqb(a0 a1:AV)(H:List AO):=ff (vs:=[a0,a1]) t202 rfl H
theorem t203:T (zf5)=some e203:=by kernel_rfl
@[go_sem]def a203:=@zaa T _ _ c203.eq_1
def zvd(a0 a1:AV)(H:List AO):=ff (vs:=[a0,a1]) t203 rfl H
theorem t204:T (ze8)=some e204:=by kernel_rfl
@[go_sem]def a204:=@zaa T _ _ c204.eq_1
def zra(a0 a1:AV)(H:List AO):=ffK (vs:=[a0,a1]) t204 rfl H
theorem t205:T (zoj)=some e205:=by kernel_rfl
@[go_sem]def a205:=@zaa T _ _ c205.eq_1
def z4w(a0 a1:AV)(H:List AO):=ff (vs:=[a0,a1]) t205 rfl H
@[go_sem]def a206:=@zaa T _ _ c206.eq_1
theorem t207:T (zfv)=some e207:=by kernel_rfl
@[go_sem]def a207:=@zaa T _ _ c207.eq_1
def zsi(a0 a1:AV)(H:List AO):=ff (vs:=[a0,a1]) t207 rfl H
theorem t208:T (zij)=some e208:=by kernel_rfl
@[go_sem]def a208:=@zaa T _ _ c208.eq_1
def zzo(a0 a1 a2:AV)(H:List AO):=ff (vs:=[a0,a1,a2]) t208 rfl H
theorem t209:T (zd2)=some e209:=by kernel_rfl
@[go_sem]def al209_0:=@zaa T _ _ ya9.eq_1
@[go_sem]def a209:=@zaa T _ _ c209.eq_1
def zop(a0 a1:AV)(H:List AO):=ff (vs:=[a0,a1]) t209 rfl H
noncomputable def zcv(H h:List AO)(x0 x1 x6:AV)(v4 v5:List AV):Option RH:=awL T [0,1,4,5,6] [4,5] ya9 (za5 0 (thn (aw T (A yah 9 .ret) (zam H [.c 2 true 4])) (zam H [.c 2 true 4]))) ⟨⟨33,[(0,.v x0),(1,.v x1),(4,.lp 4 0),(5,.lp 5 0),(6,.v x6)]⟩,[(4,v4),(5,v5)],h,[]⟩
@[go_sem]def g_slices_MinFunc_Atom_0(H h x0 x1 x6 v4 v5):=(zcv.eq_1 H h x0 x1 x6 v4 v5).symm
theorem t210:T (za0+1000000)=some e210:=by kernel_rfl
@[go_sem]def zs4:=@zaa T _ _ zat.eq_1
@[go_sem]theorem zi9:FC.okd zat=true:=by kernel_rfl
@[go_sem]def zs3:=@zaa T _ _ zas.eq_1
@[go_sem]theorem zi8:FC.okd zas=true:=by kernel_rfl
@[go_sem]def a210:=@zaa T _ _ c210.eq_1
def zld(a0 a1:AV)(H:List AO):=ffA (vs:=[a0,a1]) t210 rfl H
theorem t211:T (zbs+1000000)=some e211:=by kernel_rfl
@[go_sem]def a211:=@zaa T _ _ c211.eq_1
def zmt(a0:AV)(H:List AO):=ffA (vs:=[a0]) t211 rfl H
theorem zqi:T (zav+1000000)=some (.alx (zs1 1)):=by kernel_rfl
theorem zk3(a0:AV)(H:List AO):FK zav [a0] H=zs1 1 [a0] H:=fkF_ext zqi _ H
theorem t213:T (zcd+1000000)=some e213:=by kernel_rfl
@[go_sem]def al213_0:=@zaa T _ _ ya8.eq_1
@[go_sem]def a213:=@zaa T _ _ c213.eq_1
def zpo(a0 a1:AV)(H:List AO):=ffA (vs:=[a0,a1]) t213 rfl H
noncomputable def zag(H h:List AO)(x7 x8:AV):Option RH:=awL T [7,8] [] ya8 (za5 0 (thn (aw T (A z9a 10 .ret) (zjn H [.t 4])) (zjn H [.t 4]))) ⟨⟨48,[(7,.v x7),(8,.v x8)]⟩,[],h,[]⟩
@[go_sem]def g_slices_Repeat_intK_0(H h x7 x8):=(zag.eq_1 H h x7 x8).symm
theorem t214:T (zg3+1000000)=some e214:=by kernel_rfl
@[go_sem]def a214:=@zaa T _ _ c214.eq_1
def zzp(a0 a1:AV)(H:List AO):=ffA (vs:=[a0,a1]) t214 rfl H
theorem t215:T (zfy+1000000)=some e215:=by kernel_rfl
@[go_sem]def al215_0:=@zaa T _ _ ya7.eq_1
@[go_sem]def al215_1:=@zaa T _ _ z09.eq_1
@[go_sem]def a215:=@zaa T _ _ c215.eq_1
def zsz(a0 a1:AV)(H:List AO):=ffA (vs:=[a0,a1]) t215 rfl H
noncomputable def zeo(H h:List AO)(x16 x17 x18 x29 x30 x31:AV)(v4 v5:List AV):Option RH:=awL T [4,5,16,17,18,29,30,31] [4,5] ya7 (za5 2 (za5 1 (thn (aw T (.reg (R zx5 11)) (thn (again T [4,5,16,17,18] [4,5] z09 (za5 0 (thn (aw T (A zx5 12 .ret) (zjn H [.c 2 true 4])) (zjn H [.c 2 true 4])))) (za5 0 (thn (aw T (A zx5 12 .ret) (zjn H [.c 2 true 4])) (zjn H [.c 2 true 4]))))) (thn (again T [4,5,16,17,18] [4,5] z09 (za5 0 (thn (aw T (A zx5 12 .ret) (zjn H [.c 2 true 4])) (zjn H [.c 2 true 4])))) (za5 0 (thn (aw T (A zx5 12 .ret) (zjn H [.c 2 true 4])) (zjn H [.c 2 true 4]))))))) ⟨⟨50,[(4,.lp 4 0),(5,.lp 5 0),(16,.v x16),(17,.v x17),(18,.v x18),(29,.v x29),(30,.v x30),(31,.v x31)]⟩,[(4,v4),(5,v5)],h,[]⟩
@[go_sem]def g_flat_joinK_0(H h x16 x17 x18 x29 x30 x31 v4 v5):=(zeo.eq_1 H h x16 x17 x18 x29 x30 x31 v4 v5).symm
noncomputable def zb9(H h:List AO)(x16 x17 x18:AV)(v4 v5:List AV):Option RH:=awL T [4,5,16,17,18] [4,5] z09 (za5 0 (thn (aw T (A zx5 12 .ret) (zjn H [.c 2 true 4])) (zjn H [.c 2 true 4]))) ⟨⟨50,[(4,.lp 4 0),(5,.lp 5 0),(16,.v x16),(17,.v x17),(18,.v x18)]⟩,[(4,v4),(5,v5)],h,[]⟩
@[go_sem]def g_flat_joinK_1(H h x16 x17 x18 v4 v5):=(zb9.eq_1 H h x16 x17 x18 v4 v5).symm
theorem t216:T (zfx+1000000)=some e216:=by kernel_rfl
@[go_sem]def a216:=@zaa T _ _ c216.eq_1
def z8c(a0 a1:AV)(H:List AO):=ffA (vs:=[a0,a1]) t216 rfl H
theorem t217:T (zcq+1000000)=some e217:=by kernel_rfl
@[go_sem]def a217:=@zaa T _ _ c217.eq_1
def zoo(a0 a1:AV)(H:List AO):=ffA (vs:=[a0,a1]) t217 rfl H
end Go.Ab
end
