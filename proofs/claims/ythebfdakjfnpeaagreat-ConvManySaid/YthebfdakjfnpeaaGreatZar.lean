/- What the law ConvMany of layer 17 comes to, part 18. Conditions: none. -/
import Derived.Test.YthebfdakjfnpeaaGreatZaq
section
set_option linter.unusedVariables false
set_option linter.defProp false
set_option maxRecDepth 100000
namespace Go.Ab
open Go.RowKit Go.Proofs
theorem t3:T (law17_ConvMany)=some e3:=by kernel_rfl
@[go_sem]def al3_0:=@aw_named T _ _ l3_0.eq_1
@[go_sem]def al3_1:=@aw_named T _ _ l3_1.eq_1
@[go_sem]def a3:=@aw_named T _ _ c3.eq_1
def f_law17_ConvMany(a0 a1:AV)(H:List AO):=ff (vs:=[a0,a1]) t3 rfl H
noncomputable def L_law17_ConvMany_0(H h:List AO)(x0 x1 x7:AV)(v5 v6:List AV):Option RH:=awL T [0,1,5,6,7] [5,6] l3_0 (blkF 0 (thn (aw T (A q3 12 (.seq (A q3 13 (.block 2 (.loop [0,1,5,6,9,10] [5,6,9] l3_1))) (E q3 17 (A q3 18 .ret)))) (finF H [.t 4])) (finF H [.t 4]))) ⟨⟨84,[(0,.v x0),(1,.v x1),(5,.lp 5 0),(6,.lp 6 0),(7,.v x7)]⟩,[(5,v5),(6,v6)],h,[]⟩
attribute [go_sem ←] L_law17_ConvMany_0.eq_1
noncomputable def L_law17_ConvMany_1(H h:List AO)(x0 x1 x10:AV)(v5 v6 v9:List AV):Option RH:=awL T [0,1,5,6,9,10] [5,6,9] l3_1 (blkF 2 (thn (aw T (E q3 17 (A q3 18 .ret)) (finF H [.t 4])) (finF H [.t 4]))) ⟨⟨84,[(0,.v x0),(1,.v x1),(5,.lp 5 0),(6,.lp 6 0),(9,.lp 9 0),(10,.v x10)]⟩,[(5,v5),(6,v6),(9,v9)],h,[]⟩
attribute [go_sem ←] L_law17_ConvMany_1.eq_1
theorem t9:T (law17_awake)=some e9:=by kernel_rfl
@[go_sem]def a9:=@aw_named T _ _ c9.eq_1
def f_law17_awake(H:List AO):=ff (vs:=[]) t9 rfl H
theorem t10:T (law17_same)=some e10:=by kernel_rfl
@[go_sem]def a10:=@aw_named T _ _ c10.eq_1
def f_law17_same(a0 a1 a2 a3 a4:AV)(H:List AO):=ff (vs:=[a0,a1,a2,a3,a4]) t10 rfl H
theorem t11:T (ref13_Parts)=some e11:=by kernel_rfl
@[go_sem]def al11_0:=@aw_named T _ _ l11_0.eq_1
@[go_sem]def a11:=@aw_named T _ _ c11.eq_1
def f_ref13_Parts(a0 a1:AV)(H:List AO):=ff (vs:=[a0,a1]) t11 rfl H
noncomputable def L_ref13_Parts_0(H h:List AO)(x1 x5 x6:AV)(v2:List AV):Option RH:=awL T [1,2,5,6] [2] l11_0 (blkF 0 (thn (aw T (A q11 6 .ret) (finF H [.t 4])) (finF H [.t 4]))) ⟨⟨31,[(1,.v x1),(2,.lp 2 0),(5,.v x5),(6,.v x6)]⟩,[(2,v2)],h,[]⟩
attribute [go_sem ←] L_ref13_Parts_0.eq_1
theorem t12:T (law13_Sort)=some e12:=by kernel_rfl
@[go_sem]def a12:=@aw_named T _ _ c12.eq_1
def f_law13_Sort(a0:AV)(H:List AO):=ff (vs:=[a0]) t12 rfl H
theorem t13:T (law13_Bind)=some e13:=by kernel_rfl
@[go_sem]def a13:=@aw_named T _ _ c13.eq_1
def f_law13_Bind(a0 a1:AV)(H:List AO):=ff (vs:=[a0,a1]) t13 rfl H
theorem t14:T (law17_wide)=some e14:=by kernel_rfl
@[go_sem]def a14:=@aw_named T _ _ c14.eq_1
def f_law17_wide(a0:AV)(H:List AO):=ff (vs:=[a0]) t14 rfl H
theorem t16:T (conv_Conv)=some e16:=by kernel_rfl
@[go_sem]def a16:=@aw_named T _ _ c16.eq_1
def f_conv_Conv(a0 a1 a2 a3 a4:AV)(H:List AO):=ff (vs:=[a0,a1,a2,a3,a4]) t16 rfl H
theorem t17:T (ref13_Right)=some e17:=by kernel_rfl
@[go_sem]def a17:=@aw_named T _ _ c17.eq_1
def f_ref13_Right(a0 a1 a2 a3:AV)(H:List AO):=ff (vs:=[a0,a1,a2,a3]) t17 rfl H
theorem t18:T (ref12_Leq)=some e18:=by kernel_rfl
@[go_sem]def al18_0:=@aw_named T _ _ l18_0.eq_1
@[go_sem]def al18_1:=@aw_named T _ _ l18_1.eq_1
@[go_sem]def a18:=@aw_named T _ _ c18.eq_1
def f_ref12_Leq(a0 a1 a2 a3:AV)(H:List AO):=ff (vs:=[a0,a1,a2,a3]) t18 rfl H
noncomputable def L_ref12_Leq_0(H h:List AO)(x0 x1 x11 x12 x17 x18 x19:AV)(v6 v7 v15:List AV):Option RH:=awL T [0,1,6,7,11,12,15,17,18,19] [6,7,15] l18_0 (blkF 2 (blkF 1 (thn (aw T (.reg (R q18 16)) (thn (again T [0,1,6,7,11] [6,7] l18_1 (blkF 0 (thn (aw T (A q18 17 .ret) (finF H [.t 8,.t 9,.t 10])) (finF H [.t 8,.t 9,.t 10])))) (blkF 0 (thn (aw T (A q18 17 .ret) (finF H [.t 8,.t 9,.t 10])) (finF H [.t 8,.t 9,.t 10]))))) (thn (again T [0,1,6,7,11] [6,7] l18_1 (blkF 0 (thn (aw T (A q18 17 .ret) (finF H [.t 8,.t 9,.t 10])) (finF H [.t 8,.t 9,.t 10])))) (blkF 0 (thn (aw T (A q18 17 .ret) (finF H [.t 8,.t 9,.t 10])) (finF H [.t 8,.t 9,.t 10]))))))) ⟨⟨84,[(0,.v x0),(1,.v x1),(6,.lp 6 0),(7,.lp 7 0),(11,.v x11),(12,.v x12),(15,.lp 15 0),(17,.v x17),(18,.v x18),(19,.v x19)]⟩,[(6,v6),(7,v7),(15,v15)],h,[]⟩
attribute [go_sem ←] L_ref12_Leq_0.eq_1
noncomputable def L_ref12_Leq_1(H h:List AO)(x0 x1 x11:AV)(v6 v7:List AV):Option RH:=awL T [0,1,6,7,11] [6,7] l18_1 (blkF 0 (thn (aw T (A q18 17 .ret) (finF H [.t 8,.t 9,.t 10])) (finF H [.t 8,.t 9,.t 10]))) ⟨⟨84,[(0,.v x0),(1,.v x1),(6,.lp 6 0),(7,.lp 7 0),(11,.v x11)]⟩,[(6,v6),(7,v7)],h,[]⟩
attribute [go_sem ←] L_ref12_Leq_1.eq_1
theorem t23:T (ref13_Lift)=some e23:=by kernel_rfl
@[go_sem]def a23:=@aw_named T _ _ c23.eq_1
def f_ref13_Lift(a0 a1 a2:AV)(H:List AO):=ff (vs:=[a0,a1,a2]) t23 rfl H
theorem t27:T (conv_Right)=some e27:=by kernel_rfl
@[go_sem]def a27:=@aw_named T _ _ c27.eq_1
def f_conv_Right(a0:AV)(H:List AO):=ff (vs:=[a0]) t27 rfl H
theorem t28:T (ref17_Conv)=some e28:=by kernel_rfl
@[go_sem]def a28:=@aw_named T _ _ c28.eq_1
def f_ref17_Conv(a0 a1 a2 a3 a4:AV)(H:List AO):=ff (vs:=[a0,a1,a2,a3,a4]) t28 rfl H
theorem t29:T (ref17_SameCons)=some e29:=by kernel_rfl
@[go_sem]def al29_0:=@aw_named T _ _ l29_0.eq_1
@[go_sem]def a29:=@aw_named T _ _ c29.eq_1
def f_ref17_SameCons(a0 a1:AV)(H:List AO):=ff (vs:=[a0,a1]) t29 rfl H
noncomputable def L_ref17_SameCons_0(H h:List AO)(x0 x1 x5:AV):Option RH:=awL T [0,1,5] [] l29_0 (blkF 0 (thn (aw T (A q29 8 .ret) (finF H [.t 4])) (finF H [.t 4]))) ⟨⟨43,[(0,.v x0),(1,.v x1),(5,.v x5)]⟩,[],h,[]⟩
attribute [go_sem ←] L_ref17_SameCons_0.eq_1
theorem t30:T (ref17_Right)=some e30:=by kernel_rfl
@[go_sem]def a30:=@aw_named T _ _ c30.eq_1
def f_ref17_Right(a0:AV)(H:List AO):=ff (vs:=[a0]) t30 rfl H
theorem t31:T (ref16_Right)=some e31:=by kernel_rfl
@[go_sem]def al31_0:=@aw_named T _ _ l31_0.eq_1
@[go_sem]def a31:=@aw_named T _ _ c31.eq_1
def f_ref16_Right(a0:AV)(H:List AO):=ff (vs:=[a0]) t31 rfl H
noncomputable def L_ref16_Right_0(H h:List AO)(x0 x3:AV):Option RH:=awL T [0,3] [] l31_0 (blkF 0 (thn (aw T (A q31 6 .ret) (finF H [.t 2])) (finF H [.t 2]))) ⟨⟨20,[(0,.v x0),(3,.v x3)]⟩,[],h,[]⟩
attribute [go_sem ←] L_ref16_Right_0.eq_1
theorem t32:T (ref13_Shape)=some e32:=by kernel_rfl
@[go_sem]def a32:=@aw_named T _ _ c32.eq_1
def f_ref13_Shape(a0:AV)(H:List AO):=ff (vs:=[a0]) t32 rfl H
theorem t33:T (ref16_Machine_Head)=some e33:=by kernel_rfl
@[go_sem]def al33_0:=@aw_named T _ _ l33_0.eq_1
@[go_sem]def a33:=@aw_named T _ _ c33.eq_1
def f_ref16_Machine_Head(a0 a1:AV)(H:List AO):=ff (vs:=[a0,a1]) t33 rfl H
noncomputable def L_ref16_Machine_Head_0(H h:List AO)(x0:AV)(v3 v4:List AV):Option RH:=awL T [0,3,4] [3,4] l33_0 (blkF 0 (thn (aw T (A q33 15 .ret) (finF H [.c 4 true 4])) (finF H [.c 4 true 4]))) ⟨⟨96,[(0,.v x0),(3,.lp 3 0),(4,.lp 4 0)]⟩,[(3,v3),(4,v4)],h,[]⟩
attribute [go_sem ←] L_ref16_Machine_Head_0.eq_1
theorem t34:T (term_Right)=some e34:=by kernel_rfl
@[go_sem]def a34:=@aw_named T _ _ c34.eq_1
def f_term_Right(a0 a1 a2 a3:AV)(H:List AO):=ff (vs:=[a0,a1,a2,a3]) t34 rfl H
theorem t35:T (conv_New)=some e35:=by kernel_rfl
@[go_sem]def a35:=@aw_named T _ _ c35.eq_1
def f_conv_New(a0 a1:AV)(H:List AO):=ffK (vs:=[a0,a1]) t35 rfl H
theorem t36:T (conv_Machine_Alike)=some e36:=by kernel_rfl
@[go_sem]def a36:=@aw_named T _ _ c36.eq_1
def f_conv_Machine_Alike(a0 a1 a2 a3:AV)(H:List AO):=ff (vs:=[a0,a1,a2,a3]) t36 rfl H
theorem t37:T (ref13_right)=some e37:=by kernel_rfl
@[go_sem]def al37_0:=@aw_named T _ _ l37_0.eq_1
@[go_sem]def a37:=@aw_named T _ _ c37.eq_1
def f_ref13_right(a0 a1 a2 a3 a4:AV)(H:List AO):=ff (vs:=[a0,a1,a2,a3,a4]) t37 rfl H
noncomputable def L_ref13_right_0(H h:List AO)(x1 x2 x3 x4 x11:AV)(v5:List AV):Option RH:=awL T [1,2,3,4,5,11] [5] l37_0 (blkF 0 (thn (aw T (A q37 8 .ret) (finF H [.t 10])) (finF H [.t 10]))) ⟨⟨55,[(1,.v x1),(2,.v x2),(3,.v x3),(4,.v x4),(5,.lp 5 0),(11,.v x11)]⟩,[(5,v5)],h,[]⟩
attribute [go_sem ←] L_ref13_right_0.eq_1
theorem t38:T (ref12_Right)=some e38:=by kernel_rfl
@[go_sem]def al38_0:=@aw_named T _ _ l38_0.eq_1
@[go_sem]def a38:=@aw_named T _ _ c38.eq_1
def f_ref12_Right(a0 a1:AV)(H:List AO):=ff (vs:=[a0,a1]) t38 rfl H
noncomputable def L_ref12_Right_0(H h:List AO)(x0 x1 x5:AV):Option RH:=awL T [0,1,5] [] l38_0 (blkF 0 (thn (aw T (A q38 6 .ret) (finF H [.t 4])) (finF H [.t 4]))) ⟨⟨41,[(0,.v x0),(1,.v x1),(5,.v x5)]⟩,[],h,[]⟩
attribute [go_sem ←] L_ref12_Right_0.eq_1
theorem t39:T (ref02_Right)=some e39:=by kernel_rfl
@[go_sem]def a39:=@aw_named T _ _ c39.eq_1
def f_ref02_Right(a0 a1 a2:AV)(H:List AO):=ff (vs:=[a0,a1,a2]) t39 rfl H
theorem t40:T (ref07_Case)=some e40:=by kernel_rfl
@[go_sem]def al40_0:=@aw_named T _ _ l40_0.eq_1
@[go_sem]def a40:=@aw_named T _ _ c40.eq_1
def f_ref07_Case(a0 a1:AV)(H:List AO):=ff (vs:=[a0,a1]) t40 rfl H
noncomputable def L_ref07_Case_0(H h:List AO)(x0 x1 x5 x6:AV):Option RH:=awL T [0,1,5,6] [] l40_0 (blkF 0 (thn (aw T (A q40 7 .ret) (finF H [.t 4])) (finF H [.t 4]))) ⟨⟨21,[(0,.v x0),(1,.v x1),(5,.v x5),(6,.v x6)]⟩,[],h,[]⟩
attribute [go_sem ←] L_ref07_Case_0.eq_1
theorem t41:T (ref06_Flatten)=some e41:=by kernel_rfl
@[go_sem]def al41_0:=@aw_named T _ _ l41_0.eq_1
@[go_sem]def a41:=@aw_named T _ _ c41.eq_1
def f_ref06_Flatten(a0 a1:AV)(H:List AO):=ff (vs:=[a0,a1]) t41 rfl H
noncomputable def L_ref06_Flatten_0(H h:List AO)(x7:AV)(v4 v6:List AV):Option RH:=awL T [4,6,7] [4,6] l41_0 (blkF 0 (thn (aw T (A q41 9 .ret) (finF H [.c 2 true 4,.t 5])) (finF H [.c 2 true 4,.t 5]))) ⟨⟨43,[(4,.lp 4 0),(6,.lp 6 0),(7,.v x7)]⟩,[(4,v4),(6,v6)],h,[]⟩
attribute [go_sem ←] L_ref06_Flatten_0.eq_1
theorem t42:T (ref12_Atoms)=some e42:=by kernel_rfl
@[go_sem]def al42_0:=@aw_named T _ _ l42_0.eq_1
@[go_sem]def a42:=@aw_named T _ _ c42.eq_1
def f_ref12_Atoms(a0:AV)(H:List AO):=ff (vs:=[a0]) t42 rfl H
noncomputable def L_ref12_Atoms_0(H h:List AO)(x3 x4:AV)(v1:List AV):Option RH:=awL T [1,3,4] [1] l42_0 (blkF 0 (thn (aw T (A q42 7 .ret) (finF H [.t 2])) (finF H [.t 2]))) ⟨⟨34,[(1,.lp 1 0),(3,.v x3),(4,.v x4)]⟩,[(1,v1)],h,[]⟩
attribute [go_sem ←] L_ref12_Atoms_0.eq_1
theorem t43:T (ref12_clauses)=some e43:=by kernel_rfl
@[go_sem]def al43_0:=@aw_named T _ _ l43_0.eq_1
@[go_sem]def al43_1:=@aw_named T _ _ l43_1.eq_1
@[go_sem]def al43_2:=@aw_named T _ _ l43_2.eq_1
@[go_sem]def a43:=@aw_named T _ _ c43.eq_1
def f_ref12_clauses(a0 a1:AV)(H:List AO):=ff (vs:=[a0,a1]) t43 rfl H
noncomputable def L_ref12_clauses_0(H h:List AO)(x0 x1 x5 x6:AV):Option RH:=awL T [0,1,5,6] [] l43_0 (blkF 0 (thn (aw T (.seq (A q43 7 (.block 2 (.loop [0,1,5,7] [] l43_2))) (A q43 17 .ret)) (finF H [.t 4])) (finF H [.t 4]))) ⟨⟨79,[(0,.v x0),(1,.v x1),(5,.v x5),(6,.v x6)]⟩,[],h,[]⟩
attribute [go_sem ←] L_ref12_clauses_0.eq_1
noncomputable def L_ref12_clauses_1(H h:List AO)(x0 x1 x5 x7 x12 x13:AV)(v10:List AV):Option RH:=awL T [0,1,5,7,10,12,13] [10] l43_1 (blkF 4 (blkF 3 (thn (aw T (.reg (R q43 16)) (thn (again T [0,1,5,7] [] l43_2 (blkF 2 (thn (aw T (A q43 17 .ret) (finF H [.t 4])) (finF H [.t 4])))) (blkF 2 (thn (aw T (A q43 17 .ret) (finF H [.t 4])) (finF H [.t 4]))))) (thn (again T [0,1,5,7] [] l43_2 (blkF 2 (thn (aw T (A q43 17 .ret) (finF H [.t 4])) (finF H [.t 4])))) (blkF 2 (thn (aw T (A q43 17 .ret) (finF H [.t 4])) (finF H [.t 4]))))))) ⟨⟨79,[(0,.v x0),(1,.v x1),(5,.v x5),(7,.v x7),(10,.lp 10 0),(12,.v x12),(13,.v x13)]⟩,[(10,v10)],h,[]⟩
attribute [go_sem ←] L_ref12_clauses_1.eq_1
noncomputable def L_ref12_clauses_2(H h:List AO)(x0 x1 x5 x7:AV):Option RH:=awL T [0,1,5,7] [] l43_2 (blkF 2 (thn (aw T (A q43 17 .ret) (finF H [.t 4])) (finF H [.t 4]))) ⟨⟨79,[(0,.v x0),(1,.v x1),(5,.v x5),(7,.v x7)]⟩,[],h,[]⟩
attribute [go_sem ←] L_ref12_clauses_2.eq_1
theorem t44:T (ref12_against)=some e44:=by kernel_rfl
@[go_sem]def al44_0:=@aw_named T _ _ l44_0.eq_1
@[go_sem]def a44:=@aw_named T _ _ c44.eq_1
def f_ref12_against(a0 a1 a2 a3:AV)(H:List AO):=ff (vs:=[a0,a1,a2,a3]) t44 rfl H
noncomputable def L_ref12_against_0(H h:List AO)(x2 x3 x10 x11:AV)(v5:List AV):Option RH:=awL T [2,3,5,10,11] [5] l44_0 (blkF 0 (thn (aw T (A q44 6 (.seq (A q44 7 (.cond (.t 53) (A q44 8 .ret) .skip)) (A q44 9 .ret))) (finF H [.t 8,.t 9])) (finF H [.t 8,.t 9]))) ⟨⟨57,[(2,.v x2),(3,.v x3),(5,.lp 5 0),(10,.v x10),(11,.v x11)]⟩,[(5,v5)],h,[]⟩
attribute [go_sem ←] L_ref12_against_0.eq_1
theorem t48:T (ref13_lift)=some e48:=by kernel_rfl
@[go_sem]def al48_0:=@aw_named T _ _ l48_0.eq_1
@[go_sem]def a48:=@aw_named T _ _ c48.eq_1
def f_ref13_lift(a0 a1 a2:AV)(H:List AO):=ff (vs:=[a0,a1,a2]) t48 rfl H
noncomputable def L_ref13_lift_0(H h:List AO)(x1 x2 x8:AV)(v3 v6 v7:List AV):Option RH:=awL T [1,2,3,6,7,8] [3,6,7] l48_0 (blkF 0 (thn (aw T (A q48 8 .ret) (finF H [.c 4 true 6])) (finF H [.c 4 true 6]))) ⟨⟨56,[(1,.v x1),(2,.v x2),(3,.lp 3 0),(6,.lp 6 0),(7,.lp 7 0),(8,.v x8)]⟩,[(3,v3),(6,v6),(7,v7)],h,[]⟩
attribute [go_sem ←] L_ref13_lift_0.eq_1
theorem t49:T (reduce_Right)=some e49:=by kernel_rfl
@[go_sem]def al49_0:=@aw_named T _ _ l49_0.eq_1
@[go_sem]def a49:=@aw_named T _ _ c49.eq_1
def f_reduce_Right(a0:AV)(H:List AO):=ff (vs:=[a0]) t49 rfl H
noncomputable def L_reduce_Right_0(H h:List AO)(x0 x6 x7 x8:AV):Option RH:=awL T [0,6,7,8] [] l49_0 (blkF 0 (thn (aw T (A q49 10 .ret) (finF H [.t 2])) (finF H [.t 2]))) ⟨⟨48,[(0,.v x0),(6,.v x6),(7,.v x7),(8,.v x8)]⟩,[],h,[]⟩
attribute [go_sem ←] L_reduce_Right_0.eq_1
theorem t50:T (under_Right)=some e50:=by kernel_rfl
@[go_sem]def a50:=@aw_named T _ _ c50.eq_1
def f_under_Right(a0 a1:AV)(H:List AO):=ff (vs:=[a0,a1]) t50 rfl H
theorem t51:T (ref17_New)=some e51:=by kernel_rfl
@[go_sem]def a51:=@aw_named T _ _ c51.eq_1
def f_ref17_New(a0 a1:AV)(H:List AO):=ffK (vs:=[a0,a1]) t51 rfl H
theorem t52:T (ref17_Machine_Conv)=some e52:=by kernel_rfl
@[go_sem]def a52:=@aw_named T _ _ c52.eq_1
def f_ref17_Machine_Conv(a0 a1 a2 a3:AV)(H:List AO):=ff (vs:=[a0,a1,a2,a3]) t52 rfl H
theorem t53:T (ref02_Same)=some e53:=by kernel_rfl
@[go_sem]def al53_0:=@aw_named T _ _ l53_0.eq_1
@[go_sem]def a53:=@aw_named T _ _ c53.eq_1
def f_ref02_Same(a0 a1:AV)(H:List AO):=ff (vs:=[a0,a1]) t53 rfl H
noncomputable def L_ref02_Same_0(H h:List AO)(x5:AV)(v2 v3:List AV):Option RH:=awL T [2,3,5] [2,3] l53_0 (blkF 0 (thn (aw T (A q53 8 .ret) (finF H [.t 4])) (finF H [.t 4]))) ⟨⟨46,[(2,.lp 2 0),(3,.lp 3 0),(5,.v x5)]⟩,[(2,v2),(3,v3)],h,[]⟩
attribute [go_sem ←] L_ref02_Same_0.eq_1
theorem t54:T (ref16_decl)=some e54:=by kernel_rfl
@[go_sem]def a54:=@aw_named T _ _ c54.eq_1
def f_ref16_decl(a0 a1:AV)(H:List AO):=ff (vs:=[a0,a1]) t54 rfl H
theorem t55:T (ref16_Machine_Burn)=some e55:=by kernel_rfl
@[go_sem]def a55:=@aw_named T _ _ c55.eq_1
def f_ref16_Machine_Burn(a0:AV)(H:List AO):=ff (vs:=[a0]) t55 rfl H
theorem t56:T (ref16_Machine_Put)=some e56:=by kernel_rfl
@[go_sem]def a56:=@aw_named T _ _ c56.eq_1
def f_ref16_Machine_Put(a0 a1 a2:AV)(H:List AO):=ff (vs:=[a0,a1,a2]) t56 rfl H
theorem t57:T (ref13_Open)=some e57:=by kernel_rfl
@[go_sem]def a57:=@aw_named T _ _ c57.eq_1
def f_ref13_Open(a0 a1:AV)(H:List AO):=ff (vs:=[a0,a1]) t57 rfl H
theorem t58:T (ref16_Machine_unfolds)=some e58:=by kernel_rfl
@[go_sem]def a58:=@aw_named T _ _ c58.eq_1
def f_ref16_Machine_unfolds(a0 a1:AV)(H:List AO):=ff (vs:=[a0,a1]) t58 rfl H
theorem t59:T (ref15_Sub)=some e59:=by kernel_rfl
@[go_sem]def a59:=@aw_named T _ _ c59.eq_1
def f_ref15_Sub(a0 a1 a2:AV)(H:List AO):=ff (vs:=[a0,a1,a2]) t59 rfl H
theorem t60:T (term_room_fits)=some e60:=by kernel_rfl
@[go_sem]def a60:=@aw_named T _ _ c60.eq_1
def f_term_room_fits(a0 a1:AV)(H:List AO):=ff (vs:=[a0,a1]) t60 rfl H
theorem t61:T (reduce_Machine_Burn)=some e61:=by kernel_rfl
@[go_sem]def a61:=@aw_named T _ _ c61.eq_1
def f_reduce_Machine_Burn(a0:AV)(H:List AO):=ff (vs:=[a0]) t61 rfl H
theorem t62:T (reduce_Machine_Head)=some e62:=by kernel_rfl
@[go_sem]def al62_0:=@aw_named T _ _ l62_0.eq_1
@[go_sem]def a_s_reduce_Machine_Head_0:=@aw_named T _ _ s_reduce_Machine_Head_0.eq_1
@[go_sem]theorem o_s_reduce_Machine_Head_0:FC.okd s_reduce_Machine_Head_0=true:=by kernel_rfl
@[go_sem]def a_y_reduce_Machine_Head_0:=@aw_named T _ _ y_reduce_Machine_Head_0.eq_1
@[go_sem]theorem o_y_reduce_Machine_Head_0:FC.okd y_reduce_Machine_Head_0=true:=by kernel_rfl
@[go_sem]def a62:=@aw_named T _ _ c62.eq_1
def f_reduce_Machine_Head(a0 a1:AV)(H:List AO):=ff (vs:=[a0,a1]) t62 rfl H
noncomputable def L_reduce_Machine_Head_0(H h:List AO)(ds:List Nat)(x0 x5 x6:AV)(v4:List AV):Option RH:=awL T [0,4,5,6] [4] l62_0 (blkF 0 (thn (aw T (.seq (A q62 6 (.block 2 (.rf (.t 43) [44,45] [5] s_reduce_Machine_Head_0 y_reduce_Machine_Head_0))) (A q62 9 .ret)) (finF H [.c 4 true 4])) (finF H [.c 4 true 4]))) ⟨⟨60,[(0,.v x0),(4,.lp 4 0),(5,.v x5),(6,.v x6)]⟩,[(4,v4)],h,ds⟩
attribute [go_sem ←] L_reduce_Machine_Head_0.eq_1
theorem t63:T (conv_Machine_body)=some e63:=by kernel_rfl
@[go_sem]def a63:=@aw_named T _ _ c63.eq_1
def f_conv_Machine_body(a0 a1:AV)(H:List AO):=ff (vs:=[a0,a1]) t63 rfl H
theorem t64:T (conv_asks)=some e64:=by kernel_rfl
@[go_sem]def a64:=@aw_named T _ _ c64.eq_1
def f_conv_asks(H:List AO):=ff (vs:=[]) t64 rfl H
theorem t65:T (ref13_kids)=some e65:=by kernel_rfl
@[go_sem]def a65:=@aw_named T _ _ c65.eq_1
def f_ref13_kids(a0:AV)(H:List AO):=ff (vs:=[a0]) t65 rfl H
theorem t66:T (ref13_named)=some e66:=by kernel_rfl
@[go_sem]def al66_0:=@aw_named T _ _ l66_0.eq_1
@[go_sem]def a66:=@aw_named T _ _ c66.eq_1
def f_ref13_named(a0 a1 a2 a3:AV)(H:List AO):=ff (vs:=[a0,a1,a2,a3]) t66 rfl H
noncomputable def L_ref13_named_0(H h:List AO)(x1 x2 x3 x9:AV)(v4:List AV):Option RH:=awL T [1,2,3,4,9] [4] l66_0 (blkF 0 (thn (aw T (.seq (A q66 6 (.block 2 (A q66 7 (.cond (.t 28) (A q66 8 .ret) (A q66 9 (.cond (.t 45) (A q66 10 .ret) (A q66 11 (.cond (.t 56) (A q66 12 .ret) .skip)))))))) (A q66 13 .ret)) (finF H [.t 8])) (finF H [.t 8]))) ⟨⟨81,[(1,.v x1),(2,.v x2),(3,.v x3),(4,.lp 4 0),(9,.v x9)]⟩,[(4,v4)],h,[]⟩
attribute [go_sem ←] L_ref13_named_0.eq_1
theorem t67:T (ref13_binds)=some e67:=by kernel_rfl
@[go_sem]def a67:=@aw_named T _ _ c67.eq_1
def f_ref13_binds(a0 a1:AV)(H:List AO):=ff (vs:=[a0,a1]) t67 rfl H
theorem t68:T (ref02_Nodes)=some e68:=by kernel_rfl
@[go_sem]def al68_0:=@aw_named T _ _ l68_0.eq_1
@[go_sem]def a68:=@aw_named T _ _ c68.eq_1
def f_ref02_Nodes(a0 a1:AV)(H:List AO):=ff (vs:=[a0,a1]) t68 rfl H
noncomputable def L_ref02_Nodes_0(H h:List AO)(x1 x5 x6:AV)(v2:List AV):Option RH:=awL T [1,2,5,6] [2] l68_0 (blkF 0 (thn (aw T (A q68 6 .ret) (finF H [.t 4])) (finF H [.t 4]))) ⟨⟨31,[(1,.v x1),(2,.lp 2 0),(5,.v x5),(6,.v x6)]⟩,[(2,v2)],h,[]⟩
attribute [go_sem ←] L_ref02_Nodes_0.eq_1
theorem t69:T (ref02_right)=some e69:=by kernel_rfl
@[go_sem]def al69_0:=@aw_named T _ _ l69_0.eq_1
@[go_sem]def a69:=@aw_named T _ _ c69.eq_1
def f_ref02_right(a0 a1 a2 a3:AV)(H:List AO):=ff (vs:=[a0,a1,a2,a3]) t69 rfl H
noncomputable def L_ref02_right_0(H h:List AO)(x1 x2 x3 x9:AV)(v4:List AV):Option RH:=awL T [1,2,3,4,9] [4] l69_0 (blkF 1 (thn (aw T (A q69 13 .ret) (finF H [.t 8])) (finF H [.t 8]))) ⟨⟨66,[(1,.v x1),(2,.v x2),(3,.v x3),(4,.lp 4 0),(9,.v x9)]⟩,[(4,v4)],h,[]⟩
attribute [go_sem ←] L_ref02_right_0.eq_1
theorem t70:T (ref06_raw)=some e70:=by kernel_rfl
@[go_sem]def al70_0:=@aw_named T _ _ l70_0.eq_1
@[go_sem]def a70:=@aw_named T _ _ c70.eq_1
def f_ref06_raw(a0 a1:AV)(H:List AO):=ff (vs:=[a0,a1]) t70 rfl H
noncomputable def L_ref06_raw_0(H h:List AO)(x7:AV)(v4 v5 v6:List AV):Option RH:=awL T [4,5,6,7] [4,5,6] l70_0 (blkF 1 (thn (aw T (A q70 12 .ret) (blkF 0 (thn (aw T (A q70 25 .ret) (finF H [.c 2 true 4])) (finF H [.c 2 true 4])))) (blkF 0 (thn (aw T (A q70 25 .ret) (finF H [.c 2 true 4])) (finF H [.c 2 true 4]))))) ⟨⟨102,[(4,.lp 4 0),(5,.lp 5 0),(6,.lp 6 0),(7,.v x7)]⟩,[(4,v4),(5,v5),(6,v6)],h,[]⟩
attribute [go_sem ←] L_ref06_raw_0.eq_1
theorem t71:T (ref09_Solve)=some e71:=by kernel_rfl
@[go_sem]def a71:=@aw_named T _ _ c71.eq_1
def f_ref09_Solve(a0 a1:AV)(H:List AO):=ff (vs:=[a0,a1]) t71 rfl H
theorem t72:T (ref12_values)=some e72:=by kernel_rfl
@[go_sem]def al72_0:=@aw_named T _ _ l72_0.eq_1
@[go_sem]def a72:=@aw_named T _ _ c72.eq_1
def f_ref12_values(a0 a1:AV)(H:List AO):=ff (vs:=[a0,a1]) t72 rfl H
noncomputable def L_ref12_values_0(H h:List AO)(x0 x1 x5 x6:AV):Option RH:=awL T [0,1,5,6] [] l72_0 (blkF 0 (thn (aw T (A q72 9 .ret) (finF H [.t 4])) (finF H [.t 4]))) ⟨⟨32,[(0,.v x0),(1,.v x1),(5,.v x5),(6,.v x6)]⟩,[],h,[]⟩
attribute [go_sem ←] L_ref12_values_0.eq_1
theorem t74:T (term_Same)=some e74:=by kernel_rfl
@[go_sem]def a74:=@aw_named T _ _ c74.eq_1
def f_term_Same(a0 a1:AV)(H:List AO):=ff (vs:=[a0,a1]) t74 rfl H
theorem t75:T (reduce_may)=some e75:=by kernel_rfl
@[go_sem]def a75:=@aw_named T _ _ c75.eq_1
def f_reduce_may(a0 a1 a2:AV)(H:List AO):=ff (vs:=[a0,a1,a2]) t75 rfl H
theorem t76:T (under_Right_1)=some e76:=by kernel_rfl
@[go_sem]def a76:=@aw_named T _ _ c76.eq_1
def f_under_Right_1(a0 a1:AV)(H:List AO):=ff (vs:=[a0,a1]) t76 rfl H
theorem t77:T (level_Right)=some e77:=by kernel_rfl
@[go_sem]def a77:=@aw_named T _ _ c77.eq_1
def f_level_Right(a0 a1 a2:AV)(H:List AO):=ff (vs:=[a0,a1,a2]) t77 rfl H
theorem t78:T (slices_ContainsFunc_Con)=some e78:=by kernel_rfl
@[go_sem]def a78:=@aw_named T _ _ c78.eq_1
def f_slices_ContainsFunc_Con(a0 a1:AV)(H:List AO):=ff (vs:=[a0,a1]) t78 rfl H
theorem t79:T (ref17_Machine_eta)=some e79:=by kernel_rfl
@[go_sem]def a79:=@aw_named T _ _ c79.eq_1
def f_ref17_Machine_eta(a0 a1:AV)(H:List AO):=ff (vs:=[a0,a1]) t79 rfl H
theorem t80:T (ref17_Machine_Leq)=some e80:=by kernel_rfl
@[go_sem]def a80:=@aw_named T _ _ c80.eq_1
def f_ref17_Machine_Leq(a0 a1 a2:AV)(H:List AO):=ff (vs:=[a0,a1,a2]) t80 rfl H
theorem t81:T (ref17_Machine_all)=some e81:=by kernel_rfl
@[go_sem]def al81_0:=@aw_named T _ _ l81_0.eq_1
@[go_sem]def a81:=@aw_named T _ _ c81.eq_1
def f_ref17_Machine_all(a0 a1 a2:AV)(H:List AO):=ff (vs:=[a0,a1,a2]) t81 rfl H
noncomputable def L_ref17_Machine_all_0(H h:List AO)(x0 x1 x2 x7:AV):Option RH:=awL T [0,1,2,7] [] l81_0 (blkF 0 (thn (aw T (A q81 6 .ret) (finF H [.t 6])) (finF H [.t 6]))) ⟨⟨25,[(0,.v x0),(1,.v x1),(2,.v x2),(7,.v x7)]⟩,[],h,[]⟩
attribute [go_sem ←] L_ref17_Machine_all_0.eq_1
theorem t82:T (ref16_below)=some e82:=by kernel_rfl
@[go_sem]def al82_0:=@aw_named T _ _ l82_0.eq_1
@[go_sem]def a82:=@aw_named T _ _ c82.eq_1
def f_ref16_below(a0 a1:AV)(H:List AO):=ff (vs:=[a0,a1]) t82 rfl H
noncomputable def L_ref16_below_0(H h:List AO)(x1 x5 x6:AV):Option RH:=awL T [1,5,6] [] l82_0 (blkF 0 (thn (aw T (A q82 7 .ret) (finF H [.t 4])) (finF H [.t 4]))) ⟨⟨21,[(1,.v x1),(5,.v x5),(6,.v x6)]⟩,[],h,[]⟩
attribute [go_sem ←] L_ref16_below_0.eq_1
theorem t83:T (ref13_Same)=some e83:=by kernel_rfl
@[go_sem]def al83_0:=@aw_named T _ _ l83_0.eq_1
@[go_sem]def al83_1:=@aw_named T _ _ l83_1.eq_1
@[go_sem]def a83:=@aw_named T _ _ c83.eq_1
def f_ref13_Same(a0 a1:AV)(H:List AO):=ff (vs:=[a0,a1]) t83 rfl H
noncomputable def L_ref13_Same_0(H h:List AO)(x5:AV)(v2 v3:List AV):Option RH:=awL T [2,3,5] [2,3] l83_0 (blkF 0 (thn (aw T (.seq (A q83 8 (.block 2 (.loop [2,3,6] [2,3] l83_1))) (A q83 13 .ret)) (finF H [.t 4])) (finF H [.t 4]))) ⟨⟨75,[(2,.lp 2 0),(3,.lp 3 0),(5,.v x5)]⟩,[(2,v2),(3,v3)],h,[]⟩
attribute [go_sem ←] L_ref13_Same_0.eq_1
noncomputable def L_ref13_Same_1(H h:List AO)(x6:AV)(v2 v3:List AV):Option RH:=awL T [2,3,6] [2,3] l83_1 (blkF 2 (thn (aw T (A q83 13 .ret) (finF H [.t 4])) (finF H [.t 4]))) ⟨⟨75,[(2,.lp 2 0),(3,.lp 3 0),(6,.v x6)]⟩,[(2,v2),(3,v3)],h,[]⟩
attribute [go_sem ←] L_ref13_Same_1.eq_1
theorem t84:T (ref16_Machine_Fail)=some e84:=by kernel_rfl
@[go_sem]def a84:=@aw_named T _ _ c84.eq_1
def f_ref16_Machine_Fail(a0 a1:AV)(H:List AO):=ff (vs:=[a0,a1]) t84 rfl H
theorem t85:T (ref13_open)=some e85:=by kernel_rfl
@[go_sem]def al85_0:=@aw_named T _ _ l85_0.eq_1
@[go_sem]def a85:=@aw_named T _ _ c85.eq_1
def f_ref13_open(a0 a1 a2:AV)(H:List AO):=ff (vs:=[a0,a1,a2]) t85 rfl H
noncomputable def L_ref13_open_0(H h:List AO)(x1 x8:AV)(v3 v5 v6 v7:List AV):Option RH:=awL T [1,3,5,6,7,8] [3,5,6,7] l85_0 (blkF 0 (thn (aw T (A q85 10 .ret) (finF H [.c 4 true 6])) (finF H [.c 4 true 6]))) ⟨⟨67,[(1,.v x1),(3,.lp 3 0),(5,.lp 5 0),(6,.lp 6 0),(7,.lp 7 0),(8,.v x8)]⟩,[(3,v3),(5,v5),(6,v6),(7,v7)],h,[]⟩
attribute [go_sem ←] L_ref13_open_0.eq_1
theorem t86:T (ref15_right)=some e86:=by kernel_rfl
@[go_sem]def al86_0:=@aw_named T _ _ l86_0.eq_1
@[go_sem]def a86:=@aw_named T _ _ c86.eq_1
def f_ref15_right(a0:AV)(H:List AO):=ff (vs:=[a0]) t86 rfl H
noncomputable def L_ref15_right_0(H h:List AO)(x0 x3:AV):Option RH:=awL T [0,3] [] l86_0 (blkF 0 (thn (aw T (A q86 6 .ret) (finF H [.t 2])) (finF H [.t 2]))) ⟨⟨16,[(0,.v x0),(3,.v x3)]⟩,[],h,[]⟩
attribute [go_sem ←] L_ref15_right_0.eq_1
theorem t87:T (ref15_sub)=some e87:=by kernel_rfl
@[go_sem]def al87_0:=@aw_named T _ _ l87_0.eq_1
@[go_sem]def al87_1:=@aw_named T _ _ l87_1.eq_1
@[go_sem]def a87:=@aw_named T _ _ c87.eq_1
def f_ref15_sub(a0 a1 a2:AV)(H:List AO):=ff (vs:=[a0,a1,a2]) t87 rfl H
noncomputable def L_ref15_sub_0(H h:List AO)(x1 x2 x9:AV)(v3 v6 v8:List AV):Option RH:=awL T [1,2,3,6,8,9] [3,6,8] l87_0 (blkF 0 (thn (aw T (.seq (A q87 9 (.block 2 (.loop [1,2,3,6,8,12] [3,6,8] l87_1))) (A q87 16 .ret)) (finF H [.c 4 true 6,.t 7])) (finF H [.c 4 true 6,.t 7]))) ⟨⟨75,[(1,.v x1),(2,.v x2),(3,.lp 3 0),(6,.lp 6 0),(8,.lp 8 0),(9,.v x9)]⟩,[(3,v3),(6,v6),(8,v8)],h,[]⟩
attribute [go_sem ←] L_ref15_sub_0.eq_1
noncomputable def L_ref15_sub_1(H h:List AO)(x1 x2 x12:AV)(v3 v6 v8:List AV):Option RH:=awL T [1,2,3,6,8,12] [3,6,8] l87_1 (blkF 2 (thn (aw T (A q87 16 .ret) (finF H [.c 4 true 6,.t 7])) (finF H [.c 4 true 6,.t 7]))) ⟨⟨75,[(1,.v x1),(2,.v x2),(3,.lp 3 0),(6,.lp 6 0),(8,.lp 8 0),(12,.v x12)]⟩,[(3,v3),(6,v6),(8,v8)],h,[]⟩
attribute [go_sem ←] L_ref15_sub_1.eq_1
theorem t88:T (term_parts)=some e88:=by kernel_rfl
@[go_sem]def al88_0:=@aw_named T _ _ l88_0.eq_1
@[go_sem]def a88:=@aw_named T _ _ c88.eq_1
def f_term_parts(a0 a1:AV)(H:List AO):=ff (vs:=[a0,a1]) t88 rfl H
noncomputable def L_term_parts_0(H h:List AO)(x1 x5 x9 x10 x11:AV):Option RH:=awL T [1,5,9,10,11] [] l88_0 (blkF 0 (thn (aw T (A q88 8 .ret) (finF H [.t 4])) (finF H [.t 4]))) ⟨⟨27,[(1,.v x1),(5,.v x5),(9,.v x9),(10,.v x10),(11,.v x11)]⟩,[],h,[]⟩
attribute [go_sem ←] L_term_parts_0.eq_1
theorem t89:T (term_room_right)=some e89:=by kernel_rfl
@[go_sem]def al89_0:=@aw_named T _ _ l89_0.eq_1
@[go_sem]def a89:=@aw_named T _ _ c89.eq_1
def f_term_room_right(a0 a1 a2:AV)(H:List AO):=ff (vs:=[a0,a1,a2]) t89 rfl H
noncomputable def L_term_room_right_0(H h:List AO)(x2 x3 x48 x49 x50:AV)(v4:List AV):Option RH:=awL T [2,3,4,48,49,50] [4] l89_0 (blkF 0 (thn (aw T (A q89 13 .ret) (finF H [.t 6])) (finF H [.t 6]))) ⟨⟨70,[(2,.v x2),(3,.v x3),(4,.lp 4 0),(48,.v x48),(49,.v x49),(50,.v x50)]⟩,[(4,v4)],h,[]⟩
attribute [go_sem ←] L_term_room_right_0.eq_1
theorem t90:T (reduce_Machine_Fail)=some e90:=by kernel_rfl
@[go_sem]def a90:=@aw_named T _ _ c90.eq_1
def f_reduce_Machine_Fail(a0 a1:AV)(H:List AO):=ff (vs:=[a0,a1]) t90 rfl H
theorem t91:T (reduce_steps)=some e91:=by kernel_rfl
@[go_sem]def a91:=@aw_named T _ _ c91.eq_1
def f_reduce_steps(H:List AO):=ff (vs:=[]) t91 rfl H
theorem t92:T (slices_Backward_Term)=some e92:=by kernel_rfl
@[go_sem]def a92:=@aw_named T _ _ c92.eq_1
def f_slices_Backward_Term(a0:AV)(H:List AO):=ff (vs:=[a0]) t92 rfl H
theorem t93:T (reduce_Machine_Put)=some e93:=by kernel_rfl
@[go_sem]def a93:=@aw_named T _ _ c93.eq_1
def f_reduce_Machine_Put(a0 a1 a2:AV)(H:List AO):=ff (vs:=[a0,a1,a2]) t93 rfl H
theorem t94:T (term_Lift)=some e94:=by kernel_rfl
@[go_sem]def a94:=@aw_named T _ _ c94.eq_1
def f_term_Lift(a0 a1 a2:AV)(H:List AO):=ff (vs:=[a0,a1,a2]) t94 rfl H
theorem t95:T (conv_Machine_variables)=some e95:=by kernel_rfl
@[go_sem]def a95:=@aw_named T _ _ c95.eq_1
def f_conv_Machine_variables(a0 a1 a2 a3:AV)(H:List AO):=ff (vs:=[a0,a1,a2,a3]) t95 rfl H
theorem t96:T (conv_Machine_sorts)=some e96:=by kernel_rfl
@[go_sem]def a96:=@aw_named T _ _ c96.eq_1
def f_conv_Machine_sorts(a0 a1 a2 a3:AV)(H:List AO):=ff (vs:=[a0,a1,a2,a3]) t96 rfl H
theorem t97:T (conv_Machine_levels)=some e97:=by kernel_rfl
@[go_sem]def al97_0:=@aw_named T _ _ l97_0.eq_1
@[go_sem]def a97:=@aw_named T _ _ c97.eq_1
def f_conv_Machine_levels(a0 a1 a2 a3:AV)(H:List AO):=ff (vs:=[a0,a1,a2,a3]) t97 rfl H
noncomputable def L_conv_Machine_levels_0(H h:List AO)(x0 x12 x13 x14:AV)(v6:List AV):Option RH:=awL T [0,6,12,13,14] [6] l97_0 (blkF 0 (thn (aw T (A q97 7 .ret) (finF H [.t 8])) (finF H [.t 8]))) ⟨⟨40,[(0,.v x0),(6,.lp 6 0),(12,.v x12),(13,.v x13),(14,.v x14)]⟩,[(6,v6)],h,[]⟩
attribute [go_sem ←] L_conv_Machine_levels_0.eq_1
theorem t98:T (conv_Machine_apps)=some e98:=by kernel_rfl
@[go_sem]def a98:=@aw_named T _ _ c98.eq_1
def f_conv_Machine_apps(a0 a1 a2 a3:AV)(H:List AO):=ff (vs:=[a0,a1,a2,a3]) t98 rfl H
theorem t99:T (conv_Machine_pis)=some e99:=by kernel_rfl
@[go_sem]def a99:=@aw_named T _ _ c99.eq_1
def f_conv_Machine_pis(a0 a1 a2 a3:AV)(H:List AO):=ff (vs:=[a0,a1,a2,a3]) t99 rfl H
theorem t100:T (ref02_kids)=some e100:=by kernel_rfl
@[go_sem]def a100:=@aw_named T _ _ c100.eq_1
def f_ref02_kids(a0:AV)(H:List AO):=ff (vs:=[a0]) t100 rfl H
theorem t101:T (ref06_both)=some e101:=by kernel_rfl
@[go_sem]def al101_0:=@aw_named T _ _ l101_0.eq_1
@[go_sem]def a101:=@aw_named T _ _ c101.eq_1
def f_ref06_both(a0 a1:AV)(H:List AO):=ff (vs:=[a0,a1]) t101 rfl H
noncomputable def L_ref06_both_0(H h:List AO)(x6:AV)(v2 v3 v4 v5:List AV):Option RH:=awL T [2,3,4,5,6] [2,3,4,5] l101_0 (blkF 0 (thn (aw T (A q101 6 .ret) (finF H [.c 2 true 4])) (finF H [.c 2 true 4]))) ⟨⟨37,[(2,.lp 2 0),(3,.lp 3 0),(4,.lp 4 0),(5,.lp 5 0),(6,.v x6)]⟩,[(2,v2),(3,v3),(4,v4),(5,v5)],h,[]⟩
attribute [go_sem ←] L_ref06_both_0.eq_1
theorem t102:T (ref06_nought)=some e102:=by kernel_rfl
@[go_sem]def al102_0:=@aw_named T _ _ l102_0.eq_1
@[go_sem]def a102:=@aw_named T _ _ c102.eq_1
def f_ref06_nought(a0:AV)(H:List AO):=ff (vs:=[a0]) t102 rfl H
noncomputable def L_ref06_nought_0(H h:List AO)(x3:AV)(v1:List AV):Option RH:=awL T [1,3] [1] l102_0 (blkF 0 (thn (aw T (A q102 6 .ret) (finF H [.t 2])) (finF H [.t 2]))) ⟨⟨20,[(1,.lp 1 0),(3,.v x3)]⟩,[(1,v1)],h,[]⟩
attribute [go_sem ←] L_ref06_nought_0.eq_1
theorem t103:T (ref06_none)=some e103:=by kernel_rfl
@[go_sem]def al103_0:=@aw_named T _ _ l103_0.eq_1
@[go_sem]def a103:=@aw_named T _ _ c103.eq_1
def f_ref06_none(a0 a1:AV)(H:List AO):=ff (vs:=[a0,a1]) t103 rfl H
noncomputable def L_ref06_none_0(H h:List AO)(x1 x6:AV)(v4 v5:List AV):Option RH:=awL T [1,4,5,6] [4,5] l103_0 (blkF 0 (thn (aw T (A q103 6 .ret) (finF H [.c 2 true 4])) (finF H [.c 2 true 4]))) ⟨⟨20,[(1,.v x1),(4,.lp 4 0),(5,.lp 5 0),(6,.v x6)]⟩,[(4,v4),(5,v5)],h,[]⟩
attribute [go_sem ←] L_ref06_none_0.eq_1
theorem t104:T (ref08_Right)=some e104:=by kernel_rfl
@[go_sem]def al104_0:=@aw_named T _ _ l104_0.eq_1
@[go_sem]def al104_1:=@aw_named T _ _ l104_1.eq_1
@[go_sem]def a104:=@aw_named T _ _ c104.eq_1
def f_ref08_Right(a0 a1:AV)(H:List AO):=ff (vs:=[a0,a1]) t104 rfl H
noncomputable def L_ref08_Right_0(H h:List AO)(x0 x1 x5 x6:AV):Option RH:=awL T [0,1,5,6] [] l104_0 (blkF 2 (blkF 1 (thn (aw T (.reg (R q104 12)) (thn (again T [0,1,5] [] l104_1 (blkF 0 (thn (aw T (A q104 13 .ret) (finF H [.t 4])) (finF H [.t 4])))) (blkF 0 (thn (aw T (A q104 13 .ret) (finF H [.t 4])) (finF H [.t 4]))))) (thn (again T [0,1,5] [] l104_1 (blkF 0 (thn (aw T (A q104 13 .ret) (finF H [.t 4])) (finF H [.t 4])))) (blkF 0 (thn (aw T (A q104 13 .ret) (finF H [.t 4])) (finF H [.t 4]))))))) ⟨⟨71,[(0,.v x0),(1,.v x1),(5,.v x5),(6,.v x6)]⟩,[],h,[]⟩
attribute [go_sem ←] L_ref08_Right_0.eq_1
noncomputable def L_ref08_Right_1(H h:List AO)(x0 x1 x5:AV):Option RH:=awL T [0,1,5] [] l104_1 (blkF 0 (thn (aw T (A q104 13 .ret) (finF H [.t 4])) (finF H [.t 4]))) ⟨⟨71,[(0,.v x0),(1,.v x1),(5,.v x5)]⟩,[],h,[]⟩
attribute [go_sem ←] L_ref08_Right_1.eq_1
theorem t105:T (ref09_rounds)=some e105:=by kernel_rfl
@[go_sem]def al105_0:=@aw_named T _ _ l105_0.eq_1
@[go_sem]def al105_1:=@aw_named T _ _ l105_1.eq_1
@[go_sem]def a105:=@aw_named T _ _ c105.eq_1
def f_ref09_rounds(a0 a1 a2:AV)(H:List AO):=ff (vs:=[a0,a1,a2]) t105 rfl H
noncomputable def L_ref09_rounds_0(H h:List AO)(x0 x2 x9 x10 x11 x12:AV):Option RH:=awL T [0,2,9,10,11,12] [] l105_0 (blkF 2 (thn (aw T (.seq (A q105 12 (.cond (.t 52) (A q105 13 .ret) .skip)) (A q105 14 (.cond (.t 55) (A q105 15 .ret) .skip))) (blkF 1 (thn (again T [0,2,9,10] [] l105_1 (blkF 0 (finF H [.t 6,.t 7,.t 8]))) (blkF 0 (finF H [.t 6,.t 7,.t 8]))))) (blkF 1 (thn (again T [0,2,9,10] [] l105_1 (blkF 0 (finF H [.t 6,.t 7,.t 8]))) (blkF 0 (finF H [.t 6,.t 7,.t 8])))))) ⟨⟨58,[(0,.v x0),(2,.v x2),(9,.v x9),(10,.v x10),(11,.v x11),(12,.v x12)]⟩,[],h,[]⟩
attribute [go_sem ←] L_ref09_rounds_0.eq_1
noncomputable def L_ref09_rounds_1(H h:List AO)(x0 x2 x9 x10:AV):Option RH:=awL T [0,2,9,10] [] l105_1 (blkF 0 (finF H [.t 6,.t 7,.t 8])) ⟨⟨58,[(0,.v x0),(2,.v x2),(9,.v x9),(10,.v x10)]⟩,[],h,[]⟩
attribute [go_sem ←] L_ref09_rounds_1.eq_1
theorem t106:T (ref09_Limit)=some e106:=by kernel_rfl
@[go_sem]def a106:=@aw_named T _ _ c106.eq_1
def f_ref09_Limit(a0 a1:AV)(H:List AO):=ff (vs:=[a0,a1]) t106 rfl H
theorem t107:T (slices_EqualFunc_Level)=some e107:=by kernel_rfl
@[go_sem]def al107_0:=@aw_named T _ _ l107_0.eq_1
@[go_sem]def a107:=@aw_named T _ _ c107.eq_1
def f_slices_EqualFunc_Level(a0 a1 a2:AV)(H:List AO):=ff (vs:=[a0,a1,a2]) t107 rfl H
noncomputable def L_slices_EqualFunc_Level_0(H h:List AO)(x1 x2 x15 x16 x17:AV):Option RH:=awL T [1,2,15,16,17] [] l107_0 (blkF 0 (thn (aw T (A q107 10 .ret) (finF H [.t 6])) (finF H [.t 6]))) ⟨⟨32,[(1,.v x1),(2,.v x2),(15,.v x15),(16,.v x16),(17,.v x17)]⟩,[],h,[]⟩
attribute [go_sem ←] L_slices_EqualFunc_Level_0.eq_1
theorem t108:T (level_Same)=some e108:=by kernel_rfl
@[go_sem]def a108:=@aw_named T _ _ c108.eq_1
def f_level_Same(a0 a1:AV)(H:List AO):=ff (vs:=[a0,a1]) t108 rfl H
theorem t109:T (slices_EqualFunc_Term)=some e109:=by kernel_rfl
@[go_sem]def al109_0:=@aw_named T _ _ l109_0.eq_1
@[go_sem]def a109:=@aw_named T _ _ c109.eq_1
def f_slices_EqualFunc_Term(a0 a1 a2:AV)(H:List AO):=ff (vs:=[a0,a1,a2]) t109 rfl H
noncomputable def L_slices_EqualFunc_Term_0(H h:List AO)(x1 x2 x15 x16 x17:AV):Option RH:=awL T [1,2,15,16,17] [] l109_0 (blkF 0 (thn (aw T (A q109 10 .ret) (finF H [.t 6])) (finF H [.t 6]))) ⟨⟨32,[(1,.v x1),(2,.v x2),(15,.v x15),(16,.v x16),(17,.v x17)]⟩,[],h,[]⟩
attribute [go_sem ←] L_slices_EqualFunc_Term_0.eq_1
theorem t110:T (slices_ContainsFunc_int)=some e110:=by kernel_rfl
@[go_sem]def a110:=@aw_named T _ _ c110.eq_1
def f_slices_ContainsFunc_int(a0 a1:AV)(H:List AO):=ff (vs:=[a0,a1]) t110 rfl H
theorem t111:T (tsub_Consts)=some e111:=by kernel_rfl
@[go_sem]def a_s_tsub_Consts_0:=@aw_named T _ _ s_tsub_Consts_0.eq_1
@[go_sem]theorem o_s_tsub_Consts_0:FC.okd s_tsub_Consts_0=true:=by kernel_rfl
@[go_sem]def a_y_tsub_Consts_0:=@aw_named T _ _ y_tsub_Consts_0.eq_1
@[go_sem]theorem o_y_tsub_Consts_0:FC.okd y_tsub_Consts_0=true:=by kernel_rfl
@[go_sem]def a111:=@aw_named T _ _ c111.eq_1
def f_tsub_Consts(a0:AV)(H:List AO):=ff (vs:=[a0]) t111 rfl H
theorem t112:T (reduce_may_1)=some e112:=by kernel_rfl
@[go_sem]def a112:=@aw_named T _ _ c112.eq_1
def f_reduce_may_1(a0 a1:AV)(H:List AO):=ff (vs:=[a0,a1]) t112 rfl H
theorem t113:T (level_nodes)=some e113:=by kernel_rfl
@[go_sem]def al113_0:=@aw_named T _ _ l113_0.eq_1
@[go_sem]def a113:=@aw_named T _ _ c113.eq_1
def f_level_nodes(a0 a1:AV)(H:List AO):=ff (vs:=[a0,a1]) t113 rfl H
noncomputable def L_level_nodes_0(H h:List AO)(x1 x5 x9 x10 x11:AV):Option RH:=awL T [1,5,9,10,11] [] l113_0 (blkF 0 (thn (aw T (A q113 8 .ret) (finF H [.t 4])) (finF H [.t 4]))) ⟨⟨27,[(1,.v x1),(5,.v x5),(9,.v x9),(10,.v x10),(11,.v x11)]⟩,[],h,[]⟩
attribute [go_sem ←] L_level_nodes_0.eq_1
theorem t114:T (level_right)=some e114:=by kernel_rfl
@[go_sem]def a114:=@aw_named T _ _ c114.eq_1
def f_level_right(a0 a1 a2 a3:AV)(H:List AO):=ff (vs:=[a0,a1,a2,a3]) t114 rfl H
theorem t115:T (slices_IndexFunc_Con)=some e115:=by kernel_rfl
@[go_sem]def al115_0:=@aw_named T _ _ l115_0.eq_1
@[go_sem]def a115:=@aw_named T _ _ c115.eq_1
def f_slices_IndexFunc_Con(a0 a1:AV)(H:List AO):=ff (vs:=[a0,a1]) t115 rfl H
noncomputable def L_slices_IndexFunc_Con_0(H h:List AO)(x0 x1 x7 x8:AV):Option RH:=awL T [0,1,7,8] [] l115_0 (blkF 0 (thn (aw T (A q115 7 .ret) (finF H [.t 4])) (finF H [.t 4]))) ⟨⟨19,[(0,.v x0),(1,.v x1),(7,.v x7),(8,.v x8)]⟩,[],h,[]⟩
attribute [go_sem ←] L_slices_IndexFunc_Con_0.eq_1
theorem t116:T (ref17_Machine_both)=some e116:=by kernel_rfl
@[go_sem]def a116:=@aw_named T _ _ c116.eq_1
def f_ref17_Machine_both(a0 a1 a2:AV)(H:List AO):=ff (vs:=[a0,a1,a2]) t116 rfl H
theorem t117:T (ref15_Consts)=some e117:=by kernel_rfl
@[go_sem]def al117_0:=@aw_named T _ _ l117_0.eq_1
@[go_sem]def al117_1:=@aw_named T _ _ l117_1.eq_1
@[go_sem]def al117_2:=@aw_named T _ _ l117_2.eq_1
@[go_sem]def a117:=@aw_named T _ _ c117.eq_1
def f_ref15_Consts(a0:AV)(H:List AO):=ff (vs:=[a0]) t117 rfl H
noncomputable def L_ref15_Consts_0(H h:List AO)(x3 x4 x5 x6 x7 x8:AV)(v1:List AV):Option RH:=awL T [1,3,4,5,6,7,8] [1] l117_0 (blkF 4 (thn (aw T (A q117 14 (.cond (.t 55) (.reg (R q117 15)) .skip)) (blkF 3 (thn (aw T (.reg (R q117 16)) (thn (again T [1,3,4,5,6] [1] l117_1 (blkF 2 (blkF 1 (thn (aw T (.reg (R q117 17)) (thn (again T [1,3,4] [1] l117_2 (blkF 0 (thn (aw T (A q117 18 .ret) (finF H [.t 2])) (finF H [.t 2])))) (blkF 0 (thn (aw T (A q117 18 .ret) (finF H [.t 2])) (finF H [.t 2]))))) (thn (again T [1,3,4] [1] l117_2 (blkF 0 (thn (aw T (A q117 18 .ret) (finF H [.t 2])) (finF H [.t 2])))) (blkF 0 (thn (aw T (A q117 18 .ret) (finF H [.t 2])) (finF H [.t 2])))))))) (blkF 2 (blkF 1 (thn (aw T (.reg (R q117 17)) (thn (again T [1,3,4] [1] l117_2 (blkF 0 (thn (aw T (A q117 18 .ret) (finF H [.t 2])) (finF H [.t 2])))) (blkF 0 (thn (aw T (A q117 18 .ret) (finF H [.t 2])) (finF H [.t 2]))))) (thn (again T [1,3,4] [1] l117_2 (blkF 0 (thn (aw T (A q117 18 .ret) (finF H [.t 2])) (finF H [.t 2])))) (blkF 0 (thn (aw T (A q117 18 .ret) (finF H [.t 2])) (finF H [.t 2]))))))))) (thn (again T [1,3,4,5,6] [1] l117_1 (blkF 2 (blkF 1 (thn (aw T (.reg (R q117 17)) (thn (again T [1,3,4] [1] l117_2 (blkF 0 (thn (aw T (A q117 18 .ret) (finF H [.t 2])) (finF H [.t 2])))) (blkF 0 (thn (aw T (A q117 18 .ret) (finF H [.t 2])) (finF H [.t 2]))))) (thn (again T [1,3,4] [1] l117_2 (blkF 0 (thn (aw T (A q117 18 .ret) (finF H [.t 2])) (finF H [.t 2])))) (blkF 0 (thn (aw T (A q117 18 .ret) (finF H [.t 2])) (finF H [.t 2])))))))) (blkF 2 (blkF 1 (thn (aw T (.reg (R q117 17)) (thn (again T [1,3,4] [1] l117_2 (blkF 0 (thn (aw T (A q117 18 .ret) (finF H [.t 2])) (finF H [.t 2])))) (blkF 0 (thn (aw T (A q117 18 .ret) (finF H [.t 2])) (finF H [.t 2]))))) (thn (again T [1,3,4] [1] l117_2 (blkF 0 (thn (aw T (A q117 18 .ret) (finF H [.t 2])) (finF H [.t 2])))) (blkF 0 (thn (aw T (A q117 18 .ret) (finF H [.t 2])) (finF H [.t 2]))))))))))) (blkF 3 (thn (aw T (.reg (R q117 16)) (thn (again T [1,3,4,5,6] [1] l117_1 (blkF 2 (blkF 1 (thn (aw T (.reg (R q117 17)) (thn (again T [1,3,4] [1] l117_2 (blkF 0 (thn (aw T (A q117 18 .ret) (finF H [.t 2])) (finF H [.t 2])))) (blkF 0 (thn (aw T (A q117 18 .ret) (finF H [.t 2])) (finF H [.t 2]))))) (thn (again T [1,3,4] [1] l117_2 (blkF 0 (thn (aw T (A q117 18 .ret) (finF H [.t 2])) (finF H [.t 2])))) (blkF 0 (thn (aw T (A q117 18 .ret) (finF H [.t 2])) (finF H [.t 2])))))))) (blkF 2 (blkF 1 (thn (aw T (.reg (R q117 17)) (thn (again T [1,3,4] [1] l117_2 (blkF 0 (thn (aw T (A q117 18 .ret) (finF H [.t 2])) (finF H [.t 2])))) (blkF 0 (thn (aw T (A q117 18 .ret) (finF H [.t 2])) (finF H [.t 2]))))) (thn (again T [1,3,4] [1] l117_2 (blkF 0 (thn (aw T (A q117 18 .ret) (finF H [.t 2])) (finF H [.t 2])))) (blkF 0 (thn (aw T (A q117 18 .ret) (finF H [.t 2])) (finF H [.t 2]))))))))) (thn (again T [1,3,4,5,6] [1] l117_1 (blkF 2 (blkF 1 (thn (aw T (.reg (R q117 17)) (thn (again T [1,3,4] [1] l117_2 (blkF 0 (thn (aw T (A q117 18 .ret) (finF H [.t 2])) (finF H [.t 2])))) (blkF 0 (thn (aw T (A q117 18 .ret) (finF H [.t 2])) (finF H [.t 2]))))) (thn (again T [1,3,4] [1] l117_2 (blkF 0 (thn (aw T (A q117 18 .ret) (finF H [.t 2])) (finF H [.t 2])))) (blkF 0 (thn (aw T (A q117 18 .ret) (finF H [.t 2])) (finF H [.t 2])))))))) (blkF 2 (blkF 1 (thn (aw T (.reg (R q117 17)) (thn (again T [1,3,4] [1] l117_2 (blkF 0 (thn (aw T (A q117 18 .ret) (finF H [.t 2])) (finF H [.t 2])))) (blkF 0 (thn (aw T (A q117 18 .ret) (finF H [.t 2])) (finF H [.t 2]))))) (thn (again T [1,3,4] [1] l117_2 (blkF 0 (thn (aw T (A q117 18 .ret) (finF H [.t 2])) (finF H [.t 2])))) (blkF 0 (thn (aw T (A q117 18 .ret) (finF H [.t 2])) (finF H [.t 2])))))))))))) ⟨⟨64,[(1,.lp 1 0),(3,.v x3),(4,.v x4),(5,.v x5),(6,.v x6),(7,.v x7),(8,.v x8)]⟩,[(1,v1)],h,[]⟩
attribute [go_sem ←] L_ref15_Consts_0.eq_1
noncomputable def L_ref15_Consts_1(H h:List AO)(x3 x4 x5 x6:AV)(v1:List AV):Option RH:=awL T [1,3,4,5,6] [1] l117_1 (blkF 2 (blkF 1 (thn (aw T (.reg (R q117 17)) (thn (again T [1,3,4] [1] l117_2 (blkF 0 (thn (aw T (A q117 18 .ret) (finF H [.t 2])) (finF H [.t 2])))) (blkF 0 (thn (aw T (A q117 18 .ret) (finF H [.t 2])) (finF H [.t 2]))))) (thn (again T [1,3,4] [1] l117_2 (blkF 0 (thn (aw T (A q117 18 .ret) (finF H [.t 2])) (finF H [.t 2])))) (blkF 0 (thn (aw T (A q117 18 .ret) (finF H [.t 2])) (finF H [.t 2]))))))) ⟨⟨64,[(1,.lp 1 0),(3,.v x3),(4,.v x4),(5,.v x5),(6,.v x6)]⟩,[(1,v1)],h,[]⟩
attribute [go_sem ←] L_ref15_Consts_1.eq_1
noncomputable def L_ref15_Consts_2(H h:List AO)(x3 x4:AV)(v1:List AV):Option RH:=awL T [1,3,4] [1] l117_2 (blkF 0 (thn (aw T (A q117 18 .ret) (finF H [.t 2])) (finF H [.t 2]))) ⟨⟨64,[(1,.lp 1 0),(3,.v x3),(4,.v x4)]⟩,[(1,v1)],h,[]⟩
attribute [go_sem ←] L_ref15_Consts_2.eq_1
theorem t118:T (ref05_Sub)=some e118:=by kernel_rfl
@[go_sem]def a118:=@aw_named T _ _ c118.eq_1
def f_ref05_Sub(a0 a1 a2:AV)(H:List AO):=ff (vs:=[a0,a1,a2]) t118 rfl H
theorem t119:T (term_room_right_1)=some e119:=by kernel_rfl
@[go_sem]def a119:=@aw_named T _ _ c119.eq_1
def f_term_room_right_1(a0 a1:AV)(H:List AO):=ff (vs:=[a0,a1]) t119 rfl H
theorem t120:T (term_shapes)=some e120:=by kernel_rfl
@[go_sem]def a120:=@aw_named T _ _ c120.eq_1
def f_term_shapes(H:List AO):=ff (vs:=[]) t120 rfl H
theorem t121:T (term_room_named)=some e121:=by kernel_rfl
@[go_sem]def a121:=@aw_named T _ _ c121.eq_1
def f_term_room_named(a0 a1:AV)(H:List AO):=ff (vs:=[a0,a1]) t121 rfl H
theorem t122:T (slices_ContainsFunc_Level)=some e122:=by kernel_rfl
@[go_sem]def a122:=@aw_named T _ _ c122.eq_1
def f_slices_ContainsFunc_Level(a0 a1:AV)(H:List AO):=ff (vs:=[a0,a1]) t122 rfl H
theorem t123:T (term_below)=some e123:=by kernel_rfl
@[go_sem]def a123:=@aw_named T _ _ c123.eq_1
def f_term_below(a0 a1:AV)(H:List AO):=ff (vs:=[a0,a1]) t123 rfl H
theorem t124:T (reduce_spine_let)=some e124:=by kernel_rfl
@[go_sem]def a124:=@aw_named T _ _ c124.eq_1
def f_reduce_spine_let(a0:AV)(H:List AO):=ff (vs:=[a0]) t124 rfl H
theorem t125:T (reduce_spine_constant)=some e125:=by kernel_rfl
@[go_sem]def a125:=@aw_named T _ _ c125.eq_1
def f_reduce_spine_constant(a0:AV)(H:List AO):=ff (vs:=[a0]) t125 rfl H
theorem t126:T (reduce_spine_lambda)=some e126:=by kernel_rfl
@[go_sem]def a126:=@aw_named T _ _ c126.eq_1
def f_reduce_spine_lambda(a0:AV)(H:List AO):=ff (vs:=[a0]) t126 rfl H
theorem t127:T (reduce_spine_app)=some e127:=by kernel_rfl
@[go_sem]def a127:=@aw_named T _ _ c127.eq_1
def f_reduce_spine_app(a0:AV)(H:List AO):=ff (vs:=[a0]) t127 rfl H
theorem t128:T (slices_Backward_Term_1)=some e128:=by kernel_rfl
@[go_sem]def al128_0:=@aw_named T _ _ l128_0.eq_1
@[go_sem]def a128:=@aw_named T _ _ c128.eq_1
def f_slices_Backward_Term_1(a0 a1:AV)(H:List AO):=ff (vs:=[a0,a1]) t128 rfl H
noncomputable def L_slices_Backward_Term_1_0(H h:List AO)(x0 x1 x3:AV):Option RH:=awL T [0,1,3] [] l128_0 (blkF 0 (finF H [])) ⟨⟨19,[(0,.v x0),(1,.v x1),(3,.v x3)]⟩,[],h,[]⟩
attribute [go_sem ←] L_slices_Backward_Term_1_0.eq_1
theorem t129:T (term_all)=some e129:=by kernel_rfl
@[go_sem]def a129:=@aw_named T _ _ c129.eq_1
def f_term_all(H:List AO):=ff (vs:=[]) t129 rfl H
theorem t130:T (term_told)=some e130:=by kernel_rfl
@[go_sem]def a130:=@aw_named T _ _ c130.eq_1
def f_term_told(a0:AV)(H:List AO):=ff (vs:=[a0]) t130 rfl H
theorem t131:T (term_lift)=some e131:=by kernel_rfl
@[go_sem]def a131:=@aw_named T _ _ c131.eq_1
def f_term_lift(a0 a1 a2:AV)(H:List AO):=ff (vs:=[a0,a1,a2]) t131 rfl H
theorem t132:T (conv_Machine_Leq)=some e132:=by kernel_rfl
@[go_sem]def a132:=@aw_named T _ _ c132.eq_1
def f_conv_Machine_Leq(a0 a1 a2:AV)(H:List AO):=ff (vs:=[a0,a1,a2]) t132 rfl H
theorem t133:T (ref08_atom)=some e133:=by kernel_rfl
@[go_sem]def a133:=@aw_named T _ _ c133.eq_1
def f_ref08_atom(a0 a1:AV)(H:List AO):=ff (vs:=[a0,a1]) t133 rfl H
theorem t134:T (ref08_Asks)=some e134:=by kernel_rfl
@[go_sem]def al134_0:=@aw_named T _ _ l134_0.eq_1
@[go_sem]def a134:=@aw_named T _ _ c134.eq_1
def f_ref08_Asks(a0 a1:AV)(H:List AO):=ff (vs:=[a0,a1]) t134 rfl H
noncomputable def L_ref08_Asks_0(H h:List AO)(x1 x5 x6:AV)(v2:List AV):Option RH:=awL T [1,2,5,6] [2] l134_0 (blkF 0 (thn (aw T (A q134 6 .ret) (finF H [.t 4])) (finF H [.t 4]))) ⟨⟨51,[(1,.v x1),(2,.lp 2 0),(5,.v x5),(6,.v x6)]⟩,[(2,v2)],h,[]⟩
attribute [go_sem ←] L_ref08_Asks_0.eq_1
theorem t135:T (ref09_great)=some e135:=by kernel_rfl
@[go_sem]def al135_0:=@aw_named T _ _ l135_0.eq_1
@[go_sem]def a135:=@aw_named T _ _ c135.eq_1
def f_ref09_great(a0 a1:AV)(H:List AO):=ff (vs:=[a0,a1]) t135 rfl H
noncomputable def L_ref09_great_0(H h:List AO)(x0 x1 x5:AV):Option RH:=awL T [0,1,5] [] l135_0 (blkF 0 (thn (aw T (A q135 6 .ret) (finF H [.t 4])) (finF H [.t 4]))) ⟨⟨18,[(0,.v x0),(1,.v x1),(5,.v x5)]⟩,[],h,[]⟩
attribute [go_sem ←] L_ref09_great_0.eq_1
theorem t136:T (ref08_Most)=some e136:=by kernel_rfl
@[go_sem]def al136_0:=@aw_named T _ _ l136_0.eq_1
@[go_sem]def al136_1:=@aw_named T _ _ l136_1.eq_1
@[go_sem]def a136:=@aw_named T _ _ c136.eq_1
def f_ref08_Most(a0 a1:AV)(H:List AO):=ff (vs:=[a0,a1]) t136 rfl H
noncomputable def L_ref08_Most_0(H h:List AO)(x1 x6 x7 x8:AV):Option RH:=awL T [1,6,7,8] [] l136_0 (blkF 2 (blkF 1 (thn (aw T (.reg (R q136 10)) (thn (again T [1,6,7] [] l136_1 (blkF 0 (thn (aw T (A q136 11 .ret) (finF H [.t 4,.t 5])) (finF H [.t 4,.t 5])))) (blkF 0 (thn (aw T (A q136 11 .ret) (finF H [.t 4,.t 5])) (finF H [.t 4,.t 5]))))) (thn (again T [1,6,7] [] l136_1 (blkF 0 (thn (aw T (A q136 11 .ret) (finF H [.t 4,.t 5])) (finF H [.t 4,.t 5])))) (blkF 0 (thn (aw T (A q136 11 .ret) (finF H [.t 4,.t 5])) (finF H [.t 4,.t 5]))))))) ⟨⟨48,[(1,.v x1),(6,.v x6),(7,.v x7),(8,.v x8)]⟩,[],h,[]⟩
attribute [go_sem ←] L_ref08_Most_0.eq_1
noncomputable def L_ref08_Most_1(H h:List AO)(x1 x6 x7:AV):Option RH:=awL T [1,6,7] [] l136_1 (blkF 0 (thn (aw T (A q136 11 .ret) (finF H [.t 4,.t 5])) (finF H [.t 4,.t 5]))) ⟨⟨48,[(1,.v x1),(6,.v x6),(7,.v x7)]⟩,[],h,[]⟩
attribute [go_sem ←] L_ref08_Most_1.eq_1
theorem t137:T (slices_IndexFunc_int)=some e137:=by kernel_rfl
@[go_sem]def al137_0:=@aw_named T _ _ l137_0.eq_1
@[go_sem]def a137:=@aw_named T _ _ c137.eq_1
def f_slices_IndexFunc_int(a0 a1:AV)(H:List AO):=ff (vs:=[a0,a1]) t137 rfl H
noncomputable def L_slices_IndexFunc_int_0(H h:List AO)(x0 x1 x7 x8:AV):Option RH:=awL T [0,1,7,8] [] l137_0 (blkF 0 (thn (aw T (A q137 7 .ret) (finF H [.t 4])) (finF H [.t 4]))) ⟨⟨19,[(0,.v x0),(1,.v x1),(7,.v x7),(8,.v x8)]⟩,[],h,[]⟩
attribute [go_sem ←] L_slices_IndexFunc_int_0.eq_1
theorem t138:T (tsub_all)=some e138:=by kernel_rfl
@[go_sem]def a138:=@aw_named T _ _ c138.eq_1
def f_tsub_all(a0:AV)(H:List AO):=ff (vs:=[a0]) t138 rfl H
theorem t139:T (tsub_once)=some e139:=by kernel_rfl
@[go_sem]def al139_0:=@aw_named T _ _ l139_0.eq_1
@[go_sem]def a139:=@aw_named T _ _ c139.eq_1
def f_tsub_once(a0 a1 a2:AV)(H:List AO):=ff (vs:=[a0,a1,a2]) t139 rfl H
noncomputable def L_tsub_once_0(H h:List AO)(x0 x1 x11 x12 x13:AV):Option RH:=awL T [0,1,11,12,13] [] l139_0 (blkF 0 (thn (aw T (A q139 9 .ret) (finF H [.t 6])) (finF H [.t 6]))) ⟨⟨34,[(0,.v x0),(1,.v x1),(11,.v x11),(12,.v x12),(13,.v x13)]⟩,[],h,[]⟩
attribute [go_sem ←] L_tsub_once_0.eq_1
theorem t140:T (level_kinds)=some e140:=by kernel_rfl
@[go_sem]def a140:=@aw_named T _ _ c140.eq_1
def f_level_kinds(H:List AO):=ff (vs:=[]) t140 rfl H
theorem t141:T (level_right_1)=some e141:=by kernel_rfl
@[go_sem]def a141:=@aw_named T _ _ c141.eq_1
def f_level_right_1(a0 a1 a2 a3:AV)(H:List AO):=ff (vs:=[a0,a1,a2,a3]) t141 rfl H
theorem t142:T (level_named)=some e142:=by kernel_rfl
@[go_sem]def a142:=@aw_named T _ _ c142.eq_1
def f_level_named(a0 a1 a2:AV)(H:List AO):=ff (vs:=[a0,a1,a2]) t142 rfl H
theorem t143:T (ref05_right)=some e143:=by kernel_rfl
@[go_sem]def al143_0:=@aw_named T _ _ l143_0.eq_1
@[go_sem]def a143:=@aw_named T _ _ c143.eq_1
def f_ref05_right(a0:AV)(H:List AO):=ff (vs:=[a0]) t143 rfl H
noncomputable def L_ref05_right_0(H h:List AO)(x0 x3:AV):Option RH:=awL T [0,3] [] l143_0 (blkF 0 (thn (aw T (A q143 6 .ret) (finF H [.t 2])) (finF H [.t 2]))) ⟨⟨16,[(0,.v x0),(3,.v x3)]⟩,[],h,[]⟩
attribute [go_sem ←] L_ref05_right_0.eq_1
theorem t144:T (ref05_sub)=some e144:=by kernel_rfl
@[go_sem]def al144_0:=@aw_named T _ _ l144_0.eq_1
@[go_sem]def a144:=@aw_named T _ _ c144.eq_1
def f_ref05_sub(a0 a1 a2:AV)(H:List AO):=ff (vs:=[a0,a1,a2]) t144 rfl H
noncomputable def L_ref05_sub_0(H h:List AO)(x1 x2 x8:AV)(v3 v6 v7:List AV):Option RH:=awL T [1,2,3,6,7,8] [3,6,7] l144_0 (blkF 0 (thn (aw T (A q144 10 .ret) (finF H [.c 3 true 6])) (finF H [.c 3 true 6]))) ⟨⟨65,[(1,.v x1),(2,.v x2),(3,.lp 3 0),(6,.lp 6 0),(7,.lp 7 0),(8,.v x8)]⟩,[(3,v3),(6,v6),(7,v7)],h,[]⟩
attribute [go_sem ←] L_ref05_sub_0.eq_1
theorem t145:T (slices_IndexFunc_Level)=some e145:=by kernel_rfl
@[go_sem]def al145_0:=@aw_named T _ _ l145_0.eq_1
@[go_sem]def a145:=@aw_named T _ _ c145.eq_1
def f_slices_IndexFunc_Level(a0 a1:AV)(H:List AO):=ff (vs:=[a0,a1]) t145 rfl H
noncomputable def L_slices_IndexFunc_Level_0(H h:List AO)(x0 x1 x7 x8:AV):Option RH:=awL T [0,1,7,8] [] l145_0 (blkF 0 (thn (aw T (A q145 7 .ret) (finF H [.t 4])) (finF H [.t 4]))) ⟨⟨19,[(0,.v x0),(1,.v x1),(7,.v x7),(8,.v x8)]⟩,[],h,[]⟩
attribute [go_sem ←] L_slices_IndexFunc_Level_0.eq_1
theorem t146:T (term_Open)=some e146:=by kernel_rfl
@[go_sem]def a146:=@aw_named T _ _ c146.eq_1
def f_term_Open(a0 a1:AV)(H:List AO):=ff (vs:=[a0,a1]) t146 rfl H
theorem t147:T (tsub_Sub)=some e147:=by kernel_rfl
@[go_sem]def a147:=@aw_named T _ _ c147.eq_1
def f_tsub_Sub(a0 a1 a2:AV)(H:List AO):=ff (vs:=[a0,a1,a2]) t147 rfl H
theorem t148:T (term_turn)=some e148:=by kernel_rfl
@[go_sem]def al148_0:=@aw_named T _ _ l148_0.eq_1
@[go_sem]def a148:=@aw_named T _ _ c148.eq_1
def f_term_turn(a0 a1 a2:AV)(H:List AO):=ff (vs:=[a0,a1,a2]) t148 rfl H
noncomputable def L_term_turn_0(H h:List AO)(x1 x2 x26 x27 x28:AV)(v3 v6 v7:List AV):Option RH:=awL T [1,2,3,6,7,26,27,28] [3,6,7] l148_0 (blkF 0 (thn (aw T (A q148 9 .ret) (finF H [.c 4 true 6])) (finF H [.c 4 true 6]))) ⟨⟨48,[(1,.v x1),(2,.v x2),(3,.lp 3 0),(6,.lp 6 0),(7,.lp 7 0),(26,.v x26),(27,.v x27),(28,.v x28)]⟩,[(3,v3),(6,v6),(7,v7)],h,[]⟩
attribute [go_sem ←] L_term_turn_0.eq_1
theorem t149:T (term_lift_1)=some e149:=by kernel_rfl
@[go_sem]def a149:=@aw_named T _ _ c149.eq_1
def f_term_lift_1(a0 a1 a2 a3:AV)(H:List AO):=ff (vs:=[a0,a1,a2,a3]) t149 rfl H
theorem t150:T (term_variable)=some e150:=by kernel_rfl
@[go_sem]def a150:=@aw_named T _ _ c150.eq_1
def f_term_variable(a0:AV)(H:List AO):=ff (vs:=[a0]) t150 rfl H
theorem t151:T (under_Leq)=some e151:=by kernel_rfl
@[go_sem]def a151:=@aw_named T _ _ c151.eq_1
def f_under_Leq(a0 a1 a2 a3:AV)(H:List AO):=ff (vs:=[a0,a1,a2,a3]) t151 rfl H
theorem t152:T (tsub_all_1)=some e152:=by kernel_rfl
@[go_sem]def a_s_tsub_all_1_0:=@aw_named T _ _ s_tsub_all_1_0.eq_1
@[go_sem]theorem o_s_tsub_all_1_0:FC.okd s_tsub_all_1_0=true:=by kernel_rfl
@[go_sem]def a_y_tsub_all_1_0:=@aw_named T _ _ y_tsub_all_1_0.eq_1
@[go_sem]theorem o_y_tsub_all_1_0:FC.okd y_tsub_all_1_0=true:=by kernel_rfl
@[go_sem]def al152_0:=@aw_named T _ _ l152_0.eq_1
@[go_sem]def a152:=@aw_named T _ _ c152.eq_1
def f_tsub_all_1(a0 a1:AV)(H:List AO):=ff (vs:=[a0,a1]) t152 rfl H
noncomputable def L_tsub_all_1_0(H h:List AO)(ds:List Nat)(x2 x11 x12 x13:AV):Option RH:=awL T [2,11,12,13] [] l152_0 (blkF 0 (finF H [])) ⟨⟨25,[(2,.v x2),(11,.v x11),(12,.v x12),(13,.v x13)]⟩,[],h,ds⟩
attribute [go_sem ←] L_tsub_all_1_0.eq_1
@[go_sem]def a153:=@aw_named T _ _ c153.eq_1
@[go_sem]def a154:=@aw_named T _ _ c154.eq_1
@[go_sem]def a155:=@aw_named T _ _ c155.eq_1
@[go_sem]def a156:=@aw_named T _ _ c156.eq_1
@[go_sem]def a157:=@aw_named T _ _ c157.eq_1
@[go_sem]def a158:=@aw_named T _ _ c158.eq_1
@[go_sem]def a159:=@aw_named T _ _ c159.eq_1
theorem t160:T (term_Open_1)=some e160:=by kernel_rfl
@[go_sem]def a160:=@aw_named T _ _ c160.eq_1
def f_term_Open_1(a0 a1 a2:AV)(H:List AO):=ff (vs:=[a0,a1,a2]) t160 rfl H
theorem t161:T (slices_Concat_Level)=some e161:=by kernel_rfl
@[go_sem]def al161_0:=@aw_named T _ _ l161_0.eq_1
@[go_sem]def al161_1:=@aw_named T _ _ l161_1.eq_1
@[go_sem]def a161:=@aw_named T _ _ c161.eq_1
def f_slices_Concat_Level(a0:AV)(H:List AO):=ff (vs:=[a0]) t161 rfl H
noncomputable def L_slices_Concat_Level_0(H h:List AO)(x0 x3 x9 x10 x11:AV):Option RH:=awL T [0,3,9,10,11] [] l161_0 (blkF 0 (thn (aw T (A q161 9 (.seq (A q161 10 (.block 2 (.loop [6,25,26,27] [] l161_1))) (A q161 15 .ret))) (finF H [.t 2])) (finF H [.t 2]))) ⟨⟨36,[(0,.v x0),(3,.v x3),(9,.v x9),(10,.v x10),(11,.v x11)]⟩,[],h,[]⟩
attribute [go_sem ←] L_slices_Concat_Level_0.eq_1
noncomputable def L_slices_Concat_Level_1(H h:List AO)(x6 x25 x26 x27:AV):Option RH:=awL T [6,25,26,27] [] l161_1 (blkF 2 (thn (aw T (A q161 15 .ret) (finF H [.t 2])) (finF H [.t 2]))) ⟨⟨36,[(6,.v x6),(25,.v x25),(26,.v x26),(27,.v x27)]⟩,[],h,[]⟩
attribute [go_sem ←] L_slices_Concat_Level_1.eq_1
theorem t162:T (tsub_odd)=some e162:=by kernel_rfl
@[go_sem]def a162:=@aw_named T _ _ c162.eq_1
def f_tsub_odd(a0:AV)(H:List AO):=ff (vs:=[a0]) t162 rfl H
theorem t163:T (tsub_putter_term)=some e163:=by kernel_rfl
@[go_sem]def al163_0:=@aw_named T _ _ l163_0.eq_1
@[go_sem]def al163_1:=@aw_named T _ _ l163_1.eq_1
@[go_sem]def a163:=@aw_named T _ _ c163.eq_1
def f_tsub_putter_term(a0 a1:AV)(H:List AO):=ff (vs:=[a0,a1]) t163 rfl H
noncomputable def L_tsub_putter_term_0(H h:List AO)(x0 x18 x19 x20:AV)(v3 v4 v5:List AV):Option RH:=awL T [0,3,4,5,18,19,20] [3,4,5] l163_0 (blkF 0 (thn (aw T (.seq (A q163 9 (.block 2 (.loop [0,4,5,54,55,56] [4,5] l163_1))) (A q163 14 .ret)) (finF H [.c 4 true 4])) (finF H [.c 4 true 4]))) ⟨⟨70,[(0,.v x0),(3,.lp 3 0),(4,.lp 4 0),(5,.lp 5 0),(18,.v x18),(19,.v x19),(20,.v x20)]⟩,[(3,v3),(4,v4),(5,v5)],h,[]⟩
attribute [go_sem ←] L_tsub_putter_term_0.eq_1
noncomputable def L_tsub_putter_term_1(H h:List AO)(x0 x54 x55 x56:AV)(v4 v5:List AV):Option RH:=awL T [0,4,5,54,55,56] [4,5] l163_1 (blkF 2 (thn (aw T (A q163 14 .ret) (finF H [.c 4 true 4])) (finF H [.c 4 true 4]))) ⟨⟨70,[(0,.v x0),(4,.lp 4 0),(5,.lp 5 0),(54,.v x54),(55,.v x55),(56,.v x56)]⟩,[(4,v4),(5,v5)],h,[]⟩
attribute [go_sem ←] L_tsub_putter_term_1.eq_1
theorem t164:T (under_first)=some e164:=by kernel_rfl
@[go_sem]def a_s_under_first_0:=@aw_named T _ _ s_under_first_0.eq_1
@[go_sem]theorem o_s_under_first_0:FC.okd s_under_first_0=true:=by kernel_rfl
@[go_sem]def a_y_under_first_0:=@aw_named T _ _ y_under_first_0.eq_1
@[go_sem]theorem o_y_under_first_0:FC.okd y_under_first_0=true:=by kernel_rfl
@[go_sem]def a164:=@aw_named T _ _ c164.eq_1
def f_under_first(a0 a1 a2:AV)(H:List AO):=ff (vs:=[a0,a1,a2]) t164 rfl H
theorem t165:T (under_Leq_1)=some e165:=by kernel_rfl
@[go_sem]def al165_0:=@aw_named T _ _ l165_0.eq_1
@[go_sem]def al165_1:=@aw_named T _ _ l165_1.eq_1
@[go_sem]def a165:=@aw_named T _ _ c165.eq_1
def f_under_Leq_1(a0 a1 a2:AV)(H:List AO):=ff (vs:=[a0,a1,a2]) t165 rfl H
noncomputable def L_under_Leq_1_0(H h:List AO)(x2 x8 x15 x16 x17 x23 x24 x25:AV)(v3 v7:List AV):Option RH:=awL T [2,3,7,8,15,16,17,23,24,25] [3,7] l165_0 (blkF 2 (thn (aw T (A q165 10 (A q165 11 (.cond (.t 48) (A q165 12 .ret) .skip))) (blkF 1 (thn (aw T (.reg (R q165 13)) (thn (again T [2,3,15,16,17] [3] l165_1 (blkF 0 (thn (aw T (A q165 14 .ret) (finF H [.t 4,.t 5])) (finF H [.t 4,.t 5])))) (blkF 0 (thn (aw T (A q165 14 .ret) (finF H [.t 4,.t 5])) (finF H [.t 4,.t 5]))))) (thn (again T [2,3,15,16,17] [3] l165_1 (blkF 0 (thn (aw T (A q165 14 .ret) (finF H [.t 4,.t 5])) (finF H [.t 4,.t 5])))) (blkF 0 (thn (aw T (A q165 14 .ret) (finF H [.t 4,.t 5])) (finF H [.t 4,.t 5]))))))) (blkF 1 (thn (aw T (.reg (R q165 13)) (thn (again T [2,3,15,16,17] [3] l165_1 (blkF 0 (thn (aw T (A q165 14 .ret) (finF H [.t 4,.t 5])) (finF H [.t 4,.t 5])))) (blkF 0 (thn (aw T (A q165 14 .ret) (finF H [.t 4,.t 5])) (finF H [.t 4,.t 5]))))) (thn (again T [2,3,15,16,17] [3] l165_1 (blkF 0 (thn (aw T (A q165 14 .ret) (finF H [.t 4,.t 5])) (finF H [.t 4,.t 5])))) (blkF 0 (thn (aw T (A q165 14 .ret) (finF H [.t 4,.t 5])) (finF H [.t 4,.t 5])))))))) ⟨⟨51,[(2,.v x2),(3,.lp 3 0),(7,.lp 7 0),(8,.v x8),(15,.v x15),(16,.v x16),(17,.v x17),(23,.v x23),(24,.v x24),(25,.v x25)]⟩,[(3,v3),(7,v7)],h,[]⟩
attribute [go_sem ←] L_under_Leq_1_0.eq_1
noncomputable def L_under_Leq_1_1(H h:List AO)(x2 x15 x16 x17:AV)(v3:List AV):Option RH:=awL T [2,3,15,16,17] [3] l165_1 (blkF 0 (thn (aw T (A q165 14 .ret) (finF H [.t 4,.t 5])) (finF H [.t 4,.t 5]))) ⟨⟨51,[(2,.v x2),(3,.lp 3 0),(15,.v x15),(16,.v x16),(17,.v x17)]⟩,[(3,v3)],h,[]⟩
attribute [go_sem ←] L_under_Leq_1_1.eq_1
theorem t166:T (under_situation_atoms)=some e166:=by kernel_rfl
@[go_sem]def al166_0:=@aw_named T _ _ l166_0.eq_1
@[go_sem]def a166:=@aw_named T _ _ c166.eq_1
def f_under_situation_atoms(a0 a1:AV)(H:List AO):=ff (vs:=[a0,a1]) t166 rfl H
noncomputable def L_under_situation_atoms_0(H h:List AO)(x7 x22 x23 x24:AV):Option RH:=awL T [7,22,23,24] [] l166_0 (blkF 0 (thn (aw T (A q166 9 .ret) (finF H [.t 4])) (finF H [.t 4]))) ⟨⟨40,[(7,.v x7),(22,.v x22),(23,.v x23),(24,.v x24)]⟩,[],h,[]⟩
attribute [go_sem ←] L_under_situation_atoms_0.eq_1
theorem t167:T (under_situation_values)=some e167:=by kernel_rfl
@[go_sem]def al167_0:=@aw_named T _ _ l167_0.eq_1
@[go_sem]def a167:=@aw_named T _ _ c167.eq_1
def f_under_situation_values(a0 a1:AV)(H:List AO):=ff (vs:=[a0,a1]) t167 rfl H
noncomputable def L_under_situation_values_0(H h:List AO)(x7 x11 x37 x38 x39:AV):Option RH:=awL T [7,11,37,38,39] [] l167_0 (blkF 0 (thn (aw T (A q167 12 .ret) (finF H [.t 4,.t 5])) (finF H [.t 4,.t 5]))) ⟨⟨60,[(7,.v x7),(11,.v x11),(37,.v x37),(38,.v x38),(39,.v x39)]⟩,[],h,[]⟩
attribute [go_sem ←] L_under_situation_values_0.eq_1
theorem t168:T (slices_Grow_Level)=some e168:=by kernel_rfl
@[go_sem]def a168:=@aw_named T _ _ c168.eq_1
def f_slices_Grow_Level(a0 a1:AV)(H:List AO):=ffK (vs:=[a0,a1]) t168 rfl H
theorem t169:T (lsub_Sub)=some e169:=by kernel_rfl
@[go_sem]def a169:=@aw_named T _ _ c169.eq_1
def f_lsub_Sub(a0 a1 a2:AV)(H:List AO):=ff (vs:=[a0,a1,a2]) t169 rfl H
theorem t170:T (leq_All)=some e170:=by kernel_rfl
@[go_sem]def a170:=@aw_named T _ _ c170.eq_1
def f_leq_All(a0:AV)(H:List AO):=ff (vs:=[a0]) t170 rfl H
theorem t171:T (flat_Flatten)=some e171:=by kernel_rfl
@[go_sem]def a171:=@aw_named T _ _ c171.eq_1
def f_flat_Flatten(a0 a1:AV)(H:List AO):=ff (vs:=[a0,a1]) t171 rfl H
@[go_sem]def a172:=@aw_named T _ _ c172.eq_1
theorem t173:T (under_situation_clauses)=some e173:=by kernel_rfl
@[go_sem]def a173:=@aw_named T _ _ c173.eq_1
def f_under_situation_clauses(a0:AV)(H:List AO):=ff (vs:=[a0]) t173 rfl H
theorem t174:T (solve_Solve)=some e174:=by kernel_rfl
@[go_sem]def a174:=@aw_named T _ _ c174.eq_1
def f_solve_Solve(a0 a1:AV)(H:List AO):=ff (vs:=[a0,a1]) t174 rfl H
theorem t175:T (lsub_odd)=some e175:=by kernel_rfl
@[go_sem]def a175:=@aw_named T _ _ c175.eq_1
def f_lsub_odd(a0:AV)(H:List AO):=ff (vs:=[a0]) t175 rfl H
theorem t176:T (lsub_turn)=some e176:=by kernel_rfl
@[go_sem]def al176_0:=@aw_named T _ _ l176_0.eq_1
@[go_sem]def a176:=@aw_named T _ _ c176.eq_1
def f_lsub_turn(a0 a1:AV)(H:List AO):=ff (vs:=[a0,a1]) t176 rfl H
noncomputable def L_lsub_turn_0(H h:List AO)(x1 x24 x25 x26:AV)(v4 v7:List AV):Option RH:=awL T [1,4,7,24,25,26] [4,7] l176_0 (blkF 0 (thn (aw T (A q176 10 .ret) (finF H [.c 3 true 4])) (finF H [.c 3 true 4]))) ⟨⟨40,[(1,.v x1),(4,.lp 4 0),(7,.lp 7 0),(24,.v x24),(25,.v x25),(26,.v x26)]⟩,[(4,v4),(7,v7)],h,[]⟩
attribute [go_sem ←] L_lsub_turn_0.eq_1
theorem t177:T (lsub_Sub_1)=some e177:=by kernel_rfl
@[go_sem]def a177:=@aw_named T _ _ c177.eq_1
def f_lsub_Sub_1(a0 a1 a2:AV)(H:List AO):=ff (vs:=[a0,a1,a2]) t177 rfl H
theorem t178:T (leq_All_1)=some e178:=by kernel_rfl
@[go_sem]def al178_0:=@aw_named T _ _ l178_0.eq_1
@[go_sem]def al178_1:=@aw_named T _ _ l178_1.eq_1
@[go_sem]def a178:=@aw_named T _ _ c178.eq_1
def f_leq_All_1(a0 a1:AV)(H:List AO):=ff (vs:=[a0,a1]) t178 rfl H
noncomputable def L_leq_All_1_0(H h:List AO)(x0 x1 x3 x4 x7 x8 x14 x15:AV):Option RH:=awL T [0,1,3,4,7,8,14,15] [] l178_0 (blkF 2 (thn (aw T (A q178 9 (.cond (.t 30) .ret .skip)) (blkF 1 (thn (aw T (.reg (R q178 10)) (thn (again T [0,1,7,8] [] l178_1 (blkF 0 (finF H []))) (blkF 0 (finF H [])))) (thn (again T [0,1,7,8] [] l178_1 (blkF 0 (finF H []))) (blkF 0 (finF H [])))))) (blkF 1 (thn (aw T (.reg (R q178 10)) (thn (again T [0,1,7,8] [] l178_1 (blkF 0 (finF H []))) (blkF 0 (finF H [])))) (thn (again T [0,1,7,8] [] l178_1 (blkF 0 (finF H []))) (blkF 0 (finF H []))))))) ⟨⟨32,[(0,.v x0),(1,.v x1),(3,.v x3),(4,.v x4),(7,.v x7),(8,.v x8),(14,.v x14),(15,.v x15)]⟩,[],h,[]⟩
attribute [go_sem ←] L_leq_All_1_0.eq_1
noncomputable def L_leq_All_1_1(H h:List AO)(x0 x1 x7 x8:AV):Option RH:=awL T [0,1,7,8] [] l178_1 (blkF 0 (finF H [])) ⟨⟨32,[(0,.v x0),(1,.v x1),(7,.v x7),(8,.v x8)]⟩,[],h,[]⟩
attribute [go_sem ←] L_leq_All_1_1.eq_1
@[go_sem]def a179:=@aw_named T _ _ c179.eq_1
theorem t180:T (flat_Top)=some e180:=by kernel_rfl
@[go_sem]def a180:=@aw_named T _ _ c180.eq_1
def f_flat_Top(a0:AV)(H:List AO):=ff (vs:=[a0]) t180 rfl H
@[go_sem]def a_s_slices_AppendSeq_Clause_0:=@aw_named T _ _ s_slices_AppendSeq_Clause_0.eq_1
@[go_sem]def a_y_slices_AppendSeq_Clause_0:=@aw_named T _ _ y_slices_AppendSeq_Clause_0.eq_1
@[go_sem]def a181:=@aw_named T _ _ c181.eq_1
theorem t182:T (under_situation_clauses_1)=some e182:=by kernel_rfl
@[go_sem]def al182_0:=@aw_named T _ _ l182_0.eq_1
@[go_sem]def al182_1:=@aw_named T _ _ l182_1.eq_1
@[go_sem]def al182_2:=@aw_named T _ _ l182_2.eq_1
@[go_sem]def a182:=@aw_named T _ _ c182.eq_1
def f_under_situation_clauses_1(a0 a1:AV)(H:List AO):=ff (vs:=[a0,a1]) t182 rfl H
noncomputable def L_under_situation_clauses_1_0(H h:List AO)(x0 x1 x11 x12 x13:AV):Option RH:=awL T [0,1,11,12,13] [] l182_0 (blkF 0 (thn (aw T (A q182 5 (.block 2 (.loop [0,1,33,34,35] [] l182_2))) (finF H [])) (finF H []))) ⟨⟨60,[(0,.v x0),(1,.v x1),(11,.v x11),(12,.v x12),(13,.v x13)]⟩,[],h,[]⟩
attribute [go_sem ←] L_under_situation_clauses_1_0.eq_1
noncomputable def L_under_situation_clauses_1_1(H h:List AO)(x0 x1 x7 x33 x34 x35 x46 x47 x48:AV):Option RH:=awL T [0,1,7,33,34,35,46,47,48] [] l182_1 (blkF 4 (blkF 3 (thn (aw T (.reg (R q182 14)) (thn (again T [0,1,33,34,35] [] l182_2 (blkF 2 (finF H []))) (blkF 2 (finF H [])))) (thn (again T [0,1,33,34,35] [] l182_2 (blkF 2 (finF H []))) (blkF 2 (finF H [])))))) ⟨⟨60,[(0,.v x0),(1,.v x1),(7,.v x7),(33,.v x33),(34,.v x34),(35,.v x35),(46,.v x46),(47,.v x47),(48,.v x48)]⟩,[],h,[]⟩
attribute [go_sem ←] L_under_situation_clauses_1_1.eq_1
noncomputable def L_under_situation_clauses_1_2(H h:List AO)(x0 x1 x33 x34 x35:AV):Option RH:=awL T [0,1,33,34,35] [] l182_2 (blkF 2 (finF H [])) ⟨⟨60,[(0,.v x0),(1,.v x1),(33,.v x33),(34,.v x34),(35,.v x35)]⟩,[],h,[]⟩
attribute [go_sem ←] L_under_situation_clauses_1_2.eq_1
theorem t183:T (horn_Right)=some e183:=by kernel_rfl
@[go_sem]def a_s_horn_Right_0:=@aw_named T _ _ s_horn_Right_0.eq_1
@[go_sem]theorem o_s_horn_Right_0:FC.okd s_horn_Right_0=true:=by kernel_rfl
@[go_sem]def a_y_horn_Right_0:=@aw_named T _ _ y_horn_Right_0.eq_1
@[go_sem]theorem o_y_horn_Right_0:FC.okd y_horn_Right_0=true:=by kernel_rfl
@[go_sem]def a183:=@aw_named T _ _ c183.eq_1
def f_horn_Right(a0 a1:AV)(H:List AO):=ff (vs:=[a0,a1]) t183 rfl H
theorem t184:T (solve_run)=some e184:=by kernel_rfl
@[go_sem]def a_s_solve_run_0:=@aw_named T _ _ s_solve_run_0.eq_1
@[go_sem]theorem o_s_solve_run_0:FC.okd s_solve_run_0=true:=by kernel_rfl
@[go_sem]def a_y_solve_run_0:=@aw_named T _ _ y_solve_run_0.eq_1
@[go_sem]theorem o_y_solve_run_0:FC.okd y_solve_run_0=true:=by kernel_rfl
@[go_sem]def a184:=@aw_named T _ _ c184.eq_1
def f_solve_run(a0 a1 a2:AV)(H:List AO):=ff (vs:=[a0,a1,a2]) t184 rfl H
theorem t185:T (solve_limit)=some e185:=by kernel_rfl
@[go_sem]def a185:=@aw_named T _ _ c185.eq_1
def f_solve_limit(a0 a1:AV)(H:List AO):=ff (vs:=[a0,a1]) t185 rfl H
@[go_sem]def a186:=@aw_named T _ _ c186.eq_1
theorem t187:T (flat_succ)=some e187:=by kernel_rfl
@[go_sem]def al187_0:=@aw_named T _ _ l187_0.eq_1
@[go_sem]def a187:=@aw_named T _ _ c187.eq_1
def f_flat_succ(a0:AV)(H:List AO):=ff (vs:=[a0]) t187 rfl H
noncomputable def L_flat_succ_0(H h:List AO)(x10 x11 x12:AV)(v1 v2:List AV):Option RH:=awL T [1,2,10,11,12] [1,2] l187_0 (blkF 0 (thn (aw T (A q187 8 .ret) (finF H [.c 2 true 2])) (finF H [.c 2 true 2]))) ⟨⟨28,[(1,.lp 1 0),(2,.lp 2 0),(10,.v x10),(11,.v x11),(12,.v x12)]⟩,[(1,v1),(2,v2)],h,[]⟩
attribute [go_sem ←] L_flat_succ_0.eq_1
@[go_sem]def al188_0:=@aw_named T _ _ l188_0.eq_1
@[go_sem]def al188_1:=@aw_named T _ _ l188_1.eq_1
@[go_sem]def a188:=@aw_named T _ _ c188.eq_1
theorem t189:T (slices_Max_int)=some e189:=by kernel_rfl
@[go_sem]def al189_0:=@aw_named T _ _ l189_0.eq_1
@[go_sem]def a189:=@aw_named T _ _ c189.eq_1
def f_slices_Max_int(a0:AV)(H:List AO):=ff (vs:=[a0]) t189 rfl H
noncomputable def L_slices_Max_int_0(H h:List AO)(x0 x3 x4:AV):Option RH:=awL T [0,3,4] [] l189_0 (blkF 0 (thn (aw T (A q189 8 .ret) (finF H [.t 2])) (finF H [.t 2]))) ⟨⟨25,[(0,.v x0),(3,.v x3),(4,.v x4)]⟩,[],h,[]⟩
attribute [go_sem ←] L_slices_Max_int_0.eq_1
theorem t190:T (horn_Right_1)=some e190:=by kernel_rfl
@[go_sem]def a190:=@aw_named T _ _ c190.eq_1
def f_horn_Right_1(a0:AV)(H:List AO):=ff (vs:=[a0]) t190 rfl H
theorem t191:T (slices_ContainsFunc_Clause)=some e191:=by kernel_rfl
@[go_sem]def a191:=@aw_named T _ _ c191.eq_1
def f_slices_ContainsFunc_Clause(a0 a1:AV)(H:List AO):=ff (vs:=[a0,a1]) t191 rfl H
theorem t192:T (horn_atoms)=some e192:=by kernel_rfl
@[go_sem]def a192:=@aw_named T _ _ c192.eq_1
def f_horn_atoms(a0:AV)(H:List AO):=ff (vs:=[a0]) t192 rfl H
theorem t193:T (solve_of)=some e193:=by kernel_rfl
@[go_sem]def a193:=@aw_named T _ _ c193.eq_1
def f_solve_of(a0:AV)(H:List AO):=ff (vs:=[a0]) t193 rfl H
@[go_sem]def a194:=@aw_named T _ _ c194.eq_1
theorem T_slices_Clone_int:T (slices_Clone_int)=some (.ext (cloneF 1)):=by kernel_rfl
theorem f_slices_Clone_int (a0:AV) (H:List AO):F slices_Clone_int [a0] H=cloneF 1 [a0] H:=fnF_ext T_slices_Clone_int _ H
theorem t196:T (horn_Most)=some e196:=by kernel_rfl
@[go_sem]def a_s_horn_Most_0:=@aw_named T _ _ s_horn_Most_0.eq_1
@[go_sem]theorem o_s_horn_Most_0:FC.okd s_horn_Most_0=true:=by kernel_rfl
@[go_sem]def a_y_horn_Most_0:=@aw_named T _ _ y_horn_Most_0.eq_1
@[go_sem]theorem o_y_horn_Most_0:FC.okd y_horn_Most_0=true:=by kernel_rfl
@[go_sem]def a196:=@aw_named T _ _ c196.eq_1
def f_horn_Most(a0 a1:AV)(H:List AO):=ff (vs:=[a0,a1]) t196 rfl H
@[go_sem]def al197_0:=@aw_named T _ _ l197_0.eq_1
@[go_sem]def a197:=@aw_named T _ _ c197.eq_1
theorem t198:T (slices_IndexFunc_Clause)=some e198:=by kernel_rfl
@[go_sem]def al198_0:=@aw_named T _ _ l198_0.eq_1
@[go_sem]def a198:=@aw_named T _ _ c198.eq_1
def f_slices_IndexFunc_Clause(a0 a1:AV)(H:List AO):=ff (vs:=[a0,a1]) t198 rfl H
noncomputable def L_slices_IndexFunc_Clause_0(H h:List AO)(x0 x1 x7 x8:AV):Option RH:=awL T [0,1,7,8] [] l198_0 (blkF 0 (thn (aw T (A q198 7 .ret) (finF H [.t 4])) (finF H [.t 4]))) ⟨⟨19,[(0,.v x0),(1,.v x1),(7,.v x7),(8,.v x8)]⟩,[],h,[]⟩
attribute [go_sem ←] L_slices_IndexFunc_Clause_0.eq_1
theorem t199:T (horn_atoms_1)=some e199:=by kernel_rfl
@[go_sem]def al199_0:=@aw_named T _ _ l199_0.eq_1
@[go_sem]def al199_1:=@aw_named T _ _ l199_1.eq_1
@[go_sem]def a199:=@aw_named T _ _ c199.eq_1
def f_horn_atoms_1(a0 a1:AV)(H:List AO):=ff (vs:=[a0,a1]) t199 rfl H
noncomputable def L_horn_atoms_1_0(H h:List AO)(x0 x3 x7 x8 x9 x20 x21 x22:AV):Option RH:=awL T [0,3,7,8,9,20,21,22] [] l199_0 (blkF 2 (blkF 1 (thn (aw T (.reg (R q199 8)) (thn (again T [0,7,8,9] [] l199_1 (blkF 0 (finF H []))) (blkF 0 (finF H [])))) (thn (again T [0,7,8,9] [] l199_1 (blkF 0 (finF H []))) (blkF 0 (finF H [])))))) ⟨⟨33,[(0,.v x0),(3,.v x3),(7,.v x7),(8,.v x8),(9,.v x9),(20,.v x20),(21,.v x21),(22,.v x22)]⟩,[],h,[]⟩
attribute [go_sem ←] L_horn_atoms_1_0.eq_1
noncomputable def L_horn_atoms_1_1(H h:List AO)(x0 x7 x8 x9:AV):Option RH:=awL T [0,7,8,9] [] l199_1 (blkF 0 (finF H [])) ⟨⟨33,[(0,.v x0),(7,.v x7),(8,.v x8),(9,.v x9)]⟩,[],h,[]⟩
attribute [go_sem ←] L_horn_atoms_1_1.eq_1
theorem t200:T (slices_Concat_Atom)=some e200:=by kernel_rfl
@[go_sem]def al200_0:=@aw_named T _ _ l200_0.eq_1
@[go_sem]def al200_1:=@aw_named T _ _ l200_1.eq_1
@[go_sem]def a200:=@aw_named T _ _ c200.eq_1
def f_slices_Concat_Atom(a0:AV)(H:List AO):=ff (vs:=[a0]) t200 rfl H
noncomputable def L_slices_Concat_Atom_0(H h:List AO)(x0 x3 x9 x10 x11:AV):Option RH:=awL T [0,3,9,10,11] [] l200_0 (blkF 0 (thn (aw T (A q200 9 (.seq (A q200 10 (.block 2 (.loop [6,25,26,27] [] l200_1))) (A q200 15 .ret))) (finF H [.t 2])) (finF H [.t 2]))) ⟨⟨36,[(0,.v x0),(3,.v x3),(9,.v x9),(10,.v x10),(11,.v x11)]⟩,[],h,[]⟩
attribute [go_sem ←] L_slices_Concat_Atom_0.eq_1
noncomputable def L_slices_Concat_Atom_1(H h:List AO)(x6 x25 x26 x27:AV):Option RH:=awL T [6,25,26,27] [] l200_1 (blkF 2 (thn (aw T (A q200 15 .ret) (finF H [.t 2])) (finF H [.t 2]))) ⟨⟨36,[(6,.v x6),(25,.v x25),(26,.v x26),(27,.v x27)]⟩,[],h,[]⟩
attribute [go_sem ←] L_slices_Concat_Atom_1.eq_1
theorem t201:T (solve_model_rounds_1)=some e201:=by kernel_rfl
@[go_sem]def al201_0:=@aw_named T _ _ l201_0.eq_1
@[go_sem]def a201:=@aw_named T _ _ c201.eq_1
def f_solve_model_rounds_1(a0 a1 a2:AV)(H:List AO):=ff (vs:=[a0,a1,a2]) t201 rfl H
noncomputable def L_solve_model_rounds_1_0(H h:List AO)(x0 x1 x2:AV):Option RH:=awL T [0,1,2] [] l201_0 (blkF 0 (finF H [])) ⟨⟨11,[(0,.v x0),(1,.v x1),(2,.v x2)]⟩,[],h,[]⟩
attribute [go_sem ←] L_solve_model_rounds_1_0.eq_1
theorem t202:T (solve_model_round)=some e202:=by kernel_rfl
@[go_sem]def al202_0:=@aw_named T _ _ l202_0.eq_1
@[go_sem]def a202:=@aw_named T _ _ c202.eq_1
def f_solve_model_round(a0 a1:AV)(H:List AO):=ff (vs:=[a0,a1]) t202 rfl H
theorem t203:T (math_bits_Mul)=some e203:=by kernel_rfl
@[go_sem]def a203:=@aw_named T _ _ c203.eq_1
def f_math_bits_Mul(a0 a1:AV)(H:List AO):=ff (vs:=[a0,a1]) t203 rfl H
theorem t204:T (slices_Grow_Atom)=some e204:=by kernel_rfl
@[go_sem]def a204:=@aw_named T _ _ c204.eq_1
def f_slices_Grow_Atom(a0 a1:AV)(H:List AO):=ffK (vs:=[a0,a1]) t204 rfl H
theorem t205:T (horn_Asks)=some e205:=by kernel_rfl
@[go_sem]def a205:=@aw_named T _ _ c205.eq_1
def f_horn_Asks(a0 a1:AV)(H:List AO):=ff (vs:=[a0,a1]) t205 rfl H
@[go_sem]def a206:=@aw_named T _ _ c206.eq_1
theorem t207:T (math_bits_Mul64)=some e207:=by kernel_rfl
@[go_sem]def a207:=@aw_named T _ _ c207.eq_1
def f_math_bits_Mul64(a0 a1:AV)(H:List AO):=ff (vs:=[a0,a1]) t207 rfl H
theorem t208:T (horn_Asks_1)=some e208:=by kernel_rfl
@[go_sem]def a208:=@aw_named T _ _ c208.eq_1
def f_horn_Asks_1(a0 a1 a2:AV)(H:List AO):=ff (vs:=[a0,a1,a2]) t208 rfl H
theorem t209:T (slices_MinFunc_Atom)=some e209:=by kernel_rfl
@[go_sem]def al209_0:=@aw_named T _ _ l209_0.eq_1
@[go_sem]def a209:=@aw_named T _ _ c209.eq_1
def f_slices_MinFunc_Atom(a0 a1:AV)(H:List AO):=ff (vs:=[a0,a1]) t209 rfl H
noncomputable def L_slices_MinFunc_Atom_0(H h:List AO)(x0 x1 x6:AV)(v4 v5:List AV):Option RH:=awL T [0,1,4,5,6] [4,5] l209_0 (blkF 0 (thn (aw T (A q209 9 .ret) (finF H [.c 2 true 4])) (finF H [.c 2 true 4]))) ⟨⟨33,[(0,.v x0),(1,.v x1),(4,.lp 4 0),(5,.lp 5 0),(6,.v x6)]⟩,[(4,v4),(5,v5)],h,[]⟩
attribute [go_sem ←] L_slices_MinFunc_Atom_0.eq_1
theorem t210:T (slices_AppendSeq_Clause+1000000)=some e210:=by kernel_rfl
@[go_sem]def a_s_slices_AppendSeq_ClauseK_0:=@aw_named T _ _ s_slices_AppendSeq_ClauseK_0.eq_1
@[go_sem]theorem o_s_slices_AppendSeq_ClauseK_0:FC.okd s_slices_AppendSeq_ClauseK_0=true:=by kernel_rfl
@[go_sem]def a_y_slices_AppendSeq_ClauseK_0:=@aw_named T _ _ y_slices_AppendSeq_ClauseK_0.eq_1
@[go_sem]theorem o_y_slices_AppendSeq_ClauseK_0:FC.okd y_slices_AppendSeq_ClauseK_0=true:=by kernel_rfl
@[go_sem]def a210:=@aw_named T _ _ c210.eq_1
def f_slices_AppendSeq_ClauseK(a0 a1:AV)(H:List AO):=ffA (vs:=[a0,a1]) t210 rfl H
theorem t211:T (slices_Collect_Clause+1000000)=some e211:=by kernel_rfl
@[go_sem]def a211:=@aw_named T _ _ c211.eq_1
def f_slices_Collect_ClauseK(a0:AV)(H:List AO):=ffA (vs:=[a0]) t211 rfl H
theorem T_slices_Clone_intK:T (slices_Clone_int+1000000)=some (.alx (cloneK 1)):=by kernel_rfl
theorem f_slices_Clone_intK (a0:AV) (H:List AO):FK slices_Clone_int [a0] H=cloneK 1 [a0] H:=fkF_ext T_slices_Clone_intK _ H
theorem t213:T (slices_Repeat_int+1000000)=some e213:=by kernel_rfl
@[go_sem]def al213_0:=@aw_named T _ _ l213_0.eq_1
@[go_sem]def a213:=@aw_named T _ _ c213.eq_1
def f_slices_Repeat_intK(a0 a1:AV)(H:List AO):=ffA (vs:=[a0,a1]) t213 rfl H
noncomputable def L_slices_Repeat_intK_0(H h:List AO)(x7 x8:AV):Option RH:=awL T [7,8] [] l213_0 (blkF 0 (thn (aw T (A q213 10 .ret) (finKF H [.t 4])) (finKF H [.t 4]))) ⟨⟨48,[(7,.v x7),(8,.v x8)]⟩,[],h,[]⟩
attribute [go_sem ←] L_slices_Repeat_intK_0.eq_1
theorem t214:T (flat_plain+1000000)=some e214:=by kernel_rfl
@[go_sem]def a214:=@aw_named T _ _ c214.eq_1
def f_flat_plainK(a0 a1:AV)(H:List AO):=ffA (vs:=[a0,a1]) t214 rfl H
theorem t215:T (flat_join+1000000)=some e215:=by kernel_rfl
@[go_sem]def al215_0:=@aw_named T _ _ l215_0.eq_1
@[go_sem]def al215_1:=@aw_named T _ _ l215_1.eq_1
@[go_sem]def a215:=@aw_named T _ _ c215.eq_1
def f_flat_joinK(a0 a1:AV)(H:List AO):=ffA (vs:=[a0,a1]) t215 rfl H
noncomputable def L_flat_joinK_0(H h:List AO)(x16 x17 x18 x29 x30 x31:AV)(v4 v5:List AV):Option RH:=awL T [4,5,16,17,18,29,30,31] [4,5] l215_0 (blkF 2 (blkF 1 (thn (aw T (.reg (R q215 11)) (thn (again T [4,5,16,17,18] [4,5] l215_1 (blkF 0 (thn (aw T (A q215 12 .ret) (finKF H [.c 2 true 4])) (finKF H [.c 2 true 4])))) (blkF 0 (thn (aw T (A q215 12 .ret) (finKF H [.c 2 true 4])) (finKF H [.c 2 true 4]))))) (thn (again T [4,5,16,17,18] [4,5] l215_1 (blkF 0 (thn (aw T (A q215 12 .ret) (finKF H [.c 2 true 4])) (finKF H [.c 2 true 4])))) (blkF 0 (thn (aw T (A q215 12 .ret) (finKF H [.c 2 true 4])) (finKF H [.c 2 true 4]))))))) ⟨⟨50,[(4,.lp 4 0),(5,.lp 5 0),(16,.v x16),(17,.v x17),(18,.v x18),(29,.v x29),(30,.v x30),(31,.v x31)]⟩,[(4,v4),(5,v5)],h,[]⟩
attribute [go_sem ←] L_flat_joinK_0.eq_1
noncomputable def L_flat_joinK_1(H h:List AO)(x16 x17 x18:AV)(v4 v5:List AV):Option RH:=awL T [4,5,16,17,18] [4,5] l215_1 (blkF 0 (thn (aw T (A q215 12 .ret) (finKF H [.c 2 true 4])) (finKF H [.c 2 true 4]))) ⟨⟨50,[(4,.lp 4 0),(5,.lp 5 0),(16,.v x16),(17,.v x17),(18,.v x18)]⟩,[(4,v4),(5,v5)],h,[]⟩
attribute [go_sem ←] L_flat_joinK_1.eq_1
theorem t216:T (flat_of+1000000)=some e216:=by kernel_rfl
@[go_sem]def a216:=@aw_named T _ _ c216.eq_1
def f_flat_ofK(a0 a1:AV)(H:List AO):=ffA (vs:=[a0,a1]) t216 rfl H
theorem t217:T (solve_model_rounds+1000000)=some e217:=by kernel_rfl
@[go_sem]def a217:=@aw_named T _ _ c217.eq_1
def f_solve_model_roundsK(a0 a1:AV)(H:List AO):=ffA (vs:=[a0,a1]) t217 rfl H
theorem t218:T (ref06_none+1000000)=some e218:=by kernel_rfl
@[go_sem]def al218_0:=@aw_named T _ _ l218_0.eq_1
@[go_sem]def a218:=@aw_named T _ _ c218.eq_1
def f_ref06_noneK(a0 a1:AV)(H:List AO):=ffA (vs:=[a0,a1]) t218 rfl H
noncomputable def L_ref06_noneK_0(H h:List AO)(x1 x6:AV)(v4 v5:List AV):Option RH:=awL T [1,4,5,6] [4,5] l218_0 (blkF 0 (thn (aw T (A q218 6 .ret) (finKF H [.c 2 true 4])) (finKF H [.c 2 true 4]))) ⟨⟨20,[(1,.v x1),(4,.lp 4 0),(5,.lp 5 0),(6,.v x6)]⟩,[(4,v4),(5,v5)],h,[]⟩
attribute [go_sem ←] L_ref06_noneK_0.eq_1
end Go.Ab
end
