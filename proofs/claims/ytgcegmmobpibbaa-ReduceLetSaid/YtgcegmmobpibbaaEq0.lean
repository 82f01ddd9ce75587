/- Equations of functions, printed by Emit2.lean. Conditions: none. -/
import Derived.Test.YtgcegmmobpibbaaTab
set_option linter.unusedVariables false
set_option linter.defProp false
set_option maxRecDepth 100000
namespace Go.Ab
open Go.RowKit Go.Proofs
theorem T_law16_ReduceAgain : T law16_ReduceAgain = some (.code c_law16_ReduceAgain 111 [.t 8]) := by kernel_rfl
def w_law16_ReduceAgain_0 := @wr_named T _ _ r_law16_ReduceAgain_0.eq_1
attribute [go_sem] w_law16_ReduceAgain_0
def w_law16_ReduceAgain_1 := @wr_named T _ _ r_law16_ReduceAgain_1.eq_1
attribute [go_sem] w_law16_ReduceAgain_1
def w_law16_ReduceAgain_2 := @wr_named T _ _ r_law16_ReduceAgain_2.eq_1
attribute [go_sem] w_law16_ReduceAgain_2
def w_law16_ReduceAgain_3 := @wr_named T _ _ r_law16_ReduceAgain_3.eq_1
attribute [go_sem] w_law16_ReduceAgain_3
def w_law16_ReduceAgain_4 := @wr_named T _ _ r_law16_ReduceAgain_4.eq_1
attribute [go_sem] w_law16_ReduceAgain_4
def w_law16_ReduceAgain_5 := @wr_named T _ _ r_law16_ReduceAgain_5.eq_1
attribute [go_sem] w_law16_ReduceAgain_5
def w_law16_ReduceAgain_6 := @wr_named T _ _ r_law16_ReduceAgain_6.eq_1
attribute [go_sem] w_law16_ReduceAgain_6
def w_law16_ReduceAgain_7 := @wr_named T _ _ r_law16_ReduceAgain_7.eq_1
attribute [go_sem] w_law16_ReduceAgain_7
def w_law16_ReduceAgain_8 := @wr_named T _ _ r_law16_ReduceAgain_8.eq_1
attribute [go_sem] w_law16_ReduceAgain_8
def w_law16_ReduceAgain_9 := @wr_named T _ _ r_law16_ReduceAgain_9.eq_1
attribute [go_sem] w_law16_ReduceAgain_9
def w_law16_ReduceAgain_10 := @wr_named T _ _ r_law16_ReduceAgain_10.eq_1
attribute [go_sem] w_law16_ReduceAgain_10
def w_law16_ReduceAgain_11 := @wr_named T _ _ r_law16_ReduceAgain_11.eq_1
attribute [go_sem] w_law16_ReduceAgain_11
def a_law16_ReduceAgain := @aw_named T _ _ c_law16_ReduceAgain.eq_1
attribute [go_sem] a_law16_ReduceAgain
theorem f_law16_ReduceAgain (a0 a1 a2 a3 : AV) (H : List AO) : F law16_ReduceAgain [a0, a1, a2, a3] H = aw T c_law16_ReduceAgain (finF H [.t 8]) ⟨⟨111, [(0, .v a0), (1, .v a1), (2, .v a2), (3, .v a3)]⟩, [], H, []⟩ := fnF_code T_law16_ReduceAgain (Nat.le_of_ble_eq_true rfl) H
theorem T_law16_ReduceLet : T law16_ReduceLet = some (.code c_law16_ReduceLet 126 [.t 8]) := by kernel_rfl
def w_law16_ReduceLet_0 := @wr_named T _ _ r_law16_ReduceLet_0.eq_1
attribute [go_sem] w_law16_ReduceLet_0
def w_law16_ReduceLet_1 := @wr_named T _ _ r_law16_ReduceLet_1.eq_1
attribute [go_sem] w_law16_ReduceLet_1
def w_law16_ReduceLet_2 := @wr_named T _ _ r_law16_ReduceLet_2.eq_1
attribute [go_sem] w_law16_ReduceLet_2
def w_law16_ReduceLet_3 := @wr_named T _ _ r_law16_ReduceLet_3.eq_1
attribute [go_sem] w_law16_ReduceLet_3
def w_law16_ReduceLet_4 := @wr_named T _ _ r_law16_ReduceLet_4.eq_1
attribute [go_sem] w_law16_ReduceLet_4
def w_law16_ReduceLet_5 := @wr_named T _ _ r_law16_ReduceLet_5.eq_1
attribute [go_sem] w_law16_ReduceLet_5
def w_law16_ReduceLet_6 := @wr_named T _ _ r_law16_ReduceLet_6.eq_1
attribute [go_sem] w_law16_ReduceLet_6
def w_law16_ReduceLet_7 := @wr_named T _ _ r_law16_ReduceLet_7.eq_1
attribute [go_sem] w_law16_ReduceLet_7
def w_law16_ReduceLet_8 := @wr_named T _ _ r_law16_ReduceLet_8.eq_1
attribute [go_sem] w_law16_ReduceLet_8
def w_law16_ReduceLet_9 := @wr_named T _ _ r_law16_ReduceLet_9.eq_1
attribute [go_sem] w_law16_ReduceLet_9
def w_law16_ReduceLet_10 := @wr_named T _ _ r_law16_ReduceLet_10.eq_1
attribute [go_sem] w_law16_ReduceLet_10
def w_law16_ReduceLet_11 := @wr_named T _ _ r_law16_ReduceLet_11.eq_1
attribute [go_sem] w_law16_ReduceLet_11
def w_law16_ReduceLet_12 := @wd_named T _ _ r_law16_ReduceLet_12.eq_1
attribute [go_sem] w_law16_ReduceLet_12
def w_law16_ReduceLet_13 := @wr_named T _ _ r_law16_ReduceLet_13.eq_1
attribute [go_sem] w_law16_ReduceLet_13
def a_law16_ReduceLet := @aw_named T _ _ c_law16_ReduceLet.eq_1
attribute [go_sem] a_law16_ReduceLet
theorem f_law16_ReduceLet (a0 a1 a2 a3 : AV) (H : List AO) : F law16_ReduceLet [a0, a1, a2, a3] H = aw T c_law16_ReduceLet (finF H [.t 8]) ⟨⟨126, [(0, .v a0), (1, .v a1), (2, .v a2), (3, .v a3)]⟩, [], H, []⟩ := fnF_code T_law16_ReduceLet (Nat.le_of_ble_eq_true rfl) H
theorem T_law16_awake : T law16_awake = some (.code c_law16_awake 108 [.t 0]) := by kernel_rfl
def w_law16_awake_0 := @wr_named T _ _ r_law16_awake_0.eq_1
attribute [go_sem] w_law16_awake_0
def w_law16_awake_1 := @wr_named T _ _ r_law16_awake_1.eq_1
attribute [go_sem] w_law16_awake_1
def w_law16_awake_2 := @wd_named T _ _ r_law16_awake_2.eq_1
attribute [go_sem] w_law16_awake_2
def w_law16_awake_3 := @wd_named T _ _ r_law16_awake_3.eq_1
attribute [go_sem] w_law16_awake_3
def w_law16_awake_4 := @wr_named T _ _ r_law16_awake_4.eq_1
attribute [go_sem] w_law16_awake_4
def w_law16_awake_5 := @wr_named T _ _ r_law16_awake_5.eq_1
attribute [go_sem] w_law16_awake_5
def w_law16_awake_6 := @wr_named T _ _ r_law16_awake_6.eq_1
attribute [go_sem] w_law16_awake_6
def w_law16_awake_7 := @wr_named T _ _ r_law16_awake_7.eq_1
attribute [go_sem] w_law16_awake_7
def w_law16_awake_8 := @wr_named T _ _ r_law16_awake_8.eq_1
attribute [go_sem] w_law16_awake_8
def w_law16_awake_9 := @wr_named T _ _ r_law16_awake_9.eq_1
attribute [go_sem] w_law16_awake_9
def w_law16_awake_10 := @wr_named T _ _ r_law16_awake_10.eq_1
attribute [go_sem] w_law16_awake_10
def a_law16_awake := @aw_named T _ _ c_law16_awake.eq_1
attribute [go_sem] a_law16_awake
theorem f_law16_awake (H : List AO) : F law16_awake [] H = aw T c_law16_awake (finF H [.t 0]) ⟨⟨108, []⟩, [], H, []⟩ := fnF_code T_law16_awake (Nat.le_of_ble_eq_true rfl) H
theorem T_law16_Env : T law16_Env = some (.code c_law16_Env 27 [.t 2]) := by kernel_rfl
def w_law16_Env_0 := @wr_named T _ _ r_law16_Env_0.eq_1
attribute [go_sem] w_law16_Env_0
def w_law16_Env_1 := @wr_named T _ _ r_law16_Env_1.eq_1
attribute [go_sem] w_law16_Env_1
def w_law16_Env_2 := @wr_named T _ _ r_law16_Env_2.eq_1
attribute [go_sem] w_law16_Env_2
def w_law16_Env_3 := @wr_named T _ _ r_law16_Env_3.eq_1
attribute [go_sem] w_law16_Env_3
def w_law16_Env_4 := @wr_named T _ _ r_law16_Env_4.eq_1
attribute [go_sem] w_law16_Env_4
def w_law16_Env_5 := @wr_named T _ _ r_law16_Env_5.eq_1
attribute [go_sem] w_law16_Env_5
def a_l_law16_Env_0 := @aw_named T _ _ l_law16_Env_0.eq_1
attribute [go_sem] a_l_law16_Env_0
def w_law16_Env_6 := @wr_named T _ _ r_law16_Env_6.eq_1
attribute [go_sem] w_law16_Env_6
def a_law16_Env := @aw_named T _ _ c_law16_Env.eq_1
attribute [go_sem] a_law16_Env
theorem f_law16_Env (a0 : AV) (H : List AO) : F law16_Env [a0] H = aw T c_law16_Env (finF H [.t 2]) ⟨⟨27, [(0, .v a0)]⟩, [], H, []⟩ := fnF_code T_law16_Env (Nat.le_of_ble_eq_true rfl) H
noncomputable def L_law16_Env_0 (H h : List AO) (x0 x3 x4 : AV) : Option RH := awL T [0, 3, 4] [] l_law16_Env_0 (blkF 0 (thn (aw T (.seq (.reg r_law16_Env_6) (.ret)) (finF H [.t 2])) (finF H [.t 2]))) ⟨⟨27, [(0, .v x0), (3, .v x3), (4, .v x4)]⟩, [], h, []⟩
def g_law16_Env_0 (H h : List AO) (x0 x3 x4 : AV) := (L_law16_Env_0.eq_1 H h x0 x3 x4).symm
attribute [go_sem] g_law16_Env_0
theorem T_law16_closed : T law16_closed = some (.code c_law16_closed 152 [.c 4 true 10]) := by kernel_rfl
def w_law16_closed_0 := @wr_named T _ _ r_law16_closed_0.eq_1
attribute [go_sem] w_law16_closed_0
def w_law16_closed_1 := @wr_named T _ _ r_law16_closed_1.eq_1
attribute [go_sem] w_law16_closed_1
def w_law16_closed_2 := @wr_named T _ _ r_law16_closed_2.eq_1
attribute [go_sem] w_law16_closed_2
def w_law16_closed_3 := @wr_named T _ _ r_law16_closed_3.eq_1
attribute [go_sem] w_law16_closed_3
def w_law16_closed_4 := @wr_named T _ _ r_law16_closed_4.eq_1
attribute [go_sem] w_law16_closed_4
def w_law16_closed_5 := @wr_named T _ _ r_law16_closed_5.eq_1
attribute [go_sem] w_law16_closed_5
def w_law16_closed_6 := @wr_named T _ _ r_law16_closed_6.eq_1
attribute [go_sem] w_law16_closed_6
def w_law16_closed_7 := @wr_named T _ _ r_law16_closed_7.eq_1
attribute [go_sem] w_law16_closed_7
def w_law16_closed_8 := @wr_named T _ _ r_law16_closed_8.eq_1
attribute [go_sem] w_law16_closed_8
def w_law16_closed_9 := @wr_named T _ _ r_law16_closed_9.eq_1
attribute [go_sem] w_law16_closed_9
def w_law16_closed_10 := @wr_named T _ _ r_law16_closed_10.eq_1
attribute [go_sem] w_law16_closed_10
def w_law16_closed_11 := @wd_named T _ _ r_law16_closed_11.eq_1
attribute [go_sem] w_law16_closed_11
def w_law16_closed_12 := @wr_named T _ _ r_law16_closed_12.eq_1
attribute [go_sem] w_law16_closed_12
def a_l_law16_closed_0 := @aw_named T _ _ l_law16_closed_0.eq_1
attribute [go_sem] a_l_law16_closed_0
def w_law16_closed_13 := @wr_named T _ _ r_law16_closed_13.eq_1
attribute [go_sem] w_law16_closed_13
def w_law16_closed_14 := @wr_named T _ _ r_law16_closed_14.eq_1
attribute [go_sem] w_law16_closed_14
def w_law16_closed_15 := @wr_named T _ _ r_law16_closed_15.eq_1
attribute [go_sem] w_law16_closed_15
def w_law16_closed_16 := @wr_named T _ _ r_law16_closed_16.eq_1
attribute [go_sem] w_law16_closed_16
def w_law16_closed_17 := @wr_named T _ _ r_law16_closed_17.eq_1
attribute [go_sem] w_law16_closed_17
def w_law16_closed_18 := @wr_named T _ _ r_law16_closed_18.eq_1
attribute [go_sem] w_law16_closed_18
def w_law16_closed_19 := @wr_named T _ _ r_law16_closed_19.eq_1
attribute [go_sem] w_law16_closed_19
def w_law16_closed_20 := @wr_named T _ _ r_law16_closed_20.eq_1
attribute [go_sem] w_law16_closed_20
def w_law16_closed_21 := @wr_named T _ _ r_law16_closed_21.eq_1
attribute [go_sem] w_law16_closed_21
def w_law16_closed_22 := @wr_named T _ _ r_law16_closed_22.eq_1
attribute [go_sem] w_law16_closed_22
def a_law16_closed := @aw_named T _ _ c_law16_closed.eq_1
attribute [go_sem] a_law16_closed
theorem f_law16_closed (a0 a1 a2 a3 a4 : AV) (H : List AO) : F law16_closed [a0, a1, a2, a3, a4] H = aw T c_law16_closed (finF H [.c 4 true 10]) ⟨⟨152, [(0, .v a0), (1, .v a1), (2, .v a2), (3, .v a3), (4, .v a4)]⟩, [], H, []⟩ := fnF_code T_law16_closed (Nat.le_of_ble_eq_true rfl) H
noncomputable def L_law16_closed_0 (H h : List AO) (x0 x2 x14 : AV) (v10 v13 : List AV) : Option RH := awL T [0, 2, 10, 13, 14] [10, 13] l_law16_closed_0 (blkF 1 (thn (aw T (.seq (.reg r_law16_closed_13) (.ret)) (blkF 0 (thn (aw T (.seq (.reg r_law16_closed_22) (.ret)) (finF H [.c 4 true 10])) (finF H [.c 4 true 10])))) (blkF 0 (thn (aw T (.seq (.reg r_law16_closed_22) (.ret)) (finF H [.c 4 true 10])) (finF H [.c 4 true 10]))))) ⟨⟨152, [(0, .v x0), (2, .v x2), (10, .lp 10 0), (13, .lp 13 0), (14, .v x14)]⟩, [(10, v10), (13, v13)], h, []⟩
def g_law16_closed_0 (H h : List AO) (x0 x2 x14 : AV) (v10 v13 : List AV) := (L_law16_closed_0.eq_1 H h x0 x2 x14 v10 v13).symm
attribute [go_sem] g_law16_closed_0
theorem T_reduce_Reduce : T reduce_Reduce = some (.code c_reduce_Reduce 62 [.c 4 true 6, .t 7, .t 8]) := by kernel_rfl
def w_reduce_Reduce_0 := @wr_named T _ _ r_reduce_Reduce_0.eq_1
attribute [go_sem] w_reduce_Reduce_0
def w_reduce_Reduce_1 := @wr_named T _ _ r_reduce_Reduce_1.eq_1
attribute [go_sem] w_reduce_Reduce_1
def w_reduce_Reduce_2 := @wr_named T _ _ r_reduce_Reduce_2.eq_1
attribute [go_sem] w_reduce_Reduce_2
def w_reduce_Reduce_3 := @wr_named T _ _ r_reduce_Reduce_3.eq_1
attribute [go_sem] w_reduce_Reduce_3
def w_reduce_Reduce_4 := @wr_named T _ _ r_reduce_Reduce_4.eq_1
attribute [go_sem] w_reduce_Reduce_4
def w_reduce_Reduce_5 := @wr_named T _ _ r_reduce_Reduce_5.eq_1
attribute [go_sem] w_reduce_Reduce_5
def w_reduce_Reduce_6 := @wr_named T _ _ r_reduce_Reduce_6.eq_1
attribute [go_sem] w_reduce_Reduce_6
def w_reduce_Reduce_7 := @wr_named T _ _ r_reduce_Reduce_7.eq_1
attribute [go_sem] w_reduce_Reduce_7
def w_reduce_Reduce_8 := @wd_named T _ _ r_reduce_Reduce_8.eq_1
attribute [go_sem] w_reduce_Reduce_8
def w_reduce_Reduce_9 := @wd_named T _ _ r_reduce_Reduce_9.eq_1
attribute [go_sem] w_reduce_Reduce_9
def a_reduce_Reduce := @aw_named T _ _ c_reduce_Reduce.eq_1
attribute [go_sem] a_reduce_Reduce
theorem f_reduce_Reduce (a0 a1 a2 : AV) (H : List AO) : F reduce_Reduce [a0, a1, a2] H = aw T c_reduce_Reduce (finF H [.c 4 true 6, .t 7, .t 8]) ⟨⟨62, [(0, .v a0), (1, .v a1), (2, .v a2)]⟩, [], H, []⟩ := fnF_code T_reduce_Reduce (Nat.le_of_ble_eq_true rfl) H
theorem T_ref13_Same : T ref13_Same = some (.code c_ref13_Same 75 [.t 4]) := by kernel_rfl
def w_ref13_Same_0 := @wr_named T _ _ r_ref13_Same_0.eq_1
attribute [go_sem] w_ref13_Same_0
def w_ref13_Same_1 := @wr_named T _ _ r_ref13_Same_1.eq_1
attribute [go_sem] w_ref13_Same_1
def w_ref13_Same_2 := @wr_named T _ _ r_ref13_Same_2.eq_1
attribute [go_sem] w_ref13_Same_2
def w_ref13_Same_3 := @wr_named T _ _ r_ref13_Same_3.eq_1
attribute [go_sem] w_ref13_Same_3
def w_ref13_Same_4 := @wr_named T _ _ r_ref13_Same_4.eq_1
attribute [go_sem] w_ref13_Same_4
def w_ref13_Same_5 := @wd_named T _ _ r_ref13_Same_5.eq_1
attribute [go_sem] w_ref13_Same_5
def w_ref13_Same_6 := @wr_named T _ _ r_ref13_Same_6.eq_1
attribute [go_sem] w_ref13_Same_6
def w_ref13_Same_7 := @wr_named T _ _ r_ref13_Same_7.eq_1
attribute [go_sem] w_ref13_Same_7
def a_l_ref13_Same_0 := @aw_named T _ _ l_ref13_Same_0.eq_1
attribute [go_sem] a_l_ref13_Same_0
def w_ref13_Same_8 := @wr_named T _ _ r_ref13_Same_8.eq_1
attribute [go_sem] w_ref13_Same_8
def w_ref13_Same_9 := @wr_named T _ _ r_ref13_Same_9.eq_1
attribute [go_sem] w_ref13_Same_9
def w_ref13_Same_10 := @wd_named T _ _ r_ref13_Same_10.eq_1
attribute [go_sem] w_ref13_Same_10
def w_ref13_Same_11 := @wr_named T _ _ r_ref13_Same_11.eq_1
attribute [go_sem] w_ref13_Same_11
def w_ref13_Same_12 := @wr_named T _ _ r_ref13_Same_12.eq_1
attribute [go_sem] w_ref13_Same_12
def a_l_ref13_Same_1 := @aw_named T _ _ l_ref13_Same_1.eq_1
attribute [go_sem] a_l_ref13_Same_1
def w_ref13_Same_13 := @wr_named T _ _ r_ref13_Same_13.eq_1
attribute [go_sem] w_ref13_Same_13
def a_ref13_Same := @aw_named T _ _ c_ref13_Same.eq_1
attribute [go_sem] a_ref13_Same
theorem f_ref13_Same (a0 a1 : AV) (H : List AO) : F ref13_Same [a0, a1] H = aw T c_ref13_Same (finF H [.t 4]) ⟨⟨75, [(0, .v a0), (1, .v a1)]⟩, [], H, []⟩ := fnF_code T_ref13_Same (Nat.le_of_ble_eq_true rfl) H
noncomputable def L_ref13_Same_0 (H h : List AO) (x5 : AV) (v2 v3 : List AV) : Option RH := awL T [2, 3, 5] [2, 3] l_ref13_Same_0 (blkF 0 (thn (aw T (.seq (.seq (.reg r_ref13_Same_8) (.block 2 (.loop [2, 3, 6] [2, 3] l_ref13_Same_1))) (.seq (.reg r_ref13_Same_13) (.ret))) (finF H [.t 4])) (finF H [.t 4]))) ⟨⟨75, [(2, .lp 2 0), (3, .lp 3 0), (5, .v x5)]⟩, [(2, v2), (3, v3)], h, []⟩
def g_ref13_Same_0 (H h : List AO) (x5 : AV) (v2 v3 : List AV) := (L_ref13_Same_0.eq_1 H h x5 v2 v3).symm
attribute [go_sem] g_ref13_Same_0
noncomputable def L_ref13_Same_1 (H h : List AO) (x6 : AV) (v2 v3 : List AV) : Option RH := awL T [2, 3, 6] [2, 3] l_ref13_Same_1 (blkF 2 (thn (aw T (.seq (.reg r_ref13_Same_13) (.ret)) (finF H [.t 4])) (finF H [.t 4]))) ⟨⟨75, [(2, .lp 2 0), (3, .lp 3 0), (6, .v x6)]⟩, [(2, v2), (3, v3)], h, []⟩
def g_ref13_Same_1 (H h : List AO) (x6 : AV) (v2 v3 : List AV) := (L_ref13_Same_1.eq_1 H h x6 v2 v3).symm
attribute [go_sem] g_ref13_Same_1
theorem T_law13_Sort : T law13_Sort = some (.code c_law13_Sort 6 [.c 4 true 2]) := by kernel_rfl
def w_law13_Sort_0 := @wr_named T _ _ r_law13_Sort_0.eq_1
attribute [go_sem] w_law13_Sort_0
def w_law13_Sort_1 := @wr_named T _ _ r_law13_Sort_1.eq_1
attribute [go_sem] w_law13_Sort_1
def a_law13_Sort := @aw_named T _ _ c_law13_Sort.eq_1
attribute [go_sem] a_law13_Sort
theorem f_law13_Sort (a0 : AV) (H : List AO) : F law13_Sort [a0] H = aw T c_law13_Sort (finF H [.c 4 true 2]) ⟨⟨6, [(0, .v a0)]⟩, [], H, []⟩ := fnF_code T_law13_Sort (Nat.le_of_ble_eq_true rfl) H
theorem T_ref13_Open : T ref13_Open = some (.code c_ref13_Open 24 [.c 4 true 4, .t 5]) := by kernel_rfl
def w_ref13_Open_0 := @wr_named T _ _ r_ref13_Open_0.eq_1
attribute [go_sem] w_ref13_Open_0
def w_ref13_Open_1 := @wr_named T _ _ r_ref13_Open_1.eq_1
attribute [go_sem] w_ref13_Open_1
def w_ref13_Open_2 := @wr_named T _ _ r_ref13_Open_2.eq_1
attribute [go_sem] w_ref13_Open_2
def w_ref13_Open_3 := @wr_named T _ _ r_ref13_Open_3.eq_1
attribute [go_sem] w_ref13_Open_3
def w_ref13_Open_4 := @wr_named T _ _ r_ref13_Open_4.eq_1
attribute [go_sem] w_ref13_Open_4
def w_ref13_Open_5 := @wr_named T _ _ r_ref13_Open_5.eq_1
attribute [go_sem] w_ref13_Open_5
def w_ref13_Open_6 := @wr_named T _ _ r_ref13_Open_6.eq_1
attribute [go_sem] w_ref13_Open_6
def a_ref13_Open := @aw_named T _ _ c_ref13_Open.eq_1
attribute [go_sem] a_ref13_Open
theorem f_ref13_Open (a0 a1 : AV) (H : List AO) : F ref13_Open [a0, a1] H = aw T c_ref13_Open (finF H [.c 4 true 4, .t 5]) ⟨⟨24, [(0, .v a0), (1, .v a1)]⟩, [], H, []⟩ := fnF_code T_ref13_Open (Nat.le_of_ble_eq_true rfl) H
theorem T_law13_Bind : T law13_Bind = some (.code c_law13_Bind 8 [.c 4 true 4]) := by kernel_rfl
def w_law13_Bind_0 := @wr_named T _ _ r_law13_Bind_0.eq_1
attribute [go_sem] w_law13_Bind_0
def w_law13_Bind_1 := @wr_named T _ _ r_law13_Bind_1.eq_1
attribute [go_sem] w_law13_Bind_1
def a_law13_Bind := @aw_named T _ _ c_law13_Bind.eq_1
attribute [go_sem] a_law13_Bind
theorem f_law13_Bind (a0 a1 : AV) (H : List AO) : F law13_Bind [a0, a1] H = aw T c_law13_Bind (finF H [.c 4 true 4]) ⟨⟨8, [(0, .v a0), (1, .v a1)]⟩, [], H, []⟩ := fnF_code T_law13_Bind (Nat.le_of_ble_eq_true rfl) H
theorem T_ref02_Num : T ref02_Num = some (.code c_ref02_Num 23 [.c 3 true 2, .t 3]) := by kernel_rfl
def w_ref02_Num_0 := @wr_named T _ _ r_ref02_Num_0.eq_1
attribute [go_sem] w_ref02_Num_0
def w_ref02_Num_1 := @wr_named T _ _ r_ref02_Num_1.eq_1
attribute [go_sem] w_ref02_Num_1
def w_ref02_Num_2 := @wr_named T _ _ r_ref02_Num_2.eq_1
attribute [go_sem] w_ref02_Num_2
def w_ref02_Num_3 := @wr_named T _ _ r_ref02_Num_3.eq_1
attribute [go_sem] w_ref02_Num_3
def w_ref02_Num_4 := @wr_named T _ _ r_ref02_Num_4.eq_1
attribute [go_sem] w_ref02_Num_4
def w_ref02_Num_5 := @wr_named T _ _ r_ref02_Num_5.eq_1
attribute [go_sem] w_ref02_Num_5
def w_ref02_Num_6 := @wr_named T _ _ r_ref02_Num_6.eq_1
attribute [go_sem] w_ref02_Num_6
def w_ref02_Num_7 := @wr_named T _ _ r_ref02_Num_7.eq_1
attribute [go_sem] w_ref02_Num_7
def a_l_ref02_Num_0 := @aw_named T _ _ l_ref02_Num_0.eq_1
attribute [go_sem] a_l_ref02_Num_0
def w_ref02_Num_8 := @wr_named T _ _ r_ref02_Num_8.eq_1
attribute [go_sem] w_ref02_Num_8
def a_ref02_Num := @aw_named T _ _ c_ref02_Num.eq_1
attribute [go_sem] a_ref02_Num
theorem f_ref02_Num (a0 : AV) (H : List AO) : F ref02_Num [a0] H = aw T c_ref02_Num (finF H [.c 3 true 2, .t 3]) ⟨⟨23, [(0, .v a0)]⟩, [], H, []⟩ := fnF_code T_ref02_Num (Nat.le_of_ble_eq_true rfl) H
noncomputable def L_ref02_Num_0 (H h : List AO) (x0 x5 : AV) (v2 v4 : List AV) : Option RH := awL T [0, 2, 4, 5] [2, 4] l_ref02_Num_0 (blkF 0 (thn (aw T (.seq (.reg r_ref02_Num_8) (.ret)) (finF H [.c 3 true 2, .t 3])) (finF H [.c 3 true 2, .t 3]))) ⟨⟨23, [(0, .v x0), (2, .lp 2 0), (4, .lp 4 0), (5, .v x5)]⟩, [(2, v2), (4, v4)], h, []⟩
def g_ref02_Num_0 (H h : List AO) (x0 x5 : AV) (v2 v4 : List AV) := (L_ref02_Num_0.eq_1 H h x0 x5 v2 v4).symm
attribute [go_sem] g_ref02_Num_0
theorem T_law13_Var : T law13_Var = some (.code c_law13_Var 5 [.c 4 true 2]) := by kernel_rfl
def w_law13_Var_0 := @wr_named T _ _ r_law13_Var_0.eq_1
attribute [go_sem] w_law13_Var_0
def w_law13_Var_1 := @wr_named T _ _ r_law13_Var_1.eq_1
attribute [go_sem] w_law13_Var_1
def a_law13_Var := @aw_named T _ _ c_law13_Var.eq_1
attribute [go_sem] a_law13_Var
theorem f_law13_Var (a0 : AV) (H : List AO) : F law13_Var [a0] H = aw T c_law13_Var (finF H [.c 4 true 2]) ⟨⟨5, [(0, .v a0)]⟩, [], H, []⟩ := fnF_code T_law13_Var (Nat.le_of_ble_eq_true rfl) H
theorem T_reduce_Right : T reduce_Right = some (.code c_reduce_Right 48 [.t 2]) := by kernel_rfl
def w_reduce_Right_0 := @wr_named T _ _ r_reduce_Right_0.eq_1
attribute [go_sem] w_reduce_Right_0
def w_reduce_Right_1 := @wr_named T _ _ r_reduce_Right_1.eq_1
attribute [go_sem] w_reduce_Right_1
def w_reduce_Right_2 := @wr_named T _ _ r_reduce_Right_2.eq_1
attribute [go_sem] w_reduce_Right_2
def w_reduce_Right_3 := @wr_named T _ _ r_reduce_Right_3.eq_1
attribute [go_sem] w_reduce_Right_3
def w_reduce_Right_4 := @wr_named T _ _ r_reduce_Right_4.eq_1
attribute [go_sem] w_reduce_Right_4
def w_reduce_Right_5 := @wr_named T _ _ r_reduce_Right_5.eq_1
attribute [go_sem] w_reduce_Right_5
def w_reduce_Right_6 := @wr_named T _ _ r_reduce_Right_6.eq_1
attribute [go_sem] w_reduce_Right_6
def w_reduce_Right_7 := @wr_named T _ _ r_reduce_Right_7.eq_1
attribute [go_sem] w_reduce_Right_7
def w_reduce_Right_8 := @wr_named T _ _ r_reduce_Right_8.eq_1
attribute [go_sem] w_reduce_Right_8
def w_reduce_Right_9 := @wr_named T _ _ r_reduce_Right_9.eq_1
attribute [go_sem] w_reduce_Right_9
def a_l_reduce_Right_0 := @aw_named T _ _ l_reduce_Right_0.eq_1
attribute [go_sem] a_l_reduce_Right_0
def w_reduce_Right_10 := @wr_named T _ _ r_reduce_Right_10.eq_1
attribute [go_sem] w_reduce_Right_10
def a_reduce_Right := @aw_named T _ _ c_reduce_Right.eq_1
attribute [go_sem] a_reduce_Right
theorem f_reduce_Right (a0 : AV) (H : List AO) : F reduce_Right [a0] H = aw T c_reduce_Right (finF H [.t 2]) ⟨⟨48, [(0, .v a0)]⟩, [], H, []⟩ := fnF_code T_reduce_Right (Nat.le_of_ble_eq_true rfl) H
noncomputable def L_reduce_Right_0 (H h : List AO) (x0 x6 x7 x8 : AV) : Option RH := awL T [0, 6, 7, 8] [] l_reduce_Right_0 (blkF 0 (thn (aw T (.seq (.reg r_reduce_Right_10) (.ret)) (finF H [.t 2])) (finF H [.t 2]))) ⟨⟨48, [(0, .v x0), (6, .v x6), (7, .v x7), (8, .v x8)]⟩, [], h, []⟩
def g_reduce_Right_0 (H h : List AO) (x0 x6 x7 x8 : AV) := (L_reduce_Right_0.eq_1 H h x0 x6 x7 x8).symm
attribute [go_sem] g_reduce_Right_0
theorem T_law16_Decl : T law16_Decl = some (.code c_law16_Decl 47 [.c 11 true 4]) := by kernel_rfl
def w_law16_Decl_0 := @wr_named T _ _ r_law16_Decl_0.eq_1
attribute [go_sem] w_law16_Decl_0
def w_law16_Decl_1 := @wr_named T _ _ r_law16_Decl_1.eq_1
attribute [go_sem] w_law16_Decl_1
def w_law16_Decl_2 := @wr_named T _ _ r_law16_Decl_2.eq_1
attribute [go_sem] w_law16_Decl_2
def w_law16_Decl_3 := @wr_named T _ _ r_law16_Decl_3.eq_1
attribute [go_sem] w_law16_Decl_3
def w_law16_Decl_4 := @wd_named T _ _ r_law16_Decl_4.eq_1
attribute [go_sem] w_law16_Decl_4
def w_law16_Decl_5 := @wr_named T _ _ r_law16_Decl_5.eq_1
attribute [go_sem] w_law16_Decl_5
def a_l_law16_Decl_0 := @aw_named T _ _ l_law16_Decl_0.eq_1
attribute [go_sem] a_l_law16_Decl_0
def w_law16_Decl_6 := @wr_named T _ _ r_law16_Decl_6.eq_1
attribute [go_sem] w_law16_Decl_6
def w_law16_Decl_7 := @wr_named T _ _ r_law16_Decl_7.eq_1
attribute [go_sem] w_law16_Decl_7
def w_law16_Decl_8 := @wr_named T _ _ r_law16_Decl_8.eq_1
attribute [go_sem] w_law16_Decl_8
def w_law16_Decl_9 := @wr_named T _ _ r_law16_Decl_9.eq_1
attribute [go_sem] w_law16_Decl_9
def w_law16_Decl_10 := @wr_named T _ _ r_law16_Decl_10.eq_1
attribute [go_sem] w_law16_Decl_10
def a_law16_Decl := @aw_named T _ _ c_law16_Decl.eq_1
attribute [go_sem] a_law16_Decl
theorem f_law16_Decl (a0 a1 : AV) (H : List AO) : F law16_Decl [a0, a1] H = aw T c_law16_Decl (finF H [.c 11 true 4]) ⟨⟨47, [(0, .v a0), (1, .v a1)]⟩, [], H, []⟩ := fnF_code T_law16_Decl (Nat.le_of_ble_eq_true rfl) H
noncomputable def L_law16_Decl_0 (H h : List AO) (x0 x1 x6 : AV) (v4 v5 : List AV) : Option RH := awL T [0, 1, 4, 5, 6] [4, 5] l_law16_Decl_0 (blkF 0 (thn (aw T (.seq (.reg r_law16_Decl_6) (.seq (.seq (.reg r_law16_Decl_7) (.cond (.t 38) (.seq (.reg r_law16_Decl_8) (.reg r_law16_Decl_9)) (.skip))) (.seq (.reg r_law16_Decl_10) (.ret)))) (finF H [.c 11 true 4])) (finF H [.c 11 true 4]))) ⟨⟨47, [(0, .v x0), (1, .v x1), (4, .lp 4 0), (5, .lp 5 0), (6, .v x6)]⟩, [(4, v4), (5, v5)], h, []⟩
def g_law16_Decl_0 (H h : List AO) (x0 x1 x6 : AV) (v4 v5 : List AV) := (L_law16_Decl_0.eq_1 H h x0 x1 x6 v4 v5).symm
attribute [go_sem] g_law16_Decl_0
theorem T_law02_Maker_Pick : T law02_Maker_Pick = some (.code c_law02_Maker_Pick 36 [.t 4]) := by kernel_rfl
def w_law02_Maker_Pick_0 := @wr_named T _ _ r_law02_Maker_Pick_0.eq_1
attribute [go_sem] w_law02_Maker_Pick_0
def w_law02_Maker_Pick_1 := @wr_named T _ _ r_law02_Maker_Pick_1.eq_1
attribute [go_sem] w_law02_Maker_Pick_1
def w_law02_Maker_Pick_2 := @wd_named T _ _ r_law02_Maker_Pick_2.eq_1
attribute [go_sem] w_law02_Maker_Pick_2
def w_law02_Maker_Pick_3 := @wr_named T _ _ r_law02_Maker_Pick_3.eq_1
attribute [go_sem] w_law02_Maker_Pick_3
def w_law02_Maker_Pick_4 := @wd_named T _ _ r_law02_Maker_Pick_4.eq_1
attribute [go_sem] w_law02_Maker_Pick_4
def a_law02_Maker_Pick := @aw_named T _ _ c_law02_Maker_Pick.eq_1
attribute [go_sem] a_law02_Maker_Pick
theorem f_law02_Maker_Pick (a0 a1 : AV) (H : List AO) : F law02_Maker_Pick [a0, a1] H = aw T c_law02_Maker_Pick (finF H [.t 4]) ⟨⟨36, [(0, .v a0), (1, .v a1)]⟩, [], H, []⟩ := fnF_code T_law02_Maker_Pick (Nat.le_of_ble_eq_true rfl) H
theorem T_law02_Maker_Level : T law02_Maker_Level = some (.code c_law02_Maker_Level 100 [.c 3 true 8]) := by kernel_rfl
def w_law02_Maker_Level_0 := @wr_named T _ _ r_law02_Maker_Level_0.eq_1
attribute [go_sem] w_law02_Maker_Level_0
def w_law02_Maker_Level_1 := @wr_named T _ _ r_law02_Maker_Level_1.eq_1
attribute [go_sem] w_law02_Maker_Level_1
def w_law02_Maker_Level_2 := @wr_named T _ _ r_law02_Maker_Level_2.eq_1
attribute [go_sem] w_law02_Maker_Level_2
def w_law02_Maker_Level_3 := @wr_named T _ _ r_law02_Maker_Level_3.eq_1
attribute [go_sem] w_law02_Maker_Level_3
def w_law02_Maker_Level_4 := @wr_named T _ _ r_law02_Maker_Level_4.eq_1
attribute [go_sem] w_law02_Maker_Level_4
def w_law02_Maker_Level_5 := @wr_named T _ _ r_law02_Maker_Level_5.eq_1
attribute [go_sem] w_law02_Maker_Level_5
def w_law02_Maker_Level_6 := @wr_named T _ _ r_law02_Maker_Level_6.eq_1
attribute [go_sem] w_law02_Maker_Level_6
def w_law02_Maker_Level_7 := @wr_named T _ _ r_law02_Maker_Level_7.eq_1
attribute [go_sem] w_law02_Maker_Level_7
def w_law02_Maker_Level_8 := @wr_named T _ _ r_law02_Maker_Level_8.eq_1
attribute [go_sem] w_law02_Maker_Level_8
def w_law02_Maker_Level_9 := @wr_named T _ _ r_law02_Maker_Level_9.eq_1
attribute [go_sem] w_law02_Maker_Level_9
def w_law02_Maker_Level_10 := @wr_named T _ _ r_law02_Maker_Level_10.eq_1
attribute [go_sem] w_law02_Maker_Level_10
def w_law02_Maker_Level_11 := @wr_named T _ _ r_law02_Maker_Level_11.eq_1
attribute [go_sem] w_law02_Maker_Level_11
def w_law02_Maker_Level_12 := @wr_named T _ _ r_law02_Maker_Level_12.eq_1
attribute [go_sem] w_law02_Maker_Level_12
def w_law02_Maker_Level_13 := @wr_named T _ _ r_law02_Maker_Level_13.eq_1
attribute [go_sem] w_law02_Maker_Level_13
def w_law02_Maker_Level_14 := @wr_named T _ _ r_law02_Maker_Level_14.eq_1
attribute [go_sem] w_law02_Maker_Level_14
def a_law02_Maker_Level := @aw_named T _ _ c_law02_Maker_Level.eq_1
attribute [go_sem] a_law02_Maker_Level
theorem f_law02_Maker_Level (a0 a1 a2 a3 : AV) (H : List AO) : F law02_Maker_Level [a0, a1, a2, a3] H = aw T c_law02_Maker_Level (finF H [.c 3 true 8]) ⟨⟨100, [(0, .v a0), (1, .v a1), (2, .v a2), (3, .v a3)]⟩, [], H, []⟩ := fnF_code T_law02_Maker_Level (Nat.le_of_ble_eq_true rfl) H
theorem T_reduce_Shape : T reduce_Shape = some (.code c_reduce_Shape 5 [.t 2]) := by kernel_rfl
def w_reduce_Shape_0 := @wr_named T _ _ r_reduce_Shape_0.eq_1
attribute [go_sem] w_reduce_Shape_0
def w_reduce_Shape_1 := @wr_named T _ _ r_reduce_Shape_1.eq_1
attribute [go_sem] w_reduce_Shape_1
def a_reduce_Shape := @aw_named T _ _ c_reduce_Shape.eq_1
attribute [go_sem] a_reduce_Shape
theorem f_reduce_Shape (a0 : AV) (H : List AO) : F reduce_Shape [a0] H = aw T c_reduce_Shape (finF H [.t 2]) ⟨⟨5, [(0, .v a0)]⟩, [], H, []⟩ := fnF_code T_reduce_Shape (Nat.le_of_ble_eq_true rfl) H
theorem T_reduce_Machine_Head : T reduce_Machine_Head = some (.code c_reduce_Machine_Head 60 [.c 4 true 4]) := by kernel_rfl
def w_reduce_Machine_Head_0 := @wr_named T _ _ r_reduce_Machine_Head_0.eq_1
attribute [go_sem] w_reduce_Machine_Head_0
def w_reduce_Machine_Head_1 := @wr_named T _ _ r_reduce_Machine_Head_1.eq_1
attribute [go_sem] w_reduce_Machine_Head_1
def w_reduce_Machine_Head_2 := @wr_named T _ _ r_reduce_Machine_Head_2.eq_1
attribute [go_sem] w_reduce_Machine_Head_2
def w_reduce_Machine_Head_3 := @wr_named T _ _ r_reduce_Machine_Head_3.eq_1
attribute [go_sem] w_reduce_Machine_Head_3
def w_reduce_Machine_Head_4 := @wr_named T _ _ r_reduce_Machine_Head_4.eq_1
attribute [go_sem] w_reduce_Machine_Head_4
def w_reduce_Machine_Head_5 := @wr_named T _ _ r_reduce_Machine_Head_5.eq_1
attribute [go_sem] w_reduce_Machine_Head_5
def a_l_reduce_Machine_Head_0 := @aw_named T _ _ l_reduce_Machine_Head_0.eq_1
attribute [go_sem] a_l_reduce_Machine_Head_0
def w_reduce_Machine_Head_6 := @wr_named T _ _ r_reduce_Machine_Head_6.eq_1
attribute [go_sem] w_reduce_Machine_Head_6
def w_reduce_Machine_Head_7 := @wr_named T _ _ r_reduce_Machine_Head_7.eq_1
attribute [go_sem] w_reduce_Machine_Head_7
def w_reduce_Machine_Head_8 := @wd_named T _ _ r_reduce_Machine_Head_8.eq_1
attribute [go_sem] w_reduce_Machine_Head_8
def a_s_reduce_Machine_Head_0 := @aw_named T _ _ s_reduce_Machine_Head_0.eq_1
theorem o_s_reduce_Machine_Head_0 : FC.okd s_reduce_Machine_Head_0 = true := by kernel_rfl
attribute [go_sem] a_s_reduce_Machine_Head_0 o_s_reduce_Machine_Head_0
def a_y_reduce_Machine_Head_0 := @aw_named T _ _ y_reduce_Machine_Head_0.eq_1
theorem o_y_reduce_Machine_Head_0 : FC.okd y_reduce_Machine_Head_0 = true := by kernel_rfl
attribute [go_sem] a_y_reduce_Machine_Head_0 o_y_reduce_Machine_Head_0
def w_reduce_Machine_Head_9 := @wr_named T _ _ r_reduce_Machine_Head_9.eq_1
attribute [go_sem] w_reduce_Machine_Head_9
def a_reduce_Machine_Head := @aw_named T _ _ c_reduce_Machine_Head.eq_1
attribute [go_sem] a_reduce_Machine_Head
theorem f_reduce_Machine_Head (a0 a1 : AV) (H : List AO) : F reduce_Machine_Head [a0, a1] H = aw T c_reduce_Machine_Head (finF H [.c 4 true 4]) ⟨⟨60, [(0, .v a0), (1, .v a1)]⟩, [], H, []⟩ := fnF_code T_reduce_Machine_Head (Nat.le_of_ble_eq_true rfl) H
noncomputable def L_reduce_Machine_Head_0 (H h : List AO) (ds : List Nat) (x0 x5 x6 : AV) (v4 : List AV) : Option RH := awL T [0, 4, 5, 6] [4] l_reduce_Machine_Head_0 (blkF 0 (thn (aw T (.seq (.seq (.reg r_reduce_Machine_Head_6) (.block 2 (.rf (.t 43) [44, 45] [5] s_reduce_Machine_Head_0 y_reduce_Machine_Head_0))) (.seq (.reg r_reduce_Machine_Head_9) (.ret))) (finF H [.c 4 true 4])) (finF H [.c 4 true 4]))) ⟨⟨60, [(0, .v x0), (4, .lp 4 0), (5, .v x5), (6, .v x6)]⟩, [(4, v4)], h, ds⟩
def g_reduce_Machine_Head_0 (H h : List AO) (ds : List Nat) (x0 x5 x6 : AV) (v4 : List AV) := (L_reduce_Machine_Head_0.eq_1 H h ds x0 x5 x6 v4).symm
attribute [go_sem] g_reduce_Machine_Head_0
theorem T_reduce_Machine_Fail : T reduce_Machine_Fail = some (.code c_reduce_Machine_Fail 14 [.t 4]) := by kernel_rfl
def w_reduce_Machine_Fail_0 := @wr_named T _ _ r_reduce_Machine_Fail_0.eq_1
attribute [go_sem] w_reduce_Machine_Fail_0
def w_reduce_Machine_Fail_1 := @wr_named T _ _ r_reduce_Machine_Fail_1.eq_1
attribute [go_sem] w_reduce_Machine_Fail_1
def w_reduce_Machine_Fail_2 := @wr_named T _ _ r_reduce_Machine_Fail_2.eq_1
attribute [go_sem] w_reduce_Machine_Fail_2
def w_reduce_Machine_Fail_3 := @wr_named T _ _ r_reduce_Machine_Fail_3.eq_1
attribute [go_sem] w_reduce_Machine_Fail_3
def a_reduce_Machine_Fail := @aw_named T _ _ c_reduce_Machine_Fail.eq_1
attribute [go_sem] a_reduce_Machine_Fail
theorem f_reduce_Machine_Fail (a0 a1 : AV) (H : List AO) : F reduce_Machine_Fail [a0, a1] H = aw T c_reduce_Machine_Fail (finF H [.t 4]) ⟨⟨14, [(0, .v a0), (1, .v a1)]⟩, [], H, []⟩ := fnF_code T_reduce_Machine_Fail (Nat.le_of_ble_eq_true rfl) H
theorem T_ref02_Same : T ref02_Same = some (.code c_ref02_Same 46 [.t 4]) := by kernel_rfl
def w_ref02_Same_0 := @wr_named T _ _ r_ref02_Same_0.eq_1
attribute [go_sem] w_ref02_Same_0
def w_ref02_Same_1 := @wr_named T _ _ r_ref02_Same_1.eq_1
attribute [go_sem] w_ref02_Same_1
def w_ref02_Same_2 := @wr_named T _ _ r_ref02_Same_2.eq_1
attribute [go_sem] w_ref02_Same_2
def w_ref02_Same_3 := @wr_named T _ _ r_ref02_Same_3.eq_1
attribute [go_sem] w_ref02_Same_3
def w_ref02_Same_4 := @wr_named T _ _ r_ref02_Same_4.eq_1
attribute [go_sem] w_ref02_Same_4
def w_ref02_Same_5 := @wd_named T _ _ r_ref02_Same_5.eq_1
attribute [go_sem] w_ref02_Same_5
def w_ref02_Same_6 := @wr_named T _ _ r_ref02_Same_6.eq_1
attribute [go_sem] w_ref02_Same_6
def w_ref02_Same_7 := @wr_named T _ _ r_ref02_Same_7.eq_1
attribute [go_sem] w_ref02_Same_7
def a_l_ref02_Same_0 := @aw_named T _ _ l_ref02_Same_0.eq_1
attribute [go_sem] a_l_ref02_Same_0
def w_ref02_Same_8 := @wr_named T _ _ r_ref02_Same_8.eq_1
attribute [go_sem] w_ref02_Same_8
def a_ref02_Same := @aw_named T _ _ c_ref02_Same.eq_1
attribute [go_sem] a_ref02_Same
theorem f_ref02_Same (a0 a1 : AV) (H : List AO) : F ref02_Same [a0, a1] H = aw T c_ref02_Same (finF H [.t 4]) ⟨⟨46, [(0, .v a0), (1, .v a1)]⟩, [], H, []⟩ := fnF_code T_ref02_Same (Nat.le_of_ble_eq_true rfl) H
noncomputable def L_ref02_Same_0 (H h : List AO) (x5 : AV) (v2 v3 : List AV) : Option RH := awL T [2, 3, 5] [2, 3] l_ref02_Same_0 (blkF 0 (thn (aw T (.seq (.reg r_ref02_Same_8) (.ret)) (finF H [.t 4])) (finF H [.t 4]))) ⟨⟨46, [(2, .lp 2 0), (3, .lp 3 0), (5, .v x5)]⟩, [(2, v2), (3, v3)], h, []⟩
def g_ref02_Same_0 (H h : List AO) (x5 : AV) (v2 v3 : List AV) := (L_ref02_Same_0.eq_1 H h x5 v2 v3).symm
attribute [go_sem] g_ref02_Same_0
theorem T_ref13_Shape : T ref13_Shape = some (.code c_ref13_Shape 5 [.t 2]) := by kernel_rfl
def w_ref13_Shape_0 := @wr_named T _ _ r_ref13_Shape_0.eq_1
attribute [go_sem] w_ref13_Shape_0
def w_ref13_Shape_1 := @wr_named T _ _ r_ref13_Shape_1.eq_1
attribute [go_sem] w_ref13_Shape_1
def a_ref13_Shape := @aw_named T _ _ c_ref13_Shape.eq_1
attribute [go_sem] a_ref13_Shape
theorem f_ref13_Shape (a0 : AV) (H : List AO) : F ref13_Shape [a0] H = aw T c_ref13_Shape (finF H [.t 2]) ⟨⟨5, [(0, .v a0)]⟩, [], H, []⟩ := fnF_code T_ref13_Shape (Nat.le_of_ble_eq_true rfl) H
theorem T_ref13_open : T ref13_open = some (.code c_ref13_open 67 [.c 4 true 6]) := by kernel_rfl
def w_ref13_open_0 := @wr_named T _ _ r_ref13_open_0.eq_1
attribute [go_sem] w_ref13_open_0
def w_ref13_open_1 := @wr_named T _ _ r_ref13_open_1.eq_1
attribute [go_sem] w_ref13_open_1
def w_ref13_open_2 := @wr_named T _ _ r_ref13_open_2.eq_1
attribute [go_sem] w_ref13_open_2
def w_ref13_open_3 := @wr_named T _ _ r_ref13_open_3.eq_1
attribute [go_sem] w_ref13_open_3
def w_ref13_open_4 := @wr_named T _ _ r_ref13_open_4.eq_1
attribute [go_sem] w_ref13_open_4
def w_ref13_open_5 := @wr_named T _ _ r_ref13_open_5.eq_1
attribute [go_sem] w_ref13_open_5
def w_ref13_open_6 := @wr_named T _ _ r_ref13_open_6.eq_1
attribute [go_sem] w_ref13_open_6
def w_ref13_open_7 := @wr_named T _ _ r_ref13_open_7.eq_1
attribute [go_sem] w_ref13_open_7
def w_ref13_open_8 := @wd_named T _ _ r_ref13_open_8.eq_1
attribute [go_sem] w_ref13_open_8
def w_ref13_open_9 := @wr_named T _ _ r_ref13_open_9.eq_1
attribute [go_sem] w_ref13_open_9
def a_l_ref13_open_0 := @aw_named T _ _ l_ref13_open_0.eq_1
attribute [go_sem] a_l_ref13_open_0
def w_ref13_open_10 := @wr_named T _ _ r_ref13_open_10.eq_1
attribute [go_sem] w_ref13_open_10
def a_ref13_open := @aw_named T _ _ c_ref13_open.eq_1
attribute [go_sem] a_ref13_open
theorem f_ref13_open (a0 a1 a2 : AV) (H : List AO) : F ref13_open [a0, a1, a2] H = aw T c_ref13_open (finF H [.c 4 true 6]) ⟨⟨67, [(0, .v a0), (1, .v a1), (2, .v a2)]⟩, [], H, []⟩ := fnF_code T_ref13_open (Nat.le_of_ble_eq_true rfl) H
noncomputable def L_ref13_open_0 (H h : List AO) (x1 x8 : AV) (v3 v5 v6 v7 : List AV) : Option RH := awL T [1, 3, 5, 6, 7, 8] [3, 5, 6, 7] l_ref13_open_0 (blkF 0 (thn (aw T (.seq (.reg r_ref13_open_10) (.ret)) (finF H [.c 4 true 6])) (finF H [.c 4 true 6]))) ⟨⟨67, [(1, .v x1), (3, .lp 3 0), (5, .lp 5 0), (6, .lp 6 0), (7, .lp 7 0), (8, .v x8)]⟩, [(3, v3), (5, v5), (6, v6), (7, v7)], h, []⟩
def g_ref13_open_0 (H h : List AO) (x1 x8 : AV) (v3 v5 v6 v7 : List AV) := (L_ref13_open_0.eq_1 H h x1 x8 v3 v5 v6 v7).symm
attribute [go_sem] g_ref13_open_0
theorem T_term_Same : T term_Same = some (.code c_term_Same 31 [.t 4]) := by kernel_rfl
def w_term_Same_0 := @wr_named T _ _ r_term_Same_0.eq_1
attribute [go_sem] w_term_Same_0
def w_term_Same_1 := @wr_named T _ _ r_term_Same_1.eq_1
attribute [go_sem] w_term_Same_1
def a_term_Same := @aw_named T _ _ c_term_Same.eq_1
attribute [go_sem] a_term_Same
theorem f_term_Same (a0 a1 : AV) (H : List AO) : F term_Same [a0, a1] H = aw T c_term_Same (finF H [.t 4]) ⟨⟨31, [(0, .v a0), (1, .v a1)]⟩, [], H, []⟩ := fnF_code T_term_Same (Nat.le_of_ble_eq_true rfl) H
theorem T_reduce_may : T reduce_may = some (.code c_reduce_may 17 [.t 6]) := by kernel_rfl
def w_reduce_may_0 := @wr_named T _ _ r_reduce_may_0.eq_1
attribute [go_sem] w_reduce_may_0
def w_reduce_may_1 := @wr_named T _ _ r_reduce_may_1.eq_1
attribute [go_sem] w_reduce_may_1
def a_reduce_may := @aw_named T _ _ c_reduce_may.eq_1
attribute [go_sem] a_reduce_may
theorem f_reduce_may (a0 a1 a2 : AV) (H : List AO) : F reduce_may [a0, a1, a2] H = aw T c_reduce_may (finF H [.t 6]) ⟨⟨17, [(0, .v a0), (1, .v a1), (2, .v a2)]⟩, [], H, []⟩ := fnF_code T_reduce_may (Nat.le_of_ble_eq_true rfl) H
theorem T_under_Right : T under_Right = some (.code c_under_Right 24 [.t 4]) := by kernel_rfl
def w_under_Right_0 := @wr_named T _ _ r_under_Right_0.eq_1
attribute [go_sem] w_under_Right_0
def w_under_Right_1 := @wr_named T _ _ r_under_Right_1.eq_1
attribute [go_sem] w_under_Right_1
def w_under_Right_2 := @wr_named T _ _ r_under_Right_2.eq_1
attribute [go_sem] w_under_Right_2
def a_under_Right := @aw_named T _ _ c_under_Right.eq_1
attribute [go_sem] a_under_Right
theorem f_under_Right (a0 a1 : AV) (H : List AO) : F under_Right [a0, a1] H = aw T c_under_Right (finF H [.t 4]) ⟨⟨24, [(0, .v a0), (1, .v a1)]⟩, [], H, []⟩ := fnF_code T_under_Right (Nat.le_of_ble_eq_true rfl) H
theorem T_term_Right : T term_Right = some (.code c_term_Right 37 [.t 8]) := by kernel_rfl
def w_term_Right_0 := @wr_named T _ _ r_term_Right_0.eq_1
attribute [go_sem] w_term_Right_0
def w_term_Right_1 := @wr_named T _ _ r_term_Right_1.eq_1
attribute [go_sem] w_term_Right_1
def w_term_Right_2 := @wr_named T _ _ r_term_Right_2.eq_1
attribute [go_sem] w_term_Right_2
def w_term_Right_3 := @wr_named T _ _ r_term_Right_3.eq_1
attribute [go_sem] w_term_Right_3
def a_term_Right := @aw_named T _ _ c_term_Right.eq_1
attribute [go_sem] a_term_Right
theorem f_term_Right (a0 a1 a2 a3 : AV) (H : List AO) : F term_Right [a0, a1, a2, a3] H = aw T c_term_Right (finF H [.t 8]) ⟨⟨37, [(0, .v a0), (1, .v a1), (2, .v a2), (3, .v a3)]⟩, [], H, []⟩ := fnF_code T_term_Right (Nat.le_of_ble_eq_true rfl) H
theorem T_reduce_steps : T reduce_steps = some (.code c_reduce_steps 3 [.t 0]) := by kernel_rfl
def w_reduce_steps_0 := @wr_named T _ _ r_reduce_steps_0.eq_1
attribute [go_sem] w_reduce_steps_0
def w_reduce_steps_1 := @wr_named T _ _ r_reduce_steps_1.eq_1
attribute [go_sem] w_reduce_steps_1
def a_reduce_steps := @aw_named T _ _ c_reduce_steps.eq_1
attribute [go_sem] a_reduce_steps
theorem f_reduce_steps (H : List AO) : F reduce_steps [] H = aw T c_reduce_steps (finF H [.t 0]) ⟨⟨3, []⟩, [], H, []⟩ := fnF_code T_reduce_steps (Nat.le_of_ble_eq_true rfl) H
theorem T_slices_Backward_Term : T slices_Backward_Term = some (.code c_slices_Backward_Term 4 [.t 2]) := by kernel_rfl
def w_slices_Backward_Term_0 := @wr_named T _ _ r_slices_Backward_Term_0.eq_1
attribute [go_sem] w_slices_Backward_Term_0
def w_slices_Backward_Term_1 := @wr_named T _ _ r_slices_Backward_Term_1.eq_1
attribute [go_sem] w_slices_Backward_Term_1
def a_slices_Backward_Term := @aw_named T _ _ c_slices_Backward_Term.eq_1
attribute [go_sem] a_slices_Backward_Term
theorem f_slices_Backward_Term (a0 : AV) (H : List AO) : F slices_Backward_Term [a0] H = aw T c_slices_Backward_Term (finF H [.t 2]) ⟨⟨4, [(0, .v a0)]⟩, [], H, []⟩ := fnF_code T_slices_Backward_Term (Nat.le_of_ble_eq_true rfl) H
theorem T_ref13_Right : T ref13_Right = some (.code c_ref13_Right 43 [.t 8]) := by kernel_rfl
def w_ref13_Right_0 := @wr_named T _ _ r_ref13_Right_0.eq_1
attribute [go_sem] w_ref13_Right_0
def w_ref13_Right_1 := @wr_named T _ _ r_ref13_Right_1.eq_1
attribute [go_sem] w_ref13_Right_1
def a_ref13_Right := @aw_named T _ _ c_ref13_Right.eq_1
attribute [go_sem] a_ref13_Right
theorem f_ref13_Right (a0 a1 a2 a3 : AV) (H : List AO) : F ref13_Right [a0, a1, a2, a3] H = aw T c_ref13_Right (finF H [.t 8]) ⟨⟨43, [(0, .v a0), (1, .v a1), (2, .v a2), (3, .v a3)]⟩, [], H, []⟩ := fnF_code T_ref13_Right (Nat.le_of_ble_eq_true rfl) H
theorem T_ref13_lift : T ref13_lift = some (.code c_ref13_lift 56 [.c 4 true 6]) := by kernel_rfl
def w_ref13_lift_0 := @wr_named T _ _ r_ref13_lift_0.eq_1
attribute [go_sem] w_ref13_lift_0
def w_ref13_lift_1 := @wr_named T _ _ r_ref13_lift_1.eq_1
attribute [go_sem] w_ref13_lift_1
def w_ref13_lift_2 := @wr_named T _ _ r_ref13_lift_2.eq_1
attribute [go_sem] w_ref13_lift_2
def w_ref13_lift_3 := @wr_named T _ _ r_ref13_lift_3.eq_1
attribute [go_sem] w_ref13_lift_3
def w_ref13_lift_4 := @wr_named T _ _ r_ref13_lift_4.eq_1
attribute [go_sem] w_ref13_lift_4
def w_ref13_lift_5 := @wr_named T _ _ r_ref13_lift_5.eq_1
attribute [go_sem] w_ref13_lift_5
def w_ref13_lift_6 := @wd_named T _ _ r_ref13_lift_6.eq_1
attribute [go_sem] w_ref13_lift_6
def w_ref13_lift_7 := @wr_named T _ _ r_ref13_lift_7.eq_1
attribute [go_sem] w_ref13_lift_7
def a_l_ref13_lift_0 := @aw_named T _ _ l_ref13_lift_0.eq_1
attribute [go_sem] a_l_ref13_lift_0
def w_ref13_lift_8 := @wr_named T _ _ r_ref13_lift_8.eq_1
attribute [go_sem] w_ref13_lift_8
def a_ref13_lift := @aw_named T _ _ c_ref13_lift.eq_1
attribute [go_sem] a_ref13_lift
theorem f_ref13_lift (a0 a1 a2 : AV) (H : List AO) : F ref13_lift [a0, a1, a2] H = aw T c_ref13_lift (finF H [.c 4 true 6]) ⟨⟨56, [(0, .v a0), (1, .v a1), (2, .v a2)]⟩, [], H, []⟩ := fnF_code T_ref13_lift (Nat.le_of_ble_eq_true rfl) H
noncomputable def L_ref13_lift_0 (H h : List AO) (x1 x2 x8 : AV) (v3 v6 v7 : List AV) : Option RH := awL T [1, 2, 3, 6, 7, 8] [3, 6, 7] l_ref13_lift_0 (blkF 0 (thn (aw T (.seq (.reg r_ref13_lift_8) (.ret)) (finF H [.c 4 true 6])) (finF H [.c 4 true 6]))) ⟨⟨56, [(1, .v x1), (2, .v x2), (3, .lp 3 0), (6, .lp 6 0), (7, .lp 7 0), (8, .v x8)]⟩, [(3, v3), (6, v6), (7, v7)], h, []⟩
def g_ref13_lift_0 (H h : List AO) (x1 x2 x8 : AV) (v3 v6 v7 : List AV) := (L_ref13_lift_0.eq_1 H h x1 x2 x8 v3 v6 v7).symm
attribute [go_sem] g_ref13_lift_0
theorem T_ref13_binds : T ref13_binds = some (.code c_ref13_binds 23 [.t 4]) := by kernel_rfl
def w_ref13_binds_0 := @wr_named T _ _ r_ref13_binds_0.eq_1
attribute [go_sem] w_ref13_binds_0
def w_ref13_binds_1 := @wr_named T _ _ r_ref13_binds_1.eq_1
attribute [go_sem] w_ref13_binds_1
def w_ref13_binds_2 := @wr_named T _ _ r_ref13_binds_2.eq_1
attribute [go_sem] w_ref13_binds_2
def w_ref13_binds_3 := @wr_named T _ _ r_ref13_binds_3.eq_1
attribute [go_sem] w_ref13_binds_3
def a_ref13_binds := @aw_named T _ _ c_ref13_binds.eq_1
attribute [go_sem] a_ref13_binds
theorem f_ref13_binds (a0 a1 : AV) (H : List AO) : F ref13_binds [a0, a1] H = aw T c_ref13_binds (finF H [.t 4]) ⟨⟨23, [(0, .v a0), (1, .v a1)]⟩, [], H, []⟩ := fnF_code T_ref13_binds (Nat.le_of_ble_eq_true rfl) H
theorem T_slices_EqualFunc_Level : T slices_EqualFunc_Level = some (.code c_slices_EqualFunc_Level 32 [.t 6]) := by kernel_rfl
def w_slices_EqualFunc_Level_0 := @wr_named T _ _ r_slices_EqualFunc_Level_0.eq_1
attribute [go_sem] w_slices_EqualFunc_Level_0
def w_slices_EqualFunc_Level_1 := @wr_named T _ _ r_slices_EqualFunc_Level_1.eq_1
attribute [go_sem] w_slices_EqualFunc_Level_1
def w_slices_EqualFunc_Level_2 := @wr_named T _ _ r_slices_EqualFunc_Level_2.eq_1
attribute [go_sem] w_slices_EqualFunc_Level_2
def w_slices_EqualFunc_Level_3 := @wr_named T _ _ r_slices_EqualFunc_Level_3.eq_1
attribute [go_sem] w_slices_EqualFunc_Level_3
def w_slices_EqualFunc_Level_4 := @wr_named T _ _ r_slices_EqualFunc_Level_4.eq_1
attribute [go_sem] w_slices_EqualFunc_Level_4
def w_slices_EqualFunc_Level_5 := @wr_named T _ _ r_slices_EqualFunc_Level_5.eq_1
attribute [go_sem] w_slices_EqualFunc_Level_5
def w_slices_EqualFunc_Level_6 := @wr_named T _ _ r_slices_EqualFunc_Level_6.eq_1
attribute [go_sem] w_slices_EqualFunc_Level_6
def w_slices_EqualFunc_Level_7 := @wr_named T _ _ r_slices_EqualFunc_Level_7.eq_1
attribute [go_sem] w_slices_EqualFunc_Level_7
def w_slices_EqualFunc_Level_8 := @wr_named T _ _ r_slices_EqualFunc_Level_8.eq_1
attribute [go_sem] w_slices_EqualFunc_Level_8
def w_slices_EqualFunc_Level_9 := @wr_named T _ _ r_slices_EqualFunc_Level_9.eq_1
attribute [go_sem] w_slices_EqualFunc_Level_9
def a_l_slices_EqualFunc_Level_0 := @aw_named T _ _ l_slices_EqualFunc_Level_0.eq_1
attribute [go_sem] a_l_slices_EqualFunc_Level_0
def w_slices_EqualFunc_Level_10 := @wr_named T _ _ r_slices_EqualFunc_Level_10.eq_1
attribute [go_sem] w_slices_EqualFunc_Level_10
def a_slices_EqualFunc_Level := @aw_named T _ _ c_slices_EqualFunc_Level.eq_1
attribute [go_sem] a_slices_EqualFunc_Level
theorem f_slices_EqualFunc_Level (a0 a1 a2 : AV) (H : List AO) : F slices_EqualFunc_Level [a0, a1, a2] H = aw T c_slices_EqualFunc_Level (finF H [.t 6]) ⟨⟨32, [(0, .v a0), (1, .v a1), (2, .v a2)]⟩, [], H, []⟩ := fnF_code T_slices_EqualFunc_Level (Nat.le_of_ble_eq_true rfl) H
noncomputable def L_slices_EqualFunc_Level_0 (H h : List AO) (x1 x2 x15 x16 x17 : AV) : Option RH := awL T [1, 2, 15, 16, 17] [] l_slices_EqualFunc_Level_0 (blkF 0 (thn (aw T (.seq (.reg r_slices_EqualFunc_Level_10) (.ret)) (finF H [.t 6])) (finF H [.t 6]))) ⟨⟨32, [(1, .v x1), (2, .v x2), (15, .v x15), (16, .v x16), (17, .v x17)]⟩, [], h, []⟩
def g_slices_EqualFunc_Level_0 (H h : List AO) (x1 x2 x15 x16 x17 : AV) := (L_slices_EqualFunc_Level_0.eq_1 H h x1 x2 x15 x16 x17).symm
attribute [go_sem] g_slices_EqualFunc_Level_0
theorem T_level_Same : T level_Same = some (.code c_level_Same 24 [.t 4]) := by kernel_rfl
def w_level_Same_0 := @wr_named T _ _ r_level_Same_0.eq_1
attribute [go_sem] w_level_Same_0
def w_level_Same_1 := @wr_named T _ _ r_level_Same_1.eq_1
attribute [go_sem] w_level_Same_1
def a_level_Same := @aw_named T _ _ c_level_Same.eq_1
attribute [go_sem] a_level_Same
theorem f_level_Same (a0 a1 : AV) (H : List AO) : F level_Same [a0, a1] H = aw T c_level_Same (finF H [.t 4]) ⟨⟨24, [(0, .v a0), (1, .v a1)]⟩, [], H, []⟩ := fnF_code T_level_Same (Nat.le_of_ble_eq_true rfl) H
theorem T_slices_EqualFunc_Term : T slices_EqualFunc_Term = some (.code c_slices_EqualFunc_Term 32 [.t 6]) := by kernel_rfl
def w_slices_EqualFunc_Term_0 := @wr_named T _ _ r_slices_EqualFunc_Term_0.eq_1
attribute [go_sem] w_slices_EqualFunc_Term_0
def w_slices_EqualFunc_Term_1 := @wr_named T _ _ r_slices_EqualFunc_Term_1.eq_1
attribute [go_sem] w_slices_EqualFunc_Term_1
def w_slices_EqualFunc_Term_2 := @wr_named T _ _ r_slices_EqualFunc_Term_2.eq_1
attribute [go_sem] w_slices_EqualFunc_Term_2
def w_slices_EqualFunc_Term_3 := @wr_named T _ _ r_slices_EqualFunc_Term_3.eq_1
attribute [go_sem] w_slices_EqualFunc_Term_3
def w_slices_EqualFunc_Term_4 := @wr_named T _ _ r_slices_EqualFunc_Term_4.eq_1
attribute [go_sem] w_slices_EqualFunc_Term_4
def w_slices_EqualFunc_Term_5 := @wr_named T _ _ r_slices_EqualFunc_Term_5.eq_1
attribute [go_sem] w_slices_EqualFunc_Term_5
def w_slices_EqualFunc_Term_6 := @wr_named T _ _ r_slices_EqualFunc_Term_6.eq_1
attribute [go_sem] w_slices_EqualFunc_Term_6
def w_slices_EqualFunc_Term_7 := @wr_named T _ _ r_slices_EqualFunc_Term_7.eq_1
attribute [go_sem] w_slices_EqualFunc_Term_7
def w_slices_EqualFunc_Term_8 := @wr_named T _ _ r_slices_EqualFunc_Term_8.eq_1
attribute [go_sem] w_slices_EqualFunc_Term_8
def w_slices_EqualFunc_Term_9 := @wr_named T _ _ r_slices_EqualFunc_Term_9.eq_1
attribute [go_sem] w_slices_EqualFunc_Term_9
def a_l_slices_EqualFunc_Term_0 := @aw_named T _ _ l_slices_EqualFunc_Term_0.eq_1
attribute [go_sem] a_l_slices_EqualFunc_Term_0
def w_slices_EqualFunc_Term_10 := @wr_named T _ _ r_slices_EqualFunc_Term_10.eq_1
attribute [go_sem] w_slices_EqualFunc_Term_10
def a_slices_EqualFunc_Term := @aw_named T _ _ c_slices_EqualFunc_Term.eq_1
attribute [go_sem] a_slices_EqualFunc_Term
theorem f_slices_EqualFunc_Term (a0 a1 a2 : AV) (H : List AO) : F slices_EqualFunc_Term [a0, a1, a2] H = aw T c_slices_EqualFunc_Term (finF H [.t 6]) ⟨⟨32, [(0, .v a0), (1, .v a1), (2, .v a2)]⟩, [], H, []⟩ := fnF_code T_slices_EqualFunc_Term (Nat.le_of_ble_eq_true rfl) H
noncomputable def L_slices_EqualFunc_Term_0 (H h : List AO) (x1 x2 x15 x16 x17 : AV) : Option RH := awL T [1, 2, 15, 16, 17] [] l_slices_EqualFunc_Term_0 (blkF 0 (thn (aw T (.seq (.reg r_slices_EqualFunc_Term_10) (.ret)) (finF H [.t 6])) (finF H [.t 6]))) ⟨⟨32, [(1, .v x1), (2, .v x2), (15, .v x15), (16, .v x16), (17, .v x17)]⟩, [], h, []⟩
def g_slices_EqualFunc_Term_0 (H h : List AO) (x1 x2 x15 x16 x17 : AV) := (L_slices_EqualFunc_Term_0.eq_1 H h x1 x2 x15 x16 x17).symm
attribute [go_sem] g_slices_EqualFunc_Term_0
theorem T_slices_ContainsFunc_int : T slices_ContainsFunc_int = some (.code c_slices_ContainsFunc_int 9 [.t 4]) := by kernel_rfl
def w_slices_ContainsFunc_int_0 := @wr_named T _ _ r_slices_ContainsFunc_int_0.eq_1
attribute [go_sem] w_slices_ContainsFunc_int_0
def w_slices_ContainsFunc_int_1 := @wr_named T _ _ r_slices_ContainsFunc_int_1.eq_1
attribute [go_sem] w_slices_ContainsFunc_int_1
def a_slices_ContainsFunc_int := @aw_named T _ _ c_slices_ContainsFunc_int.eq_1
attribute [go_sem] a_slices_ContainsFunc_int
theorem f_slices_ContainsFunc_int (a0 a1 : AV) (H : List AO) : F slices_ContainsFunc_int [a0, a1] H = aw T c_slices_ContainsFunc_int (finF H [.t 4]) ⟨⟨9, [(0, .v a0), (1, .v a1)]⟩, [], H, []⟩ := fnF_code T_slices_ContainsFunc_int (Nat.le_of_ble_eq_true rfl) H
theorem T_tsub_Consts : T tsub_Consts = some (.code c_tsub_Consts 19 [.c 1 false 2]) := by kernel_rfl
def w_tsub_Consts_0 := @wr_named T _ _ r_tsub_Consts_0.eq_1
attribute [go_sem] w_tsub_Consts_0
def w_tsub_Consts_1 := @wr_named T _ _ r_tsub_Consts_1.eq_1
attribute [go_sem] w_tsub_Consts_1
def w_tsub_Consts_2 := @wr_named T _ _ r_tsub_Consts_2.eq_1
attribute [go_sem] w_tsub_Consts_2
def w_tsub_Consts_3 := @wr_named T _ _ r_tsub_Consts_3.eq_1
attribute [go_sem] w_tsub_Consts_3
def w_tsub_Consts_4 := @wr_named T _ _ r_tsub_Consts_4.eq_1
attribute [go_sem] w_tsub_Consts_4
def w_tsub_Consts_5 := @wr_named T _ _ r_tsub_Consts_5.eq_1
attribute [go_sem] w_tsub_Consts_5
def a_s_tsub_Consts_0 := @aw_named T _ _ s_tsub_Consts_0.eq_1
theorem o_s_tsub_Consts_0 : FC.okd s_tsub_Consts_0 = true := by kernel_rfl
attribute [go_sem] a_s_tsub_Consts_0 o_s_tsub_Consts_0
def a_y_tsub_Consts_0 := @aw_named T _ _ y_tsub_Consts_0.eq_1
theorem o_y_tsub_Consts_0 : FC.okd y_tsub_Consts_0 = true := by kernel_rfl
attribute [go_sem] a_y_tsub_Consts_0 o_y_tsub_Consts_0
def w_tsub_Consts_6 := @wr_named T _ _ r_tsub_Consts_6.eq_1
attribute [go_sem] w_tsub_Consts_6
def a_tsub_Consts := @aw_named T _ _ c_tsub_Consts.eq_1
attribute [go_sem] a_tsub_Consts
theorem f_tsub_Consts (a0 : AV) (H : List AO) : F tsub_Consts [a0] H = aw T c_tsub_Consts (finF H [.c 1 false 2]) ⟨⟨19, [(0, .v a0)]⟩, [], H, []⟩ := fnF_code T_tsub_Consts (Nat.le_of_ble_eq_true rfl) H
theorem T_reduce_may_1 : T reduce_may_1 = some (.code c_reduce_may_1 7 [.t 3]) := by kernel_rfl
def w_reduce_may_1_0 := @wr_named T _ _ r_reduce_may_1_0.eq_1
attribute [go_sem] w_reduce_may_1_0
def w_reduce_may_1_1 := @wr_named T _ _ r_reduce_may_1_1.eq_1
attribute [go_sem] w_reduce_may_1_1
def a_reduce_may_1 := @aw_named T _ _ c_reduce_may_1.eq_1
attribute [go_sem] a_reduce_may_1
theorem f_reduce_may_1 (a0 a1 : AV) (H : List AO) : F reduce_may_1 [a0, a1] H = aw T c_reduce_may_1 (finF H [.t 3]) ⟨⟨7, [(0, .v a0), (1, .v a1)]⟩, [], H, []⟩ := fnF_code T_reduce_may_1 (Nat.le_of_ble_eq_true rfl) H
theorem T_under_Right_1 : T under_Right_1 = some (.code c_under_Right_1 16 [.t 3]) := by kernel_rfl
def w_under_Right_1_0 := @wr_named T _ _ r_under_Right_1_0.eq_1
attribute [go_sem] w_under_Right_1_0
def w_under_Right_1_1 := @wr_named T _ _ r_under_Right_1_1.eq_1
attribute [go_sem] w_under_Right_1_1
def a_under_Right_1 := @aw_named T _ _ c_under_Right_1.eq_1
attribute [go_sem] a_under_Right_1
theorem f_under_Right_1 (a0 a1 : AV) (H : List AO) : F under_Right_1 [a0, a1] H = aw T c_under_Right_1 (finF H [.t 3]) ⟨⟨16, [(0, .v a0), (1, .v a1)]⟩, [], H, []⟩ := fnF_code T_under_Right_1 (Nat.le_of_ble_eq_true rfl) H
theorem T_level_Right : T level_Right = some (.code c_level_Right 30 [.t 6]) := by kernel_rfl
def w_level_Right_0 := @wr_named T _ _ r_level_Right_0.eq_1
attribute [go_sem] w_level_Right_0
def w_level_Right_1 := @wr_named T _ _ r_level_Right_1.eq_1
attribute [go_sem] w_level_Right_1
def w_level_Right_2 := @wr_named T _ _ r_level_Right_2.eq_1
attribute [go_sem] w_level_Right_2
def w_level_Right_3 := @wr_named T _ _ r_level_Right_3.eq_1
attribute [go_sem] w_level_Right_3
def a_level_Right := @aw_named T _ _ c_level_Right.eq_1
attribute [go_sem] a_level_Right
theorem f_level_Right (a0 a1 a2 : AV) (H : List AO) : F level_Right [a0, a1, a2] H = aw T c_level_Right (finF H [.t 6]) ⟨⟨30, [(0, .v a0), (1, .v a1), (2, .v a2)]⟩, [], H, []⟩ := fnF_code T_level_Right (Nat.le_of_ble_eq_true rfl) H
theorem T_slices_ContainsFunc_Con : T slices_ContainsFunc_Con = some (.code c_slices_ContainsFunc_Con 9 [.t 4]) := by kernel_rfl
def w_slices_ContainsFunc_Con_0 := @wr_named T _ _ r_slices_ContainsFunc_Con_0.eq_1
attribute [go_sem] w_slices_ContainsFunc_Con_0
def w_slices_ContainsFunc_Con_1 := @wr_named T _ _ r_slices_ContainsFunc_Con_1.eq_1
attribute [go_sem] w_slices_ContainsFunc_Con_1
def a_slices_ContainsFunc_Con := @aw_named T _ _ c_slices_ContainsFunc_Con.eq_1
attribute [go_sem] a_slices_ContainsFunc_Con
theorem f_slices_ContainsFunc_Con (a0 a1 : AV) (H : List AO) : F slices_ContainsFunc_Con [a0, a1] H = aw T c_slices_ContainsFunc_Con (finF H [.t 4]) ⟨⟨9, [(0, .v a0), (1, .v a1)]⟩, [], H, []⟩ := fnF_code T_slices_ContainsFunc_Con (Nat.le_of_ble_eq_true rfl) H
theorem T_term_room_fits : T term_room_fits = some (.code c_term_room_fits 13 [.t 4]) := by kernel_rfl
def w_term_room_fits_0 := @wr_named T _ _ r_term_room_fits_0.eq_1
attribute [go_sem] w_term_room_fits_0
def w_term_room_fits_1 := @wr_named T _ _ r_term_room_fits_1.eq_1
attribute [go_sem] w_term_room_fits_1
def a_term_room_fits := @aw_named T _ _ c_term_room_fits.eq_1
attribute [go_sem] a_term_room_fits
theorem f_term_room_fits (a0 a1 : AV) (H : List AO) : F term_room_fits [a0, a1] H = aw T c_term_room_fits (finF H [.t 4]) ⟨⟨13, [(0, .v a0), (1, .v a1)]⟩, [], H, []⟩ := fnF_code T_term_room_fits (Nat.le_of_ble_eq_true rfl) H
theorem T_reduce_spine_let : T reduce_spine_let = some (.code c_reduce_spine_let 33 [.t 2]) := by kernel_rfl
def w_reduce_spine_let_0 := @wr_named T _ _ r_reduce_spine_let_0.eq_1
attribute [go_sem] w_reduce_spine_let_0
def w_reduce_spine_let_1 := @wr_named T _ _ r_reduce_spine_let_1.eq_1
attribute [go_sem] w_reduce_spine_let_1
def w_reduce_spine_let_2 := @wd_named T _ _ r_reduce_spine_let_2.eq_1
attribute [go_sem] w_reduce_spine_let_2
def w_reduce_spine_let_3 := @wr_named T _ _ r_reduce_spine_let_3.eq_1
attribute [go_sem] w_reduce_spine_let_3
def a_reduce_spine_let := @aw_named T _ _ c_reduce_spine_let.eq_1
attribute [go_sem] a_reduce_spine_let
theorem f_reduce_spine_let (a0 : AV) (H : List AO) : F reduce_spine_let [a0] H = aw T c_reduce_spine_let (finF H [.t 2]) ⟨⟨33, [(0, .v a0)]⟩, [], H, []⟩ := fnF_code T_reduce_spine_let (Nat.le_of_ble_eq_true rfl) H
theorem T_reduce_spine_constant : T reduce_spine_constant = some (.code c_reduce_spine_constant 69 [.t 2]) := by kernel_rfl
def w_reduce_spine_constant_0 := @wr_named T _ _ r_reduce_spine_constant_0.eq_1
attribute [go_sem] w_reduce_spine_constant_0
def w_reduce_spine_constant_1 := @wd_named T _ _ r_reduce_spine_constant_1.eq_1
attribute [go_sem] w_reduce_spine_constant_1
def w_reduce_spine_constant_2 := @wr_named T _ _ r_reduce_spine_constant_2.eq_1
attribute [go_sem] w_reduce_spine_constant_2
def w_reduce_spine_constant_3 := @wd_named T _ _ r_reduce_spine_constant_3.eq_1
attribute [go_sem] w_reduce_spine_constant_3
def w_reduce_spine_constant_4 := @wd_named T _ _ r_reduce_spine_constant_4.eq_1
attribute [go_sem] w_reduce_spine_constant_4
def w_reduce_spine_constant_5 := @wr_named T _ _ r_reduce_spine_constant_5.eq_1
attribute [go_sem] w_reduce_spine_constant_5
def w_reduce_spine_constant_6 := @wr_named T _ _ r_reduce_spine_constant_6.eq_1
attribute [go_sem] w_reduce_spine_constant_6
def w_reduce_spine_constant_7 := @wd_named T _ _ r_reduce_spine_constant_7.eq_1
attribute [go_sem] w_reduce_spine_constant_7
def w_reduce_spine_constant_8 := @wr_named T _ _ r_reduce_spine_constant_8.eq_1
attribute [go_sem] w_reduce_spine_constant_8
def a_reduce_spine_constant := @aw_named T _ _ c_reduce_spine_constant.eq_1
attribute [go_sem] a_reduce_spine_constant
theorem f_reduce_spine_constant (a0 : AV) (H : List AO) : F reduce_spine_constant [a0] H = aw T c_reduce_spine_constant (finF H [.t 2]) ⟨⟨69, [(0, .v a0)]⟩, [], H, []⟩ := fnF_code T_reduce_spine_constant (Nat.le_of_ble_eq_true rfl) H
theorem T_reduce_spine_lambda : T reduce_spine_lambda = some (.code c_reduce_spine_lambda 51 [.t 2]) := by kernel_rfl
def w_reduce_spine_lambda_0 := @wr_named T _ _ r_reduce_spine_lambda_0.eq_1
attribute [go_sem] w_reduce_spine_lambda_0
def w_reduce_spine_lambda_1 := @wr_named T _ _ r_reduce_spine_lambda_1.eq_1
attribute [go_sem] w_reduce_spine_lambda_1
def w_reduce_spine_lambda_2 := @wr_named T _ _ r_reduce_spine_lambda_2.eq_1
attribute [go_sem] w_reduce_spine_lambda_2
def w_reduce_spine_lambda_3 := @wr_named T _ _ r_reduce_spine_lambda_3.eq_1
attribute [go_sem] w_reduce_spine_lambda_3
def w_reduce_spine_lambda_4 := @wr_named T _ _ r_reduce_spine_lambda_4.eq_1
attribute [go_sem] w_reduce_spine_lambda_4
def w_reduce_spine_lambda_5 := @wd_named T _ _ r_reduce_spine_lambda_5.eq_1
attribute [go_sem] w_reduce_spine_lambda_5
def w_reduce_spine_lambda_6 := @wr_named T _ _ r_reduce_spine_lambda_6.eq_1
attribute [go_sem] w_reduce_spine_lambda_6
def w_reduce_spine_lambda_7 := @wr_named T _ _ r_reduce_spine_lambda_7.eq_1
attribute [go_sem] w_reduce_spine_lambda_7
def a_reduce_spine_lambda := @aw_named T _ _ c_reduce_spine_lambda.eq_1
attribute [go_sem] a_reduce_spine_lambda
theorem f_reduce_spine_lambda (a0 : AV) (H : List AO) : F reduce_spine_lambda [a0] H = aw T c_reduce_spine_lambda (finF H [.t 2]) ⟨⟨51, [(0, .v a0)]⟩, [], H, []⟩ := fnF_code T_reduce_spine_lambda (Nat.le_of_ble_eq_true rfl) H
theorem T_reduce_spine_app : T reduce_spine_app = some (.code c_reduce_spine_app 30 [.t 2]) := by kernel_rfl
def w_reduce_spine_app_0 := @wr_named T _ _ r_reduce_spine_app_0.eq_1
attribute [go_sem] w_reduce_spine_app_0
def w_reduce_spine_app_1 := @wd_named T _ _ r_reduce_spine_app_1.eq_1
attribute [go_sem] w_reduce_spine_app_1
def w_reduce_spine_app_2 := @wr_named T _ _ r_reduce_spine_app_2.eq_1
attribute [go_sem] w_reduce_spine_app_2
def w_reduce_spine_app_3 := @wr_named T _ _ r_reduce_spine_app_3.eq_1
attribute [go_sem] w_reduce_spine_app_3
def a_reduce_spine_app := @aw_named T _ _ c_reduce_spine_app.eq_1
attribute [go_sem] a_reduce_spine_app
theorem f_reduce_spine_app (a0 : AV) (H : List AO) : F reduce_spine_app [a0] H = aw T c_reduce_spine_app (finF H [.t 2]) ⟨⟨30, [(0, .v a0)]⟩, [], H, []⟩ := fnF_code T_reduce_spine_app (Nat.le_of_ble_eq_true rfl) H
theorem T_slices_Backward_Term_1 : T slices_Backward_Term_1 = some (.code c_slices_Backward_Term_1 19 []) := by kernel_rfl
def w_slices_Backward_Term_1_0 := @wr_named T _ _ r_slices_Backward_Term_1_0.eq_1
attribute [go_sem] w_slices_Backward_Term_1_0
def w_slices_Backward_Term_1_1 := @wr_named T _ _ r_slices_Backward_Term_1_1.eq_1
attribute [go_sem] w_slices_Backward_Term_1_1
def w_slices_Backward_Term_1_2 := @wr_named T _ _ r_slices_Backward_Term_1_2.eq_1
attribute [go_sem] w_slices_Backward_Term_1_2
def w_slices_Backward_Term_1_3 := @wr_named T _ _ r_slices_Backward_Term_1_3.eq_1
attribute [go_sem] w_slices_Backward_Term_1_3
def a_l_slices_Backward_Term_1_0 := @aw_named T _ _ l_slices_Backward_Term_1_0.eq_1
attribute [go_sem] a_l_slices_Backward_Term_1_0
def a_slices_Backward_Term_1 := @aw_named T _ _ c_slices_Backward_Term_1.eq_1
attribute [go_sem] a_slices_Backward_Term_1
theorem f_slices_Backward_Term_1 (a0 a1 : AV) (H : List AO) : F slices_Backward_Term_1 [a0, a1] H = aw T c_slices_Backward_Term_1 (finF H []) ⟨⟨19, [(0, .v a0), (1, .v a1)]⟩, [], H, []⟩ := fnF_code T_slices_Backward_Term_1 (Nat.le_of_ble_eq_true rfl) H
noncomputable def L_slices_Backward_Term_1_0 (H h : List AO) (x0 x1 x3 : AV) : Option RH := awL T [0, 1, 3] [] l_slices_Backward_Term_1_0 (blkF 0 (finF H [])) ⟨⟨19, [(0, .v x0), (1, .v x1), (3, .v x3)]⟩, [], h, []⟩
def g_slices_Backward_Term_1_0 (H h : List AO) (x0 x1 x3 : AV) := (L_slices_Backward_Term_1_0.eq_1 H h x0 x1 x3).symm
attribute [go_sem] g_slices_Backward_Term_1_0
theorem T_ref13_Parts : T ref13_Parts = some (.code c_ref13_Parts 31 [.t 4]) := by kernel_rfl
def w_ref13_Parts_0 := @wr_named T _ _ r_ref13_Parts_0.eq_1
attribute [go_sem] w_ref13_Parts_0
def w_ref13_Parts_1 := @wr_named T _ _ r_ref13_Parts_1.eq_1
attribute [go_sem] w_ref13_Parts_1
def w_ref13_Parts_2 := @wr_named T _ _ r_ref13_Parts_2.eq_1
attribute [go_sem] w_ref13_Parts_2
def w_ref13_Parts_3 := @wr_named T _ _ r_ref13_Parts_3.eq_1
attribute [go_sem] w_ref13_Parts_3
def w_ref13_Parts_4 := @wr_named T _ _ r_ref13_Parts_4.eq_1
attribute [go_sem] w_ref13_Parts_4
def w_ref13_Parts_5 := @wr_named T _ _ r_ref13_Parts_5.eq_1
attribute [go_sem] w_ref13_Parts_5
def a_l_ref13_Parts_0 := @aw_named T _ _ l_ref13_Parts_0.eq_1
attribute [go_sem] a_l_ref13_Parts_0
def w_ref13_Parts_6 := @wr_named T _ _ r_ref13_Parts_6.eq_1
attribute [go_sem] w_ref13_Parts_6
def a_ref13_Parts := @aw_named T _ _ c_ref13_Parts.eq_1
attribute [go_sem] a_ref13_Parts
theorem f_ref13_Parts (a0 a1 : AV) (H : List AO) : F ref13_Parts [a0, a1] H = aw T c_ref13_Parts (finF H [.t 4]) ⟨⟨31, [(0, .v a0), (1, .v a1)]⟩, [], H, []⟩ := fnF_code T_ref13_Parts (Nat.le_of_ble_eq_true rfl) H
noncomputable def L_ref13_Parts_0 (H h : List AO) (x1 x5 x6 : AV) (v2 : List AV) : Option RH := awL T [1, 2, 5, 6] [2] l_ref13_Parts_0 (blkF 0 (thn (aw T (.seq (.reg r_ref13_Parts_6) (.ret)) (finF H [.t 4])) (finF H [.t 4]))) ⟨⟨31, [(1, .v x1), (2, .lp 2 0), (5, .v x5), (6, .v x6)]⟩, [(2, v2)], h, []⟩
def g_ref13_Parts_0 (H h : List AO) (x1 x5 x6 : AV) (v2 : List AV) := (L_ref13_Parts_0.eq_1 H h x1 x5 x6 v2).symm
attribute [go_sem] g_ref13_Parts_0
theorem T_ref13_right : T ref13_right = some (.code c_ref13_right 55 [.t 10]) := by kernel_rfl
def w_ref13_right_0 := @wr_named T _ _ r_ref13_right_0.eq_1
attribute [go_sem] w_ref13_right_0
def w_ref13_right_1 := @wd_named T _ _ r_ref13_right_1.eq_1
attribute [go_sem] w_ref13_right_1
def w_ref13_right_2 := @wr_named T _ _ r_ref13_right_2.eq_1
attribute [go_sem] w_ref13_right_2
def w_ref13_right_3 := @wr_named T _ _ r_ref13_right_3.eq_1
attribute [go_sem] w_ref13_right_3
def w_ref13_right_4 := @wr_named T _ _ r_ref13_right_4.eq_1
attribute [go_sem] w_ref13_right_4
def w_ref13_right_5 := @wd_named T _ _ r_ref13_right_5.eq_1
attribute [go_sem] w_ref13_right_5
def w_ref13_right_6 := @wr_named T _ _ r_ref13_right_6.eq_1
attribute [go_sem] w_ref13_right_6
def w_ref13_right_7 := @wr_named T _ _ r_ref13_right_7.eq_1
attribute [go_sem] w_ref13_right_7
def a_l_ref13_right_0 := @aw_named T _ _ l_ref13_right_0.eq_1
attribute [go_sem] a_l_ref13_right_0
def w_ref13_right_8 := @wr_named T _ _ r_ref13_right_8.eq_1
attribute [go_sem] w_ref13_right_8
def a_ref13_right := @aw_named T _ _ c_ref13_right.eq_1
attribute [go_sem] a_ref13_right
theorem f_ref13_right (a0 a1 a2 a3 a4 : AV) (H : List AO) : F ref13_right [a0, a1, a2, a3, a4] H = aw T c_ref13_right (finF H [.t 10]) ⟨⟨55, [(0, .v a0), (1, .v a1), (2, .v a2), (3, .v a3), (4, .v a4)]⟩, [], H, []⟩ := fnF_code T_ref13_right (Nat.le_of_ble_eq_true rfl) H
noncomputable def L_ref13_right_0 (H h : List AO) (x1 x2 x3 x4 x11 : AV) (v5 : List AV) : Option RH := awL T [1, 2, 3, 4, 5, 11] [5] l_ref13_right_0 (blkF 0 (thn (aw T (.seq (.reg r_ref13_right_8) (.ret)) (finF H [.t 10])) (finF H [.t 10]))) ⟨⟨55, [(1, .v x1), (2, .v x2), (3, .v x3), (4, .v x4), (5, .lp 5 0), (11, .v x11)]⟩, [(5, v5)], h, []⟩
def g_ref13_right_0 (H h : List AO) (x1 x2 x3 x4 x11 : AV) (v5 : List AV) := (L_ref13_right_0.eq_1 H h x1 x2 x3 x4 x11 v5).symm
attribute [go_sem] g_ref13_right_0
theorem T_slices_IndexFunc_int : T slices_IndexFunc_int = some (.code c_slices_IndexFunc_int 19 [.t 4]) := by kernel_rfl
def w_slices_IndexFunc_int_0 := @wr_named T _ _ r_slices_IndexFunc_int_0.eq_1
attribute [go_sem] w_slices_IndexFunc_int_0
def w_slices_IndexFunc_int_1 := @wr_named T _ _ r_slices_IndexFunc_int_1.eq_1
attribute [go_sem] w_slices_IndexFunc_int_1
def w_slices_IndexFunc_int_2 := @wr_named T _ _ r_slices_IndexFunc_int_2.eq_1
attribute [go_sem] w_slices_IndexFunc_int_2
def w_slices_IndexFunc_int_3 := @wr_named T _ _ r_slices_IndexFunc_int_3.eq_1
attribute [go_sem] w_slices_IndexFunc_int_3
def w_slices_IndexFunc_int_4 := @wr_named T _ _ r_slices_IndexFunc_int_4.eq_1
attribute [go_sem] w_slices_IndexFunc_int_4
def w_slices_IndexFunc_int_5 := @wr_named T _ _ r_slices_IndexFunc_int_5.eq_1
attribute [go_sem] w_slices_IndexFunc_int_5
def w_slices_IndexFunc_int_6 := @wr_named T _ _ r_slices_IndexFunc_int_6.eq_1
attribute [go_sem] w_slices_IndexFunc_int_6
def a_l_slices_IndexFunc_int_0 := @aw_named T _ _ l_slices_IndexFunc_int_0.eq_1
attribute [go_sem] a_l_slices_IndexFunc_int_0
def w_slices_IndexFunc_int_7 := @wr_named T _ _ r_slices_IndexFunc_int_7.eq_1
attribute [go_sem] w_slices_IndexFunc_int_7
def a_slices_IndexFunc_int := @aw_named T _ _ c_slices_IndexFunc_int.eq_1
attribute [go_sem] a_slices_IndexFunc_int
theorem f_slices_IndexFunc_int (a0 a1 : AV) (H : List AO) : F slices_IndexFunc_int [a0, a1] H = aw T c_slices_IndexFunc_int (finF H [.t 4]) ⟨⟨19, [(0, .v a0), (1, .v a1)]⟩, [], H, []⟩ := fnF_code T_slices_IndexFunc_int (Nat.le_of_ble_eq_true rfl) H
noncomputable def L_slices_IndexFunc_int_0 (H h : List AO) (x0 x1 x7 x8 : AV) : Option RH := awL T [0, 1, 7, 8] [] l_slices_IndexFunc_int_0 (blkF 0 (thn (aw T (.seq (.reg r_slices_IndexFunc_int_7) (.ret)) (finF H [.t 4])) (finF H [.t 4]))) ⟨⟨19, [(0, .v x0), (1, .v x1), (7, .v x7), (8, .v x8)]⟩, [], h, []⟩
def g_slices_IndexFunc_int_0 (H h : List AO) (x0 x1 x7 x8 : AV) := (L_slices_IndexFunc_int_0.eq_1 H h x0 x1 x7 x8).symm
attribute [go_sem] g_slices_IndexFunc_int_0
theorem T_tsub_all : T tsub_all = some (.code c_tsub_all 4 [.t 2]) := by kernel_rfl
def w_tsub_all_0 := @wr_named T _ _ r_tsub_all_0.eq_1
attribute [go_sem] w_tsub_all_0
def w_tsub_all_1 := @wr_named T _ _ r_tsub_all_1.eq_1
attribute [go_sem] w_tsub_all_1
def a_tsub_all := @aw_named T _ _ c_tsub_all.eq_1
attribute [go_sem] a_tsub_all
theorem f_tsub_all (a0 : AV) (H : List AO) : F tsub_all [a0] H = aw T c_tsub_all (finF H [.t 2]) ⟨⟨4, [(0, .v a0)]⟩, [], H, []⟩ := fnF_code T_tsub_all (Nat.le_of_ble_eq_true rfl) H
theorem T_tsub_once : T tsub_once = some (.code c_tsub_once 34 [.t 6]) := by kernel_rfl
def w_tsub_once_0 := @wr_named T _ _ r_tsub_once_0.eq_1
attribute [go_sem] w_tsub_once_0
def w_tsub_once_1 := @wr_named T _ _ r_tsub_once_1.eq_1
attribute [go_sem] w_tsub_once_1
def w_tsub_once_2 := @wr_named T _ _ r_tsub_once_2.eq_1
attribute [go_sem] w_tsub_once_2
def w_tsub_once_3 := @wr_named T _ _ r_tsub_once_3.eq_1
attribute [go_sem] w_tsub_once_3
def w_tsub_once_4 := @wr_named T _ _ r_tsub_once_4.eq_1
attribute [go_sem] w_tsub_once_4
def w_tsub_once_5 := @wr_named T _ _ r_tsub_once_5.eq_1
attribute [go_sem] w_tsub_once_5
def w_tsub_once_6 := @wr_named T _ _ r_tsub_once_6.eq_1
attribute [go_sem] w_tsub_once_6
def w_tsub_once_7 := @wr_named T _ _ r_tsub_once_7.eq_1
attribute [go_sem] w_tsub_once_7
def w_tsub_once_8 := @wr_named T _ _ r_tsub_once_8.eq_1
attribute [go_sem] w_tsub_once_8
def a_l_tsub_once_0 := @aw_named T _ _ l_tsub_once_0.eq_1
attribute [go_sem] a_l_tsub_once_0
def w_tsub_once_9 := @wr_named T _ _ r_tsub_once_9.eq_1
attribute [go_sem] w_tsub_once_9
def a_tsub_once := @aw_named T _ _ c_tsub_once.eq_1
attribute [go_sem] a_tsub_once
theorem f_tsub_once (a0 a1 a2 : AV) (H : List AO) : F tsub_once [a0, a1, a2] H = aw T c_tsub_once (finF H [.t 6]) ⟨⟨34, [(0, .v a0), (1, .v a1), (2, .v a2)]⟩, [], H, []⟩ := fnF_code T_tsub_once (Nat.le_of_ble_eq_true rfl) H
noncomputable def L_tsub_once_0 (H h : List AO) (x0 x1 x11 x12 x13 : AV) : Option RH := awL T [0, 1, 11, 12, 13] [] l_tsub_once_0 (blkF 0 (thn (aw T (.seq (.reg r_tsub_once_9) (.ret)) (finF H [.t 6])) (finF H [.t 6]))) ⟨⟨34, [(0, .v x0), (1, .v x1), (11, .v x11), (12, .v x12), (13, .v x13)]⟩, [], h, []⟩
def g_tsub_once_0 (H h : List AO) (x0 x1 x11 x12 x13 : AV) := (L_tsub_once_0.eq_1 H h x0 x1 x11 x12 x13).symm
attribute [go_sem] g_tsub_once_0
theorem T_level_nodes : T level_nodes = some (.code c_level_nodes 27 [.t 4]) := by kernel_rfl
def w_level_nodes_0 := @wr_named T _ _ r_level_nodes_0.eq_1
attribute [go_sem] w_level_nodes_0
def w_level_nodes_1 := @wr_named T _ _ r_level_nodes_1.eq_1
attribute [go_sem] w_level_nodes_1
def w_level_nodes_2 := @wr_named T _ _ r_level_nodes_2.eq_1
attribute [go_sem] w_level_nodes_2
def w_level_nodes_3 := @wr_named T _ _ r_level_nodes_3.eq_1
attribute [go_sem] w_level_nodes_3
def w_level_nodes_4 := @wr_named T _ _ r_level_nodes_4.eq_1
attribute [go_sem] w_level_nodes_4
def w_level_nodes_5 := @wr_named T _ _ r_level_nodes_5.eq_1
attribute [go_sem] w_level_nodes_5
def w_level_nodes_6 := @wr_named T _ _ r_level_nodes_6.eq_1
attribute [go_sem] w_level_nodes_6
def w_level_nodes_7 := @wr_named T _ _ r_level_nodes_7.eq_1
attribute [go_sem] w_level_nodes_7
def a_l_level_nodes_0 := @aw_named T _ _ l_level_nodes_0.eq_1
attribute [go_sem] a_l_level_nodes_0
def w_level_nodes_8 := @wr_named T _ _ r_level_nodes_8.eq_1
attribute [go_sem] w_level_nodes_8
def a_level_nodes := @aw_named T _ _ c_level_nodes.eq_1
attribute [go_sem] a_level_nodes
theorem f_level_nodes (a0 a1 : AV) (H : List AO) : F level_nodes [a0, a1] H = aw T c_level_nodes (finF H [.t 4]) ⟨⟨27, [(0, .v a0), (1, .v a1)]⟩, [], H, []⟩ := fnF_code T_level_nodes (Nat.le_of_ble_eq_true rfl) H
noncomputable def L_level_nodes_0 (H h : List AO) (x1 x5 x9 x10 x11 : AV) : Option RH := awL T [1, 5, 9, 10, 11] [] l_level_nodes_0 (blkF 0 (thn (aw T (.seq (.reg r_level_nodes_8) (.ret)) (finF H [.t 4])) (finF H [.t 4]))) ⟨⟨27, [(1, .v x1), (5, .v x5), (9, .v x9), (10, .v x10), (11, .v x11)]⟩, [], h, []⟩
def g_level_nodes_0 (H h : List AO) (x1 x5 x9 x10 x11 : AV) := (L_level_nodes_0.eq_1 H h x1 x5 x9 x10 x11).symm
attribute [go_sem] g_level_nodes_0
theorem T_level_right : T level_right = some (.code c_level_right 46 [.t 8]) := by kernel_rfl
def w_level_right_0 := @wr_named T _ _ r_level_right_0.eq_1
attribute [go_sem] w_level_right_0
def w_level_right_1 := @wd_named T _ _ r_level_right_1.eq_1
attribute [go_sem] w_level_right_1
def w_level_right_2 := @wr_named T _ _ r_level_right_2.eq_1
attribute [go_sem] w_level_right_2
def w_level_right_3 := @wr_named T _ _ r_level_right_3.eq_1
attribute [go_sem] w_level_right_3
def a_level_right := @aw_named T _ _ c_level_right.eq_1
attribute [go_sem] a_level_right
theorem f_level_right (a0 a1 a2 a3 : AV) (H : List AO) : F level_right [a0, a1, a2, a3] H = aw T c_level_right (finF H [.t 8]) ⟨⟨46, [(0, .v a0), (1, .v a1), (2, .v a2), (3, .v a3)]⟩, [], H, []⟩ := fnF_code T_level_right (Nat.le_of_ble_eq_true rfl) H
theorem T_slices_IndexFunc_Con : T slices_IndexFunc_Con = some (.code c_slices_IndexFunc_Con 19 [.t 4]) := by kernel_rfl
def w_slices_IndexFunc_Con_0 := @wr_named T _ _ r_slices_IndexFunc_Con_0.eq_1
attribute [go_sem] w_slices_IndexFunc_Con_0
def w_slices_IndexFunc_Con_1 := @wr_named T _ _ r_slices_IndexFunc_Con_1.eq_1
attribute [go_sem] w_slices_IndexFunc_Con_1
def w_slices_IndexFunc_Con_2 := @wr_named T _ _ r_slices_IndexFunc_Con_2.eq_1
attribute [go_sem] w_slices_IndexFunc_Con_2
def w_slices_IndexFunc_Con_3 := @wr_named T _ _ r_slices_IndexFunc_Con_3.eq_1
attribute [go_sem] w_slices_IndexFunc_Con_3
def w_slices_IndexFunc_Con_4 := @wr_named T _ _ r_slices_IndexFunc_Con_4.eq_1
attribute [go_sem] w_slices_IndexFunc_Con_4
def w_slices_IndexFunc_Con_5 := @wr_named T _ _ r_slices_IndexFunc_Con_5.eq_1
attribute [go_sem] w_slices_IndexFunc_Con_5
def w_slices_IndexFunc_Con_6 := @wr_named T _ _ r_slices_IndexFunc_Con_6.eq_1
attribute [go_sem] w_slices_IndexFunc_Con_6
def a_l_slices_IndexFunc_Con_0 := @aw_named T _ _ l_slices_IndexFunc_Con_0.eq_1
attribute [go_sem] a_l_slices_IndexFunc_Con_0
def w_slices_IndexFunc_Con_7 := @wr_named T _ _ r_slices_IndexFunc_Con_7.eq_1
attribute [go_sem] w_slices_IndexFunc_Con_7
def a_slices_IndexFunc_Con := @aw_named T _ _ c_slices_IndexFunc_Con.eq_1
attribute [go_sem] a_slices_IndexFunc_Con
theorem f_slices_IndexFunc_Con (a0 a1 : AV) (H : List AO) : F slices_IndexFunc_Con [a0, a1] H = aw T c_slices_IndexFunc_Con (finF H [.t 4]) ⟨⟨19, [(0, .v a0), (1, .v a1)]⟩, [], H, []⟩ := fnF_code T_slices_IndexFunc_Con (Nat.le_of_ble_eq_true rfl) H
noncomputable def L_slices_IndexFunc_Con_0 (H h : List AO) (x0 x1 x7 x8 : AV) : Option RH := awL T [0, 1, 7, 8] [] l_slices_IndexFunc_Con_0 (blkF 0 (thn (aw T (.seq (.reg r_slices_IndexFunc_Con_7) (.ret)) (finF H [.t 4])) (finF H [.t 4]))) ⟨⟨19, [(0, .v x0), (1, .v x1), (7, .v x7), (8, .v x8)]⟩, [], h, []⟩
def g_slices_IndexFunc_Con_0 (H h : List AO) (x0 x1 x7 x8 : AV) := (L_slices_IndexFunc_Con_0.eq_1 H h x0 x1 x7 x8).symm
attribute [go_sem] g_slices_IndexFunc_Con_0
theorem T_term_parts : T term_parts = some (.code c_term_parts 27 [.t 4]) := by kernel_rfl
def w_term_parts_0 := @wr_named T _ _ r_term_parts_0.eq_1
attribute [go_sem] w_term_parts_0
def w_term_parts_1 := @wr_named T _ _ r_term_parts_1.eq_1
attribute [go_sem] w_term_parts_1
def w_term_parts_2 := @wr_named T _ _ r_term_parts_2.eq_1
attribute [go_sem] w_term_parts_2
def w_term_parts_3 := @wr_named T _ _ r_term_parts_3.eq_1
attribute [go_sem] w_term_parts_3
def w_term_parts_4 := @wr_named T _ _ r_term_parts_4.eq_1
attribute [go_sem] w_term_parts_4
def w_term_parts_5 := @wr_named T _ _ r_term_parts_5.eq_1
attribute [go_sem] w_term_parts_5
def w_term_parts_6 := @wr_named T _ _ r_term_parts_6.eq_1
attribute [go_sem] w_term_parts_6
def w_term_parts_7 := @wr_named T _ _ r_term_parts_7.eq_1
attribute [go_sem] w_term_parts_7
def a_l_term_parts_0 := @aw_named T _ _ l_term_parts_0.eq_1
attribute [go_sem] a_l_term_parts_0
def w_term_parts_8 := @wr_named T _ _ r_term_parts_8.eq_1
attribute [go_sem] w_term_parts_8
def a_term_parts := @aw_named T _ _ c_term_parts.eq_1
attribute [go_sem] a_term_parts
theorem f_term_parts (a0 a1 : AV) (H : List AO) : F term_parts [a0, a1] H = aw T c_term_parts (finF H [.t 4]) ⟨⟨27, [(0, .v a0), (1, .v a1)]⟩, [], H, []⟩ := fnF_code T_term_parts (Nat.le_of_ble_eq_true rfl) H
noncomputable def L_term_parts_0 (H h : List AO) (x1 x5 x9 x10 x11 : AV) : Option RH := awL T [1, 5, 9, 10, 11] [] l_term_parts_0 (blkF 0 (thn (aw T (.seq (.reg r_term_parts_8) (.ret)) (finF H [.t 4])) (finF H [.t 4]))) ⟨⟨27, [(1, .v x1), (5, .v x5), (9, .v x9), (10, .v x10), (11, .v x11)]⟩, [], h, []⟩
def g_term_parts_0 (H h : List AO) (x1 x5 x9 x10 x11 : AV) := (L_term_parts_0.eq_1 H h x1 x5 x9 x10 x11).symm
attribute [go_sem] g_term_parts_0
theorem T_term_room_right : T term_room_right = some (.code c_term_room_right 70 [.t 6]) := by kernel_rfl
def w_term_room_right_0 := @wr_named T _ _ r_term_room_right_0.eq_1
attribute [go_sem] w_term_room_right_0
def w_term_room_right_1 := @wr_named T _ _ r_term_room_right_1.eq_1
attribute [go_sem] w_term_room_right_1
def w_term_room_right_2 := @wd_named T _ _ r_term_room_right_2.eq_1
attribute [go_sem] w_term_room_right_2
def w_term_room_right_3 := @wr_named T _ _ r_term_room_right_3.eq_1
attribute [go_sem] w_term_room_right_3
def w_term_room_right_4 := @wr_named T _ _ r_term_room_right_4.eq_1
attribute [go_sem] w_term_room_right_4
def w_term_room_right_5 := @wr_named T _ _ r_term_room_right_5.eq_1
attribute [go_sem] w_term_room_right_5
def w_term_room_right_6 := @wr_named T _ _ r_term_room_right_6.eq_1
attribute [go_sem] w_term_room_right_6
def w_term_room_right_7 := @wr_named T _ _ r_term_room_right_7.eq_1
attribute [go_sem] w_term_room_right_7
def w_term_room_right_8 := @wr_named T _ _ r_term_room_right_8.eq_1
attribute [go_sem] w_term_room_right_8
def w_term_room_right_9 := @wd_named T _ _ r_term_room_right_9.eq_1
attribute [go_sem] w_term_room_right_9
def w_term_room_right_10 := @wr_named T _ _ r_term_room_right_10.eq_1
attribute [go_sem] w_term_room_right_10
def w_term_room_right_11 := @wr_named T _ _ r_term_room_right_11.eq_1
attribute [go_sem] w_term_room_right_11
def w_term_room_right_12 := @wr_named T _ _ r_term_room_right_12.eq_1
attribute [go_sem] w_term_room_right_12
def a_l_term_room_right_0 := @aw_named T _ _ l_term_room_right_0.eq_1
attribute [go_sem] a_l_term_room_right_0
def w_term_room_right_13 := @wr_named T _ _ r_term_room_right_13.eq_1
attribute [go_sem] w_term_room_right_13
def a_term_room_right := @aw_named T _ _ c_term_room_right.eq_1
attribute [go_sem] a_term_room_right
theorem f_term_room_right (a0 a1 a2 : AV) (H : List AO) : F term_room_right [a0, a1, a2] H = aw T c_term_room_right (finF H [.t 6]) ⟨⟨70, [(0, .v a0), (1, .v a1), (2, .v a2)]⟩, [], H, []⟩ := fnF_code T_term_room_right (Nat.le_of_ble_eq_true rfl) H
noncomputable def L_term_room_right_0 (H h : List AO) (x2 x3 x48 x49 x50 : AV) (v4 : List AV) : Option RH := awL T [2, 3, 4, 48, 49, 50] [4] l_term_room_right_0 (blkF 0 (thn (aw T (.seq (.reg r_term_room_right_13) (.ret)) (finF H [.t 6])) (finF H [.t 6]))) ⟨⟨70, [(2, .v x2), (3, .v x3), (4, .lp 4 0), (48, .v x48), (49, .v x49), (50, .v x50)]⟩, [(4, v4)], h, []⟩
def g_term_room_right_0 (H h : List AO) (x2 x3 x48 x49 x50 : AV) (v4 : List AV) := (L_term_room_right_0.eq_1 H h x2 x3 x48 x49 x50 v4).symm
attribute [go_sem] g_term_room_right_0
theorem T_reduce_Machine_Burn : T reduce_Machine_Burn = some (.code c_reduce_Machine_Burn 24 [.t 2]) := by kernel_rfl
def w_reduce_Machine_Burn_0 := @wr_named T _ _ r_reduce_Machine_Burn_0.eq_1
attribute [go_sem] w_reduce_Machine_Burn_0
def w_reduce_Machine_Burn_1 := @wr_named T _ _ r_reduce_Machine_Burn_1.eq_1
attribute [go_sem] w_reduce_Machine_Burn_1
def w_reduce_Machine_Burn_2 := @wr_named T _ _ r_reduce_Machine_Burn_2.eq_1
attribute [go_sem] w_reduce_Machine_Burn_2
def w_reduce_Machine_Burn_3 := @wr_named T _ _ r_reduce_Machine_Burn_3.eq_1
attribute [go_sem] w_reduce_Machine_Burn_3
def w_reduce_Machine_Burn_4 := @wr_named T _ _ r_reduce_Machine_Burn_4.eq_1
attribute [go_sem] w_reduce_Machine_Burn_4
def w_reduce_Machine_Burn_5 := @wr_named T _ _ r_reduce_Machine_Burn_5.eq_1
attribute [go_sem] w_reduce_Machine_Burn_5
def w_reduce_Machine_Burn_6 := @wr_named T _ _ r_reduce_Machine_Burn_6.eq_1
attribute [go_sem] w_reduce_Machine_Burn_6
def a_reduce_Machine_Burn := @aw_named T _ _ c_reduce_Machine_Burn.eq_1
attribute [go_sem] a_reduce_Machine_Burn
theorem f_reduce_Machine_Burn (a0 : AV) (H : List AO) : F reduce_Machine_Burn [a0] H = aw T c_reduce_Machine_Burn (finF H [.t 2]) ⟨⟨24, [(0, .v a0)]⟩, [], H, []⟩ := fnF_code T_reduce_Machine_Burn (Nat.le_of_ble_eq_true rfl) H
theorem T_reduce_Machine_Put : T reduce_Machine_Put = some (.code c_reduce_Machine_Put 13 [.c 4 true 6]) := by kernel_rfl
def w_reduce_Machine_Put_0 := @wr_named T _ _ r_reduce_Machine_Put_0.eq_1
attribute [go_sem] w_reduce_Machine_Put_0
def w_reduce_Machine_Put_1 := @wr_named T _ _ r_reduce_Machine_Put_1.eq_1
attribute [go_sem] w_reduce_Machine_Put_1
def w_reduce_Machine_Put_2 := @wr_named T _ _ r_reduce_Machine_Put_2.eq_1
attribute [go_sem] w_reduce_Machine_Put_2
def w_reduce_Machine_Put_3 := @wr_named T _ _ r_reduce_Machine_Put_3.eq_1
attribute [go_sem] w_reduce_Machine_Put_3
def a_reduce_Machine_Put := @aw_named T _ _ c_reduce_Machine_Put.eq_1
attribute [go_sem] a_reduce_Machine_Put
theorem f_reduce_Machine_Put (a0 a1 a2 : AV) (H : List AO) : F reduce_Machine_Put [a0, a1, a2] H = aw T c_reduce_Machine_Put (finF H [.c 4 true 6]) ⟨⟨13, [(0, .v a0), (1, .v a1), (2, .v a2)]⟩, [], H, []⟩ := fnF_code T_reduce_Machine_Put (Nat.le_of_ble_eq_true rfl) H
theorem T_term_Open : T term_Open = some (.code c_term_Open 23 [.c 4 true 4, .t 5]) := by kernel_rfl
def w_term_Open_0 := @wr_named T _ _ r_term_Open_0.eq_1
attribute [go_sem] w_term_Open_0
def w_term_Open_1 := @wd_named T _ _ r_term_Open_1.eq_1
attribute [go_sem] w_term_Open_1
def w_term_Open_2 := @wr_named T _ _ r_term_Open_2.eq_1
attribute [go_sem] w_term_Open_2
def w_term_Open_3 := @wr_named T _ _ r_term_Open_3.eq_1
attribute [go_sem] w_term_Open_3
def a_term_Open := @aw_named T _ _ c_term_Open.eq_1
attribute [go_sem] a_term_Open
theorem f_term_Open (a0 a1 : AV) (H : List AO) : F term_Open [a0, a1] H = aw T c_term_Open (finF H [.c 4 true 4, .t 5]) ⟨⟨23, [(0, .v a0), (1, .v a1)]⟩, [], H, []⟩ := fnF_code T_term_Open (Nat.le_of_ble_eq_true rfl) H
theorem T_tsub_Sub : T tsub_Sub = some (.code c_tsub_Sub 45 [.c 4 true 6, .t 7]) := by kernel_rfl
def w_tsub_Sub_0 := @wr_named T _ _ r_tsub_Sub_0.eq_1
attribute [go_sem] w_tsub_Sub_0
def w_tsub_Sub_1 := @wr_named T _ _ r_tsub_Sub_1.eq_1
attribute [go_sem] w_tsub_Sub_1
def w_tsub_Sub_2 := @wr_named T _ _ r_tsub_Sub_2.eq_1
attribute [go_sem] w_tsub_Sub_2
def w_tsub_Sub_3 := @wr_named T _ _ r_tsub_Sub_3.eq_1
attribute [go_sem] w_tsub_Sub_3
def w_tsub_Sub_4 := @wr_named T _ _ r_tsub_Sub_4.eq_1
attribute [go_sem] w_tsub_Sub_4
def w_tsub_Sub_5 := @wr_named T _ _ r_tsub_Sub_5.eq_1
attribute [go_sem] w_tsub_Sub_5
def w_tsub_Sub_6 := @wr_named T _ _ r_tsub_Sub_6.eq_1
attribute [go_sem] w_tsub_Sub_6
def w_tsub_Sub_7 := @wr_named T _ _ r_tsub_Sub_7.eq_1
attribute [go_sem] w_tsub_Sub_7
def a_tsub_Sub := @aw_named T _ _ c_tsub_Sub.eq_1
attribute [go_sem] a_tsub_Sub
theorem f_tsub_Sub (a0 a1 a2 : AV) (H : List AO) : F tsub_Sub [a0, a1, a2] H = aw T c_tsub_Sub (finF H [.c 4 true 6, .t 7]) ⟨⟨45, [(0, .v a0), (1, .v a1), (2, .v a2)]⟩, [], H, []⟩ := fnF_code T_tsub_Sub (Nat.le_of_ble_eq_true rfl) H
theorem T_ref13_kids : T ref13_kids = some (.code c_ref13_kids 14 [.t 2]) := by kernel_rfl
def w_ref13_kids_0 := @wr_named T _ _ r_ref13_kids_0.eq_1
attribute [go_sem] w_ref13_kids_0
def w_ref13_kids_1 := @wr_named T _ _ r_ref13_kids_1.eq_1
attribute [go_sem] w_ref13_kids_1
def w_ref13_kids_2 := @wr_named T _ _ r_ref13_kids_2.eq_1
attribute [go_sem] w_ref13_kids_2
def w_ref13_kids_3 := @wr_named T _ _ r_ref13_kids_3.eq_1
attribute [go_sem] w_ref13_kids_3
def w_ref13_kids_4 := @wr_named T _ _ r_ref13_kids_4.eq_1
attribute [go_sem] w_ref13_kids_4
def w_ref13_kids_5 := @wr_named T _ _ r_ref13_kids_5.eq_1
attribute [go_sem] w_ref13_kids_5
def w_ref13_kids_6 := @wr_named T _ _ r_ref13_kids_6.eq_1
attribute [go_sem] w_ref13_kids_6
def w_ref13_kids_7 := @wr_named T _ _ r_ref13_kids_7.eq_1
attribute [go_sem] w_ref13_kids_7
def w_ref13_kids_8 := @wr_named T _ _ r_ref13_kids_8.eq_1
attribute [go_sem] w_ref13_kids_8
def w_ref13_kids_9 := @wr_named T _ _ r_ref13_kids_9.eq_1
attribute [go_sem] w_ref13_kids_9
def w_ref13_kids_10 := @wr_named T _ _ r_ref13_kids_10.eq_1
attribute [go_sem] w_ref13_kids_10
def w_ref13_kids_11 := @wr_named T _ _ r_ref13_kids_11.eq_1
attribute [go_sem] w_ref13_kids_11
def w_ref13_kids_12 := @wr_named T _ _ r_ref13_kids_12.eq_1
attribute [go_sem] w_ref13_kids_12
def a_ref13_kids := @aw_named T _ _ c_ref13_kids.eq_1
attribute [go_sem] a_ref13_kids
theorem f_ref13_kids (a0 : AV) (H : List AO) : F ref13_kids [a0] H = aw T c_ref13_kids (finF H [.t 2]) ⟨⟨14, [(0, .v a0)]⟩, [], H, []⟩ := fnF_code T_ref13_kids (Nat.le_of_ble_eq_true rfl) H
theorem T_ref13_named : T ref13_named = some (.code c_ref13_named 81 [.t 8]) := by kernel_rfl
def w_ref13_named_0 := @wr_named T _ _ r_ref13_named_0.eq_1
attribute [go_sem] w_ref13_named_0
def w_ref13_named_1 := @wr_named T _ _ r_ref13_named_1.eq_1
attribute [go_sem] w_ref13_named_1
def w_ref13_named_2 := @wr_named T _ _ r_ref13_named_2.eq_1
attribute [go_sem] w_ref13_named_2
def w_ref13_named_3 := @wr_named T _ _ r_ref13_named_3.eq_1
attribute [go_sem] w_ref13_named_3
def w_ref13_named_4 := @wr_named T _ _ r_ref13_named_4.eq_1
attribute [go_sem] w_ref13_named_4
def w_ref13_named_5 := @wr_named T _ _ r_ref13_named_5.eq_1
attribute [go_sem] w_ref13_named_5
def a_l_ref13_named_0 := @aw_named T _ _ l_ref13_named_0.eq_1
attribute [go_sem] a_l_ref13_named_0
def w_ref13_named_6 := @wr_named T _ _ r_ref13_named_6.eq_1
attribute [go_sem] w_ref13_named_6
def w_ref13_named_7 := @wr_named T _ _ r_ref13_named_7.eq_1
attribute [go_sem] w_ref13_named_7
def w_ref13_named_8 := @wr_named T _ _ r_ref13_named_8.eq_1
attribute [go_sem] w_ref13_named_8
def w_ref13_named_9 := @wr_named T _ _ r_ref13_named_9.eq_1
attribute [go_sem] w_ref13_named_9
def w_ref13_named_10 := @wr_named T _ _ r_ref13_named_10.eq_1
attribute [go_sem] w_ref13_named_10
def w_ref13_named_11 := @wr_named T _ _ r_ref13_named_11.eq_1
attribute [go_sem] w_ref13_named_11
def w_ref13_named_12 := @wr_named T _ _ r_ref13_named_12.eq_1
attribute [go_sem] w_ref13_named_12
def w_ref13_named_13 := @wr_named T _ _ r_ref13_named_13.eq_1
attribute [go_sem] w_ref13_named_13
def a_ref13_named := @aw_named T _ _ c_ref13_named.eq_1
attribute [go_sem] a_ref13_named
theorem f_ref13_named (a0 a1 a2 a3 : AV) (H : List AO) : F ref13_named [a0, a1, a2, a3] H = aw T c_ref13_named (finF H [.t 8]) ⟨⟨81, [(0, .v a0), (1, .v a1), (2, .v a2), (3, .v a3)]⟩, [], H, []⟩ := fnF_code T_ref13_named (Nat.le_of_ble_eq_true rfl) H
noncomputable def L_ref13_named_0 (H h : List AO) (x1 x2 x3 x9 : AV) (v4 : List AV) : Option RH := awL T [1, 2, 3, 4, 9] [4] l_ref13_named_0 (blkF 0 (thn (aw T (.seq (.seq (.reg r_ref13_named_6) (.block 2 (.seq (.reg r_ref13_named_7) (.cond (.t 28) (.seq (.reg r_ref13_named_8) (.ret)) (.seq (.reg r_ref13_named_9) (.cond (.t 45) (.seq (.reg r_ref13_named_10) (.ret)) (.seq (.reg r_ref13_named_11) (.cond (.t 56) (.seq (.reg r_ref13_named_12) (.ret)) (.skip))))))))) (.seq (.reg r_ref13_named_13) (.ret))) (finF H [.t 8])) (finF H [.t 8]))) ⟨⟨81, [(1, .v x1), (2, .v x2), (3, .v x3), (4, .lp 4 0), (9, .v x9)]⟩, [(4, v4)], h, []⟩
def g_ref13_named_0 (H h : List AO) (x1 x2 x3 x9 : AV) (v4 : List AV) := (L_ref13_named_0.eq_1 H h x1 x2 x3 x9 v4).symm
attribute [go_sem] g_ref13_named_0
theorem T_tsub_all_1 : T tsub_all_1 = some (.code c_tsub_all_1 25 []) := by kernel_rfl
def w_tsub_all_1_0 := @wr_named T _ _ r_tsub_all_1_0.eq_1
attribute [go_sem] w_tsub_all_1_0
def w_tsub_all_1_1 := @wr_named T _ _ r_tsub_all_1_1.eq_1
attribute [go_sem] w_tsub_all_1_1
def w_tsub_all_1_2 := @wr_named T _ _ r_tsub_all_1_2.eq_1
attribute [go_sem] w_tsub_all_1_2
def w_tsub_all_1_3 := @wr_named T _ _ r_tsub_all_1_3.eq_1
attribute [go_sem] w_tsub_all_1_3
def w_tsub_all_1_4 := @wr_named T _ _ r_tsub_all_1_4.eq_1
attribute [go_sem] w_tsub_all_1_4
def w_tsub_all_1_5 := @wr_named T _ _ r_tsub_all_1_5.eq_1
attribute [go_sem] w_tsub_all_1_5
def w_tsub_all_1_6 := @wr_named T _ _ r_tsub_all_1_6.eq_1
attribute [go_sem] w_tsub_all_1_6
def w_tsub_all_1_7 := @wr_named T _ _ r_tsub_all_1_7.eq_1
attribute [go_sem] w_tsub_all_1_7
def a_s_tsub_all_1_0 := @aw_named T _ _ s_tsub_all_1_0.eq_1
theorem o_s_tsub_all_1_0 : FC.okd s_tsub_all_1_0 = true := by kernel_rfl
attribute [go_sem] a_s_tsub_all_1_0 o_s_tsub_all_1_0
def a_y_tsub_all_1_0 := @aw_named T _ _ y_tsub_all_1_0.eq_1
theorem o_y_tsub_all_1_0 : FC.okd y_tsub_all_1_0 = true := by kernel_rfl
attribute [go_sem] a_y_tsub_all_1_0 o_y_tsub_all_1_0
def w_tsub_all_1_8 := @wr_named T _ _ r_tsub_all_1_8.eq_1
attribute [go_sem] w_tsub_all_1_8
def a_l_tsub_all_1_0 := @aw_named T _ _ l_tsub_all_1_0.eq_1
attribute [go_sem] a_l_tsub_all_1_0
def a_tsub_all_1 := @aw_named T _ _ c_tsub_all_1.eq_1
attribute [go_sem] a_tsub_all_1
theorem f_tsub_all_1 (a0 a1 : AV) (H : List AO) : F tsub_all_1 [a0, a1] H = aw T c_tsub_all_1 (finF H []) ⟨⟨25, [(0, .v a0), (1, .v a1)]⟩, [], H, []⟩ := fnF_code T_tsub_all_1 (Nat.le_of_ble_eq_true rfl) H
noncomputable def L_tsub_all_1_0 (H h : List AO) (ds : List Nat) (x2 x11 x12 x13 : AV) : Option RH := awL T [2, 11, 12, 13] [] l_tsub_all_1_0 (blkF 0 (finF H [])) ⟨⟨25, [(2, .v x2), (11, .v x11), (12, .v x12), (13, .v x13)]⟩, [], h, ds⟩
def g_tsub_all_1_0 (H h : List AO) (ds : List Nat) (x2 x11 x12 x13 : AV) := (L_tsub_all_1_0.eq_1 H h ds x2 x11 x12 x13).symm
attribute [go_sem] g_tsub_all_1_0
theorem T_level_kinds : T level_kinds = some (.code c_level_kinds 9 [.t 0]) := by kernel_rfl
def w_level_kinds_0 := @wr_named T _ _ r_level_kinds_0.eq_1
attribute [go_sem] w_level_kinds_0
def w_level_kinds_1 := @wr_named T _ _ r_level_kinds_1.eq_1
attribute [go_sem] w_level_kinds_1
def a_level_kinds := @aw_named T _ _ c_level_kinds.eq_1
attribute [go_sem] a_level_kinds
theorem f_level_kinds (H : List AO) : F level_kinds [] H = aw T c_level_kinds (finF H [.t 0]) ⟨⟨9, []⟩, [], H, []⟩ := fnF_code T_level_kinds (Nat.le_of_ble_eq_true rfl) H
theorem T_level_right_1 : T level_right_1 = some (.code c_level_right_1 13 [.t 5]) := by kernel_rfl
def w_level_right_1_0 := @wr_named T _ _ r_level_right_1_0.eq_1
attribute [go_sem] w_level_right_1_0
def w_level_right_1_1 := @wr_named T _ _ r_level_right_1_1.eq_1
attribute [go_sem] w_level_right_1_1
def a_level_right_1 := @aw_named T _ _ c_level_right_1.eq_1
attribute [go_sem] a_level_right_1
theorem f_level_right_1 (a0 a1 a2 a3 : AV) (H : List AO) : F level_right_1 [a0, a1, a2, a3] H = aw T c_level_right_1 (finF H [.t 5]) ⟨⟨13, [(0, .v a0), (1, .v a1), (2, .v a2), (3, .v a3)]⟩, [], H, []⟩ := fnF_code T_level_right_1 (Nat.le_of_ble_eq_true rfl) H
theorem T_level_named : T level_named = some (.code c_level_named 34 [.t 6]) := by kernel_rfl
def w_level_named_0 := @wr_named T _ _ r_level_named_0.eq_1
attribute [go_sem] w_level_named_0
def w_level_named_1 := @wr_named T _ _ r_level_named_1.eq_1
attribute [go_sem] w_level_named_1
def w_level_named_2 := @wr_named T _ _ r_level_named_2.eq_1
attribute [go_sem] w_level_named_2
def w_level_named_3 := @wr_named T _ _ r_level_named_3.eq_1
attribute [go_sem] w_level_named_3
def w_level_named_4 := @wr_named T _ _ r_level_named_4.eq_1
attribute [go_sem] w_level_named_4
def w_level_named_5 := @wr_named T _ _ r_level_named_5.eq_1
attribute [go_sem] w_level_named_5
def w_level_named_6 := @wr_named T _ _ r_level_named_6.eq_1
attribute [go_sem] w_level_named_6
def a_level_named := @aw_named T _ _ c_level_named.eq_1
attribute [go_sem] a_level_named
theorem f_level_named (a0 a1 a2 : AV) (H : List AO) : F level_named [a0, a1, a2] H = aw T c_level_named (finF H [.t 6]) ⟨⟨34, [(0, .v a0), (1, .v a1), (2, .v a2)]⟩, [], H, []⟩ := fnF_code T_level_named (Nat.le_of_ble_eq_true rfl) H
theorem T_slices_ContainsFunc_Level : T slices_ContainsFunc_Level = some (.code c_slices_ContainsFunc_Level 9 [.t 4]) := by kernel_rfl
def w_slices_ContainsFunc_Level_0 := @wr_named T _ _ r_slices_ContainsFunc_Level_0.eq_1
attribute [go_sem] w_slices_ContainsFunc_Level_0
def w_slices_ContainsFunc_Level_1 := @wr_named T _ _ r_slices_ContainsFunc_Level_1.eq_1
attribute [go_sem] w_slices_ContainsFunc_Level_1
def a_slices_ContainsFunc_Level := @aw_named T _ _ c_slices_ContainsFunc_Level.eq_1
attribute [go_sem] a_slices_ContainsFunc_Level
theorem f_slices_ContainsFunc_Level (a0 a1 : AV) (H : List AO) : F slices_ContainsFunc_Level [a0, a1] H = aw T c_slices_ContainsFunc_Level (finF H [.t 4]) ⟨⟨9, [(0, .v a0), (1, .v a1)]⟩, [], H, []⟩ := fnF_code T_slices_ContainsFunc_Level (Nat.le_of_ble_eq_true rfl) H
theorem T_term_room_right_1 : T term_room_right_1 = some (.code c_term_room_right_1 11 [.t 3]) := by kernel_rfl
def w_term_room_right_1_0 := @wr_named T _ _ r_term_room_right_1_0.eq_1
attribute [go_sem] w_term_room_right_1_0
def w_term_room_right_1_1 := @wr_named T _ _ r_term_room_right_1_1.eq_1
attribute [go_sem] w_term_room_right_1_1
def a_term_room_right_1 := @aw_named T _ _ c_term_room_right_1.eq_1
attribute [go_sem] a_term_room_right_1
theorem f_term_room_right_1 (a0 a1 : AV) (H : List AO) : F term_room_right_1 [a0, a1] H = aw T c_term_room_right_1 (finF H [.t 3]) ⟨⟨11, [(0, .v a0), (1, .v a1)]⟩, [], H, []⟩ := fnF_code T_term_room_right_1 (Nat.le_of_ble_eq_true rfl) H
theorem T_term_shapes : T term_shapes = some (.code c_term_shapes 10 [.t 0]) := by kernel_rfl
def w_term_shapes_0 := @wr_named T _ _ r_term_shapes_0.eq_1
attribute [go_sem] w_term_shapes_0
def w_term_shapes_1 := @wr_named T _ _ r_term_shapes_1.eq_1
attribute [go_sem] w_term_shapes_1
def a_term_shapes := @aw_named T _ _ c_term_shapes.eq_1
attribute [go_sem] a_term_shapes
theorem f_term_shapes (H : List AO) : F term_shapes [] H = aw T c_term_shapes (finF H [.t 0]) ⟨⟨10, []⟩, [], H, []⟩ := fnF_code T_term_shapes (Nat.le_of_ble_eq_true rfl) H
theorem T_term_room_named : T term_room_named = some (.code c_term_room_named 61 [.t 4]) := by kernel_rfl
def w_term_room_named_0 := @wr_named T _ _ r_term_room_named_0.eq_1
attribute [go_sem] w_term_room_named_0
def w_term_room_named_1 := @wr_named T _ _ r_term_room_named_1.eq_1
attribute [go_sem] w_term_room_named_1
def w_term_room_named_2 := @wr_named T _ _ r_term_room_named_2.eq_1
attribute [go_sem] w_term_room_named_2
def w_term_room_named_3 := @wr_named T _ _ r_term_room_named_3.eq_1
attribute [go_sem] w_term_room_named_3
def w_term_room_named_4 := @wr_named T _ _ r_term_room_named_4.eq_1
attribute [go_sem] w_term_room_named_4
def w_term_room_named_5 := @wr_named T _ _ r_term_room_named_5.eq_1
attribute [go_sem] w_term_room_named_5
def w_term_room_named_6 := @wr_named T _ _ r_term_room_named_6.eq_1
attribute [go_sem] w_term_room_named_6
def w_term_room_named_7 := @wr_named T _ _ r_term_room_named_7.eq_1
attribute [go_sem] w_term_room_named_7
def w_term_room_named_8 := @wr_named T _ _ r_term_room_named_8.eq_1
attribute [go_sem] w_term_room_named_8
def a_term_room_named := @aw_named T _ _ c_term_room_named.eq_1
attribute [go_sem] a_term_room_named
theorem f_term_room_named (a0 a1 : AV) (H : List AO) : F term_room_named [a0, a1] H = aw T c_term_room_named (finF H [.t 4]) ⟨⟨61, [(0, .v a0), (1, .v a1)]⟩, [], H, []⟩ := fnF_code T_term_room_named (Nat.le_of_ble_eq_true rfl) H
theorem T_term_below : T term_below = some (.code c_term_below 12 [.t 4]) := by kernel_rfl
def w_term_below_0 := @wr_named T _ _ r_term_below_0.eq_1
attribute [go_sem] w_term_below_0
def w_term_below_1 := @wd_named T _ _ r_term_below_1.eq_1
attribute [go_sem] w_term_below_1
def w_term_below_2 := @wr_named T _ _ r_term_below_2.eq_1
attribute [go_sem] w_term_below_2
def w_term_below_3 := @wr_named T _ _ r_term_below_3.eq_1
attribute [go_sem] w_term_below_3
def a_term_below := @aw_named T _ _ c_term_below.eq_1
attribute [go_sem] a_term_below
theorem f_term_below (a0 a1 : AV) (H : List AO) : F term_below [a0, a1] H = aw T c_term_below (finF H [.t 4]) ⟨⟨12, [(0, .v a0), (1, .v a1)]⟩, [], H, []⟩ := fnF_code T_term_below (Nat.le_of_ble_eq_true rfl) H
theorem T_term_all : T term_all = some (.code c_term_all 2 [.c 3 true 0]) := by kernel_rfl
def w_term_all_0 := @wr_named T _ _ r_term_all_0.eq_1
attribute [go_sem] w_term_all_0
def w_term_all_1 := @wr_named T _ _ r_term_all_1.eq_1
attribute [go_sem] w_term_all_1
def a_term_all := @aw_named T _ _ c_term_all.eq_1
attribute [go_sem] a_term_all
theorem f_term_all (H : List AO) : F term_all [] H = aw T c_term_all (finF H [.c 3 true 0]) ⟨⟨2, []⟩, [], H, []⟩ := fnF_code T_term_all (Nat.le_of_ble_eq_true rfl) H
theorem T_term_told : T term_told = some (.code c_term_told 10 [.c 4 true 2, .t 3]) := by kernel_rfl
def w_term_told_0 := @wr_named T _ _ r_term_told_0.eq_1
attribute [go_sem] w_term_told_0
def w_term_told_1 := @wd_named T _ _ r_term_told_1.eq_1
attribute [go_sem] w_term_told_1
def w_term_told_2 := @wr_named T _ _ r_term_told_2.eq_1
attribute [go_sem] w_term_told_2
def w_term_told_3 := @wr_named T _ _ r_term_told_3.eq_1
attribute [go_sem] w_term_told_3
def a_term_told := @aw_named T _ _ c_term_told.eq_1
attribute [go_sem] a_term_told
theorem f_term_told (a0 : AV) (H : List AO) : F term_told [a0] H = aw T c_term_told (finF H [.c 4 true 2, .t 3]) ⟨⟨10, [(0, .v a0)]⟩, [], H, []⟩ := fnF_code T_term_told (Nat.le_of_ble_eq_true rfl) H
theorem T_term_turn : T term_turn = some (.code c_term_turn 48 [.c 4 true 6]) := by kernel_rfl
def w_term_turn_0 := @wr_named T _ _ r_term_turn_0.eq_1
attribute [go_sem] w_term_turn_0
def w_term_turn_1 := @wr_named T _ _ r_term_turn_1.eq_1
attribute [go_sem] w_term_turn_1
def w_term_turn_2 := @wr_named T _ _ r_term_turn_2.eq_1
attribute [go_sem] w_term_turn_2
def w_term_turn_3 := @wr_named T _ _ r_term_turn_3.eq_1
attribute [go_sem] w_term_turn_3
def w_term_turn_4 := @wr_named T _ _ r_term_turn_4.eq_1
attribute [go_sem] w_term_turn_4
def w_term_turn_5 := @wr_named T _ _ r_term_turn_5.eq_1
attribute [go_sem] w_term_turn_5
def w_term_turn_6 := @wr_named T _ _ r_term_turn_6.eq_1
attribute [go_sem] w_term_turn_6
def w_term_turn_7 := @wd_named T _ _ r_term_turn_7.eq_1
attribute [go_sem] w_term_turn_7
def w_term_turn_8 := @wr_named T _ _ r_term_turn_8.eq_1
attribute [go_sem] w_term_turn_8
def a_l_term_turn_0 := @aw_named T _ _ l_term_turn_0.eq_1
attribute [go_sem] a_l_term_turn_0
def w_term_turn_9 := @wr_named T _ _ r_term_turn_9.eq_1
attribute [go_sem] w_term_turn_9
def a_term_turn := @aw_named T _ _ c_term_turn.eq_1
attribute [go_sem] a_term_turn
theorem f_term_turn (a0 a1 a2 : AV) (H : List AO) : F term_turn [a0, a1, a2] H = aw T c_term_turn (finF H [.c 4 true 6]) ⟨⟨48, [(0, .v a0), (1, .v a1), (2, .v a2)]⟩, [], H, []⟩ := fnF_code T_term_turn (Nat.le_of_ble_eq_true rfl) H
noncomputable def L_term_turn_0 (H h : List AO) (x1 x2 x26 x27 x28 : AV) (v3 v6 v7 : List AV) : Option RH := awL T [1, 2, 3, 6, 7, 26, 27, 28] [3, 6, 7] l_term_turn_0 (blkF 0 (thn (aw T (.seq (.reg r_term_turn_9) (.ret)) (finF H [.c 4 true 6])) (finF H [.c 4 true 6]))) ⟨⟨48, [(1, .v x1), (2, .v x2), (3, .lp 3 0), (6, .lp 6 0), (7, .lp 7 0), (26, .v x26), (27, .v x27), (28, .v x28)]⟩, [(3, v3), (6, v6), (7, v7)], h, []⟩
def g_term_turn_0 (H h : List AO) (x1 x2 x26 x27 x28 : AV) (v3 v6 v7 : List AV) := (L_term_turn_0.eq_1 H h x1 x2 x26 x27 x28 v3 v6 v7).symm
attribute [go_sem] g_term_turn_0
theorem T_term_Open_1 : T term_Open_1 = some (.code c_term_Open_1 21 [.c 4 true 5]) := by kernel_rfl
def w_term_Open_1_0 := @wr_named T _ _ r_term_Open_1_0.eq_1
attribute [go_sem] w_term_Open_1_0
def w_term_Open_1_1 := @wr_named T _ _ r_term_Open_1_1.eq_1
attribute [go_sem] w_term_Open_1_1
def w_term_Open_1_2 := @wr_named T _ _ r_term_Open_1_2.eq_1
attribute [go_sem] w_term_Open_1_2
def w_term_Open_1_3 := @wr_named T _ _ r_term_Open_1_3.eq_1
attribute [go_sem] w_term_Open_1_3
def w_term_Open_1_4 := @wr_named T _ _ r_term_Open_1_4.eq_1
attribute [go_sem] w_term_Open_1_4
def w_term_Open_1_5 := @wr_named T _ _ r_term_Open_1_5.eq_1
attribute [go_sem] w_term_Open_1_5
def a_term_Open_1 := @aw_named T _ _ c_term_Open_1.eq_1
attribute [go_sem] a_term_Open_1
theorem f_term_Open_1 (a0 a1 a2 : AV) (H : List AO) : F term_Open_1 [a0, a1, a2] H = aw T c_term_Open_1 (finF H [.c 4 true 5]) ⟨⟨21, [(0, .v a0), (1, .v a1), (2, .v a2)]⟩, [], H, []⟩ := fnF_code T_term_Open_1 (Nat.le_of_ble_eq_true rfl) H
theorem T_term_lift : T term_lift = some (.code c_term_lift 10 [.c 4 true 6]) := by kernel_rfl
def w_term_lift_0 := @wr_named T _ _ r_term_lift_0.eq_1
attribute [go_sem] w_term_lift_0
def w_term_lift_1 := @wr_named T _ _ r_term_lift_1.eq_1
attribute [go_sem] w_term_lift_1
def a_term_lift := @aw_named T _ _ c_term_lift.eq_1
attribute [go_sem] a_term_lift
theorem f_term_lift (a0 a1 a2 : AV) (H : List AO) : F term_lift [a0, a1, a2] H = aw T c_term_lift (finF H [.c 4 true 6]) ⟨⟨10, [(0, .v a0), (1, .v a1), (2, .v a2)]⟩, [], H, []⟩ := fnF_code T_term_lift (Nat.le_of_ble_eq_true rfl) H
theorem T_term_variable : T term_variable = some (.code c_term_variable 5 [.c 4 true 2]) := by kernel_rfl
def w_term_variable_0 := @wr_named T _ _ r_term_variable_0.eq_1
attribute [go_sem] w_term_variable_0
def w_term_variable_1 := @wr_named T _ _ r_term_variable_1.eq_1
attribute [go_sem] w_term_variable_1
def a_term_variable := @aw_named T _ _ c_term_variable.eq_1
attribute [go_sem] a_term_variable
theorem f_term_variable (a0 : AV) (H : List AO) : F term_variable [a0] H = aw T c_term_variable (finF H [.c 4 true 2]) ⟨⟨5, [(0, .v a0)]⟩, [], H, []⟩ := fnF_code T_term_variable (Nat.le_of_ble_eq_true rfl) H
theorem T_slices_Concat_Level : T slices_Concat_Level = some (.code c_slices_Concat_Level 36 [.t 2]) := by kernel_rfl
def w_slices_Concat_Level_0 := @wr_named T _ _ r_slices_Concat_Level_0.eq_1
attribute [go_sem] w_slices_Concat_Level_0
def w_slices_Concat_Level_1 := @wr_named T _ _ r_slices_Concat_Level_1.eq_1
attribute [go_sem] w_slices_Concat_Level_1
def w_slices_Concat_Level_2 := @wr_named T _ _ r_slices_Concat_Level_2.eq_1
attribute [go_sem] w_slices_Concat_Level_2
def w_slices_Concat_Level_3 := @wr_named T _ _ r_slices_Concat_Level_3.eq_1
attribute [go_sem] w_slices_Concat_Level_3
def w_slices_Concat_Level_4 := @wr_named T _ _ r_slices_Concat_Level_4.eq_1
attribute [go_sem] w_slices_Concat_Level_4
def w_slices_Concat_Level_5 := @wr_named T _ _ r_slices_Concat_Level_5.eq_1
attribute [go_sem] w_slices_Concat_Level_5
def w_slices_Concat_Level_6 := @wr_named T _ _ r_slices_Concat_Level_6.eq_1
attribute [go_sem] w_slices_Concat_Level_6
def w_slices_Concat_Level_7 := @wr_named T _ _ r_slices_Concat_Level_7.eq_1
attribute [go_sem] w_slices_Concat_Level_7
def w_slices_Concat_Level_8 := @wr_named T _ _ r_slices_Concat_Level_8.eq_1
attribute [go_sem] w_slices_Concat_Level_8
def a_l_slices_Concat_Level_0 := @aw_named T _ _ l_slices_Concat_Level_0.eq_1
attribute [go_sem] a_l_slices_Concat_Level_0
def w_slices_Concat_Level_9 := @wr_named T _ _ r_slices_Concat_Level_9.eq_1
attribute [go_sem] w_slices_Concat_Level_9
def w_slices_Concat_Level_10 := @wr_named T _ _ r_slices_Concat_Level_10.eq_1
attribute [go_sem] w_slices_Concat_Level_10
def w_slices_Concat_Level_11 := @wr_named T _ _ r_slices_Concat_Level_11.eq_1
attribute [go_sem] w_slices_Concat_Level_11
def w_slices_Concat_Level_12 := @wr_named T _ _ r_slices_Concat_Level_12.eq_1
attribute [go_sem] w_slices_Concat_Level_12
def w_slices_Concat_Level_13 := @wr_named T _ _ r_slices_Concat_Level_13.eq_1
attribute [go_sem] w_slices_Concat_Level_13
def w_slices_Concat_Level_14 := @wr_named T _ _ r_slices_Concat_Level_14.eq_1
attribute [go_sem] w_slices_Concat_Level_14
def a_l_slices_Concat_Level_1 := @aw_named T _ _ l_slices_Concat_Level_1.eq_1
attribute [go_sem] a_l_slices_Concat_Level_1
def w_slices_Concat_Level_15 := @wr_named T _ _ r_slices_Concat_Level_15.eq_1
attribute [go_sem] w_slices_Concat_Level_15
def a_slices_Concat_Level := @aw_named T _ _ c_slices_Concat_Level.eq_1
attribute [go_sem] a_slices_Concat_Level
theorem f_slices_Concat_Level (a0 : AV) (H : List AO) : F slices_Concat_Level [a0] H = aw T c_slices_Concat_Level (finF H [.t 2]) ⟨⟨36, [(0, .v a0)]⟩, [], H, []⟩ := fnF_code T_slices_Concat_Level (Nat.le_of_ble_eq_true rfl) H
noncomputable def L_slices_Concat_Level_0 (H h : List AO) (x0 x3 x9 x10 x11 : AV) : Option RH := awL T [0, 3, 9, 10, 11] [] l_slices_Concat_Level_0 (blkF 0 (thn (aw T (.seq (.reg r_slices_Concat_Level_9) (.seq (.seq (.reg r_slices_Concat_Level_10) (.block 2 (.loop [6, 25, 26, 27] [] l_slices_Concat_Level_1))) (.seq (.reg r_slices_Concat_Level_15) (.ret)))) (finF H [.t 2])) (finF H [.t 2]))) ⟨⟨36, [(0, .v x0), (3, .v x3), (9, .v x9), (10, .v x10), (11, .v x11)]⟩, [], h, []⟩
def g_slices_Concat_Level_0 (H h : List AO) (x0 x3 x9 x10 x11 : AV) := (L_slices_Concat_Level_0.eq_1 H h x0 x3 x9 x10 x11).symm
attribute [go_sem] g_slices_Concat_Level_0
noncomputable def L_slices_Concat_Level_1 (H h : List AO) (x6 x25 x26 x27 : AV) : Option RH := awL T [6, 25, 26, 27] [] l_slices_Concat_Level_1 (blkF 2 (thn (aw T (.seq (.reg r_slices_Concat_Level_15) (.ret)) (finF H [.t 2])) (finF H [.t 2]))) ⟨⟨36, [(6, .v x6), (25, .v x25), (26, .v x26), (27, .v x27)]⟩, [], h, []⟩
def g_slices_Concat_Level_1 (H h : List AO) (x6 x25 x26 x27 : AV) := (L_slices_Concat_Level_1.eq_1 H h x6 x25 x26 x27).symm
attribute [go_sem] g_slices_Concat_Level_1
theorem T_tsub_odd : T tsub_odd = some (.code c_tsub_odd 6 [.t 2]) := by kernel_rfl
def w_tsub_odd_0 := @wr_named T _ _ r_tsub_odd_0.eq_1
attribute [go_sem] w_tsub_odd_0
def w_tsub_odd_1 := @wr_named T _ _ r_tsub_odd_1.eq_1
attribute [go_sem] w_tsub_odd_1
def a_tsub_odd := @aw_named T _ _ c_tsub_odd.eq_1
attribute [go_sem] a_tsub_odd
theorem f_tsub_odd (a0 : AV) (H : List AO) : F tsub_odd [a0] H = aw T c_tsub_odd (finF H [.t 2]) ⟨⟨6, [(0, .v a0)]⟩, [], H, []⟩ := fnF_code T_tsub_odd (Nat.le_of_ble_eq_true rfl) H
theorem T_tsub_putter_term : T tsub_putter_term = some (.code c_tsub_putter_term 70 [.c 4 true 4]) := by kernel_rfl
def w_tsub_putter_term_0 := @wr_named T _ _ r_tsub_putter_term_0.eq_1
attribute [go_sem] w_tsub_putter_term_0
def w_tsub_putter_term_1 := @wr_named T _ _ r_tsub_putter_term_1.eq_1
attribute [go_sem] w_tsub_putter_term_1
def w_tsub_putter_term_2 := @wr_named T _ _ r_tsub_putter_term_2.eq_1
attribute [go_sem] w_tsub_putter_term_2
def w_tsub_putter_term_3 := @wr_named T _ _ r_tsub_putter_term_3.eq_1
attribute [go_sem] w_tsub_putter_term_3
def w_tsub_putter_term_4 := @wr_named T _ _ r_tsub_putter_term_4.eq_1
attribute [go_sem] w_tsub_putter_term_4
def w_tsub_putter_term_5 := @wd_named T _ _ r_tsub_putter_term_5.eq_1
attribute [go_sem] w_tsub_putter_term_5
def w_tsub_putter_term_6 := @wr_named T _ _ r_tsub_putter_term_6.eq_1
attribute [go_sem] w_tsub_putter_term_6
def w_tsub_putter_term_7 := @wr_named T _ _ r_tsub_putter_term_7.eq_1
attribute [go_sem] w_tsub_putter_term_7
def w_tsub_putter_term_8 := @wr_named T _ _ r_tsub_putter_term_8.eq_1
attribute [go_sem] w_tsub_putter_term_8
def a_l_tsub_putter_term_0 := @aw_named T _ _ l_tsub_putter_term_0.eq_1
attribute [go_sem] a_l_tsub_putter_term_0
def w_tsub_putter_term_9 := @wr_named T _ _ r_tsub_putter_term_9.eq_1
attribute [go_sem] w_tsub_putter_term_9
def w_tsub_putter_term_10 := @wr_named T _ _ r_tsub_putter_term_10.eq_1
attribute [go_sem] w_tsub_putter_term_10
def w_tsub_putter_term_11 := @wr_named T _ _ r_tsub_putter_term_11.eq_1
attribute [go_sem] w_tsub_putter_term_11
def w_tsub_putter_term_12 := @wd_named T _ _ r_tsub_putter_term_12.eq_1
attribute [go_sem] w_tsub_putter_term_12
def w_tsub_putter_term_13 := @wr_named T _ _ r_tsub_putter_term_13.eq_1
attribute [go_sem] w_tsub_putter_term_13
def a_l_tsub_putter_term_1 := @aw_named T _ _ l_tsub_putter_term_1.eq_1
attribute [go_sem] a_l_tsub_putter_term_1
def w_tsub_putter_term_14 := @wr_named T _ _ r_tsub_putter_term_14.eq_1
attribute [go_sem] w_tsub_putter_term_14
def a_tsub_putter_term := @aw_named T _ _ c_tsub_putter_term.eq_1
attribute [go_sem] a_tsub_putter_term
theorem f_tsub_putter_term (a0 a1 : AV) (H : List AO) : F tsub_putter_term [a0, a1] H = aw T c_tsub_putter_term (finF H [.c 4 true 4]) ⟨⟨70, [(0, .v a0), (1, .v a1)]⟩, [], H, []⟩ := fnF_code T_tsub_putter_term (Nat.le_of_ble_eq_true rfl) H
noncomputable def L_tsub_putter_term_0 (H h : List AO) (x0 x18 x19 x20 : AV) (v3 v4 v5 : List AV) : Option RH := awL T [0, 3, 4, 5, 18, 19, 20] [3, 4, 5] l_tsub_putter_term_0 (blkF 0 (thn (aw T (.seq (.seq (.reg r_tsub_putter_term_9) (.block 2 (.loop [0, 4, 5, 54, 55, 56] [4, 5] l_tsub_putter_term_1))) (.seq (.reg r_tsub_putter_term_14) (.ret))) (finF H [.c 4 true 4])) (finF H [.c 4 true 4]))) ⟨⟨70, [(0, .v x0), (3, .lp 3 0), (4, .lp 4 0), (5, .lp 5 0), (18, .v x18), (19, .v x19), (20, .v x20)]⟩, [(3, v3), (4, v4), (5, v5)], h, []⟩
def g_tsub_putter_term_0 (H h : List AO) (x0 x18 x19 x20 : AV) (v3 v4 v5 : List AV) := (L_tsub_putter_term_0.eq_1 H h x0 x18 x19 x20 v3 v4 v5).symm
attribute [go_sem] g_tsub_putter_term_0
noncomputable def L_tsub_putter_term_1 (H h : List AO) (x0 x54 x55 x56 : AV) (v4 v5 : List AV) : Option RH := awL T [0, 4, 5, 54, 55, 56] [4, 5] l_tsub_putter_term_1 (blkF 2 (thn (aw T (.seq (.reg r_tsub_putter_term_14) (.ret)) (finF H [.c 4 true 4])) (finF H [.c 4 true 4]))) ⟨⟨70, [(0, .v x0), (4, .lp 4 0), (5, .lp 5 0), (54, .v x54), (55, .v x55), (56, .v x56)]⟩, [(4, v4), (5, v5)], h, []⟩
def g_tsub_putter_term_1 (H h : List AO) (x0 x54 x55 x56 : AV) (v4 v5 : List AV) := (L_tsub_putter_term_1.eq_1 H h x0 x54 x55 x56 v4 v5).symm
attribute [go_sem] g_tsub_putter_term_1
theorem T_ref02_Right : T ref02_Right = some (.code c_ref02_Right 32 [.t 6]) := by kernel_rfl
def w_ref02_Right_0 := @wr_named T _ _ r_ref02_Right_0.eq_1
attribute [go_sem] w_ref02_Right_0
def w_ref02_Right_1 := @wr_named T _ _ r_ref02_Right_1.eq_1
attribute [go_sem] w_ref02_Right_1
def a_ref02_Right := @aw_named T _ _ c_ref02_Right.eq_1
attribute [go_sem] a_ref02_Right
theorem f_ref02_Right (a0 a1 a2 : AV) (H : List AO) : F ref02_Right [a0, a1, a2] H = aw T c_ref02_Right (finF H [.t 6]) ⟨⟨32, [(0, .v a0), (1, .v a1), (2, .v a2)]⟩, [], H, []⟩ := fnF_code T_ref02_Right (Nat.le_of_ble_eq_true rfl) H
theorem T_level_kinds_1 : T level_kinds_1 = some (.code c_level_kinds_1 7 [.t 6]) := by kernel_rfl
def w_level_kinds_1_0 := @wr_named T _ _ r_level_kinds_1_0.eq_1
attribute [go_sem] w_level_kinds_1_0
def w_level_kinds_1_1 := @wr_named T _ _ r_level_kinds_1_1.eq_1
attribute [go_sem] w_level_kinds_1_1
def a_level_kinds_1 := @aw_named T _ _ c_level_kinds_1.eq_1
attribute [go_sem] a_level_kinds_1
theorem f_level_kinds_1 (a0 a1 a2 : AV) (H : List AO) : F level_kinds_1 [a0, a1, a2] H = aw T c_level_kinds_1 (finF H [.t 6]) ⟨⟨7, [(0, .v a0), (1, .v a1), (2, .v a2)]⟩, [], H, []⟩ := fnF_code T_level_kinds_1 (Nat.le_of_ble_eq_true rfl) H
theorem T_level_kinds_2 : T level_kinds_2 = some (.code c_level_kinds_2 11 [.t 6]) := by kernel_rfl
def w_level_kinds_2_0 := @wr_named T _ _ r_level_kinds_2_0.eq_1
attribute [go_sem] w_level_kinds_2_0
def w_level_kinds_2_1 := @wr_named T _ _ r_level_kinds_2_1.eq_1
attribute [go_sem] w_level_kinds_2_1
def a_level_kinds_2 := @aw_named T _ _ c_level_kinds_2.eq_1
attribute [go_sem] a_level_kinds_2
theorem f_level_kinds_2 (a0 a1 a2 : AV) (H : List AO) : F level_kinds_2 [a0, a1, a2] H = aw T c_level_kinds_2 (finF H [.t 6]) ⟨⟨11, [(0, .v a0), (1, .v a1), (2, .v a2)]⟩, [], H, []⟩ := fnF_code T_level_kinds_2 (Nat.le_of_ble_eq_true rfl) H
theorem T_level_kinds_3 : T level_kinds_3 = some (.code c_level_kinds_3 14 [.t 6]) := by kernel_rfl
def w_level_kinds_3_0 := @wr_named T _ _ r_level_kinds_3_0.eq_1
attribute [go_sem] w_level_kinds_3_0
def w_level_kinds_3_1 := @wd_named T _ _ r_level_kinds_3_1.eq_1
attribute [go_sem] w_level_kinds_3_1
def a_level_kinds_3 := @aw_named T _ _ c_level_kinds_3.eq_1
attribute [go_sem] a_level_kinds_3
theorem f_level_kinds_3 (a0 a1 a2 : AV) (H : List AO) : F level_kinds_3 [a0, a1, a2] H = aw T c_level_kinds_3 (finF H [.t 6]) ⟨⟨14, [(0, .v a0), (1, .v a1), (2, .v a2)]⟩, [], H, []⟩ := fnF_code T_level_kinds_3 (Nat.le_of_ble_eq_true rfl) H
theorem T_level_kinds_4 : T level_kinds_4 = some (.code c_level_kinds_4 14 [.t 6]) := by kernel_rfl
def w_level_kinds_4_0 := @wr_named T _ _ r_level_kinds_4_0.eq_1
attribute [go_sem] w_level_kinds_4_0
def w_level_kinds_4_1 := @wd_named T _ _ r_level_kinds_4_1.eq_1
attribute [go_sem] w_level_kinds_4_1
def a_level_kinds_4 := @aw_named T _ _ c_level_kinds_4.eq_1
attribute [go_sem] a_level_kinds_4
theorem f_level_kinds_4 (a0 a1 a2 : AV) (H : List AO) : F level_kinds_4 [a0, a1, a2] H = aw T c_level_kinds_4 (finF H [.t 6]) ⟨⟨14, [(0, .v a0), (1, .v a1), (2, .v a2)]⟩, [], H, []⟩ := fnF_code T_level_kinds_4 (Nat.le_of_ble_eq_true rfl) H
theorem T_level_imax : T level_imax = some (.code c_level_imax 10 [.t 4]) := by kernel_rfl
def w_level_imax_0 := @wr_named T _ _ r_level_imax_0.eq_1
attribute [go_sem] w_level_imax_0
def w_level_imax_1 := @wr_named T _ _ r_level_imax_1.eq_1
attribute [go_sem] w_level_imax_1
def w_level_imax_2 := @wr_named T _ _ r_level_imax_2.eq_1
attribute [go_sem] w_level_imax_2
def w_level_imax_3 := @wr_named T _ _ r_level_imax_3.eq_1
attribute [go_sem] w_level_imax_3
def a_level_imax := @aw_named T _ _ c_level_imax.eq_1
attribute [go_sem] a_level_imax
theorem f_level_imax (a0 a1 : AV) (H : List AO) : F level_imax [a0, a1] H = aw T c_level_imax (finF H [.t 4]) ⟨⟨10, [(0, .v a0), (1, .v a1)]⟩, [], H, []⟩ := fnF_code T_level_imax (Nat.le_of_ble_eq_true rfl) H
theorem T_level_kinds_5 : T level_kinds_5 = some (.code c_level_kinds_5 13 [.t 6]) := by kernel_rfl
def w_level_kinds_5_0 := @wr_named T _ _ r_level_kinds_5_0.eq_1
attribute [go_sem] w_level_kinds_5_0
def w_level_kinds_5_1 := @wr_named T _ _ r_level_kinds_5_1.eq_1
attribute [go_sem] w_level_kinds_5_1
def a_level_kinds_5 := @aw_named T _ _ c_level_kinds_5.eq_1
attribute [go_sem] a_level_kinds_5
theorem f_level_kinds_5 (a0 a1 a2 : AV) (H : List AO) : F level_kinds_5 [a0, a1, a2] H = aw T c_level_kinds_5 (finF H [.t 6]) ⟨⟨13, [(0, .v a0), (1, .v a1), (2, .v a2)]⟩, [], H, []⟩ := fnF_code T_level_kinds_5 (Nat.le_of_ble_eq_true rfl) H
theorem T_level_kinds_6 : T level_kinds_6 = some (.code c_level_kinds_6 13 [.t 6]) := by kernel_rfl
def w_level_kinds_6_0 := @wr_named T _ _ r_level_kinds_6_0.eq_1
attribute [go_sem] w_level_kinds_6_0
def w_level_kinds_6_1 := @wr_named T _ _ r_level_kinds_6_1.eq_1
attribute [go_sem] w_level_kinds_6_1
def a_level_kinds_6 := @aw_named T _ _ c_level_kinds_6.eq_1
attribute [go_sem] a_level_kinds_6
theorem f_level_kinds_6 (a0 a1 a2 : AV) (H : List AO) : F level_kinds_6 [a0, a1, a2] H = aw T c_level_kinds_6 (finF H [.t 6]) ⟨⟨13, [(0, .v a0), (1, .v a1), (2, .v a2)]⟩, [], H, []⟩ := fnF_code T_level_kinds_6 (Nat.le_of_ble_eq_true rfl) H
theorem T_slices_IndexFunc_Level : T slices_IndexFunc_Level = some (.code c_slices_IndexFunc_Level 19 [.t 4]) := by kernel_rfl
def w_slices_IndexFunc_Level_0 := @wr_named T _ _ r_slices_IndexFunc_Level_0.eq_1
attribute [go_sem] w_slices_IndexFunc_Level_0
def w_slices_IndexFunc_Level_1 := @wr_named T _ _ r_slices_IndexFunc_Level_1.eq_1
attribute [go_sem] w_slices_IndexFunc_Level_1
def w_slices_IndexFunc_Level_2 := @wr_named T _ _ r_slices_IndexFunc_Level_2.eq_1
attribute [go_sem] w_slices_IndexFunc_Level_2
def w_slices_IndexFunc_Level_3 := @wr_named T _ _ r_slices_IndexFunc_Level_3.eq_1
attribute [go_sem] w_slices_IndexFunc_Level_3
def w_slices_IndexFunc_Level_4 := @wr_named T _ _ r_slices_IndexFunc_Level_4.eq_1
attribute [go_sem] w_slices_IndexFunc_Level_4
def w_slices_IndexFunc_Level_5 := @wr_named T _ _ r_slices_IndexFunc_Level_5.eq_1
attribute [go_sem] w_slices_IndexFunc_Level_5
def w_slices_IndexFunc_Level_6 := @wr_named T _ _ r_slices_IndexFunc_Level_6.eq_1
attribute [go_sem] w_slices_IndexFunc_Level_6
def a_l_slices_IndexFunc_Level_0 := @aw_named T _ _ l_slices_IndexFunc_Level_0.eq_1
attribute [go_sem] a_l_slices_IndexFunc_Level_0
def w_slices_IndexFunc_Level_7 := @wr_named T _ _ r_slices_IndexFunc_Level_7.eq_1
attribute [go_sem] w_slices_IndexFunc_Level_7
def a_slices_IndexFunc_Level := @aw_named T _ _ c_slices_IndexFunc_Level.eq_1
attribute [go_sem] a_slices_IndexFunc_Level
theorem f_slices_IndexFunc_Level (a0 a1 : AV) (H : List AO) : F slices_IndexFunc_Level [a0, a1] H = aw T c_slices_IndexFunc_Level (finF H [.t 4]) ⟨⟨19, [(0, .v a0), (1, .v a1)]⟩, [], H, []⟩ := fnF_code T_slices_IndexFunc_Level (Nat.le_of_ble_eq_true rfl) H
noncomputable def L_slices_IndexFunc_Level_0 (H h : List AO) (x0 x1 x7 x8 : AV) : Option RH := awL T [0, 1, 7, 8] [] l_slices_IndexFunc_Level_0 (blkF 0 (thn (aw T (.seq (.reg r_slices_IndexFunc_Level_7) (.ret)) (finF H [.t 4])) (finF H [.t 4]))) ⟨⟨19, [(0, .v x0), (1, .v x1), (7, .v x7), (8, .v x8)]⟩, [], h, []⟩
def g_slices_IndexFunc_Level_0 (H h : List AO) (x0 x1 x7 x8 : AV) := (L_slices_IndexFunc_Level_0.eq_1 H h x0 x1 x7 x8).symm
attribute [go_sem] g_slices_IndexFunc_Level_0
theorem T_term_lift_1 : T term_lift_1 = some (.code c_term_lift_1 17 [.c 4 true 6]) := by kernel_rfl
def w_term_lift_1_0 := @wr_named T _ _ r_term_lift_1_0.eq_1
attribute [go_sem] w_term_lift_1_0
def w_term_lift_1_1 := @wr_named T _ _ r_term_lift_1_1.eq_1
attribute [go_sem] w_term_lift_1_1
def w_term_lift_1_2 := @wr_named T _ _ r_term_lift_1_2.eq_1
attribute [go_sem] w_term_lift_1_2
def w_term_lift_1_3 := @wr_named T _ _ r_term_lift_1_3.eq_1
attribute [go_sem] w_term_lift_1_3
def a_term_lift_1 := @aw_named T _ _ c_term_lift_1.eq_1
attribute [go_sem] a_term_lift_1
theorem f_term_lift_1 (a0 a1 a2 a3 : AV) (H : List AO) : F term_lift_1 [a0, a1, a2, a3] H = aw T c_term_lift_1 (finF H [.c 4 true 6]) ⟨⟨17, [(0, .v a0), (1, .v a1), (2, .v a2), (3, .v a3)]⟩, [], H, []⟩ := fnF_code T_term_lift_1 (Nat.le_of_ble_eq_true rfl) H
theorem T_slices_Grow_Level : T slices_Grow_Level = some (.code c_slices_Grow_Level 27 [.t 4] true) := by kernel_rfl
def w_slices_Grow_Level_0 := @wr_named T _ _ r_slices_Grow_Level_0.eq_1
attribute [go_sem] w_slices_Grow_Level_0
def w_slices_Grow_Level_1 := @wr_named T _ _ r_slices_Grow_Level_1.eq_1
attribute [go_sem] w_slices_Grow_Level_1
def w_slices_Grow_Level_2 := @wr_named T _ _ r_slices_Grow_Level_2.eq_1
attribute [go_sem] w_slices_Grow_Level_2
def w_slices_Grow_Level_3 := @wr_named T _ _ r_slices_Grow_Level_3.eq_1
attribute [go_sem] w_slices_Grow_Level_3
def w_slices_Grow_Level_4 := @wr_named T _ _ r_slices_Grow_Level_4.eq_1
attribute [go_sem] w_slices_Grow_Level_4
def w_slices_Grow_Level_5 := @wr_named T _ _ r_slices_Grow_Level_5.eq_1
attribute [go_sem] w_slices_Grow_Level_5
def w_slices_Grow_Level_6 := @wr_named T _ _ r_slices_Grow_Level_6.eq_1
attribute [go_sem] w_slices_Grow_Level_6
def a_slices_Grow_Level := @aw_named T _ _ c_slices_Grow_Level.eq_1
attribute [go_sem] a_slices_Grow_Level
theorem f_slices_Grow_Level (a0 a1 : AV) (H : List AO) : F slices_Grow_Level [a0, a1] H = aw T c_slices_Grow_Level (finKF [.t 4]) ⟨⟨27, [(0, .v a0), (1, .v a1)]⟩, [], H, []⟩ := fnF_codeK T_slices_Grow_Level (Nat.le_of_ble_eq_true rfl) H
theorem T_lsub_Sub : T lsub_Sub = some (.code c_lsub_Sub 36 [.c 3 true 6, .t 7]) := by kernel_rfl
def w_lsub_Sub_0 := @wr_named T _ _ r_lsub_Sub_0.eq_1
attribute [go_sem] w_lsub_Sub_0
def w_lsub_Sub_1 := @wr_named T _ _ r_lsub_Sub_1.eq_1
attribute [go_sem] w_lsub_Sub_1
def w_lsub_Sub_2 := @wr_named T _ _ r_lsub_Sub_2.eq_1
attribute [go_sem] w_lsub_Sub_2
def w_lsub_Sub_3 := @wr_named T _ _ r_lsub_Sub_3.eq_1
attribute [go_sem] w_lsub_Sub_3
def w_lsub_Sub_4 := @wr_named T _ _ r_lsub_Sub_4.eq_1
attribute [go_sem] w_lsub_Sub_4
def w_lsub_Sub_5 := @wr_named T _ _ r_lsub_Sub_5.eq_1
attribute [go_sem] w_lsub_Sub_5
def w_lsub_Sub_6 := @wr_named T _ _ r_lsub_Sub_6.eq_1
attribute [go_sem] w_lsub_Sub_6
def a_lsub_Sub := @aw_named T _ _ c_lsub_Sub.eq_1
attribute [go_sem] a_lsub_Sub
theorem f_lsub_Sub (a0 a1 a2 : AV) (H : List AO) : F lsub_Sub [a0, a1, a2] H = aw T c_lsub_Sub (finF H [.c 3 true 6, .t 7]) ⟨⟨36, [(0, .v a0), (1, .v a1), (2, .v a2)]⟩, [], H, []⟩ := fnF_code T_lsub_Sub (Nat.le_of_ble_eq_true rfl) H
theorem T_ref02_Nodes : T ref02_Nodes = some (.code c_ref02_Nodes 31 [.t 4]) := by kernel_rfl
def w_ref02_Nodes_0 := @wr_named T _ _ r_ref02_Nodes_0.eq_1
attribute [go_sem] w_ref02_Nodes_0
def w_ref02_Nodes_1 := @wr_named T _ _ r_ref02_Nodes_1.eq_1
attribute [go_sem] w_ref02_Nodes_1
def w_ref02_Nodes_2 := @wr_named T _ _ r_ref02_Nodes_2.eq_1
attribute [go_sem] w_ref02_Nodes_2
def w_ref02_Nodes_3 := @wr_named T _ _ r_ref02_Nodes_3.eq_1
attribute [go_sem] w_ref02_Nodes_3
def w_ref02_Nodes_4 := @wr_named T _ _ r_ref02_Nodes_4.eq_1
attribute [go_sem] w_ref02_Nodes_4
def w_ref02_Nodes_5 := @wr_named T _ _ r_ref02_Nodes_5.eq_1
attribute [go_sem] w_ref02_Nodes_5
def a_l_ref02_Nodes_0 := @aw_named T _ _ l_ref02_Nodes_0.eq_1
attribute [go_sem] a_l_ref02_Nodes_0
def w_ref02_Nodes_6 := @wr_named T _ _ r_ref02_Nodes_6.eq_1
attribute [go_sem] w_ref02_Nodes_6
def a_ref02_Nodes := @aw_named T _ _ c_ref02_Nodes.eq_1
attribute [go_sem] a_ref02_Nodes
theorem f_ref02_Nodes (a0 a1 : AV) (H : List AO) : F ref02_Nodes [a0, a1] H = aw T c_ref02_Nodes (finF H [.t 4]) ⟨⟨31, [(0, .v a0), (1, .v a1)]⟩, [], H, []⟩ := fnF_code T_ref02_Nodes (Nat.le_of_ble_eq_true rfl) H
noncomputable def L_ref02_Nodes_0 (H h : List AO) (x1 x5 x6 : AV) (v2 : List AV) : Option RH := awL T [1, 2, 5, 6] [2] l_ref02_Nodes_0 (blkF 0 (thn (aw T (.seq (.reg r_ref02_Nodes_6) (.ret)) (finF H [.t 4])) (finF H [.t 4]))) ⟨⟨31, [(1, .v x1), (2, .lp 2 0), (5, .v x5), (6, .v x6)]⟩, [(2, v2)], h, []⟩
def g_ref02_Nodes_0 (H h : List AO) (x1 x5 x6 : AV) (v2 : List AV) := (L_ref02_Nodes_0.eq_1 H h x1 x5 x6 v2).symm
attribute [go_sem] g_ref02_Nodes_0
theorem T_ref02_right : T ref02_right = some (.code c_ref02_right 66 [.t 8]) := by kernel_rfl
def w_ref02_right_0 := @wr_named T _ _ r_ref02_right_0.eq_1
attribute [go_sem] w_ref02_right_0
def w_ref02_right_1 := @wd_named T _ _ r_ref02_right_1.eq_1
attribute [go_sem] w_ref02_right_1
def w_ref02_right_2 := @wr_named T _ _ r_ref02_right_2.eq_1
attribute [go_sem] w_ref02_right_2
def w_ref02_right_3 := @wr_named T _ _ r_ref02_right_3.eq_1
attribute [go_sem] w_ref02_right_3
def w_ref02_right_4 := @wr_named T _ _ r_ref02_right_4.eq_1
attribute [go_sem] w_ref02_right_4
def w_ref02_right_5 := @wr_named T _ _ r_ref02_right_5.eq_1
attribute [go_sem] w_ref02_right_5
def w_ref02_right_6 := @wr_named T _ _ r_ref02_right_6.eq_1
attribute [go_sem] w_ref02_right_6
def w_ref02_right_7 := @wr_named T _ _ r_ref02_right_7.eq_1
attribute [go_sem] w_ref02_right_7
def w_ref02_right_8 := @wr_named T _ _ r_ref02_right_8.eq_1
attribute [go_sem] w_ref02_right_8
def w_ref02_right_9 := @wr_named T _ _ r_ref02_right_9.eq_1
attribute [go_sem] w_ref02_right_9
def w_ref02_right_10 := @wr_named T _ _ r_ref02_right_10.eq_1
attribute [go_sem] w_ref02_right_10
def w_ref02_right_11 := @wr_named T _ _ r_ref02_right_11.eq_1
attribute [go_sem] w_ref02_right_11
def w_ref02_right_12 := @wr_named T _ _ r_ref02_right_12.eq_1
attribute [go_sem] w_ref02_right_12
def a_l_ref02_right_0 := @aw_named T _ _ l_ref02_right_0.eq_1
attribute [go_sem] a_l_ref02_right_0
def w_ref02_right_13 := @wr_named T _ _ r_ref02_right_13.eq_1
attribute [go_sem] w_ref02_right_13
def a_ref02_right := @aw_named T _ _ c_ref02_right.eq_1
attribute [go_sem] a_ref02_right
theorem f_ref02_right (a0 a1 a2 a3 : AV) (H : List AO) : F ref02_right [a0, a1, a2, a3] H = aw T c_ref02_right (finF H [.t 8]) ⟨⟨66, [(0, .v a0), (1, .v a1), (2, .v a2), (3, .v a3)]⟩, [], H, []⟩ := fnF_code T_ref02_right (Nat.le_of_ble_eq_true rfl) H
noncomputable def L_ref02_right_0 (H h : List AO) (x1 x2 x3 x9 : AV) (v4 : List AV) : Option RH := awL T [1, 2, 3, 4, 9] [4] l_ref02_right_0 (blkF 1 (thn (aw T (.seq (.reg r_ref02_right_13) (.ret)) (finF H [.t 8])) (finF H [.t 8]))) ⟨⟨66, [(1, .v x1), (2, .v x2), (3, .v x3), (4, .lp 4 0), (9, .v x9)]⟩, [(4, v4)], h, []⟩
def g_ref02_right_0 (H h : List AO) (x1 x2 x3 x9 : AV) (v4 : List AV) := (L_ref02_right_0.eq_1 H h x1 x2 x3 x9 v4).symm
attribute [go_sem] g_ref02_right_0
theorem T_lsub_odd : T lsub_odd = some (.code c_lsub_odd 6 [.t 2]) := by kernel_rfl
def w_lsub_odd_0 := @wr_named T _ _ r_lsub_odd_0.eq_1
attribute [go_sem] w_lsub_odd_0
def w_lsub_odd_1 := @wr_named T _ _ r_lsub_odd_1.eq_1
attribute [go_sem] w_lsub_odd_1
def a_lsub_odd := @aw_named T _ _ c_lsub_odd.eq_1
attribute [go_sem] a_lsub_odd
theorem f_lsub_odd (a0 : AV) (H : List AO) : F lsub_odd [a0] H = aw T c_lsub_odd (finF H [.t 2]) ⟨⟨6, [(0, .v a0)]⟩, [], H, []⟩ := fnF_code T_lsub_odd (Nat.le_of_ble_eq_true rfl) H
theorem T_lsub_turn : T lsub_turn = some (.code c_lsub_turn 40 [.c 3 true 4]) := by kernel_rfl
def w_lsub_turn_0 := @wr_named T _ _ r_lsub_turn_0.eq_1
attribute [go_sem] w_lsub_turn_0
def w_lsub_turn_1 := @wr_named T _ _ r_lsub_turn_1.eq_1
attribute [go_sem] w_lsub_turn_1
def w_lsub_turn_2 := @wr_named T _ _ r_lsub_turn_2.eq_1
attribute [go_sem] w_lsub_turn_2
def w_lsub_turn_3 := @wr_named T _ _ r_lsub_turn_3.eq_1
attribute [go_sem] w_lsub_turn_3
def w_lsub_turn_4 := @wr_named T _ _ r_lsub_turn_4.eq_1
attribute [go_sem] w_lsub_turn_4
def w_lsub_turn_5 := @wr_named T _ _ r_lsub_turn_5.eq_1
attribute [go_sem] w_lsub_turn_5
def w_lsub_turn_6 := @wr_named T _ _ r_lsub_turn_6.eq_1
attribute [go_sem] w_lsub_turn_6
def w_lsub_turn_7 := @wr_named T _ _ r_lsub_turn_7.eq_1
attribute [go_sem] w_lsub_turn_7
def w_lsub_turn_8 := @wd_named T _ _ r_lsub_turn_8.eq_1
attribute [go_sem] w_lsub_turn_8
def w_lsub_turn_9 := @wr_named T _ _ r_lsub_turn_9.eq_1
attribute [go_sem] w_lsub_turn_9
def a_l_lsub_turn_0 := @aw_named T _ _ l_lsub_turn_0.eq_1
attribute [go_sem] a_l_lsub_turn_0
def w_lsub_turn_10 := @wr_named T _ _ r_lsub_turn_10.eq_1
attribute [go_sem] w_lsub_turn_10
def a_lsub_turn := @aw_named T _ _ c_lsub_turn.eq_1
attribute [go_sem] a_lsub_turn
theorem f_lsub_turn (a0 a1 : AV) (H : List AO) : F lsub_turn [a0, a1] H = aw T c_lsub_turn (finF H [.c 3 true 4]) ⟨⟨40, [(0, .v a0), (1, .v a1)]⟩, [], H, []⟩ := fnF_code T_lsub_turn (Nat.le_of_ble_eq_true rfl) H
noncomputable def L_lsub_turn_0 (H h : List AO) (x1 x24 x25 x26 : AV) (v4 v7 : List AV) : Option RH := awL T [1, 4, 7, 24, 25, 26] [4, 7] l_lsub_turn_0 (blkF 0 (thn (aw T (.seq (.reg r_lsub_turn_10) (.ret)) (finF H [.c 3 true 4])) (finF H [.c 3 true 4]))) ⟨⟨40, [(1, .v x1), (4, .lp 4 0), (7, .lp 7 0), (24, .v x24), (25, .v x25), (26, .v x26)]⟩, [(4, v4), (7, v7)], h, []⟩
def g_lsub_turn_0 (H h : List AO) (x1 x24 x25 x26 : AV) (v4 v7 : List AV) := (L_lsub_turn_0.eq_1 H h x1 x24 x25 x26 v4 v7).symm
attribute [go_sem] g_lsub_turn_0
theorem T_lsub_Sub_1 : T lsub_Sub_1 = some (.code c_lsub_Sub_1 39 [.c 3 true 4, .t 5]) := by kernel_rfl
def w_lsub_Sub_1_0 := @wr_named T _ _ r_lsub_Sub_1_0.eq_1
attribute [go_sem] w_lsub_Sub_1_0
def w_lsub_Sub_1_1 := @wr_named T _ _ r_lsub_Sub_1_1.eq_1
attribute [go_sem] w_lsub_Sub_1_1
def w_lsub_Sub_1_2 := @wr_named T _ _ r_lsub_Sub_1_2.eq_1
attribute [go_sem] w_lsub_Sub_1_2
def w_lsub_Sub_1_3 := @wr_named T _ _ r_lsub_Sub_1_3.eq_1
attribute [go_sem] w_lsub_Sub_1_3
def w_lsub_Sub_1_4 := @wr_named T _ _ r_lsub_Sub_1_4.eq_1
attribute [go_sem] w_lsub_Sub_1_4
def w_lsub_Sub_1_5 := @wr_named T _ _ r_lsub_Sub_1_5.eq_1
attribute [go_sem] w_lsub_Sub_1_5
def a_lsub_Sub_1 := @aw_named T _ _ c_lsub_Sub_1.eq_1
attribute [go_sem] a_lsub_Sub_1
theorem f_lsub_Sub_1 (a0 a1 a2 : AV) (H : List AO) : F lsub_Sub_1 [a0, a1, a2] H = aw T c_lsub_Sub_1 (finF H [.c 3 true 4, .t 5]) ⟨⟨39, [(0, .v a0), (1, .v a1), (2, .v a2)]⟩, [], H, []⟩ := fnF_code T_lsub_Sub_1 (Nat.le_of_ble_eq_true rfl) H
theorem T_ref02_kids : T ref02_kids = some (.code c_ref02_kids 13 [.t 2]) := by kernel_rfl
def w_ref02_kids_0 := @wr_named T _ _ r_ref02_kids_0.eq_1
attribute [go_sem] w_ref02_kids_0
def w_ref02_kids_1 := @wr_named T _ _ r_ref02_kids_1.eq_1
attribute [go_sem] w_ref02_kids_1
def w_ref02_kids_2 := @wr_named T _ _ r_ref02_kids_2.eq_1
attribute [go_sem] w_ref02_kids_2
def w_ref02_kids_3 := @wr_named T _ _ r_ref02_kids_3.eq_1
attribute [go_sem] w_ref02_kids_3
def w_ref02_kids_4 := @wr_named T _ _ r_ref02_kids_4.eq_1
attribute [go_sem] w_ref02_kids_4
def w_ref02_kids_5 := @wr_named T _ _ r_ref02_kids_5.eq_1
attribute [go_sem] w_ref02_kids_5
def w_ref02_kids_6 := @wr_named T _ _ r_ref02_kids_6.eq_1
attribute [go_sem] w_ref02_kids_6
def w_ref02_kids_7 := @wr_named T _ _ r_ref02_kids_7.eq_1
attribute [go_sem] w_ref02_kids_7
def w_ref02_kids_8 := @wr_named T _ _ r_ref02_kids_8.eq_1
attribute [go_sem] w_ref02_kids_8
def w_ref02_kids_9 := @wr_named T _ _ r_ref02_kids_9.eq_1
attribute [go_sem] w_ref02_kids_9
def w_ref02_kids_10 := @wr_named T _ _ r_ref02_kids_10.eq_1
attribute [go_sem] w_ref02_kids_10
def w_ref02_kids_11 := @wr_named T _ _ r_ref02_kids_11.eq_1
attribute [go_sem] w_ref02_kids_11
def a_ref02_kids := @aw_named T _ _ c_ref02_kids.eq_1
attribute [go_sem] a_ref02_kids
theorem f_ref02_kids (a0 : AV) (H : List AO) : F ref02_kids [a0] H = aw T c_ref02_kids (finF H [.t 2]) ⟨⟨13, [(0, .v a0)]⟩, [], H, []⟩ := fnF_code T_ref02_kids (Nat.le_of_ble_eq_true rfl) H
end Go.Ab
