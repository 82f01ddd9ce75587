/- Equations of functions, printed by Emit2.lean. Conditions: none. -/
import Derived.Test.YtnkblnmcabfbmaaTab
set_option linter.unusedVariables false
set_option linter.defProp false
set_option maxRecDepth 100000
namespace Go.Ab
open Go.RowKit Go.Proofs
theorem T_law05_LsubMade : T law05_LsubMade = some (.code c_law05_LsubMade 17 [.t 6]) := by kernel_rfl
def w_law05_LsubMade_0 := @wr_named T _ _ r_law05_LsubMade_0.eq_1
attribute [go_sem] w_law05_LsubMade_0
def w_law05_LsubMade_1 := @wr_named T _ _ r_law05_LsubMade_1.eq_1
attribute [go_sem] w_law05_LsubMade_1
def a_law05_LsubMade := @aw_named T _ _ c_law05_LsubMade.eq_1
attribute [go_sem] a_law05_LsubMade
theorem f_law05_LsubMade (a0 a1 a2 : AV) (H : List AO) : F law05_LsubMade [a0, a1, a2] H = aw T c_law05_LsubMade (finF H [.t 6]) ⟨⟨17, [(0, .v a0), (1, .v a1), (2, .v a2)]⟩, [], H, []⟩ := fnF_code T_law05_LsubMade (Nat.le_of_ble_eq_true rfl) H
theorem T_law05_LsubIs : T law05_LsubIs = some (.code c_law05_LsubIs 126 [.t 8]) := by kernel_rfl
def w_law05_LsubIs_0 := @wr_named T _ _ r_law05_LsubIs_0.eq_1
attribute [go_sem] w_law05_LsubIs_0
def w_law05_LsubIs_1 := @wr_named T _ _ r_law05_LsubIs_1.eq_1
attribute [go_sem] w_law05_LsubIs_1
def w_law05_LsubIs_2 := @wr_named T _ _ r_law05_LsubIs_2.eq_1
attribute [go_sem] w_law05_LsubIs_2
def w_law05_LsubIs_3 := @wr_named T _ _ r_law05_LsubIs_3.eq_1
attribute [go_sem] w_law05_LsubIs_3
def w_law05_LsubIs_4 := @wr_named T _ _ r_law05_LsubIs_4.eq_1
attribute [go_sem] w_law05_LsubIs_4
def w_law05_LsubIs_5 := @wr_named T _ _ r_law05_LsubIs_5.eq_1
attribute [go_sem] w_law05_LsubIs_5
def w_law05_LsubIs_6 := @wr_named T _ _ r_law05_LsubIs_6.eq_1
attribute [go_sem] w_law05_LsubIs_6
def w_law05_LsubIs_7 := @wr_named T _ _ r_law05_LsubIs_7.eq_1
attribute [go_sem] w_law05_LsubIs_7
def w_law05_LsubIs_8 := @wr_named T _ _ r_law05_LsubIs_8.eq_1
attribute [go_sem] w_law05_LsubIs_8
def w_law05_LsubIs_9 := @wd_named T _ _ r_law05_LsubIs_9.eq_1
attribute [go_sem] w_law05_LsubIs_9
def w_law05_LsubIs_10 := @wr_named T _ _ r_law05_LsubIs_10.eq_1
attribute [go_sem] w_law05_LsubIs_10
def w_law05_LsubIs_11 := @wr_named T _ _ r_law05_LsubIs_11.eq_1
attribute [go_sem] w_law05_LsubIs_11
def w_law05_LsubIs_12 := @wr_named T _ _ r_law05_LsubIs_12.eq_1
attribute [go_sem] w_law05_LsubIs_12
def w_law05_LsubIs_13 := @wr_named T _ _ r_law05_LsubIs_13.eq_1
attribute [go_sem] w_law05_LsubIs_13
def w_law05_LsubIs_14 := @wr_named T _ _ r_law05_LsubIs_14.eq_1
attribute [go_sem] w_law05_LsubIs_14
def a_l_law05_LsubIs_0 := @aw_named T _ _ l_law05_LsubIs_0.eq_1
attribute [go_sem] a_l_law05_LsubIs_0
def w_law05_LsubIs_15 := @wr_named T _ _ r_law05_LsubIs_15.eq_1
attribute [go_sem] w_law05_LsubIs_15
def w_law05_LsubIs_16 := @wr_named T _ _ r_law05_LsubIs_16.eq_1
attribute [go_sem] w_law05_LsubIs_16
def w_law05_LsubIs_17 := @wr_named T _ _ r_law05_LsubIs_17.eq_1
attribute [go_sem] w_law05_LsubIs_17
def w_law05_LsubIs_18 := @wr_named T _ _ r_law05_LsubIs_18.eq_1
attribute [go_sem] w_law05_LsubIs_18
def a_l_law05_LsubIs_1 := @aw_named T _ _ l_law05_LsubIs_1.eq_1
attribute [go_sem] a_l_law05_LsubIs_1
def w_law05_LsubIs_19 := @wr_named T _ _ r_law05_LsubIs_19.eq_1
attribute [go_sem] w_law05_LsubIs_19
def w_law05_LsubIs_20 := @wr_named T _ _ r_law05_LsubIs_20.eq_1
attribute [go_sem] w_law05_LsubIs_20
def w_law05_LsubIs_21 := @wr_named T _ _ r_law05_LsubIs_21.eq_1
attribute [go_sem] w_law05_LsubIs_21
def a_law05_LsubIs := @aw_named T _ _ c_law05_LsubIs.eq_1
attribute [go_sem] a_law05_LsubIs
theorem f_law05_LsubIs (a0 a1 a2 a3 : AV) (H : List AO) : F law05_LsubIs [a0, a1, a2, a3] H = aw T c_law05_LsubIs (finF H [.t 8]) ⟨⟨126, [(0, .v a0), (1, .v a1), (2, .v a2), (3, .v a3)]⟩, [], H, []⟩ := fnF_code T_law05_LsubIs (Nat.le_of_ble_eq_true rfl) H
noncomputable def L_law05_LsubIs_0 (H h : List AO) (x9 x11 x12 x15 x16 x17 x18 x19 : AV) (v10 v13 : List AV) : Option RH := awL T [9, 10, 11, 12, 13, 15, 16, 17, 18, 19] [10, 13] l_law05_LsubIs_0 (blkF 0 (thn (aw T (.seq (.seq (.reg r_law05_LsubIs_15) (.block 2 (.loop [9, 10, 12, 13, 15, 16, 17, 18, 20] [10, 13] l_law05_LsubIs_1))) (.seq (.reg r_law05_LsubIs_19) (.seq (.reg r_law05_LsubIs_20) (.seq (.reg r_law05_LsubIs_21) (.ret))))) (finF H [.t 8])) (finF H [.t 8]))) ⟨⟨126, [(9, .v x9), (10, .lp 10 0), (11, .v x11), (12, .v x12), (13, .lp 13 0), (15, .v x15), (16, .v x16), (17, .v x17), (18, .v x18), (19, .v x19)]⟩, [(10, v10), (13, v13)], h, []⟩
def g_law05_LsubIs_0 (H h : List AO) (x9 x11 x12 x15 x16 x17 x18 x19 : AV) (v10 v13 : List AV) := (L_law05_LsubIs_0.eq_1 H h x9 x11 x12 x15 x16 x17 x18 x19 v10 v13).symm
attribute [go_sem] g_law05_LsubIs_0
noncomputable def L_law05_LsubIs_1 (H h : List AO) (x9 x12 x15 x16 x17 x18 x20 : AV) (v10 v13 : List AV) : Option RH := awL T [9, 10, 12, 13, 15, 16, 17, 18, 20] [10, 13] l_law05_LsubIs_1 (blkF 2 (thn (aw T (.seq (.reg r_law05_LsubIs_19) (.seq (.reg r_law05_LsubIs_20) (.seq (.reg r_law05_LsubIs_21) (.ret)))) (finF H [.t 8])) (finF H [.t 8]))) ⟨⟨126, [(9, .v x9), (10, .lp 10 0), (12, .v x12), (13, .lp 13 0), (15, .v x15), (16, .v x16), (17, .v x17), (18, .v x18), (20, .v x20)]⟩, [(10, v10), (13, v13)], h, []⟩
def g_law05_LsubIs_1 (H h : List AO) (x9 x12 x15 x16 x17 x18 x20 : AV) (v10 v13 : List AV) := (L_law05_LsubIs_1.eq_1 H h x9 x12 x15 x16 x17 x18 x20 v10 v13).symm
attribute [go_sem] g_law05_LsubIs_1
theorem T_law05_LsubNamed : T law05_LsubNamed = some (.code c_law05_LsubNamed 88 [.t 4]) := by kernel_rfl
def w_law05_LsubNamed_0 := @wr_named T _ _ r_law05_LsubNamed_0.eq_1
attribute [go_sem] w_law05_LsubNamed_0
def w_law05_LsubNamed_1 := @wr_named T _ _ r_law05_LsubNamed_1.eq_1
attribute [go_sem] w_law05_LsubNamed_1
def w_law05_LsubNamed_2 := @wr_named T _ _ r_law05_LsubNamed_2.eq_1
attribute [go_sem] w_law05_LsubNamed_2
def w_law05_LsubNamed_3 := @wr_named T _ _ r_law05_LsubNamed_3.eq_1
attribute [go_sem] w_law05_LsubNamed_3
def w_law05_LsubNamed_4 := @wr_named T _ _ r_law05_LsubNamed_4.eq_1
attribute [go_sem] w_law05_LsubNamed_4
def w_law05_LsubNamed_5 := @wr_named T _ _ r_law05_LsubNamed_5.eq_1
attribute [go_sem] w_law05_LsubNamed_5
def w_law05_LsubNamed_6 := @wr_named T _ _ r_law05_LsubNamed_6.eq_1
attribute [go_sem] w_law05_LsubNamed_6
def w_law05_LsubNamed_7 := @wr_named T _ _ r_law05_LsubNamed_7.eq_1
attribute [go_sem] w_law05_LsubNamed_7
def w_law05_LsubNamed_8 := @wr_named T _ _ r_law05_LsubNamed_8.eq_1
attribute [go_sem] w_law05_LsubNamed_8
def w_law05_LsubNamed_9 := @wr_named T _ _ r_law05_LsubNamed_9.eq_1
attribute [go_sem] w_law05_LsubNamed_9
def w_law05_LsubNamed_10 := @wr_named T _ _ r_law05_LsubNamed_10.eq_1
attribute [go_sem] w_law05_LsubNamed_10
def w_law05_LsubNamed_11 := @wr_named T _ _ r_law05_LsubNamed_11.eq_1
attribute [go_sem] w_law05_LsubNamed_11
def a_l_law05_LsubNamed_0 := @aw_named T _ _ l_law05_LsubNamed_0.eq_1
attribute [go_sem] a_l_law05_LsubNamed_0
def w_law05_LsubNamed_12 := @wr_named T _ _ r_law05_LsubNamed_12.eq_1
attribute [go_sem] w_law05_LsubNamed_12
def w_law05_LsubNamed_13 := @wr_named T _ _ r_law05_LsubNamed_13.eq_1
attribute [go_sem] w_law05_LsubNamed_13
def w_law05_LsubNamed_14 := @wr_named T _ _ r_law05_LsubNamed_14.eq_1
attribute [go_sem] w_law05_LsubNamed_14
def w_law05_LsubNamed_15 := @wr_named T _ _ r_law05_LsubNamed_15.eq_1
attribute [go_sem] w_law05_LsubNamed_15
def w_law05_LsubNamed_16 := @wr_named T _ _ r_law05_LsubNamed_16.eq_1
attribute [go_sem] w_law05_LsubNamed_16
def w_law05_LsubNamed_17 := @wr_named T _ _ r_law05_LsubNamed_17.eq_1
attribute [go_sem] w_law05_LsubNamed_17
def w_law05_LsubNamed_18 := @wd_named T _ _ r_law05_LsubNamed_18.eq_1
attribute [go_sem] w_law05_LsubNamed_18
def a_law05_LsubNamed := @aw_named T _ _ c_law05_LsubNamed.eq_1
attribute [go_sem] a_law05_LsubNamed
theorem f_law05_LsubNamed (a0 a1 : AV) (H : List AO) : F law05_LsubNamed [a0, a1] H = aw T c_law05_LsubNamed (finF H [.t 4]) ⟨⟨88, [(0, .v a0), (1, .v a1)]⟩, [], H, []⟩ := fnF_code T_law05_LsubNamed (Nat.le_of_ble_eq_true rfl) H
noncomputable def L_law05_LsubNamed_0 (H h : List AO) (x5 x8 x9 x10 : AV) (v6 v7 : List AV) : Option RH := awL T [5, 6, 7, 8, 9, 10] [6, 7] l_law05_LsubNamed_0 (blkF 0 (thn (aw T (.seq (.reg r_law05_LsubNamed_12) (.seq (.reg r_law05_LsubNamed_13) (.seq (.seq (.reg r_law05_LsubNamed_14) (.cond (.t 51) (.seq (.reg r_law05_LsubNamed_15) (.ret)) (.skip))) (.seq (.seq (.reg r_law05_LsubNamed_16) (.cond (.t 53) (.seq (.reg r_law05_LsubNamed_17) (.ret)) (.skip))) (.seq (.dreg r_law05_LsubNamed_18) (.ret)))))) (finF H [.t 4])) (finF H [.t 4]))) ⟨⟨88, [(5, .v x5), (6, .lp 6 0), (7, .lp 7 0), (8, .v x8), (9, .v x9), (10, .v x10)]⟩, [(6, v6), (7, v7)], h, []⟩
def g_law05_LsubNamed_0 (H h : List AO) (x5 x8 x9 x10 : AV) (v6 v7 : List AV) := (L_law05_LsubNamed_0.eq_1 H h x5 x8 x9 x10 v6 v7).symm
attribute [go_sem] g_law05_LsubNamed_0
theorem T_law13_TermAny : T law13_TermAny = some (.code c_law13_TermAny 27 [.t 8]) := by kernel_rfl
def w_law13_TermAny_0 := @wr_named T _ _ r_law13_TermAny_0.eq_1
attribute [go_sem] w_law13_TermAny_0
def w_law13_TermAny_1 := @wr_named T _ _ r_law13_TermAny_1.eq_1
attribute [go_sem] w_law13_TermAny_1
def a_law13_TermAny := @aw_named T _ _ c_law13_TermAny.eq_1
attribute [go_sem] a_law13_TermAny
theorem f_law13_TermAny (a0 a1 a2 a3 : AV) (H : List AO) : F law13_TermAny [a0, a1, a2, a3] H = aw T c_law13_TermAny (finF H [.t 8]) ⟨⟨27, [(0, .v a0), (1, .v a1), (2, .v a2), (3, .v a3)]⟩, [], H, []⟩ := fnF_code T_law13_TermAny (Nat.le_of_ble_eq_true rfl) H
theorem T_law13_TermMade : T law13_TermMade = some (.code c_law13_TermMade 103 [.t 12]) := by kernel_rfl
def w_law13_TermMade_0 := @wr_named T _ _ r_law13_TermMade_0.eq_1
attribute [go_sem] w_law13_TermMade_0
def w_law13_TermMade_1 := @wr_named T _ _ r_law13_TermMade_1.eq_1
attribute [go_sem] w_law13_TermMade_1
def w_law13_TermMade_2 := @wr_named T _ _ r_law13_TermMade_2.eq_1
attribute [go_sem] w_law13_TermMade_2
def w_law13_TermMade_3 := @wr_named T _ _ r_law13_TermMade_3.eq_1
attribute [go_sem] w_law13_TermMade_3
def w_law13_TermMade_4 := @wr_named T _ _ r_law13_TermMade_4.eq_1
attribute [go_sem] w_law13_TermMade_4
def w_law13_TermMade_5 := @wr_named T _ _ r_law13_TermMade_5.eq_1
attribute [go_sem] w_law13_TermMade_5
def w_law13_TermMade_6 := @wr_named T _ _ r_law13_TermMade_6.eq_1
attribute [go_sem] w_law13_TermMade_6
def w_law13_TermMade_7 := @wr_named T _ _ r_law13_TermMade_7.eq_1
attribute [go_sem] w_law13_TermMade_7
def w_law13_TermMade_8 := @wr_named T _ _ r_law13_TermMade_8.eq_1
attribute [go_sem] w_law13_TermMade_8
def w_law13_TermMade_9 := @wr_named T _ _ r_law13_TermMade_9.eq_1
attribute [go_sem] w_law13_TermMade_9
def w_law13_TermMade_10 := @wr_named T _ _ r_law13_TermMade_10.eq_1
attribute [go_sem] w_law13_TermMade_10
def w_law13_TermMade_11 := @wr_named T _ _ r_law13_TermMade_11.eq_1
attribute [go_sem] w_law13_TermMade_11
def w_law13_TermMade_12 := @wr_named T _ _ r_law13_TermMade_12.eq_1
attribute [go_sem] w_law13_TermMade_12
def w_law13_TermMade_13 := @wr_named T _ _ r_law13_TermMade_13.eq_1
attribute [go_sem] w_law13_TermMade_13
def w_law13_TermMade_14 := @wr_named T _ _ r_law13_TermMade_14.eq_1
attribute [go_sem] w_law13_TermMade_14
def w_law13_TermMade_15 := @wd_named T _ _ r_law13_TermMade_15.eq_1
attribute [go_sem] w_law13_TermMade_15
def w_law13_TermMade_16 := @wr_named T _ _ r_law13_TermMade_16.eq_1
attribute [go_sem] w_law13_TermMade_16
def w_law13_TermMade_17 := @wd_named T _ _ r_law13_TermMade_17.eq_1
attribute [go_sem] w_law13_TermMade_17
def w_law13_TermMade_18 := @wr_named T _ _ r_law13_TermMade_18.eq_1
attribute [go_sem] w_law13_TermMade_18
def w_law13_TermMade_19 := @wr_named T _ _ r_law13_TermMade_19.eq_1
attribute [go_sem] w_law13_TermMade_19
def a_law13_TermMade := @aw_named T _ _ c_law13_TermMade.eq_1
attribute [go_sem] a_law13_TermMade
theorem f_law13_TermMade (a0 a1 a2 a3 a4 a5 : AV) (H : List AO) : F law13_TermMade [a0, a1, a2, a3, a4, a5] H = aw T c_law13_TermMade (finF H [.t 12]) ⟨⟨103, [(0, .v a0), (1, .v a1), (2, .v a2), (3, .v a3), (4, .v a4), (5, .v a5)]⟩, [], H, []⟩ := fnF_code T_law13_TermMade (Nat.le_of_ble_eq_true rfl) H
theorem T_law13_TermDeep : T law13_TermDeep = some (.code c_law13_TermDeep 94 [.t 4]) := by kernel_rfl
def w_law13_TermDeep_0 := @wr_named T _ _ r_law13_TermDeep_0.eq_1
attribute [go_sem] w_law13_TermDeep_0
def w_law13_TermDeep_1 := @wr_named T _ _ r_law13_TermDeep_1.eq_1
attribute [go_sem] w_law13_TermDeep_1
def w_law13_TermDeep_2 := @wr_named T _ _ r_law13_TermDeep_2.eq_1
attribute [go_sem] w_law13_TermDeep_2
def w_law13_TermDeep_3 := @wr_named T _ _ r_law13_TermDeep_3.eq_1
attribute [go_sem] w_law13_TermDeep_3
def w_law13_TermDeep_4 := @wr_named T _ _ r_law13_TermDeep_4.eq_1
attribute [go_sem] w_law13_TermDeep_4
def w_law13_TermDeep_5 := @wr_named T _ _ r_law13_TermDeep_5.eq_1
attribute [go_sem] w_law13_TermDeep_5
def w_law13_TermDeep_6 := @wd_named T _ _ r_law13_TermDeep_6.eq_1
attribute [go_sem] w_law13_TermDeep_6
def w_law13_TermDeep_7 := @wr_named T _ _ r_law13_TermDeep_7.eq_1
attribute [go_sem] w_law13_TermDeep_7
def a_l_law13_TermDeep_0 := @aw_named T _ _ l_law13_TermDeep_0.eq_1
attribute [go_sem] a_l_law13_TermDeep_0
def w_law13_TermDeep_8 := @wr_named T _ _ r_law13_TermDeep_8.eq_1
attribute [go_sem] w_law13_TermDeep_8
def w_law13_TermDeep_9 := @wr_named T _ _ r_law13_TermDeep_9.eq_1
attribute [go_sem] w_law13_TermDeep_9
def w_law13_TermDeep_10 := @wr_named T _ _ r_law13_TermDeep_10.eq_1
attribute [go_sem] w_law13_TermDeep_10
def w_law13_TermDeep_11 := @wr_named T _ _ r_law13_TermDeep_11.eq_1
attribute [go_sem] w_law13_TermDeep_11
def w_law13_TermDeep_12 := @wr_named T _ _ r_law13_TermDeep_12.eq_1
attribute [go_sem] w_law13_TermDeep_12
def a_l_law13_TermDeep_1 := @aw_named T _ _ l_law13_TermDeep_1.eq_1
attribute [go_sem] a_l_law13_TermDeep_1
def w_law13_TermDeep_13 := @wr_named T _ _ r_law13_TermDeep_13.eq_1
attribute [go_sem] w_law13_TermDeep_13
def w_law13_TermDeep_14 := @wr_named T _ _ r_law13_TermDeep_14.eq_1
attribute [go_sem] w_law13_TermDeep_14
def w_law13_TermDeep_15 := @wd_named T _ _ r_law13_TermDeep_15.eq_1
attribute [go_sem] w_law13_TermDeep_15
def w_law13_TermDeep_16 := @wr_named T _ _ r_law13_TermDeep_16.eq_1
attribute [go_sem] w_law13_TermDeep_16
def w_law13_TermDeep_17 := @wd_named T _ _ r_law13_TermDeep_17.eq_1
attribute [go_sem] w_law13_TermDeep_17
def w_law13_TermDeep_18 := @wr_named T _ _ r_law13_TermDeep_18.eq_1
attribute [go_sem] w_law13_TermDeep_18
def a_l_law13_TermDeep_2 := @aw_named T _ _ l_law13_TermDeep_2.eq_1
attribute [go_sem] a_l_law13_TermDeep_2
def w_law13_TermDeep_19 := @wr_named T _ _ r_law13_TermDeep_19.eq_1
attribute [go_sem] w_law13_TermDeep_19
def w_law13_TermDeep_20 := @wd_named T _ _ r_law13_TermDeep_20.eq_1
attribute [go_sem] w_law13_TermDeep_20
def a_law13_TermDeep := @aw_named T _ _ c_law13_TermDeep.eq_1
attribute [go_sem] a_law13_TermDeep
theorem f_law13_TermDeep (a0 a1 : AV) (H : List AO) : F law13_TermDeep [a0, a1] H = aw T c_law13_TermDeep (finF H [.t 4]) ⟨⟨94, [(0, .v a0), (1, .v a1)]⟩, [], H, []⟩ := fnF_code T_law13_TermDeep (Nat.le_of_ble_eq_true rfl) H
noncomputable def L_law13_TermDeep_0 (H h : List AO) (x0 x1 x6 : AV) (v5 : List AV) : Option RH := awL T [0, 1, 5, 6] [5] l_law13_TermDeep_0 (blkF 1 (blkF 0 (thn (aw T (.seq (.dreg r_law13_TermDeep_20) (.ret)) (finF H [.t 4])) (finF H [.t 4])))) ⟨⟨94, [(0, .v x0), (1, .v x1), (5, .lp 5 0), (6, .v x6)]⟩, [(5, v5)], h, []⟩
def g_law13_TermDeep_0 (H h : List AO) (x0 x1 x6 : AV) (v5 : List AV) := (L_law13_TermDeep_0.eq_1 H h x0 x1 x6 v5).symm
attribute [go_sem] g_law13_TermDeep_0
noncomputable def L_law13_TermDeep_1 (H h : List AO) (x0 x7 : AV) (v5 : List AV) : Option RH := awL T [0, 5, 7] [5] l_law13_TermDeep_1 (blkF 3 (thn (aw T (.seq (.reg r_law13_TermDeep_13) (.block 5 (.loop [0, 5, 8] [5] l_law13_TermDeep_2))) (blkF 0 (thn (aw T (.seq (.dreg r_law13_TermDeep_20) (.ret)) (finF H [.t 4])) (finF H [.t 4])))) (blkF 0 (thn (aw T (.seq (.dreg r_law13_TermDeep_20) (.ret)) (finF H [.t 4])) (finF H [.t 4]))))) ⟨⟨94, [(0, .v x0), (5, .lp 5 0), (7, .v x7)]⟩, [(5, v5)], h, []⟩
def g_law13_TermDeep_1 (H h : List AO) (x0 x7 : AV) (v5 : List AV) := (L_law13_TermDeep_1.eq_1 H h x0 x7 v5).symm
attribute [go_sem] g_law13_TermDeep_1
noncomputable def L_law13_TermDeep_2 (H h : List AO) (x0 x8 : AV) (v5 : List AV) : Option RH := awL T [0, 5, 8] [5] l_law13_TermDeep_2 (blkF 5 (blkF 0 (thn (aw T (.seq (.dreg r_law13_TermDeep_20) (.ret)) (finF H [.t 4])) (finF H [.t 4])))) ⟨⟨94, [(0, .v x0), (5, .lp 5 0), (8, .v x8)]⟩, [(5, v5)], h, []⟩
def g_law13_TermDeep_2 (H h : List AO) (x0 x8 : AV) (v5 : List AV) := (L_law13_TermDeep_2.eq_1 H h x0 x8 v5).symm
attribute [go_sem] g_law13_TermDeep_2
theorem T_law13_TermBack : T law13_TermBack = some (.code c_law13_TermBack 110 [.t 10]) := by kernel_rfl
def w_law13_TermBack_0 := @wr_named T _ _ r_law13_TermBack_0.eq_1
attribute [go_sem] w_law13_TermBack_0
def w_law13_TermBack_1 := @wr_named T _ _ r_law13_TermBack_1.eq_1
attribute [go_sem] w_law13_TermBack_1
def w_law13_TermBack_2 := @wr_named T _ _ r_law13_TermBack_2.eq_1
attribute [go_sem] w_law13_TermBack_2
def w_law13_TermBack_3 := @wr_named T _ _ r_law13_TermBack_3.eq_1
attribute [go_sem] w_law13_TermBack_3
def w_law13_TermBack_4 := @wr_named T _ _ r_law13_TermBack_4.eq_1
attribute [go_sem] w_law13_TermBack_4
def w_law13_TermBack_5 := @wr_named T _ _ r_law13_TermBack_5.eq_1
attribute [go_sem] w_law13_TermBack_5
def w_law13_TermBack_6 := @wr_named T _ _ r_law13_TermBack_6.eq_1
attribute [go_sem] w_law13_TermBack_6
def w_law13_TermBack_7 := @wr_named T _ _ r_law13_TermBack_7.eq_1
attribute [go_sem] w_law13_TermBack_7
def w_law13_TermBack_8 := @wr_named T _ _ r_law13_TermBack_8.eq_1
attribute [go_sem] w_law13_TermBack_8
def w_law13_TermBack_9 := @wr_named T _ _ r_law13_TermBack_9.eq_1
attribute [go_sem] w_law13_TermBack_9
def w_law13_TermBack_10 := @wr_named T _ _ r_law13_TermBack_10.eq_1
attribute [go_sem] w_law13_TermBack_10
def a_law13_TermBack := @aw_named T _ _ c_law13_TermBack.eq_1
attribute [go_sem] a_law13_TermBack
theorem f_law13_TermBack (a0 a1 a2 a3 a4 : AV) (H : List AO) : F law13_TermBack [a0, a1, a2, a3, a4] H = aw T c_law13_TermBack (finF H [.t 10]) ⟨⟨110, [(0, .v a0), (1, .v a1), (2, .v a2), (3, .v a3), (4, .v a4)]⟩, [], H, []⟩ := fnF_code T_law13_TermBack (Nat.le_of_ble_eq_true rfl) H
theorem T_law13_TermTwo : T law13_TermTwo = some (.code c_law13_TermTwo 122 [.t 6]) := by kernel_rfl
def w_law13_TermTwo_0 := @wr_named T _ _ r_law13_TermTwo_0.eq_1
attribute [go_sem] w_law13_TermTwo_0
def w_law13_TermTwo_1 := @wr_named T _ _ r_law13_TermTwo_1.eq_1
attribute [go_sem] w_law13_TermTwo_1
def w_law13_TermTwo_2 := @wr_named T _ _ r_law13_TermTwo_2.eq_1
attribute [go_sem] w_law13_TermTwo_2
def w_law13_TermTwo_3 := @wr_named T _ _ r_law13_TermTwo_3.eq_1
attribute [go_sem] w_law13_TermTwo_3
def w_law13_TermTwo_4 := @wr_named T _ _ r_law13_TermTwo_4.eq_1
attribute [go_sem] w_law13_TermTwo_4
def w_law13_TermTwo_5 := @wr_named T _ _ r_law13_TermTwo_5.eq_1
attribute [go_sem] w_law13_TermTwo_5
def w_law13_TermTwo_6 := @wr_named T _ _ r_law13_TermTwo_6.eq_1
attribute [go_sem] w_law13_TermTwo_6
def w_law13_TermTwo_7 := @wr_named T _ _ r_law13_TermTwo_7.eq_1
attribute [go_sem] w_law13_TermTwo_7
def w_law13_TermTwo_8 := @wr_named T _ _ r_law13_TermTwo_8.eq_1
attribute [go_sem] w_law13_TermTwo_8
def w_law13_TermTwo_9 := @wr_named T _ _ r_law13_TermTwo_9.eq_1
attribute [go_sem] w_law13_TermTwo_9
def w_law13_TermTwo_10 := @wd_named T _ _ r_law13_TermTwo_10.eq_1
attribute [go_sem] w_law13_TermTwo_10
def w_law13_TermTwo_11 := @wr_named T _ _ r_law13_TermTwo_11.eq_1
attribute [go_sem] w_law13_TermTwo_11
def w_law13_TermTwo_12 := @wr_named T _ _ r_law13_TermTwo_12.eq_1
attribute [go_sem] w_law13_TermTwo_12
def w_law13_TermTwo_13 := @wd_named T _ _ r_law13_TermTwo_13.eq_1
attribute [go_sem] w_law13_TermTwo_13
def w_law13_TermTwo_14 := @wr_named T _ _ r_law13_TermTwo_14.eq_1
attribute [go_sem] w_law13_TermTwo_14
def w_law13_TermTwo_15 := @wr_named T _ _ r_law13_TermTwo_15.eq_1
attribute [go_sem] w_law13_TermTwo_15
def w_law13_TermTwo_16 := @wd_named T _ _ r_law13_TermTwo_16.eq_1
attribute [go_sem] w_law13_TermTwo_16
def w_law13_TermTwo_17 := @wr_named T _ _ r_law13_TermTwo_17.eq_1
attribute [go_sem] w_law13_TermTwo_17
def a_law13_TermTwo := @aw_named T _ _ c_law13_TermTwo.eq_1
attribute [go_sem] a_law13_TermTwo
theorem f_law13_TermTwo (a0 a1 a2 : AV) (H : List AO) : F law13_TermTwo [a0, a1, a2] H = aw T c_law13_TermTwo (finF H [.t 6]) ⟨⟨122, [(0, .v a0), (1, .v a1), (2, .v a2)]⟩, [], H, []⟩ := fnF_code T_law13_TermTwo (Nat.le_of_ble_eq_true rfl) H
theorem T_law15_TsubTwice : T law15_TsubTwice = some (.code c_law15_TsubTwice 118 [.t 6]) := by kernel_rfl
def w_law15_TsubTwice_0 := @wr_named T _ _ r_law15_TsubTwice_0.eq_1
attribute [go_sem] w_law15_TsubTwice_0
def w_law15_TsubTwice_1 := @wr_named T _ _ r_law15_TsubTwice_1.eq_1
attribute [go_sem] w_law15_TsubTwice_1
def w_law15_TsubTwice_2 := @wr_named T _ _ r_law15_TsubTwice_2.eq_1
attribute [go_sem] w_law15_TsubTwice_2
def w_law15_TsubTwice_3 := @wr_named T _ _ r_law15_TsubTwice_3.eq_1
attribute [go_sem] w_law15_TsubTwice_3
def w_law15_TsubTwice_4 := @wr_named T _ _ r_law15_TsubTwice_4.eq_1
attribute [go_sem] w_law15_TsubTwice_4
def w_law15_TsubTwice_5 := @wr_named T _ _ r_law15_TsubTwice_5.eq_1
attribute [go_sem] w_law15_TsubTwice_5
def w_law15_TsubTwice_6 := @wr_named T _ _ r_law15_TsubTwice_6.eq_1
attribute [go_sem] w_law15_TsubTwice_6
def w_law15_TsubTwice_7 := @wr_named T _ _ r_law15_TsubTwice_7.eq_1
attribute [go_sem] w_law15_TsubTwice_7
def w_law15_TsubTwice_8 := @wr_named T _ _ r_law15_TsubTwice_8.eq_1
attribute [go_sem] w_law15_TsubTwice_8
def w_law15_TsubTwice_9 := @wr_named T _ _ r_law15_TsubTwice_9.eq_1
attribute [go_sem] w_law15_TsubTwice_9
def w_law15_TsubTwice_10 := @wr_named T _ _ r_law15_TsubTwice_10.eq_1
attribute [go_sem] w_law15_TsubTwice_10
def w_law15_TsubTwice_11 := @wr_named T _ _ r_law15_TsubTwice_11.eq_1
attribute [go_sem] w_law15_TsubTwice_11
def w_law15_TsubTwice_12 := @wr_named T _ _ r_law15_TsubTwice_12.eq_1
attribute [go_sem] w_law15_TsubTwice_12
def w_law15_TsubTwice_13 := @wr_named T _ _ r_law15_TsubTwice_13.eq_1
attribute [go_sem] w_law15_TsubTwice_13
def w_law15_TsubTwice_14 := @wr_named T _ _ r_law15_TsubTwice_14.eq_1
attribute [go_sem] w_law15_TsubTwice_14
def w_law15_TsubTwice_15 := @wr_named T _ _ r_law15_TsubTwice_15.eq_1
attribute [go_sem] w_law15_TsubTwice_15
def w_law15_TsubTwice_16 := @wr_named T _ _ r_law15_TsubTwice_16.eq_1
attribute [go_sem] w_law15_TsubTwice_16
def w_law15_TsubTwice_17 := @wr_named T _ _ r_law15_TsubTwice_17.eq_1
attribute [go_sem] w_law15_TsubTwice_17
def a_l_law15_TsubTwice_0 := @aw_named T _ _ l_law15_TsubTwice_0.eq_1
attribute [go_sem] a_l_law15_TsubTwice_0
def w_law15_TsubTwice_18 := @wr_named T _ _ r_law15_TsubTwice_18.eq_1
attribute [go_sem] w_law15_TsubTwice_18
def w_law15_TsubTwice_19 := @wr_named T _ _ r_law15_TsubTwice_19.eq_1
attribute [go_sem] w_law15_TsubTwice_19
def w_law15_TsubTwice_20 := @wr_named T _ _ r_law15_TsubTwice_20.eq_1
attribute [go_sem] w_law15_TsubTwice_20
def w_law15_TsubTwice_21 := @wr_named T _ _ r_law15_TsubTwice_21.eq_1
attribute [go_sem] w_law15_TsubTwice_21
def w_law15_TsubTwice_22 := @wr_named T _ _ r_law15_TsubTwice_22.eq_1
attribute [go_sem] w_law15_TsubTwice_22
def w_law15_TsubTwice_23 := @wr_named T _ _ r_law15_TsubTwice_23.eq_1
attribute [go_sem] w_law15_TsubTwice_23
def a_law15_TsubTwice := @aw_named T _ _ c_law15_TsubTwice.eq_1
attribute [go_sem] a_law15_TsubTwice
theorem f_law15_TsubTwice (a0 a1 a2 : AV) (H : List AO) : F law15_TsubTwice [a0, a1, a2] H = aw T c_law15_TsubTwice (finF H [.t 6]) ⟨⟨118, [(0, .v a0), (1, .v a1), (2, .v a2)]⟩, [], H, []⟩ := fnF_code T_law15_TsubTwice (Nat.le_of_ble_eq_true rfl) H
noncomputable def L_law15_TsubTwice_0 (H h : List AO) (x7 x9 x10 x11 x12 : AV) (v8 : List AV) : Option RH := awL T [7, 8, 9, 10, 11, 12] [8] l_law15_TsubTwice_0 (blkF 0 (thn (aw T (.seq (.reg r_law15_TsubTwice_18) (.seq (.reg r_law15_TsubTwice_19) (.seq (.reg r_law15_TsubTwice_20) (.seq (.seq (.reg r_law15_TsubTwice_21) (.cond (.t 98) (.seq (.reg r_law15_TsubTwice_22) (.ret)) (.skip))) (.seq (.reg r_law15_TsubTwice_23) (.ret)))))) (finF H [.t 6])) (finF H [.t 6]))) ⟨⟨118, [(7, .v x7), (8, .lp 8 0), (9, .v x9), (10, .v x10), (11, .v x11), (12, .v x12)]⟩, [(8, v8)], h, []⟩
def g_law15_TsubTwice_0 (H h : List AO) (x7 x9 x10 x11 x12 : AV) (v8 : List AV) := (L_law15_TsubTwice_0.eq_1 H h x7 x9 x10 x11 x12 v8).symm
attribute [go_sem] g_law15_TsubTwice_0
theorem T_law15_TsubOpen : T law15_TsubOpen = some (.code c_law15_TsubOpen 103 [.t 6]) := by kernel_rfl
def w_law15_TsubOpen_0 := @wr_named T _ _ r_law15_TsubOpen_0.eq_1
attribute [go_sem] w_law15_TsubOpen_0
def w_law15_TsubOpen_1 := @wr_named T _ _ r_law15_TsubOpen_1.eq_1
attribute [go_sem] w_law15_TsubOpen_1
def w_law15_TsubOpen_2 := @wr_named T _ _ r_law15_TsubOpen_2.eq_1
attribute [go_sem] w_law15_TsubOpen_2
def w_law15_TsubOpen_3 := @wr_named T _ _ r_law15_TsubOpen_3.eq_1
attribute [go_sem] w_law15_TsubOpen_3
def w_law15_TsubOpen_4 := @wr_named T _ _ r_law15_TsubOpen_4.eq_1
attribute [go_sem] w_law15_TsubOpen_4
def w_law15_TsubOpen_5 := @wr_named T _ _ r_law15_TsubOpen_5.eq_1
attribute [go_sem] w_law15_TsubOpen_5
def w_law15_TsubOpen_6 := @wr_named T _ _ r_law15_TsubOpen_6.eq_1
attribute [go_sem] w_law15_TsubOpen_6
def w_law15_TsubOpen_7 := @wr_named T _ _ r_law15_TsubOpen_7.eq_1
attribute [go_sem] w_law15_TsubOpen_7
def w_law15_TsubOpen_8 := @wr_named T _ _ r_law15_TsubOpen_8.eq_1
attribute [go_sem] w_law15_TsubOpen_8
def w_law15_TsubOpen_9 := @wr_named T _ _ r_law15_TsubOpen_9.eq_1
attribute [go_sem] w_law15_TsubOpen_9
def w_law15_TsubOpen_10 := @wr_named T _ _ r_law15_TsubOpen_10.eq_1
attribute [go_sem] w_law15_TsubOpen_10
def w_law15_TsubOpen_11 := @wr_named T _ _ r_law15_TsubOpen_11.eq_1
attribute [go_sem] w_law15_TsubOpen_11
def w_law15_TsubOpen_12 := @wr_named T _ _ r_law15_TsubOpen_12.eq_1
attribute [go_sem] w_law15_TsubOpen_12
def w_law15_TsubOpen_13 := @wr_named T _ _ r_law15_TsubOpen_13.eq_1
attribute [go_sem] w_law15_TsubOpen_13
def w_law15_TsubOpen_14 := @wr_named T _ _ r_law15_TsubOpen_14.eq_1
attribute [go_sem] w_law15_TsubOpen_14
def w_law15_TsubOpen_15 := @wr_named T _ _ r_law15_TsubOpen_15.eq_1
attribute [go_sem] w_law15_TsubOpen_15
def a_law15_TsubOpen := @aw_named T _ _ c_law15_TsubOpen.eq_1
attribute [go_sem] a_law15_TsubOpen
theorem f_law15_TsubOpen (a0 a1 a2 : AV) (H : List AO) : F law15_TsubOpen [a0, a1, a2] H = aw T c_law15_TsubOpen (finF H [.t 6]) ⟨⟨103, [(0, .v a0), (1, .v a1), (2, .v a2)]⟩, [], H, []⟩ := fnF_code T_law15_TsubOpen (Nat.le_of_ble_eq_true rfl) H
theorem T_law05_awake : T law05_awake = some (.code c_law05_awake 66 [.t 0]) := by kernel_rfl
def w_law05_awake_0 := @wr_named T _ _ r_law05_awake_0.eq_1
attribute [go_sem] w_law05_awake_0
def w_law05_awake_1 := @wr_named T _ _ r_law05_awake_1.eq_1
attribute [go_sem] w_law05_awake_1
def w_law05_awake_2 := @wr_named T _ _ r_law05_awake_2.eq_1
attribute [go_sem] w_law05_awake_2
def w_law05_awake_3 := @wr_named T _ _ r_law05_awake_3.eq_1
attribute [go_sem] w_law05_awake_3
def w_law05_awake_4 := @wr_named T _ _ r_law05_awake_4.eq_1
attribute [go_sem] w_law05_awake_4
def w_law05_awake_5 := @wr_named T _ _ r_law05_awake_5.eq_1
attribute [go_sem] w_law05_awake_5
def w_law05_awake_6 := @wr_named T _ _ r_law05_awake_6.eq_1
attribute [go_sem] w_law05_awake_6
def w_law05_awake_7 := @wr_named T _ _ r_law05_awake_7.eq_1
attribute [go_sem] w_law05_awake_7
def w_law05_awake_8 := @wr_named T _ _ r_law05_awake_8.eq_1
attribute [go_sem] w_law05_awake_8
def a_law05_awake := @aw_named T _ _ c_law05_awake.eq_1
attribute [go_sem] a_law05_awake
theorem f_law05_awake (H : List AO) : F law05_awake [] H = aw T c_law05_awake (finF H [.t 0]) ⟨⟨66, []⟩, [], H, []⟩ := fnF_code T_law05_awake (Nat.le_of_ble_eq_true rfl) H
theorem T_law05_same : T law05_same = some (.code c_law05_same 47 [.t 6]) := by kernel_rfl
def w_law05_same_0 := @wr_named T _ _ r_law05_same_0.eq_1
attribute [go_sem] w_law05_same_0
def w_law05_same_1 := @wr_named T _ _ r_law05_same_1.eq_1
attribute [go_sem] w_law05_same_1
def w_law05_same_2 := @wr_named T _ _ r_law05_same_2.eq_1
attribute [go_sem] w_law05_same_2
def w_law05_same_3 := @wd_named T _ _ r_law05_same_3.eq_1
attribute [go_sem] w_law05_same_3
def a_law05_same := @aw_named T _ _ c_law05_same.eq_1
attribute [go_sem] a_law05_same
theorem f_law05_same (a0 a1 a2 : AV) (H : List AO) : F law05_same [a0, a1, a2] H = aw T c_law05_same (finF H [.t 6]) ⟨⟨47, [(0, .v a0), (1, .v a1), (2, .v a2)]⟩, [], H, []⟩ := fnF_code T_law05_same (Nat.le_of_ble_eq_true rfl) H
theorem T_law02_Made : T law02_Made = some (.code c_law02_Made 15 [.c 3 true 6]) := by kernel_rfl
def w_law02_Made_0 := @wr_named T _ _ r_law02_Made_0.eq_1
attribute [go_sem] w_law02_Made_0
def w_law02_Made_1 := @wr_named T _ _ r_law02_Made_1.eq_1
attribute [go_sem] w_law02_Made_1
def w_law02_Made_2 := @wr_named T _ _ r_law02_Made_2.eq_1
attribute [go_sem] w_law02_Made_2
def a_law02_Made := @aw_named T _ _ c_law02_Made.eq_1
attribute [go_sem] a_law02_Made
theorem f_law02_Made (a0 a1 a2 : AV) (H : List AO) : F law02_Made [a0, a1, a2] H = aw T c_law02_Made (finF H [.c 3 true 6]) ⟨⟨15, [(0, .v a0), (1, .v a1), (2, .v a2)]⟩, [], H, []⟩ := fnF_code T_law02_Made (Nat.le_of_ble_eq_true rfl) H
theorem T_law05_Levels : T law05_Levels = some (.code c_law05_Levels 27 [.t 4]) := by kernel_rfl
def w_law05_Levels_0 := @wr_named T _ _ r_law05_Levels_0.eq_1
attribute [go_sem] w_law05_Levels_0
def w_law05_Levels_1 := @wr_named T _ _ r_law05_Levels_1.eq_1
attribute [go_sem] w_law05_Levels_1
def w_law05_Levels_2 := @wr_named T _ _ r_law05_Levels_2.eq_1
attribute [go_sem] w_law05_Levels_2
def w_law05_Levels_3 := @wr_named T _ _ r_law05_Levels_3.eq_1
attribute [go_sem] w_law05_Levels_3
def w_law05_Levels_4 := @wr_named T _ _ r_law05_Levels_4.eq_1
attribute [go_sem] w_law05_Levels_4
def w_law05_Levels_5 := @wr_named T _ _ r_law05_Levels_5.eq_1
attribute [go_sem] w_law05_Levels_5
def a_l_law05_Levels_0 := @aw_named T _ _ l_law05_Levels_0.eq_1
attribute [go_sem] a_l_law05_Levels_0
def w_law05_Levels_6 := @wr_named T _ _ r_law05_Levels_6.eq_1
attribute [go_sem] w_law05_Levels_6
def a_law05_Levels := @aw_named T _ _ c_law05_Levels.eq_1
attribute [go_sem] a_law05_Levels
theorem f_law05_Levels (a0 a1 : AV) (H : List AO) : F law05_Levels [a0, a1] H = aw T c_law05_Levels (finF H [.t 4]) ⟨⟨27, [(0, .v a0), (1, .v a1)]⟩, [], H, []⟩ := fnF_code T_law05_Levels (Nat.le_of_ble_eq_true rfl) H
noncomputable def L_law05_Levels_0 (H h : List AO) (x0 x1 x5 x6 : AV) : Option RH := awL T [0, 1, 5, 6] [] l_law05_Levels_0 (blkF 0 (thn (aw T (.seq (.reg r_law05_Levels_6) (.ret)) (finF H [.t 4])) (finF H [.t 4]))) ⟨⟨27, [(0, .v x0), (1, .v x1), (5, .v x5), (6, .v x6)]⟩, [], h, []⟩
def g_law05_Levels_0 (H h : List AO) (x0 x1 x5 x6 : AV) := (L_law05_Levels_0.eq_1 H h x0 x1 x5 x6).symm
attribute [go_sem] g_law05_Levels_0
theorem T_lsub_Sub : T lsub_Sub = some (.code c_lsub_Sub 36 [.c 3 true 6, .t 7]) := by kernel_rfl
def w_lsub_Sub_0 := @wr_named T _ _ r_lsub_Sub_0.eq_1
attribute [go_sem] w_lsub_Sub_0
def w_lsub_Sub_1 := @wr_named T _ _ r_lsub_Sub_1.eq_1
attribute [go_sem] w_lsub_Sub_1
def w_lsub_Sub_2 := @wr_named T _ _ r_lsub_Sub_2.eq_1
attribute [go_sem] w_lsub_Sub_2
def w_lsub_Sub_3 := @wr_named T _ _ r_lsub_Sub_3.eq_1
attribute [go_sem] w_lsub_Sub_3
def w_lsub_Sub_4 := @wr_named T _ _ r_lsub_Sub_4.eq_1
attribute [go_sem] w_lsub_Sub_4
def w_lsub_Sub_5 := @wr_named T _ _ r_lsub_Sub_5.eq_1
attribute [go_sem] w_lsub_Sub_5
def w_lsub_Sub_6 := @wr_named T _ _ r_lsub_Sub_6.eq_1
attribute [go_sem] w_lsub_Sub_6
def a_lsub_Sub := @aw_named T _ _ c_lsub_Sub.eq_1
attribute [go_sem] a_lsub_Sub
theorem f_lsub_Sub (a0 a1 a2 : AV) (H : List AO) : F lsub_Sub [a0, a1, a2] H = aw T c_lsub_Sub (finF H [.c 3 true 6, .t 7]) ⟨⟨36, [(0, .v a0), (1, .v a1), (2, .v a2)]⟩, [], H, []⟩ := fnF_code T_lsub_Sub (Nat.le_of_ble_eq_true rfl) H
theorem T_law02_Values : T law02_Values = some (.code c_law02_Values 30 [.t 4]) := by kernel_rfl
def w_law02_Values_0 := @wr_named T _ _ r_law02_Values_0.eq_1
attribute [go_sem] w_law02_Values_0
def w_law02_Values_1 := @wr_named T _ _ r_law02_Values_1.eq_1
attribute [go_sem] w_law02_Values_1
def w_law02_Values_2 := @wr_named T _ _ r_law02_Values_2.eq_1
attribute [go_sem] w_law02_Values_2
def w_law02_Values_3 := @wr_named T _ _ r_law02_Values_3.eq_1
attribute [go_sem] w_law02_Values_3
def w_law02_Values_4 := @wr_named T _ _ r_law02_Values_4.eq_1
attribute [go_sem] w_law02_Values_4
def w_law02_Values_5 := @wr_named T _ _ r_law02_Values_5.eq_1
attribute [go_sem] w_law02_Values_5
def a_l_law02_Values_0 := @aw_named T _ _ l_law02_Values_0.eq_1
attribute [go_sem] a_l_law02_Values_0
def w_law02_Values_6 := @wr_named T _ _ r_law02_Values_6.eq_1
attribute [go_sem] w_law02_Values_6
def a_law02_Values := @aw_named T _ _ c_law02_Values.eq_1
attribute [go_sem] a_law02_Values
theorem f_law02_Values (a0 a1 : AV) (H : List AO) : F law02_Values [a0, a1] H = aw T c_law02_Values (finF H [.t 4]) ⟨⟨30, [(0, .v a0), (1, .v a1)]⟩, [], H, []⟩ := fnF_code T_law02_Values (Nat.le_of_ble_eq_true rfl) H
noncomputable def L_law02_Values_0 (H h : List AO) (x0 x1 x5 x6 : AV) : Option RH := awL T [0, 1, 5, 6] [] l_law02_Values_0 (blkF 0 (thn (aw T (.seq (.reg r_law02_Values_6) (.ret)) (finF H [.t 4])) (finF H [.t 4]))) ⟨⟨30, [(0, .v x0), (1, .v x1), (5, .v x5), (6, .v x6)]⟩, [], h, []⟩
def g_law02_Values_0 (H h : List AO) (x0 x1 x5 x6 : AV) := (L_law02_Values_0.eq_1 H h x0 x1 x5 x6).symm
attribute [go_sem] g_law02_Values_0
theorem T_ref02_Eval : T ref02_Eval = some (.code c_ref02_Eval 29 [.t 6, .t 7]) := by kernel_rfl
def w_ref02_Eval_0 := @wr_named T _ _ r_ref02_Eval_0.eq_1
attribute [go_sem] w_ref02_Eval_0
def w_ref02_Eval_1 := @wr_named T _ _ r_ref02_Eval_1.eq_1
attribute [go_sem] w_ref02_Eval_1
def w_ref02_Eval_2 := @wr_named T _ _ r_ref02_Eval_2.eq_1
attribute [go_sem] w_ref02_Eval_2
def w_ref02_Eval_3 := @wr_named T _ _ r_ref02_Eval_3.eq_1
attribute [go_sem] w_ref02_Eval_3
def a_ref02_Eval := @aw_named T _ _ c_ref02_Eval.eq_1
attribute [go_sem] a_ref02_Eval
theorem f_ref02_Eval (a0 a1 a2 : AV) (H : List AO) : F ref02_Eval [a0, a1, a2] H = aw T c_ref02_Eval (finF H [.t 6, .t 7]) ⟨⟨29, [(0, .v a0), (1, .v a1), (2, .v a2)]⟩, [], H, []⟩ := fnF_code T_ref02_Eval (Nat.le_of_ble_eq_true rfl) H
theorem T_lsub_Params : T lsub_Params = some (.code c_lsub_Params 6 [.t 2]) := by kernel_rfl
def w_lsub_Params_0 := @wr_named T _ _ r_lsub_Params_0.eq_1
attribute [go_sem] w_lsub_Params_0
def w_lsub_Params_1 := @wr_named T _ _ r_lsub_Params_1.eq_1
attribute [go_sem] w_lsub_Params_1
def a_lsub_Params := @aw_named T _ _ c_lsub_Params.eq_1
attribute [go_sem] a_lsub_Params
theorem f_lsub_Params (a0 : AV) (H : List AO) : F lsub_Params [a0] H = aw T c_lsub_Params (finF H [.t 2]) ⟨⟨6, [(0, .v a0)]⟩, [], H, []⟩ := fnF_code T_lsub_Params (Nat.le_of_ble_eq_true rfl) H
theorem T_ref02_Same : T ref02_Same = some (.code c_ref02_Same 46 [.t 4]) := by kernel_rfl
def w_ref02_Same_0 := @wr_named T _ _ r_ref02_Same_0.eq_1
attribute [go_sem] w_ref02_Same_0
def w_ref02_Same_1 := @wr_named T _ _ r_ref02_Same_1.eq_1
attribute [go_sem] w_ref02_Same_1
def w_ref02_Same_2 := @wr_named T _ _ r_ref02_Same_2.eq_1
attribute [go_sem] w_ref02_Same_2
def w_ref02_Same_3 := @wr_named T _ _ r_ref02_Same_3.eq_1
attribute [go_sem] w_ref02_Same_3
def w_ref02_Same_4 := @wr_named T _ _ r_ref02_Same_4.eq_1
attribute [go_sem] w_ref02_Same_4
def w_ref02_Same_5 := @wd_named T _ _ r_ref02_Same_5.eq_1
attribute [go_sem] w_ref02_Same_5
def w_ref02_Same_6 := @wr_named T _ _ r_ref02_Same_6.eq_1
attribute [go_sem] w_ref02_Same_6
def w_ref02_Same_7 := @wr_named T _ _ r_ref02_Same_7.eq_1
attribute [go_sem] w_ref02_Same_7
def a_l_ref02_Same_0 := @aw_named T _ _ l_ref02_Same_0.eq_1
attribute [go_sem] a_l_ref02_Same_0
def w_ref02_Same_8 := @wr_named T _ _ r_ref02_Same_8.eq_1
attribute [go_sem] w_ref02_Same_8
def a_ref02_Same := @aw_named T _ _ c_ref02_Same.eq_1
attribute [go_sem] a_ref02_Same
theorem f_ref02_Same (a0 a1 : AV) (H : List AO) : F ref02_Same [a0, a1] H = aw T c_ref02_Same (finF H [.t 4]) ⟨⟨46, [(0, .v a0), (1, .v a1)]⟩, [], H, []⟩ := fnF_code T_ref02_Same (Nat.le_of_ble_eq_true rfl) H
noncomputable def L_ref02_Same_0 (H h : List AO) (x5 : AV) (v2 v3 : List AV) : Option RH := awL T [2, 3, 5] [2, 3] l_ref02_Same_0 (blkF 0 (thn (aw T (.seq (.reg r_ref02_Same_8) (.ret)) (finF H [.t 4])) (finF H [.t 4]))) ⟨⟨46, [(2, .lp 2 0), (3, .lp 3 0), (5, .v x5)]⟩, [(2, v2), (3, v3)], h, []⟩
def g_ref02_Same_0 (H h : List AO) (x5 : AV) (v2 v3 : List AV) := (L_ref02_Same_0.eq_1 H h x5 v2 v3).symm
attribute [go_sem] g_ref02_Same_0
theorem T_law05_ints : T law05_ints = some (.code c_law05_ints 26 [.t 4]) := by kernel_rfl
def w_law05_ints_0 := @wr_named T _ _ r_law05_ints_0.eq_1
attribute [go_sem] w_law05_ints_0
def w_law05_ints_1 := @wr_named T _ _ r_law05_ints_1.eq_1
attribute [go_sem] w_law05_ints_1
def w_law05_ints_2 := @wr_named T _ _ r_law05_ints_2.eq_1
attribute [go_sem] w_law05_ints_2
def w_law05_ints_3 := @wr_named T _ _ r_law05_ints_3.eq_1
attribute [go_sem] w_law05_ints_3
def w_law05_ints_4 := @wr_named T _ _ r_law05_ints_4.eq_1
attribute [go_sem] w_law05_ints_4
def w_law05_ints_5 := @wd_named T _ _ r_law05_ints_5.eq_1
attribute [go_sem] w_law05_ints_5
def w_law05_ints_6 := @wr_named T _ _ r_law05_ints_6.eq_1
attribute [go_sem] w_law05_ints_6
def w_law05_ints_7 := @wr_named T _ _ r_law05_ints_7.eq_1
attribute [go_sem] w_law05_ints_7
def a_l_law05_ints_0 := @aw_named T _ _ l_law05_ints_0.eq_1
attribute [go_sem] a_l_law05_ints_0
def w_law05_ints_8 := @wr_named T _ _ r_law05_ints_8.eq_1
attribute [go_sem] w_law05_ints_8
def a_law05_ints := @aw_named T _ _ c_law05_ints.eq_1
attribute [go_sem] a_law05_ints
theorem f_law05_ints (a0 a1 : AV) (H : List AO) : F law05_ints [a0, a1] H = aw T c_law05_ints (finF H [.t 4]) ⟨⟨26, [(0, .v a0), (1, .v a1)]⟩, [], H, []⟩ := fnF_code T_law05_ints (Nat.le_of_ble_eq_true rfl) H
noncomputable def L_law05_ints_0 (H h : List AO) (x0 x1 x5 : AV) : Option RH := awL T [0, 1, 5] [] l_law05_ints_0 (blkF 0 (thn (aw T (.seq (.reg r_law05_ints_8) (.ret)) (finF H [.t 4])) (finF H [.t 4]))) ⟨⟨26, [(0, .v x0), (1, .v x1), (5, .v x5)]⟩, [], h, []⟩
def g_law05_ints_0 (H h : List AO) (x0 x1 x5 : AV) := (L_law05_ints_0.eq_1 H h x0 x1 x5).symm
attribute [go_sem] g_law05_ints_0
theorem T_lsub_Metas : T lsub_Metas = some (.code c_lsub_Metas 6 [.t 2]) := by kernel_rfl
def w_lsub_Metas_0 := @wr_named T _ _ r_lsub_Metas_0.eq_1
attribute [go_sem] w_lsub_Metas_0
def w_lsub_Metas_1 := @wr_named T _ _ r_lsub_Metas_1.eq_1
attribute [go_sem] w_lsub_Metas_1
def a_lsub_Metas := @aw_named T _ _ c_lsub_Metas.eq_1
attribute [go_sem] a_lsub_Metas
theorem f_lsub_Metas (a0 : AV) (H : List AO) : F lsub_Metas [a0] H = aw T c_lsub_Metas (finF H [.t 2]) ⟨⟨6, [(0, .v a0)]⟩, [], H, []⟩ := fnF_code T_lsub_Metas (Nat.le_of_ble_eq_true rfl) H
theorem T_law13_awake : T law13_awake = some (.code c_law13_awake 87 [.t 0]) := by kernel_rfl
def w_law13_awake_0 := @wr_named T _ _ r_law13_awake_0.eq_1
attribute [go_sem] w_law13_awake_0
def w_law13_awake_1 := @wr_named T _ _ r_law13_awake_1.eq_1
attribute [go_sem] w_law13_awake_1
def w_law13_awake_2 := @wr_named T _ _ r_law13_awake_2.eq_1
attribute [go_sem] w_law13_awake_2
def w_law13_awake_3 := @wr_named T _ _ r_law13_awake_3.eq_1
attribute [go_sem] w_law13_awake_3
def w_law13_awake_4 := @wr_named T _ _ r_law13_awake_4.eq_1
attribute [go_sem] w_law13_awake_4
def w_law13_awake_5 := @wr_named T _ _ r_law13_awake_5.eq_1
attribute [go_sem] w_law13_awake_5
def w_law13_awake_6 := @wd_named T _ _ r_law13_awake_6.eq_1
attribute [go_sem] w_law13_awake_6
def a_law13_awake := @aw_named T _ _ c_law13_awake.eq_1
attribute [go_sem] a_law13_awake
theorem f_law13_awake (H : List AO) : F law13_awake [] H = aw T c_law13_awake (finF H [.t 0]) ⟨⟨87, []⟩, [], H, []⟩ := fnF_code T_law13_awake (Nat.le_of_ble_eq_true rfl) H
theorem T_law13_Few : T law13_Few = some (.code c_law13_Few 48 [.t 4]) := by kernel_rfl
def w_law13_Few_0 := @wr_named T _ _ r_law13_Few_0.eq_1
attribute [go_sem] w_law13_Few_0
def w_law13_Few_1 := @wr_named T _ _ r_law13_Few_1.eq_1
attribute [go_sem] w_law13_Few_1
def w_law13_Few_2 := @wr_named T _ _ r_law13_Few_2.eq_1
attribute [go_sem] w_law13_Few_2
def w_law13_Few_3 := @wr_named T _ _ r_law13_Few_3.eq_1
attribute [go_sem] w_law13_Few_3
def w_law13_Few_4 := @wr_named T _ _ r_law13_Few_4.eq_1
attribute [go_sem] w_law13_Few_4
def w_law13_Few_5 := @wr_named T _ _ r_law13_Few_5.eq_1
attribute [go_sem] w_law13_Few_5
def a_l_law13_Few_0 := @aw_named T _ _ l_law13_Few_0.eq_1
attribute [go_sem] a_l_law13_Few_0
def w_law13_Few_6 := @wr_named T _ _ r_law13_Few_6.eq_1
attribute [go_sem] w_law13_Few_6
def w_law13_Few_7 := @wr_named T _ _ r_law13_Few_7.eq_1
attribute [go_sem] w_law13_Few_7
def w_law13_Few_8 := @wr_named T _ _ r_law13_Few_8.eq_1
attribute [go_sem] w_law13_Few_8
def w_law13_Few_9 := @wr_named T _ _ r_law13_Few_9.eq_1
attribute [go_sem] w_law13_Few_9
def a_l_law13_Few_1 := @aw_named T _ _ l_law13_Few_1.eq_1
attribute [go_sem] a_l_law13_Few_1
def w_law13_Few_10 := @wr_named T _ _ r_law13_Few_10.eq_1
attribute [go_sem] w_law13_Few_10
def a_law13_Few := @aw_named T _ _ c_law13_Few.eq_1
attribute [go_sem] a_law13_Few
theorem f_law13_Few (a0 a1 : AV) (H : List AO) : F law13_Few [a0, a1] H = aw T c_law13_Few (finF H [.t 4]) ⟨⟨48, [(0, .v a0), (1, .v a1)]⟩, [], H, []⟩ := fnF_code T_law13_Few (Nat.le_of_ble_eq_true rfl) H
noncomputable def L_law13_Few_0 (H h : List AO) (x1 x5 : AV) (v2 : List AV) : Option RH := awL T [1, 2, 5] [2] l_law13_Few_0 (blkF 0 (thn (aw T (.seq (.seq (.reg r_law13_Few_6) (.block 2 (.loop [1, 2, 6] [2] l_law13_Few_1))) (.seq (.reg r_law13_Few_10) (.ret))) (finF H [.t 4])) (finF H [.t 4]))) ⟨⟨48, [(1, .v x1), (2, .lp 2 0), (5, .v x5)]⟩, [(2, v2)], h, []⟩
def g_law13_Few_0 (H h : List AO) (x1 x5 : AV) (v2 : List AV) := (L_law13_Few_0.eq_1 H h x1 x5 v2).symm
attribute [go_sem] g_law13_Few_0
noncomputable def L_law13_Few_1 (H h : List AO) (x1 x6 : AV) (v2 : List AV) : Option RH := awL T [1, 2, 6] [2] l_law13_Few_1 (blkF 2 (thn (aw T (.seq (.reg r_law13_Few_10) (.ret)) (finF H [.t 4])) (finF H [.t 4]))) ⟨⟨48, [(1, .v x1), (2, .lp 2 0), (6, .v x6)]⟩, [(2, v2)], h, []⟩
def g_law13_Few_1 (H h : List AO) (x1 x6 : AV) (v2 : List AV) := (L_law13_Few_1.eq_1 H h x1 x6 v2).symm
attribute [go_sem] g_law13_Few_1
theorem T_law13_told : T law13_told = some (.code c_law13_told 104 [.t 8]) := by kernel_rfl
def w_law13_told_0 := @wr_named T _ _ r_law13_told_0.eq_1
attribute [go_sem] w_law13_told_0
def w_law13_told_1 := @wr_named T _ _ r_law13_told_1.eq_1
attribute [go_sem] w_law13_told_1
def w_law13_told_2 := @wr_named T _ _ r_law13_told_2.eq_1
attribute [go_sem] w_law13_told_2
def w_law13_told_3 := @wr_named T _ _ r_law13_told_3.eq_1
attribute [go_sem] w_law13_told_3
def w_law13_told_4 := @wr_named T _ _ r_law13_told_4.eq_1
attribute [go_sem] w_law13_told_4
def w_law13_told_5 := @wd_named T _ _ r_law13_told_5.eq_1
attribute [go_sem] w_law13_told_5
def w_law13_told_6 := @wr_named T _ _ r_law13_told_6.eq_1
attribute [go_sem] w_law13_told_6
def w_law13_told_7 := @wd_named T _ _ r_law13_told_7.eq_1
attribute [go_sem] w_law13_told_7
def a_law13_told := @aw_named T _ _ c_law13_told.eq_1
attribute [go_sem] a_law13_told
theorem f_law13_told (a0 a1 a2 a3 : AV) (H : List AO) : F law13_told [a0, a1, a2, a3] H = aw T c_law13_told (finF H [.t 8]) ⟨⟨104, [(0, .v a0), (1, .v a1), (2, .v a2), (3, .v a3)]⟩, [], H, []⟩ := fnF_code T_law13_told (Nat.le_of_ble_eq_true rfl) H
theorem T_law13_Made : T law13_Made = some (.code c_law13_Made 7 [.c 4 true 2]) := by kernel_rfl
def w_law13_Made_0 := @wr_named T _ _ r_law13_Made_0.eq_1
attribute [go_sem] w_law13_Made_0
def w_law13_Made_1 := @wr_named T _ _ r_law13_Made_1.eq_1
attribute [go_sem] w_law13_Made_1
def a_law13_Made := @aw_named T _ _ c_law13_Made.eq_1
attribute [go_sem] a_law13_Made
theorem f_law13_Made (a0 : AV) (H : List AO) : F law13_Made [a0] H = aw T c_law13_Made (finF H [.c 4 true 2]) ⟨⟨7, [(0, .v a0)]⟩, [], H, []⟩ := fnF_code T_law13_Made (Nat.le_of_ble_eq_true rfl) H
theorem T_law13_Bind : T law13_Bind = some (.code c_law13_Bind 8 [.c 4 true 4]) := by kernel_rfl
def w_law13_Bind_0 := @wr_named T _ _ r_law13_Bind_0.eq_1
attribute [go_sem] w_law13_Bind_0
def w_law13_Bind_1 := @wr_named T _ _ r_law13_Bind_1.eq_1
attribute [go_sem] w_law13_Bind_1
def a_law13_Bind := @aw_named T _ _ c_law13_Bind.eq_1
attribute [go_sem] a_law13_Bind
theorem f_law13_Bind (a0 a1 : AV) (H : List AO) : F law13_Bind [a0, a1] H = aw T c_law13_Bind (finF H [.c 4 true 4]) ⟨⟨8, [(0, .v a0), (1, .v a1)]⟩, [], H, []⟩ := fnF_code T_law13_Bind (Nat.le_of_ble_eq_true rfl) H
theorem T_law13_Var : T law13_Var = some (.code c_law13_Var 5 [.c 4 true 2]) := by kernel_rfl
def w_law13_Var_0 := @wr_named T _ _ r_law13_Var_0.eq_1
attribute [go_sem] w_law13_Var_0
def w_law13_Var_1 := @wr_named T _ _ r_law13_Var_1.eq_1
attribute [go_sem] w_law13_Var_1
def a_law13_Var := @aw_named T _ _ c_law13_Var.eq_1
attribute [go_sem] a_law13_Var
theorem f_law13_Var (a0 : AV) (H : List AO) : F law13_Var [a0] H = aw T c_law13_Var (finF H [.c 4 true 2]) ⟨⟨5, [(0, .v a0)]⟩, [], H, []⟩ := fnF_code T_law13_Var (Nat.le_of_ble_eq_true rfl) H
theorem T_term_Lift : T term_Lift = some (.code c_term_Lift 36 [.c 4 true 6, .t 7]) := by kernel_rfl
def w_term_Lift_0 := @wr_named T _ _ r_term_Lift_0.eq_1
attribute [go_sem] w_term_Lift_0
def w_term_Lift_1 := @wd_named T _ _ r_term_Lift_1.eq_1
attribute [go_sem] w_term_Lift_1
def w_term_Lift_2 := @wr_named T _ _ r_term_Lift_2.eq_1
attribute [go_sem] w_term_Lift_2
def w_term_Lift_3 := @wr_named T _ _ r_term_Lift_3.eq_1
attribute [go_sem] w_term_Lift_3
def a_term_Lift := @aw_named T _ _ c_term_Lift.eq_1
attribute [go_sem] a_term_Lift
theorem f_term_Lift (a0 a1 a2 : AV) (H : List AO) : F term_Lift [a0, a1, a2] H = aw T c_term_Lift (finF H [.c 4 true 6, .t 7]) ⟨⟨36, [(0, .v a0), (1, .v a1), (2, .v a2)]⟩, [], H, []⟩ := fnF_code T_term_Lift (Nat.le_of_ble_eq_true rfl) H
theorem T_term_Open : T term_Open = some (.code c_term_Open 23 [.c 4 true 4, .t 5]) := by kernel_rfl
def w_term_Open_0 := @wr_named T _ _ r_term_Open_0.eq_1
attribute [go_sem] w_term_Open_0
def w_term_Open_1 := @wd_named T _ _ r_term_Open_1.eq_1
attribute [go_sem] w_term_Open_1
def w_term_Open_2 := @wr_named T _ _ r_term_Open_2.eq_1
attribute [go_sem] w_term_Open_2
def w_term_Open_3 := @wr_named T _ _ r_term_Open_3.eq_1
attribute [go_sem] w_term_Open_3
def a_term_Open := @aw_named T _ _ c_term_Open.eq_1
attribute [go_sem] a_term_Open
theorem f_term_Open (a0 a1 : AV) (H : List AO) : F term_Open [a0, a1] H = aw T c_term_Open (finF H [.c 4 true 4, .t 5]) ⟨⟨23, [(0, .v a0), (1, .v a1)]⟩, [], H, []⟩ := fnF_code T_term_Open (Nat.le_of_ble_eq_true rfl) H
theorem T_term_Same : T term_Same = some (.code c_term_Same 31 [.t 4]) := by kernel_rfl
def w_term_Same_0 := @wr_named T _ _ r_term_Same_0.eq_1
attribute [go_sem] w_term_Same_0
def w_term_Same_1 := @wr_named T _ _ r_term_Same_1.eq_1
attribute [go_sem] w_term_Same_1
def a_term_Same := @aw_named T _ _ c_term_Same.eq_1
attribute [go_sem] a_term_Same
theorem f_term_Same (a0 a1 : AV) (H : List AO) : F term_Same [a0, a1] H = aw T c_term_Same (finF H [.t 4]) ⟨⟨31, [(0, .v a0), (1, .v a1)]⟩, [], H, []⟩ := fnF_code T_term_Same (Nat.le_of_ble_eq_true rfl) H
theorem T_law13_Term : T law13_Term = some (.code c_law13_Term 118 [.c 4 true 6]) := by kernel_rfl
def w_law13_Term_0 := @wr_named T _ _ r_law13_Term_0.eq_1
attribute [go_sem] w_law13_Term_0
def w_law13_Term_1 := @wr_named T _ _ r_law13_Term_1.eq_1
attribute [go_sem] w_law13_Term_1
def w_law13_Term_2 := @wr_named T _ _ r_law13_Term_2.eq_1
attribute [go_sem] w_law13_Term_2
def w_law13_Term_3 := @wr_named T _ _ r_law13_Term_3.eq_1
attribute [go_sem] w_law13_Term_3
def w_law13_Term_4 := @wr_named T _ _ r_law13_Term_4.eq_1
attribute [go_sem] w_law13_Term_4
def w_law13_Term_5 := @wr_named T _ _ r_law13_Term_5.eq_1
attribute [go_sem] w_law13_Term_5
def w_law13_Term_6 := @wr_named T _ _ r_law13_Term_6.eq_1
attribute [go_sem] w_law13_Term_6
def w_law13_Term_7 := @wr_named T _ _ r_law13_Term_7.eq_1
attribute [go_sem] w_law13_Term_7
def w_law13_Term_8 := @wr_named T _ _ r_law13_Term_8.eq_1
attribute [go_sem] w_law13_Term_8
def w_law13_Term_9 := @wr_named T _ _ r_law13_Term_9.eq_1
attribute [go_sem] w_law13_Term_9
def w_law13_Term_10 := @wr_named T _ _ r_law13_Term_10.eq_1
attribute [go_sem] w_law13_Term_10
def w_law13_Term_11 := @wr_named T _ _ r_law13_Term_11.eq_1
attribute [go_sem] w_law13_Term_11
def w_law13_Term_12 := @wd_named T _ _ r_law13_Term_12.eq_1
attribute [go_sem] w_law13_Term_12
def w_law13_Term_13 := @wr_named T _ _ r_law13_Term_13.eq_1
attribute [go_sem] w_law13_Term_13
def a_l_law13_Term_0 := @aw_named T _ _ l_law13_Term_0.eq_1
attribute [go_sem] a_l_law13_Term_0
def w_law13_Term_14 := @wr_named T _ _ r_law13_Term_14.eq_1
attribute [go_sem] w_law13_Term_14
def w_law13_Term_15 := @wr_named T _ _ r_law13_Term_15.eq_1
attribute [go_sem] w_law13_Term_15
def w_law13_Term_16 := @wr_named T _ _ r_law13_Term_16.eq_1
attribute [go_sem] w_law13_Term_16
def w_law13_Term_17 := @wr_named T _ _ r_law13_Term_17.eq_1
attribute [go_sem] w_law13_Term_17
def w_law13_Term_18 := @wr_named T _ _ r_law13_Term_18.eq_1
attribute [go_sem] w_law13_Term_18
def w_law13_Term_19 := @wr_named T _ _ r_law13_Term_19.eq_1
attribute [go_sem] w_law13_Term_19
def w_law13_Term_20 := @wr_named T _ _ r_law13_Term_20.eq_1
attribute [go_sem] w_law13_Term_20
def w_law13_Term_21 := @wr_named T _ _ r_law13_Term_21.eq_1
attribute [go_sem] w_law13_Term_21
def a_law13_Term := @aw_named T _ _ c_law13_Term.eq_1
attribute [go_sem] a_law13_Term
theorem f_law13_Term (a0 a1 a2 : AV) (H : List AO) : F law13_Term [a0, a1, a2] H = aw T c_law13_Term (finF H [.c 4 true 6]) ⟨⟨118, [(0, .v a0), (1, .v a1), (2, .v a2)]⟩, [], H, []⟩ := fnF_code T_law13_Term (Nat.le_of_ble_eq_true rfl) H
noncomputable def L_law13_Term_0 (H h : List AO) (x0 x9 : AV) (v6 v8 : List AV) : Option RH := awL T [0, 6, 8, 9] [6, 8] l_law13_Term_0 (blkF 1 (thn (aw T (.seq (.reg r_law13_Term_14) (.ret)) (blkF 0 (thn (aw T (.seq (.reg r_law13_Term_21) (.ret)) (finF H [.c 4 true 6])) (finF H [.c 4 true 6])))) (blkF 0 (thn (aw T (.seq (.reg r_law13_Term_21) (.ret)) (finF H [.c 4 true 6])) (finF H [.c 4 true 6]))))) ⟨⟨118, [(0, .v x0), (6, .lp 6 0), (8, .lp 8 0), (9, .v x9)]⟩, [(6, v6), (8, v8)], h, []⟩
def g_law13_Term_0 (H h : List AO) (x0 x9 : AV) (v6 v8 : List AV) := (L_law13_Term_0.eq_1 H h x0 x9 v6 v8).symm
attribute [go_sem] g_law13_Term_0
theorem T_law13_Sort : T law13_Sort = some (.code c_law13_Sort 6 [.c 4 true 2]) := by kernel_rfl
def w_law13_Sort_0 := @wr_named T _ _ r_law13_Sort_0.eq_1
attribute [go_sem] w_law13_Sort_0
def w_law13_Sort_1 := @wr_named T _ _ r_law13_Sort_1.eq_1
attribute [go_sem] w_law13_Sort_1
def a_law13_Sort := @aw_named T _ _ c_law13_Sort.eq_1
attribute [go_sem] a_law13_Sort
theorem f_law13_Sort (a0 : AV) (H : List AO) : F law13_Sort [a0] H = aw T c_law13_Sort (finF H [.c 4 true 2]) ⟨⟨6, [(0, .v a0)]⟩, [], H, []⟩ := fnF_code T_law13_Sort (Nat.le_of_ble_eq_true rfl) H
theorem T_law15_awake : T law15_awake = some (.code c_law15_awake 59 [.t 0]) := by kernel_rfl
def w_law15_awake_0 := @wr_named T _ _ r_law15_awake_0.eq_1
attribute [go_sem] w_law15_awake_0
def w_law15_awake_1 := @wr_named T _ _ r_law15_awake_1.eq_1
attribute [go_sem] w_law15_awake_1
def w_law15_awake_2 := @wr_named T _ _ r_law15_awake_2.eq_1
attribute [go_sem] w_law15_awake_2
def w_law15_awake_3 := @wr_named T _ _ r_law15_awake_3.eq_1
attribute [go_sem] w_law15_awake_3
def w_law15_awake_4 := @wr_named T _ _ r_law15_awake_4.eq_1
attribute [go_sem] w_law15_awake_4
def w_law15_awake_5 := @wr_named T _ _ r_law15_awake_5.eq_1
attribute [go_sem] w_law15_awake_5
def w_law15_awake_6 := @wd_named T _ _ r_law15_awake_6.eq_1
attribute [go_sem] w_law15_awake_6
def a_law15_awake := @aw_named T _ _ c_law15_awake.eq_1
attribute [go_sem] a_law15_awake
theorem f_law15_awake (H : List AO) : F law15_awake [] H = aw T c_law15_awake (finF H [.t 0]) ⟨⟨59, []⟩, [], H, []⟩ := fnF_code T_law15_awake (Nat.le_of_ble_eq_true rfl) H
theorem T_tsub_Sub : T tsub_Sub = some (.code c_tsub_Sub 45 [.c 4 true 6, .t 7]) := by kernel_rfl
def w_tsub_Sub_0 := @wr_named T _ _ r_tsub_Sub_0.eq_1
attribute [go_sem] w_tsub_Sub_0
def w_tsub_Sub_1 := @wr_named T _ _ r_tsub_Sub_1.eq_1
attribute [go_sem] w_tsub_Sub_1
def w_tsub_Sub_2 := @wr_named T _ _ r_tsub_Sub_2.eq_1
attribute [go_sem] w_tsub_Sub_2
def w_tsub_Sub_3 := @wr_named T _ _ r_tsub_Sub_3.eq_1
attribute [go_sem] w_tsub_Sub_3
def w_tsub_Sub_4 := @wr_named T _ _ r_tsub_Sub_4.eq_1
attribute [go_sem] w_tsub_Sub_4
def w_tsub_Sub_5 := @wr_named T _ _ r_tsub_Sub_5.eq_1
attribute [go_sem] w_tsub_Sub_5
def w_tsub_Sub_6 := @wr_named T _ _ r_tsub_Sub_6.eq_1
attribute [go_sem] w_tsub_Sub_6
def w_tsub_Sub_7 := @wr_named T _ _ r_tsub_Sub_7.eq_1
attribute [go_sem] w_tsub_Sub_7
def a_tsub_Sub := @aw_named T _ _ c_tsub_Sub.eq_1
attribute [go_sem] a_tsub_Sub
theorem f_tsub_Sub (a0 a1 a2 : AV) (H : List AO) : F tsub_Sub [a0, a1, a2] H = aw T c_tsub_Sub (finF H [.c 4 true 6, .t 7]) ⟨⟨45, [(0, .v a0), (1, .v a1), (2, .v a2)]⟩, [], H, []⟩ := fnF_code T_tsub_Sub (Nat.le_of_ble_eq_true rfl) H
theorem T_ref13_Same : T ref13_Same = some (.code c_ref13_Same 75 [.t 4]) := by kernel_rfl
def w_ref13_Same_0 := @wr_named T _ _ r_ref13_Same_0.eq_1
attribute [go_sem] w_ref13_Same_0
def w_ref13_Same_1 := @wr_named T _ _ r_ref13_Same_1.eq_1
attribute [go_sem] w_ref13_Same_1
def w_ref13_Same_2 := @wr_named T _ _ r_ref13_Same_2.eq_1
attribute [go_sem] w_ref13_Same_2
def w_ref13_Same_3 := @wr_named T _ _ r_ref13_Same_3.eq_1
attribute [go_sem] w_ref13_Same_3
def w_ref13_Same_4 := @wr_named T _ _ r_ref13_Same_4.eq_1
attribute [go_sem] w_ref13_Same_4
def w_ref13_Same_5 := @wd_named T _ _ r_ref13_Same_5.eq_1
attribute [go_sem] w_ref13_Same_5
def w_ref13_Same_6 := @wr_named T _ _ r_ref13_Same_6.eq_1
attribute [go_sem] w_ref13_Same_6
def w_ref13_Same_7 := @wr_named T _ _ r_ref13_Same_7.eq_1
attribute [go_sem] w_ref13_Same_7
def a_l_ref13_Same_0 := @aw_named T _ _ l_ref13_Same_0.eq_1
attribute [go_sem] a_l_ref13_Same_0
def w_ref13_Same_8 := @wr_named T _ _ r_ref13_Same_8.eq_1
attribute [go_sem] w_ref13_Same_8
def w_ref13_Same_9 := @wr_named T _ _ r_ref13_Same_9.eq_1
attribute [go_sem] w_ref13_Same_9
def w_ref13_Same_10 := @wd_named T _ _ r_ref13_Same_10.eq_1
attribute [go_sem] w_ref13_Same_10
def w_ref13_Same_11 := @wr_named T _ _ r_ref13_Same_11.eq_1
attribute [go_sem] w_ref13_Same_11
def w_ref13_Same_12 := @wr_named T _ _ r_ref13_Same_12.eq_1
attribute [go_sem] w_ref13_Same_12
def a_l_ref13_Same_1 := @aw_named T _ _ l_ref13_Same_1.eq_1
attribute [go_sem] a_l_ref13_Same_1
def w_ref13_Same_13 := @wr_named T _ _ r_ref13_Same_13.eq_1
attribute [go_sem] w_ref13_Same_13
def a_ref13_Same := @aw_named T _ _ c_ref13_Same.eq_1
attribute [go_sem] a_ref13_Same
theorem f_ref13_Same (a0 a1 : AV) (H : List AO) : F ref13_Same [a0, a1] H = aw T c_ref13_Same (finF H [.t 4]) ⟨⟨75, [(0, .v a0), (1, .v a1)]⟩, [], H, []⟩ := fnF_code T_ref13_Same (Nat.le_of_ble_eq_true rfl) H
noncomputable def L_ref13_Same_0 (H h : List AO) (x5 : AV) (v2 v3 : List AV) : Option RH := awL T [2, 3, 5] [2, 3] l_ref13_Same_0 (blkF 0 (thn (aw T (.seq (.seq (.reg r_ref13_Same_8) (.block 2 (.loop [2, 3, 6] [2, 3] l_ref13_Same_1))) (.seq (.reg r_ref13_Same_13) (.ret))) (finF H [.t 4])) (finF H [.t 4]))) ⟨⟨75, [(2, .lp 2 0), (3, .lp 3 0), (5, .v x5)]⟩, [(2, v2), (3, v3)], h, []⟩
def g_ref13_Same_0 (H h : List AO) (x5 : AV) (v2 v3 : List AV) := (L_ref13_Same_0.eq_1 H h x5 v2 v3).symm
attribute [go_sem] g_ref13_Same_0
noncomputable def L_ref13_Same_1 (H h : List AO) (x6 : AV) (v2 v3 : List AV) : Option RH := awL T [2, 3, 6] [2, 3] l_ref13_Same_1 (blkF 2 (thn (aw T (.seq (.reg r_ref13_Same_13) (.ret)) (finF H [.t 4])) (finF H [.t 4]))) ⟨⟨75, [(2, .lp 2 0), (3, .lp 3 0), (6, .v x6)]⟩, [(2, v2), (3, v3)], h, []⟩
def g_ref13_Same_1 (H h : List AO) (x6 : AV) (v2 v3 : List AV) := (L_ref13_Same_1.eq_1 H h x6 v2 v3).symm
attribute [go_sem] g_ref13_Same_1
theorem T_ref13_Open : T ref13_Open = some (.code c_ref13_Open 24 [.c 4 true 4, .t 5]) := by kernel_rfl
def w_ref13_Open_0 := @wr_named T _ _ r_ref13_Open_0.eq_1
attribute [go_sem] w_ref13_Open_0
def w_ref13_Open_1 := @wr_named T _ _ r_ref13_Open_1.eq_1
attribute [go_sem] w_ref13_Open_1
def w_ref13_Open_2 := @wr_named T _ _ r_ref13_Open_2.eq_1
attribute [go_sem] w_ref13_Open_2
def w_ref13_Open_3 := @wr_named T _ _ r_ref13_Open_3.eq_1
attribute [go_sem] w_ref13_Open_3
def w_ref13_Open_4 := @wr_named T _ _ r_ref13_Open_4.eq_1
attribute [go_sem] w_ref13_Open_4
def w_ref13_Open_5 := @wr_named T _ _ r_ref13_Open_5.eq_1
attribute [go_sem] w_ref13_Open_5
def w_ref13_Open_6 := @wr_named T _ _ r_ref13_Open_6.eq_1
attribute [go_sem] w_ref13_Open_6
def a_ref13_Open := @aw_named T _ _ c_ref13_Open.eq_1
attribute [go_sem] a_ref13_Open
theorem f_ref13_Open (a0 a1 : AV) (H : List AO) : F ref13_Open [a0, a1] H = aw T c_ref13_Open (finF H [.c 4 true 4, .t 5]) ⟨⟨24, [(0, .v a0), (1, .v a1)]⟩, [], H, []⟩ := fnF_code T_ref13_Open (Nat.le_of_ble_eq_true rfl) H
theorem T_ref05_Sub : T ref05_Sub = some (.code c_ref05_Sub 42 [.c 3 true 6, .t 7]) := by kernel_rfl
def w_ref05_Sub_0 := @wr_named T _ _ r_ref05_Sub_0.eq_1
attribute [go_sem] w_ref05_Sub_0
def w_ref05_Sub_1 := @wr_named T _ _ r_ref05_Sub_1.eq_1
attribute [go_sem] w_ref05_Sub_1
def w_ref05_Sub_2 := @wr_named T _ _ r_ref05_Sub_2.eq_1
attribute [go_sem] w_ref05_Sub_2
def w_ref05_Sub_3 := @wr_named T _ _ r_ref05_Sub_3.eq_1
attribute [go_sem] w_ref05_Sub_3
def w_ref05_Sub_4 := @wr_named T _ _ r_ref05_Sub_4.eq_1
attribute [go_sem] w_ref05_Sub_4
def w_ref05_Sub_5 := @wr_named T _ _ r_ref05_Sub_5.eq_1
attribute [go_sem] w_ref05_Sub_5
def w_ref05_Sub_6 := @wr_named T _ _ r_ref05_Sub_6.eq_1
attribute [go_sem] w_ref05_Sub_6
def a_ref05_Sub := @aw_named T _ _ c_ref05_Sub.eq_1
attribute [go_sem] a_ref05_Sub
theorem f_ref05_Sub (a0 a1 a2 : AV) (H : List AO) : F ref05_Sub [a0, a1, a2] H = aw T c_ref05_Sub (finF H [.c 3 true 6, .t 7]) ⟨⟨42, [(0, .v a0), (1, .v a1), (2, .v a2)]⟩, [], H, []⟩ := fnF_code T_ref05_Sub (Nat.le_of_ble_eq_true rfl) H
theorem T_ref05_Params : T ref05_Params = some (.code c_ref05_Params 5 [.t 2]) := by kernel_rfl
def w_ref05_Params_0 := @wr_named T _ _ r_ref05_Params_0.eq_1
attribute [go_sem] w_ref05_Params_0
def w_ref05_Params_1 := @wr_named T _ _ r_ref05_Params_1.eq_1
attribute [go_sem] w_ref05_Params_1
def a_ref05_Params := @aw_named T _ _ c_ref05_Params.eq_1
attribute [go_sem] a_ref05_Params
theorem f_ref05_Params (a0 : AV) (H : List AO) : F ref05_Params [a0] H = aw T c_ref05_Params (finF H [.t 2]) ⟨⟨5, [(0, .v a0)]⟩, [], H, []⟩ := fnF_code T_ref05_Params (Nat.le_of_ble_eq_true rfl) H
theorem T_ref05_Metas : T ref05_Metas = some (.code c_ref05_Metas 5 [.t 2]) := by kernel_rfl
def w_ref05_Metas_0 := @wr_named T _ _ r_ref05_Metas_0.eq_1
attribute [go_sem] w_ref05_Metas_0
def w_ref05_Metas_1 := @wr_named T _ _ r_ref05_Metas_1.eq_1
attribute [go_sem] w_ref05_Metas_1
def a_ref05_Metas := @aw_named T _ _ c_ref05_Metas.eq_1
attribute [go_sem] a_ref05_Metas
theorem f_ref05_Metas (a0 : AV) (H : List AO) : F ref05_Metas [a0] H = aw T c_ref05_Metas (finF H [.t 2]) ⟨⟨5, [(0, .v a0)]⟩, [], H, []⟩ := fnF_code T_ref05_Metas (Nat.le_of_ble_eq_true rfl) H
theorem T_law02_Maker_Level : T law02_Maker_Level = some (.code c_law02_Maker_Level 100 [.c 3 true 8]) := by kernel_rfl
def w_law02_Maker_Level_0 := @wr_named T _ _ r_law02_Maker_Level_0.eq_1
attribute [go_sem] w_law02_Maker_Level_0
def w_law02_Maker_Level_1 := @wr_named T _ _ r_law02_Maker_Level_1.eq_1
attribute [go_sem] w_law02_Maker_Level_1
def w_law02_Maker_Level_2 := @wr_named T _ _ r_law02_Maker_Level_2.eq_1
attribute [go_sem] w_law02_Maker_Level_2
def w_law02_Maker_Level_3 := @wr_named T _ _ r_law02_Maker_Level_3.eq_1
attribute [go_sem] w_law02_Maker_Level_3
def w_law02_Maker_Level_4 := @wr_named T _ _ r_law02_Maker_Level_4.eq_1
attribute [go_sem] w_law02_Maker_Level_4
def w_law02_Maker_Level_5 := @wr_named T _ _ r_law02_Maker_Level_5.eq_1
attribute [go_sem] w_law02_Maker_Level_5
def w_law02_Maker_Level_6 := @wr_named T _ _ r_law02_Maker_Level_6.eq_1
attribute [go_sem] w_law02_Maker_Level_6
def w_law02_Maker_Level_7 := @wr_named T _ _ r_law02_Maker_Level_7.eq_1
attribute [go_sem] w_law02_Maker_Level_7
def w_law02_Maker_Level_8 := @wr_named T _ _ r_law02_Maker_Level_8.eq_1
attribute [go_sem] w_law02_Maker_Level_8
def w_law02_Maker_Level_9 := @wr_named T _ _ r_law02_Maker_Level_9.eq_1
attribute [go_sem] w_law02_Maker_Level_9
def w_law02_Maker_Level_10 := @wr_named T _ _ r_law02_Maker_Level_10.eq_1
attribute [go_sem] w_law02_Maker_Level_10
def w_law02_Maker_Level_11 := @wr_named T _ _ r_law02_Maker_Level_11.eq_1
attribute [go_sem] w_law02_Maker_Level_11
def w_law02_Maker_Level_12 := @wr_named T _ _ r_law02_Maker_Level_12.eq_1
attribute [go_sem] w_law02_Maker_Level_12
def w_law02_Maker_Level_13 := @wr_named T _ _ r_law02_Maker_Level_13.eq_1
attribute [go_sem] w_law02_Maker_Level_13
def w_law02_Maker_Level_14 := @wr_named T _ _ r_law02_Maker_Level_14.eq_1
attribute [go_sem] w_law02_Maker_Level_14
def a_law02_Maker_Level := @aw_named T _ _ c_law02_Maker_Level.eq_1
attribute [go_sem] a_law02_Maker_Level
theorem f_law02_Maker_Level (a0 a1 a2 a3 : AV) (H : List AO) : F law02_Maker_Level [a0, a1, a2, a3] H = aw T c_law02_Maker_Level (finF H [.c 3 true 8]) ⟨⟨100, [(0, .v a0), (1, .v a1), (2, .v a2), (3, .v a3)]⟩, [], H, []⟩ := fnF_code T_law02_Maker_Level (Nat.le_of_ble_eq_true rfl) H
theorem T_lsub_odd : T lsub_odd = some (.code c_lsub_odd 6 [.t 2]) := by kernel_rfl
def w_lsub_odd_0 := @wr_named T _ _ r_lsub_odd_0.eq_1
attribute [go_sem] w_lsub_odd_0
def w_lsub_odd_1 := @wr_named T _ _ r_lsub_odd_1.eq_1
attribute [go_sem] w_lsub_odd_1
def a_lsub_odd := @aw_named T _ _ c_lsub_odd.eq_1
attribute [go_sem] a_lsub_odd
theorem f_lsub_odd (a0 : AV) (H : List AO) : F lsub_odd [a0] H = aw T c_lsub_odd (finF H [.t 2]) ⟨⟨6, [(0, .v a0)]⟩, [], H, []⟩ := fnF_code T_lsub_odd (Nat.le_of_ble_eq_true rfl) H
theorem T_slices_ContainsFunc_Level : T slices_ContainsFunc_Level = some (.code c_slices_ContainsFunc_Level 9 [.t 4]) := by kernel_rfl
def w_slices_ContainsFunc_Level_0 := @wr_named T _ _ r_slices_ContainsFunc_Level_0.eq_1
attribute [go_sem] w_slices_ContainsFunc_Level_0
def w_slices_ContainsFunc_Level_1 := @wr_named T _ _ r_slices_ContainsFunc_Level_1.eq_1
attribute [go_sem] w_slices_ContainsFunc_Level_1
def a_slices_ContainsFunc_Level := @aw_named T _ _ c_slices_ContainsFunc_Level.eq_1
attribute [go_sem] a_slices_ContainsFunc_Level
theorem f_slices_ContainsFunc_Level (a0 a1 : AV) (H : List AO) : F slices_ContainsFunc_Level [a0, a1] H = aw T c_slices_ContainsFunc_Level (finF H [.t 4]) ⟨⟨9, [(0, .v a0), (1, .v a1)]⟩, [], H, []⟩ := fnF_code T_slices_ContainsFunc_Level (Nat.le_of_ble_eq_true rfl) H
theorem T_slices_Concat_Level : T slices_Concat_Level = some (.code c_slices_Concat_Level 36 [.t 2]) := by kernel_rfl
def w_slices_Concat_Level_0 := @wr_named T _ _ r_slices_Concat_Level_0.eq_1
attribute [go_sem] w_slices_Concat_Level_0
def w_slices_Concat_Level_1 := @wr_named T _ _ r_slices_Concat_Level_1.eq_1
attribute [go_sem] w_slices_Concat_Level_1
def w_slices_Concat_Level_2 := @wr_named T _ _ r_slices_Concat_Level_2.eq_1
attribute [go_sem] w_slices_Concat_Level_2
def w_slices_Concat_Level_3 := @wr_named T _ _ r_slices_Concat_Level_3.eq_1
attribute [go_sem] w_slices_Concat_Level_3
def w_slices_Concat_Level_4 := @wr_named T _ _ r_slices_Concat_Level_4.eq_1
attribute [go_sem] w_slices_Concat_Level_4
def w_slices_Concat_Level_5 := @wr_named T _ _ r_slices_Concat_Level_5.eq_1
attribute [go_sem] w_slices_Concat_Level_5
def w_slices_Concat_Level_6 := @wr_named T _ _ r_slices_Concat_Level_6.eq_1
attribute [go_sem] w_slices_Concat_Level_6
def w_slices_Concat_Level_7 := @wr_named T _ _ r_slices_Concat_Level_7.eq_1
attribute [go_sem] w_slices_Concat_Level_7
def w_slices_Concat_Level_8 := @wr_named T _ _ r_slices_Concat_Level_8.eq_1
attribute [go_sem] w_slices_Concat_Level_8
def a_l_slices_Concat_Level_0 := @aw_named T _ _ l_slices_Concat_Level_0.eq_1
attribute [go_sem] a_l_slices_Concat_Level_0
def w_slices_Concat_Level_9 := @wr_named T _ _ r_slices_Concat_Level_9.eq_1
attribute [go_sem] w_slices_Concat_Level_9
def w_slices_Concat_Level_10 := @wr_named T _ _ r_slices_Concat_Level_10.eq_1
attribute [go_sem] w_slices_Concat_Level_10
def w_slices_Concat_Level_11 := @wr_named T _ _ r_slices_Concat_Level_11.eq_1
attribute [go_sem] w_slices_Concat_Level_11
def w_slices_Concat_Level_12 := @wr_named T _ _ r_slices_Concat_Level_12.eq_1
attribute [go_sem] w_slices_Concat_Level_12
def w_slices_Concat_Level_13 := @wr_named T _ _ r_slices_Concat_Level_13.eq_1
attribute [go_sem] w_slices_Concat_Level_13
def w_slices_Concat_Level_14 := @wr_named T _ _ r_slices_Concat_Level_14.eq_1
attribute [go_sem] w_slices_Concat_Level_14
def a_l_slices_Concat_Level_1 := @aw_named T _ _ l_slices_Concat_Level_1.eq_1
attribute [go_sem] a_l_slices_Concat_Level_1
def w_slices_Concat_Level_15 := @wr_named T _ _ r_slices_Concat_Level_15.eq_1
attribute [go_sem] w_slices_Concat_Level_15
def a_slices_Concat_Level := @aw_named T _ _ c_slices_Concat_Level.eq_1
attribute [go_sem] a_slices_Concat_Level
theorem f_slices_Concat_Level (a0 : AV) (H : List AO) : F slices_Concat_Level [a0] H = aw T c_slices_Concat_Level (finF H [.t 2]) ⟨⟨36, [(0, .v a0)]⟩, [], H, []⟩ := fnF_code T_slices_Concat_Level (Nat.le_of_ble_eq_true rfl) H
noncomputable def L_slices_Concat_Level_0 (H h : List AO) (x0 x3 x9 x10 x11 : AV) : Option RH := awL T [0, 3, 9, 10, 11] [] l_slices_Concat_Level_0 (blkF 0 (thn (aw T (.seq (.reg r_slices_Concat_Level_9) (.seq (.seq (.reg r_slices_Concat_Level_10) (.block 2 (.loop [6, 25, 26, 27] [] l_slices_Concat_Level_1))) (.seq (.reg r_slices_Concat_Level_15) (.ret)))) (finF H [.t 2])) (finF H [.t 2]))) ⟨⟨36, [(0, .v x0), (3, .v x3), (9, .v x9), (10, .v x10), (11, .v x11)]⟩, [], h, []⟩
def g_slices_Concat_Level_0 (H h : List AO) (x0 x3 x9 x10 x11 : AV) := (L_slices_Concat_Level_0.eq_1 H h x0 x3 x9 x10 x11).symm
attribute [go_sem] g_slices_Concat_Level_0
noncomputable def L_slices_Concat_Level_1 (H h : List AO) (x6 x25 x26 x27 : AV) : Option RH := awL T [6, 25, 26, 27] [] l_slices_Concat_Level_1 (blkF 2 (thn (aw T (.seq (.reg r_slices_Concat_Level_15) (.ret)) (finF H [.t 2])) (finF H [.t 2]))) ⟨⟨36, [(6, .v x6), (25, .v x25), (26, .v x26), (27, .v x27)]⟩, [], h, []⟩
def g_slices_Concat_Level_1 (H h : List AO) (x6 x25 x26 x27 : AV) := (L_slices_Concat_Level_1.eq_1 H h x6 x25 x26 x27).symm
attribute [go_sem] g_slices_Concat_Level_1
theorem T_lsub_turn : T lsub_turn = some (.code c_lsub_turn 40 [.c 3 true 4]) := by kernel_rfl
def w_lsub_turn_0 := @wr_named T _ _ r_lsub_turn_0.eq_1
attribute [go_sem] w_lsub_turn_0
def w_lsub_turn_1 := @wr_named T _ _ r_lsub_turn_1.eq_1
attribute [go_sem] w_lsub_turn_1
def w_lsub_turn_2 := @wr_named T _ _ r_lsub_turn_2.eq_1
attribute [go_sem] w_lsub_turn_2
def w_lsub_turn_3 := @wr_named T _ _ r_lsub_turn_3.eq_1
attribute [go_sem] w_lsub_turn_3
def w_lsub_turn_4 := @wr_named T _ _ r_lsub_turn_4.eq_1
attribute [go_sem] w_lsub_turn_4
def w_lsub_turn_5 := @wr_named T _ _ r_lsub_turn_5.eq_1
attribute [go_sem] w_lsub_turn_5
def w_lsub_turn_6 := @wr_named T _ _ r_lsub_turn_6.eq_1
attribute [go_sem] w_lsub_turn_6
def w_lsub_turn_7 := @wr_named T _ _ r_lsub_turn_7.eq_1
attribute [go_sem] w_lsub_turn_7
def w_lsub_turn_8 := @wd_named T _ _ r_lsub_turn_8.eq_1
attribute [go_sem] w_lsub_turn_8
def w_lsub_turn_9 := @wr_named T _ _ r_lsub_turn_9.eq_1
attribute [go_sem] w_lsub_turn_9
def a_l_lsub_turn_0 := @aw_named T _ _ l_lsub_turn_0.eq_1
attribute [go_sem] a_l_lsub_turn_0
def w_lsub_turn_10 := @wr_named T _ _ r_lsub_turn_10.eq_1
attribute [go_sem] w_lsub_turn_10
def a_lsub_turn := @aw_named T _ _ c_lsub_turn.eq_1
attribute [go_sem] a_lsub_turn
theorem f_lsub_turn (a0 a1 : AV) (H : List AO) : F lsub_turn [a0, a1] H = aw T c_lsub_turn (finF H [.c 3 true 4]) ⟨⟨40, [(0, .v a0), (1, .v a1)]⟩, [], H, []⟩ := fnF_code T_lsub_turn (Nat.le_of_ble_eq_true rfl) H
noncomputable def L_lsub_turn_0 (H h : List AO) (x1 x24 x25 x26 : AV) (v4 v7 : List AV) : Option RH := awL T [1, 4, 7, 24, 25, 26] [4, 7] l_lsub_turn_0 (blkF 0 (thn (aw T (.seq (.reg r_lsub_turn_10) (.ret)) (finF H [.c 3 true 4])) (finF H [.c 3 true 4]))) ⟨⟨40, [(1, .v x1), (4, .lp 4 0), (7, .lp 7 0), (24, .v x24), (25, .v x25), (26, .v x26)]⟩, [(4, v4), (7, v7)], h, []⟩
def g_lsub_turn_0 (H h : List AO) (x1 x24 x25 x26 : AV) (v4 v7 : List AV) := (L_lsub_turn_0.eq_1 H h x1 x24 x25 x26 v4 v7).symm
attribute [go_sem] g_lsub_turn_0
theorem T_lsub_Sub_1 : T lsub_Sub_1 = some (.code c_lsub_Sub_1 39 [.c 3 true 4, .t 5]) := by kernel_rfl
def w_lsub_Sub_1_0 := @wr_named T _ _ r_lsub_Sub_1_0.eq_1
attribute [go_sem] w_lsub_Sub_1_0
def w_lsub_Sub_1_1 := @wr_named T _ _ r_lsub_Sub_1_1.eq_1
attribute [go_sem] w_lsub_Sub_1_1
def w_lsub_Sub_1_2 := @wr_named T _ _ r_lsub_Sub_1_2.eq_1
attribute [go_sem] w_lsub_Sub_1_2
def w_lsub_Sub_1_3 := @wr_named T _ _ r_lsub_Sub_1_3.eq_1
attribute [go_sem] w_lsub_Sub_1_3
def w_lsub_Sub_1_4 := @wr_named T _ _ r_lsub_Sub_1_4.eq_1
attribute [go_sem] w_lsub_Sub_1_4
def w_lsub_Sub_1_5 := @wr_named T _ _ r_lsub_Sub_1_5.eq_1
attribute [go_sem] w_lsub_Sub_1_5
def a_lsub_Sub_1 := @aw_named T _ _ c_lsub_Sub_1.eq_1
attribute [go_sem] a_lsub_Sub_1
theorem f_lsub_Sub_1 (a0 a1 a2 : AV) (H : List AO) : F lsub_Sub_1 [a0, a1, a2] H = aw T c_lsub_Sub_1 (finF H [.c 3 true 4, .t 5]) ⟨⟨39, [(0, .v a0), (1, .v a1), (2, .v a2)]⟩, [], H, []⟩ := fnF_code T_lsub_Sub_1 (Nat.le_of_ble_eq_true rfl) H
theorem T_ref02_Right : T ref02_Right = some (.code c_ref02_Right 32 [.t 6]) := by kernel_rfl
def w_ref02_Right_0 := @wr_named T _ _ r_ref02_Right_0.eq_1
attribute [go_sem] w_ref02_Right_0
def w_ref02_Right_1 := @wr_named T _ _ r_ref02_Right_1.eq_1
attribute [go_sem] w_ref02_Right_1
def a_ref02_Right := @aw_named T _ _ c_ref02_Right.eq_1
attribute [go_sem] a_ref02_Right
theorem f_ref02_Right (a0 a1 a2 : AV) (H : List AO) : F ref02_Right [a0, a1, a2] H = aw T c_ref02_Right (finF H [.t 6]) ⟨⟨32, [(0, .v a0), (1, .v a1), (2, .v a2)]⟩, [], H, []⟩ := fnF_code T_ref02_Right (Nat.le_of_ble_eq_true rfl) H
theorem T_ref02_naturals : T ref02_naturals = some (.code c_ref02_naturals 22 [.t 2]) := by kernel_rfl
def w_ref02_naturals_0 := @wr_named T _ _ r_ref02_naturals_0.eq_1
attribute [go_sem] w_ref02_naturals_0
def w_ref02_naturals_1 := @wr_named T _ _ r_ref02_naturals_1.eq_1
attribute [go_sem] w_ref02_naturals_1
def w_ref02_naturals_2 := @wr_named T _ _ r_ref02_naturals_2.eq_1
attribute [go_sem] w_ref02_naturals_2
def w_ref02_naturals_3 := @wr_named T _ _ r_ref02_naturals_3.eq_1
attribute [go_sem] w_ref02_naturals_3
def w_ref02_naturals_4 := @wr_named T _ _ r_ref02_naturals_4.eq_1
attribute [go_sem] w_ref02_naturals_4
def w_ref02_naturals_5 := @wr_named T _ _ r_ref02_naturals_5.eq_1
attribute [go_sem] w_ref02_naturals_5
def a_l_ref02_naturals_0 := @aw_named T _ _ l_ref02_naturals_0.eq_1
attribute [go_sem] a_l_ref02_naturals_0
def w_ref02_naturals_6 := @wr_named T _ _ r_ref02_naturals_6.eq_1
attribute [go_sem] w_ref02_naturals_6
def a_ref02_naturals := @aw_named T _ _ c_ref02_naturals.eq_1
attribute [go_sem] a_ref02_naturals
theorem f_ref02_naturals (a0 : AV) (H : List AO) : F ref02_naturals [a0] H = aw T c_ref02_naturals (finF H [.t 2]) ⟨⟨22, [(0, .v a0)]⟩, [], H, []⟩ := fnF_code T_ref02_naturals (Nat.le_of_ble_eq_true rfl) H
noncomputable def L_ref02_naturals_0 (H h : List AO) (x0 x3 : AV) : Option RH := awL T [0, 3] [] l_ref02_naturals_0 (blkF 0 (thn (aw T (.seq (.reg r_ref02_naturals_6) (.ret)) (finF H [.t 2])) (finF H [.t 2]))) ⟨⟨22, [(0, .v x0), (3, .v x3)]⟩, [], h, []⟩
def g_ref02_naturals_0 (H h : List AO) (x0 x3 : AV) := (L_ref02_naturals_0.eq_1 H h x0 x3).symm
attribute [go_sem] g_ref02_naturals_0
theorem T_ref02_Value : T ref02_Value = some (.code c_ref02_Value 71 [.t 6]) := by kernel_rfl
def w_ref02_Value_0 := @wr_named T _ _ r_ref02_Value_0.eq_1
attribute [go_sem] w_ref02_Value_0
def w_ref02_Value_1 := @wr_named T _ _ r_ref02_Value_1.eq_1
attribute [go_sem] w_ref02_Value_1
def w_ref02_Value_2 := @wr_named T _ _ r_ref02_Value_2.eq_1
attribute [go_sem] w_ref02_Value_2
def w_ref02_Value_3 := @wr_named T _ _ r_ref02_Value_3.eq_1
attribute [go_sem] w_ref02_Value_3
def w_ref02_Value_4 := @wr_named T _ _ r_ref02_Value_4.eq_1
attribute [go_sem] w_ref02_Value_4
def w_ref02_Value_5 := @wd_named T _ _ r_ref02_Value_5.eq_1
attribute [go_sem] w_ref02_Value_5
def w_ref02_Value_6 := @wr_named T _ _ r_ref02_Value_6.eq_1
attribute [go_sem] w_ref02_Value_6
def w_ref02_Value_7 := @wr_named T _ _ r_ref02_Value_7.eq_1
attribute [go_sem] w_ref02_Value_7
def w_ref02_Value_8 := @wr_named T _ _ r_ref02_Value_8.eq_1
attribute [go_sem] w_ref02_Value_8
def w_ref02_Value_9 := @wr_named T _ _ r_ref02_Value_9.eq_1
attribute [go_sem] w_ref02_Value_9
def w_ref02_Value_10 := @wr_named T _ _ r_ref02_Value_10.eq_1
attribute [go_sem] w_ref02_Value_10
def w_ref02_Value_11 := @wr_named T _ _ r_ref02_Value_11.eq_1
attribute [go_sem] w_ref02_Value_11
def w_ref02_Value_12 := @wr_named T _ _ r_ref02_Value_12.eq_1
attribute [go_sem] w_ref02_Value_12
def w_ref02_Value_13 := @wr_named T _ _ r_ref02_Value_13.eq_1
attribute [go_sem] w_ref02_Value_13
def w_ref02_Value_14 := @wr_named T _ _ r_ref02_Value_14.eq_1
attribute [go_sem] w_ref02_Value_14
def w_ref02_Value_15 := @wr_named T _ _ r_ref02_Value_15.eq_1
attribute [go_sem] w_ref02_Value_15
def a_ref02_Value := @aw_named T _ _ c_ref02_Value.eq_1
attribute [go_sem] a_ref02_Value
theorem f_ref02_Value (a0 a1 a2 : AV) (H : List AO) : F ref02_Value [a0, a1, a2] H = aw T c_ref02_Value (finF H [.t 6]) ⟨⟨71, [(0, .v a0), (1, .v a1), (2, .v a2)]⟩, [], H, []⟩ := fnF_code T_ref02_Value (Nat.le_of_ble_eq_true rfl) H
theorem T_lsub_once : T lsub_once = some (.code c_lsub_once 15 [.c 1 false 2]) := by kernel_rfl
def w_lsub_once_0 := @wr_named T _ _ r_lsub_once_0.eq_1
attribute [go_sem] w_lsub_once_0
def w_lsub_once_1 := @wr_named T _ _ r_lsub_once_1.eq_1
attribute [go_sem] w_lsub_once_1
def w_lsub_once_2 := @wr_named T _ _ r_lsub_once_2.eq_1
attribute [go_sem] w_lsub_once_2
def w_lsub_once_3 := @wr_named T _ _ r_lsub_once_3.eq_1
attribute [go_sem] w_lsub_once_3
def w_lsub_once_4 := @wr_named T _ _ r_lsub_once_4.eq_1
attribute [go_sem] w_lsub_once_4
def a_s_lsub_once_0 := @aw_named T _ _ s_lsub_once_0.eq_1
theorem o_s_lsub_once_0 : FC.okd s_lsub_once_0 = true := by kernel_rfl
attribute [go_sem] a_s_lsub_once_0 o_s_lsub_once_0
def a_y_lsub_once_0 := @aw_named T _ _ y_lsub_once_0.eq_1
theorem o_y_lsub_once_0 : FC.okd y_lsub_once_0 = true := by kernel_rfl
attribute [go_sem] a_y_lsub_once_0 o_y_lsub_once_0
def w_lsub_once_5 := @wr_named T _ _ r_lsub_once_5.eq_1
attribute [go_sem] w_lsub_once_5
def a_lsub_once := @aw_named T _ _ c_lsub_once.eq_1
attribute [go_sem] a_lsub_once
theorem f_lsub_once (a0 : AV) (H : List AO) : F lsub_once [a0] H = aw T c_lsub_once (finF H [.c 1 false 2]) ⟨⟨15, [(0, .v a0)]⟩, [], H, []⟩ := fnF_code T_lsub_once (Nat.le_of_ble_eq_true rfl) H
theorem T_lsub_named : T lsub_named = some (.code c_lsub_named 6 [.t 4]) := by kernel_rfl
def w_lsub_named_0 := @wr_named T _ _ r_lsub_named_0.eq_1
attribute [go_sem] w_lsub_named_0
def w_lsub_named_1 := @wr_named T _ _ r_lsub_named_1.eq_1
attribute [go_sem] w_lsub_named_1
def a_lsub_named := @aw_named T _ _ c_lsub_named.eq_1
attribute [go_sem] a_lsub_named
theorem f_lsub_named (a0 a1 : AV) (H : List AO) : F lsub_named [a0, a1] H = aw T c_lsub_named (finF H [.t 4]) ⟨⟨6, [(0, .v a0), (1, .v a1)]⟩, [], H, []⟩ := fnF_code T_lsub_named (Nat.le_of_ble_eq_true rfl) H
theorem T_term_Right : T term_Right = some (.code c_term_Right 37 [.t 8]) := by kernel_rfl
def w_term_Right_0 := @wr_named T _ _ r_term_Right_0.eq_1
attribute [go_sem] w_term_Right_0
def w_term_Right_1 := @wr_named T _ _ r_term_Right_1.eq_1
attribute [go_sem] w_term_Right_1
def w_term_Right_2 := @wr_named T _ _ r_term_Right_2.eq_1
attribute [go_sem] w_term_Right_2
def w_term_Right_3 := @wr_named T _ _ r_term_Right_3.eq_1
attribute [go_sem] w_term_Right_3
def a_term_Right := @aw_named T _ _ c_term_Right.eq_1
attribute [go_sem] a_term_Right
theorem f_term_Right (a0 a1 a2 a3 : AV) (H : List AO) : F term_Right [a0, a1, a2, a3] H = aw T c_term_Right (finF H [.t 8]) ⟨⟨37, [(0, .v a0), (1, .v a1), (2, .v a2), (3, .v a3)]⟩, [], H, []⟩ := fnF_code T_term_Right (Nat.le_of_ble_eq_true rfl) H
theorem T_term_Free : T term_Free = some (.code c_term_Free 30 [.t 2]) := by kernel_rfl
def w_term_Free_0 := @wr_named T _ _ r_term_Free_0.eq_1
attribute [go_sem] w_term_Free_0
def w_term_Free_1 := @wr_named T _ _ r_term_Free_1.eq_1
attribute [go_sem] w_term_Free_1
def w_term_Free_2 := @wr_named T _ _ r_term_Free_2.eq_1
attribute [go_sem] w_term_Free_2
def w_term_Free_3 := @wr_named T _ _ r_term_Free_3.eq_1
attribute [go_sem] w_term_Free_3
def w_term_Free_4 := @wr_named T _ _ r_term_Free_4.eq_1
attribute [go_sem] w_term_Free_4
def w_term_Free_5 := @wr_named T _ _ r_term_Free_5.eq_1
attribute [go_sem] w_term_Free_5
def w_term_Free_6 := @wr_named T _ _ r_term_Free_6.eq_1
attribute [go_sem] w_term_Free_6
def w_term_Free_7 := @wd_named T _ _ r_term_Free_7.eq_1
attribute [go_sem] w_term_Free_7
def w_term_Free_8 := @wr_named T _ _ r_term_Free_8.eq_1
attribute [go_sem] w_term_Free_8
def a_l_term_Free_0 := @aw_named T _ _ l_term_Free_0.eq_1
attribute [go_sem] a_l_term_Free_0
def w_term_Free_9 := @wr_named T _ _ r_term_Free_9.eq_1
attribute [go_sem] w_term_Free_9
def a_term_Free := @aw_named T _ _ c_term_Free.eq_1
attribute [go_sem] a_term_Free
theorem f_term_Free (a0 : AV) (H : List AO) : F term_Free [a0] H = aw T c_term_Free (finF H [.t 2]) ⟨⟨30, [(0, .v a0)]⟩, [], H, []⟩ := fnF_code T_term_Free (Nat.le_of_ble_eq_true rfl) H
noncomputable def L_term_Free_0 (H h : List AO) (x3 x13 x14 x15 : AV) (v1 : List AV) : Option RH := awL T [1, 3, 13, 14, 15] [1] l_term_Free_0 (blkF 0 (thn (aw T (.seq (.reg r_term_Free_9) (.ret)) (finF H [.t 2])) (finF H [.t 2]))) ⟨⟨30, [(1, .lp 1 0), (3, .v x3), (13, .v x13), (14, .v x14), (15, .v x15)]⟩, [(1, v1)], h, []⟩
def g_term_Free_0 (H h : List AO) (x3 x13 x14 x15 : AV) (v1 : List AV) := (L_term_Free_0.eq_1 H h x3 x13 x14 x15 v1).symm
attribute [go_sem] g_term_Free_0
theorem T_ref02_Nodes : T ref02_Nodes = some (.code c_ref02_Nodes 31 [.t 4]) := by kernel_rfl
def w_ref02_Nodes_0 := @wr_named T _ _ r_ref02_Nodes_0.eq_1
attribute [go_sem] w_ref02_Nodes_0
def w_ref02_Nodes_1 := @wr_named T _ _ r_ref02_Nodes_1.eq_1
attribute [go_sem] w_ref02_Nodes_1
def w_ref02_Nodes_2 := @wr_named T _ _ r_ref02_Nodes_2.eq_1
attribute [go_sem] w_ref02_Nodes_2
def w_ref02_Nodes_3 := @wr_named T _ _ r_ref02_Nodes_3.eq_1
attribute [go_sem] w_ref02_Nodes_3
def w_ref02_Nodes_4 := @wr_named T _ _ r_ref02_Nodes_4.eq_1
attribute [go_sem] w_ref02_Nodes_4
def w_ref02_Nodes_5 := @wr_named T _ _ r_ref02_Nodes_5.eq_1
attribute [go_sem] w_ref02_Nodes_5
def a_l_ref02_Nodes_0 := @aw_named T _ _ l_ref02_Nodes_0.eq_1
attribute [go_sem] a_l_ref02_Nodes_0
def w_ref02_Nodes_6 := @wr_named T _ _ r_ref02_Nodes_6.eq_1
attribute [go_sem] w_ref02_Nodes_6
def a_ref02_Nodes := @aw_named T _ _ c_ref02_Nodes.eq_1
attribute [go_sem] a_ref02_Nodes
theorem f_ref02_Nodes (a0 a1 : AV) (H : List AO) : F ref02_Nodes [a0, a1] H = aw T c_ref02_Nodes (finF H [.t 4]) ⟨⟨31, [(0, .v a0), (1, .v a1)]⟩, [], H, []⟩ := fnF_code T_ref02_Nodes (Nat.le_of_ble_eq_true rfl) H
noncomputable def L_ref02_Nodes_0 (H h : List AO) (x1 x5 x6 : AV) (v2 : List AV) : Option RH := awL T [1, 2, 5, 6] [2] l_ref02_Nodes_0 (blkF 0 (thn (aw T (.seq (.reg r_ref02_Nodes_6) (.ret)) (finF H [.t 4])) (finF H [.t 4]))) ⟨⟨31, [(1, .v x1), (2, .lp 2 0), (5, .v x5), (6, .v x6)]⟩, [(2, v2)], h, []⟩
def g_ref02_Nodes_0 (H h : List AO) (x1 x5 x6 : AV) (v2 : List AV) := (L_ref02_Nodes_0.eq_1 H h x1 x5 x6 v2).symm
attribute [go_sem] g_ref02_Nodes_0
theorem T_ref13_Lift : T ref13_Lift = some (.code c_ref13_Lift 38 [.c 4 true 6, .t 7]) := by kernel_rfl
def w_ref13_Lift_0 := @wr_named T _ _ r_ref13_Lift_0.eq_1
attribute [go_sem] w_ref13_Lift_0
def w_ref13_Lift_1 := @wr_named T _ _ r_ref13_Lift_1.eq_1
attribute [go_sem] w_ref13_Lift_1
def w_ref13_Lift_2 := @wr_named T _ _ r_ref13_Lift_2.eq_1
attribute [go_sem] w_ref13_Lift_2
def w_ref13_Lift_3 := @wr_named T _ _ r_ref13_Lift_3.eq_1
attribute [go_sem] w_ref13_Lift_3
def w_ref13_Lift_4 := @wr_named T _ _ r_ref13_Lift_4.eq_1
attribute [go_sem] w_ref13_Lift_4
def w_ref13_Lift_5 := @wr_named T _ _ r_ref13_Lift_5.eq_1
attribute [go_sem] w_ref13_Lift_5
def w_ref13_Lift_6 := @wr_named T _ _ r_ref13_Lift_6.eq_1
attribute [go_sem] w_ref13_Lift_6
def a_ref13_Lift := @aw_named T _ _ c_ref13_Lift.eq_1
attribute [go_sem] a_ref13_Lift
theorem f_ref13_Lift (a0 a1 a2 : AV) (H : List AO) : F ref13_Lift [a0, a1, a2] H = aw T c_ref13_Lift (finF H [.c 4 true 6, .t 7]) ⟨⟨38, [(0, .v a0), (1, .v a1), (2, .v a2)]⟩, [], H, []⟩ := fnF_code T_ref13_Lift (Nat.le_of_ble_eq_true rfl) H
theorem T_ref13_Right : T ref13_Right = some (.code c_ref13_Right 43 [.t 8]) := by kernel_rfl
def w_ref13_Right_0 := @wr_named T _ _ r_ref13_Right_0.eq_1
attribute [go_sem] w_ref13_Right_0
def w_ref13_Right_1 := @wr_named T _ _ r_ref13_Right_1.eq_1
attribute [go_sem] w_ref13_Right_1
def a_ref13_Right := @aw_named T _ _ c_ref13_Right.eq_1
attribute [go_sem] a_ref13_Right
theorem f_ref13_Right (a0 a1 a2 a3 : AV) (H : List AO) : F ref13_Right [a0, a1, a2, a3] H = aw T c_ref13_Right (finF H [.t 8]) ⟨⟨43, [(0, .v a0), (1, .v a1), (2, .v a2), (3, .v a3)]⟩, [], H, []⟩ := fnF_code T_ref13_Right (Nat.le_of_ble_eq_true rfl) H
theorem T_ref13_Shape : T ref13_Shape = some (.code c_ref13_Shape 5 [.t 2]) := by kernel_rfl
def w_ref13_Shape_0 := @wr_named T _ _ r_ref13_Shape_0.eq_1
attribute [go_sem] w_ref13_Shape_0
def w_ref13_Shape_1 := @wr_named T _ _ r_ref13_Shape_1.eq_1
attribute [go_sem] w_ref13_Shape_1
def a_ref13_Shape := @aw_named T _ _ c_ref13_Shape.eq_1
attribute [go_sem] a_ref13_Shape
theorem f_ref13_Shape (a0 : AV) (H : List AO) : F ref13_Shape [a0] H = aw T c_ref13_Shape (finF H [.t 2]) ⟨⟨5, [(0, .v a0)]⟩, [], H, []⟩ := fnF_code T_ref13_Shape (Nat.le_of_ble_eq_true rfl) H
theorem T_ref13_Free : T ref13_Free = some (.code c_ref13_Free 32 [.t 2]) := by kernel_rfl
def w_ref13_Free_0 := @wr_named T _ _ r_ref13_Free_0.eq_1
attribute [go_sem] w_ref13_Free_0
def w_ref13_Free_1 := @wr_named T _ _ r_ref13_Free_1.eq_1
attribute [go_sem] w_ref13_Free_1
def w_ref13_Free_2 := @wr_named T _ _ r_ref13_Free_2.eq_1
attribute [go_sem] w_ref13_Free_2
def w_ref13_Free_3 := @wr_named T _ _ r_ref13_Free_3.eq_1
attribute [go_sem] w_ref13_Free_3
def w_ref13_Free_4 := @wr_named T _ _ r_ref13_Free_4.eq_1
attribute [go_sem] w_ref13_Free_4
def w_ref13_Free_5 := @wr_named T _ _ r_ref13_Free_5.eq_1
attribute [go_sem] w_ref13_Free_5
def w_ref13_Free_6 := @wd_named T _ _ r_ref13_Free_6.eq_1
attribute [go_sem] w_ref13_Free_6
def w_ref13_Free_7 := @wr_named T _ _ r_ref13_Free_7.eq_1
attribute [go_sem] w_ref13_Free_7
def a_l_ref13_Free_0 := @aw_named T _ _ l_ref13_Free_0.eq_1
attribute [go_sem] a_l_ref13_Free_0
def w_ref13_Free_8 := @wr_named T _ _ r_ref13_Free_8.eq_1
attribute [go_sem] w_ref13_Free_8
def a_ref13_Free := @aw_named T _ _ c_ref13_Free.eq_1
attribute [go_sem] a_ref13_Free
theorem f_ref13_Free (a0 : AV) (H : List AO) : F ref13_Free [a0] H = aw T c_ref13_Free (finF H [.t 2]) ⟨⟨32, [(0, .v a0)]⟩, [], H, []⟩ := fnF_code T_ref13_Free (Nat.le_of_ble_eq_true rfl) H
noncomputable def L_ref13_Free_0 (H h : List AO) (x3 x4 : AV) (v1 : List AV) : Option RH := awL T [1, 3, 4] [1] l_ref13_Free_0 (blkF 0 (thn (aw T (.seq (.reg r_ref13_Free_8) (.ret)) (finF H [.t 2])) (finF H [.t 2]))) ⟨⟨32, [(1, .lp 1 0), (3, .v x3), (4, .v x4)]⟩, [(1, v1)], h, []⟩
def g_ref13_Free_0 (H h : List AO) (x3 x4 : AV) (v1 : List AV) := (L_ref13_Free_0.eq_1 H h x3 x4 v1).symm
attribute [go_sem] g_ref13_Free_0
theorem T_term_all : T term_all = some (.code c_term_all 2 [.c 3 true 0]) := by kernel_rfl
def w_term_all_0 := @wr_named T _ _ r_term_all_0.eq_1
attribute [go_sem] w_term_all_0
def w_term_all_1 := @wr_named T _ _ r_term_all_1.eq_1
attribute [go_sem] w_term_all_1
def a_term_all := @aw_named T _ _ c_term_all.eq_1
attribute [go_sem] a_term_all
theorem f_term_all (H : List AO) : F term_all [] H = aw T c_term_all (finF H [.c 3 true 0]) ⟨⟨2, []⟩, [], H, []⟩ := fnF_code T_term_all (Nat.le_of_ble_eq_true rfl) H
theorem T_term_room_fits : T term_room_fits = some (.code c_term_room_fits 13 [.t 4]) := by kernel_rfl
def w_term_room_fits_0 := @wr_named T _ _ r_term_room_fits_0.eq_1
attribute [go_sem] w_term_room_fits_0
def w_term_room_fits_1 := @wr_named T _ _ r_term_room_fits_1.eq_1
attribute [go_sem] w_term_room_fits_1
def a_term_room_fits := @aw_named T _ _ c_term_room_fits.eq_1
attribute [go_sem] a_term_room_fits
theorem f_term_room_fits (a0 a1 : AV) (H : List AO) : F term_room_fits [a0, a1] H = aw T c_term_room_fits (finF H [.t 4]) ⟨⟨13, [(0, .v a0), (1, .v a1)]⟩, [], H, []⟩ := fnF_code T_term_room_fits (Nat.le_of_ble_eq_true rfl) H
theorem T_term_told : T term_told = some (.code c_term_told 10 [.c 4 true 2, .t 3]) := by kernel_rfl
def w_term_told_0 := @wr_named T _ _ r_term_told_0.eq_1
attribute [go_sem] w_term_told_0
def w_term_told_1 := @wd_named T _ _ r_term_told_1.eq_1
attribute [go_sem] w_term_told_1
def w_term_told_2 := @wr_named T _ _ r_term_told_2.eq_1
attribute [go_sem] w_term_told_2
def w_term_told_3 := @wr_named T _ _ r_term_told_3.eq_1
attribute [go_sem] w_term_told_3
def a_term_told := @aw_named T _ _ c_term_told.eq_1
attribute [go_sem] a_term_told
theorem f_term_told (a0 : AV) (H : List AO) : F term_told [a0] H = aw T c_term_told (finF H [.c 4 true 2, .t 3]) ⟨⟨10, [(0, .v a0)]⟩, [], H, []⟩ := fnF_code T_term_told (Nat.le_of_ble_eq_true rfl) H
theorem T_term_lift : T term_lift = some (.code c_term_lift 10 [.c 4 true 6]) := by kernel_rfl
def w_term_lift_0 := @wr_named T _ _ r_term_lift_0.eq_1
attribute [go_sem] w_term_lift_0
def w_term_lift_1 := @wr_named T _ _ r_term_lift_1.eq_1
attribute [go_sem] w_term_lift_1
def a_term_lift := @aw_named T _ _ c_term_lift.eq_1
attribute [go_sem] a_term_lift
theorem f_term_lift (a0 a1 a2 : AV) (H : List AO) : F term_lift [a0, a1, a2] H = aw T c_term_lift (finF H [.c 4 true 6]) ⟨⟨10, [(0, .v a0), (1, .v a1), (2, .v a2)]⟩, [], H, []⟩ := fnF_code T_term_lift (Nat.le_of_ble_eq_true rfl) H
theorem T_term_turn : T term_turn = some (.code c_term_turn 48 [.c 4 true 6]) := by kernel_rfl
def w_term_turn_0 := @wr_named T _ _ r_term_turn_0.eq_1
attribute [go_sem] w_term_turn_0
def w_term_turn_1 := @wr_named T _ _ r_term_turn_1.eq_1
attribute [go_sem] w_term_turn_1
def w_term_turn_2 := @wr_named T _ _ r_term_turn_2.eq_1
attribute [go_sem] w_term_turn_2
def w_term_turn_3 := @wr_named T _ _ r_term_turn_3.eq_1
attribute [go_sem] w_term_turn_3
def w_term_turn_4 := @wr_named T _ _ r_term_turn_4.eq_1
attribute [go_sem] w_term_turn_4
def w_term_turn_5 := @wr_named T _ _ r_term_turn_5.eq_1
attribute [go_sem] w_term_turn_5
def w_term_turn_6 := @wr_named T _ _ r_term_turn_6.eq_1
attribute [go_sem] w_term_turn_6
def w_term_turn_7 := @wd_named T _ _ r_term_turn_7.eq_1
attribute [go_sem] w_term_turn_7
def w_term_turn_8 := @wr_named T _ _ r_term_turn_8.eq_1
attribute [go_sem] w_term_turn_8
def a_l_term_turn_0 := @aw_named T _ _ l_term_turn_0.eq_1
attribute [go_sem] a_l_term_turn_0
def w_term_turn_9 := @wr_named T _ _ r_term_turn_9.eq_1
attribute [go_sem] w_term_turn_9
def a_term_turn := @aw_named T _ _ c_term_turn.eq_1
attribute [go_sem] a_term_turn
theorem f_term_turn (a0 a1 a2 : AV) (H : List AO) : F term_turn [a0, a1, a2] H = aw T c_term_turn (finF H [.c 4 true 6]) ⟨⟨48, [(0, .v a0), (1, .v a1), (2, .v a2)]⟩, [], H, []⟩ := fnF_code T_term_turn (Nat.le_of_ble_eq_true rfl) H
noncomputable def L_term_turn_0 (H h : List AO) (x1 x2 x26 x27 x28 : AV) (v3 v6 v7 : List AV) : Option RH := awL T [1, 2, 3, 6, 7, 26, 27, 28] [3, 6, 7] l_term_turn_0 (blkF 0 (thn (aw T (.seq (.reg r_term_turn_9) (.ret)) (finF H [.c 4 true 6])) (finF H [.c 4 true 6]))) ⟨⟨48, [(1, .v x1), (2, .v x2), (3, .lp 3 0), (6, .lp 6 0), (7, .lp 7 0), (26, .v x26), (27, .v x27), (28, .v x28)]⟩, [(3, v3), (6, v6), (7, v7)], h, []⟩
def g_term_turn_0 (H h : List AO) (x1 x2 x26 x27 x28 : AV) (v3 v6 v7 : List AV) := (L_term_turn_0.eq_1 H h x1 x2 x26 x27 x28 v3 v6 v7).symm
attribute [go_sem] g_term_turn_0
theorem T_term_Open_1 : T term_Open_1 = some (.code c_term_Open_1 21 [.c 4 true 5]) := by kernel_rfl
def w_term_Open_1_0 := @wr_named T _ _ r_term_Open_1_0.eq_1
attribute [go_sem] w_term_Open_1_0
def w_term_Open_1_1 := @wr_named T _ _ r_term_Open_1_1.eq_1
attribute [go_sem] w_term_Open_1_1
def w_term_Open_1_2 := @wr_named T _ _ r_term_Open_1_2.eq_1
attribute [go_sem] w_term_Open_1_2
def w_term_Open_1_3 := @wr_named T _ _ r_term_Open_1_3.eq_1
attribute [go_sem] w_term_Open_1_3
def w_term_Open_1_4 := @wr_named T _ _ r_term_Open_1_4.eq_1
attribute [go_sem] w_term_Open_1_4
def w_term_Open_1_5 := @wr_named T _ _ r_term_Open_1_5.eq_1
attribute [go_sem] w_term_Open_1_5
def a_term_Open_1 := @aw_named T _ _ c_term_Open_1.eq_1
attribute [go_sem] a_term_Open_1
theorem f_term_Open_1 (a0 a1 a2 : AV) (H : List AO) : F term_Open_1 [a0, a1, a2] H = aw T c_term_Open_1 (finF H [.c 4 true 5]) ⟨⟨21, [(0, .v a0), (1, .v a1), (2, .v a2)]⟩, [], H, []⟩ := fnF_code T_term_Open_1 (Nat.le_of_ble_eq_true rfl) H
theorem T_term_variable : T term_variable = some (.code c_term_variable 5 [.c 4 true 2]) := by kernel_rfl
def w_term_variable_0 := @wr_named T _ _ r_term_variable_0.eq_1
attribute [go_sem] w_term_variable_0
def w_term_variable_1 := @wr_named T _ _ r_term_variable_1.eq_1
attribute [go_sem] w_term_variable_1
def a_term_variable := @aw_named T _ _ c_term_variable.eq_1
attribute [go_sem] a_term_variable
theorem f_term_variable (a0 : AV) (H : List AO) : F term_variable [a0] H = aw T c_term_variable (finF H [.c 4 true 2]) ⟨⟨5, [(0, .v a0)]⟩, [], H, []⟩ := fnF_code T_term_variable (Nat.le_of_ble_eq_true rfl) H
theorem T_slices_EqualFunc_Level : T slices_EqualFunc_Level = some (.code c_slices_EqualFunc_Level 32 [.t 6]) := by kernel_rfl
def w_slices_EqualFunc_Level_0 := @wr_named T _ _ r_slices_EqualFunc_Level_0.eq_1
attribute [go_sem] w_slices_EqualFunc_Level_0
def w_slices_EqualFunc_Level_1 := @wr_named T _ _ r_slices_EqualFunc_Level_1.eq_1
attribute [go_sem] w_slices_EqualFunc_Level_1
def w_slices_EqualFunc_Level_2 := @wr_named T _ _ r_slices_EqualFunc_Level_2.eq_1
attribute [go_sem] w_slices_EqualFunc_Level_2
def w_slices_EqualFunc_Level_3 := @wr_named T _ _ r_slices_EqualFunc_Level_3.eq_1
attribute [go_sem] w_slices_EqualFunc_Level_3
def w_slices_EqualFunc_Level_4 := @wr_named T _ _ r_slices_EqualFunc_Level_4.eq_1
attribute [go_sem] w_slices_EqualFunc_Level_4
def w_slices_EqualFunc_Level_5 := @wr_named T _ _ r_slices_EqualFunc_Level_5.eq_1
attribute [go_sem] w_slices_EqualFunc_Level_5
def w_slices_EqualFunc_Level_6 := @wr_named T _ _ r_slices_EqualFunc_Level_6.eq_1
attribute [go_sem] w_slices_EqualFunc_Level_6
def w_slices_EqualFunc_Level_7 := @wr_named T _ _ r_slices_EqualFunc_Level_7.eq_1
attribute [go_sem] w_slices_EqualFunc_Level_7
def w_slices_EqualFunc_Level_8 := @wr_named T _ _ r_slices_EqualFunc_Level_8.eq_1
attribute [go_sem] w_slices_EqualFunc_Level_8
def w_slices_EqualFunc_Level_9 := @wr_named T _ _ r_slices_EqualFunc_Level_9.eq_1
attribute [go_sem] w_slices_EqualFunc_Level_9
def a_l_slices_EqualFunc_Level_0 := @aw_named T _ _ l_slices_EqualFunc_Level_0.eq_1
attribute [go_sem] a_l_slices_EqualFunc_Level_0
def w_slices_EqualFunc_Level_10 := @wr_named T _ _ r_slices_EqualFunc_Level_10.eq_1
attribute [go_sem] w_slices_EqualFunc_Level_10
def a_slices_EqualFunc_Level := @aw_named T _ _ c_slices_EqualFunc_Level.eq_1
attribute [go_sem] a_slices_EqualFunc_Level
theorem f_slices_EqualFunc_Level (a0 a1 a2 : AV) (H : List AO) : F slices_EqualFunc_Level [a0, a1, a2] H = aw T c_slices_EqualFunc_Level (finF H [.t 6]) ⟨⟨32, [(0, .v a0), (1, .v a1), (2, .v a2)]⟩, [], H, []⟩ := fnF_code T_slices_EqualFunc_Level (Nat.le_of_ble_eq_true rfl) H
noncomputable def L_slices_EqualFunc_Level_0 (H h : List AO) (x1 x2 x15 x16 x17 : AV) : Option RH := awL T [1, 2, 15, 16, 17] [] l_slices_EqualFunc_Level_0 (blkF 0 (thn (aw T (.seq (.reg r_slices_EqualFunc_Level_10) (.ret)) (finF H [.t 6])) (finF H [.t 6]))) ⟨⟨32, [(1, .v x1), (2, .v x2), (15, .v x15), (16, .v x16), (17, .v x17)]⟩, [], h, []⟩
def g_slices_EqualFunc_Level_0 (H h : List AO) (x1 x2 x15 x16 x17 : AV) := (L_slices_EqualFunc_Level_0.eq_1 H h x1 x2 x15 x16 x17).symm
attribute [go_sem] g_slices_EqualFunc_Level_0
theorem T_level_Same : T level_Same = some (.code c_level_Same 24 [.t 4]) := by kernel_rfl
def w_level_Same_0 := @wr_named T _ _ r_level_Same_0.eq_1
attribute [go_sem] w_level_Same_0
def w_level_Same_1 := @wr_named T _ _ r_level_Same_1.eq_1
attribute [go_sem] w_level_Same_1
def a_level_Same := @aw_named T _ _ c_level_Same.eq_1
attribute [go_sem] a_level_Same
theorem f_level_Same (a0 a1 : AV) (H : List AO) : F level_Same [a0, a1] H = aw T c_level_Same (finF H [.t 4]) ⟨⟨24, [(0, .v a0), (1, .v a1)]⟩, [], H, []⟩ := fnF_code T_level_Same (Nat.le_of_ble_eq_true rfl) H
theorem T_slices_EqualFunc_Term : T slices_EqualFunc_Term = some (.code c_slices_EqualFunc_Term 32 [.t 6]) := by kernel_rfl
def w_slices_EqualFunc_Term_0 := @wr_named T _ _ r_slices_EqualFunc_Term_0.eq_1
attribute [go_sem] w_slices_EqualFunc_Term_0
def w_slices_EqualFunc_Term_1 := @wr_named T _ _ r_slices_EqualFunc_Term_1.eq_1
attribute [go_sem] w_slices_EqualFunc_Term_1
def w_slices_EqualFunc_Term_2 := @wr_named T _ _ r_slices_EqualFunc_Term_2.eq_1
attribute [go_sem] w_slices_EqualFunc_Term_2
def w_slices_EqualFunc_Term_3 := @wr_named T _ _ r_slices_EqualFunc_Term_3.eq_1
attribute [go_sem] w_slices_EqualFunc_Term_3
def w_slices_EqualFunc_Term_4 := @wr_named T _ _ r_slices_EqualFunc_Term_4.eq_1
attribute [go_sem] w_slices_EqualFunc_Term_4
def w_slices_EqualFunc_Term_5 := @wr_named T _ _ r_slices_EqualFunc_Term_5.eq_1
attribute [go_sem] w_slices_EqualFunc_Term_5
def w_slices_EqualFunc_Term_6 := @wr_named T _ _ r_slices_EqualFunc_Term_6.eq_1
attribute [go_sem] w_slices_EqualFunc_Term_6
def w_slices_EqualFunc_Term_7 := @wr_named T _ _ r_slices_EqualFunc_Term_7.eq_1
attribute [go_sem] w_slices_EqualFunc_Term_7
def w_slices_EqualFunc_Term_8 := @wr_named T _ _ r_slices_EqualFunc_Term_8.eq_1
attribute [go_sem] w_slices_EqualFunc_Term_8
def w_slices_EqualFunc_Term_9 := @wr_named T _ _ r_slices_EqualFunc_Term_9.eq_1
attribute [go_sem] w_slices_EqualFunc_Term_9
def a_l_slices_EqualFunc_Term_0 := @aw_named T _ _ l_slices_EqualFunc_Term_0.eq_1
attribute [go_sem] a_l_slices_EqualFunc_Term_0
def w_slices_EqualFunc_Term_10 := @wr_named T _ _ r_slices_EqualFunc_Term_10.eq_1
attribute [go_sem] w_slices_EqualFunc_Term_10
def a_slices_EqualFunc_Term := @aw_named T _ _ c_slices_EqualFunc_Term.eq_1
attribute [go_sem] a_slices_EqualFunc_Term
theorem f_slices_EqualFunc_Term (a0 a1 a2 : AV) (H : List AO) : F slices_EqualFunc_Term [a0, a1, a2] H = aw T c_slices_EqualFunc_Term (finF H [.t 6]) ⟨⟨32, [(0, .v a0), (1, .v a1), (2, .v a2)]⟩, [], H, []⟩ := fnF_code T_slices_EqualFunc_Term (Nat.le_of_ble_eq_true rfl) H
noncomputable def L_slices_EqualFunc_Term_0 (H h : List AO) (x1 x2 x15 x16 x17 : AV) : Option RH := awL T [1, 2, 15, 16, 17] [] l_slices_EqualFunc_Term_0 (blkF 0 (thn (aw T (.seq (.reg r_slices_EqualFunc_Term_10) (.ret)) (finF H [.t 6])) (finF H [.t 6]))) ⟨⟨32, [(1, .v x1), (2, .v x2), (15, .v x15), (16, .v x16), (17, .v x17)]⟩, [], h, []⟩
def g_slices_EqualFunc_Term_0 (H h : List AO) (x1 x2 x15 x16 x17 : AV) := (L_slices_EqualFunc_Term_0.eq_1 H h x1 x2 x15 x16 x17).symm
attribute [go_sem] g_slices_EqualFunc_Term_0
theorem T_law02_Maker_Pick : T law02_Maker_Pick = some (.code c_law02_Maker_Pick 36 [.t 4]) := by kernel_rfl
def w_law02_Maker_Pick_0 := @wr_named T _ _ r_law02_Maker_Pick_0.eq_1
attribute [go_sem] w_law02_Maker_Pick_0
def w_law02_Maker_Pick_1 := @wr_named T _ _ r_law02_Maker_Pick_1.eq_1
attribute [go_sem] w_law02_Maker_Pick_1
def w_law02_Maker_Pick_2 := @wd_named T _ _ r_law02_Maker_Pick_2.eq_1
attribute [go_sem] w_law02_Maker_Pick_2
def w_law02_Maker_Pick_3 := @wr_named T _ _ r_law02_Maker_Pick_3.eq_1
attribute [go_sem] w_law02_Maker_Pick_3
def w_law02_Maker_Pick_4 := @wd_named T _ _ r_law02_Maker_Pick_4.eq_1
attribute [go_sem] w_law02_Maker_Pick_4
def a_law02_Maker_Pick := @aw_named T _ _ c_law02_Maker_Pick.eq_1
attribute [go_sem] a_law02_Maker_Pick
theorem f_law02_Maker_Pick (a0 a1 : AV) (H : List AO) : F law02_Maker_Pick [a0, a1] H = aw T c_law02_Maker_Pick (finF H [.t 4]) ⟨⟨36, [(0, .v a0), (1, .v a1)]⟩, [], H, []⟩ := fnF_code T_law02_Maker_Pick (Nat.le_of_ble_eq_true rfl) H
theorem T_law15_meta : T law15_meta = some (.code c_law15_meta 5 [.c 3 true 2]) := by kernel_rfl
def w_law15_meta_0 := @wr_named T _ _ r_law15_meta_0.eq_1
attribute [go_sem] w_law15_meta_0
def w_law15_meta_1 := @wr_named T _ _ r_law15_meta_1.eq_1
attribute [go_sem] w_law15_meta_1
def a_law15_meta := @aw_named T _ _ c_law15_meta.eq_1
attribute [go_sem] a_law15_meta
theorem f_law15_meta (a0 : AV) (H : List AO) : F law15_meta [a0] H = aw T c_law15_meta (finF H [.c 3 true 2]) ⟨⟨5, [(0, .v a0)]⟩, [], H, []⟩ := fnF_code T_law15_meta (Nat.le_of_ble_eq_true rfl) H
theorem T_ref08_Ints : T ref08_Ints = some (.code c_ref08_Ints 26 [.t 4]) := by kernel_rfl
def w_ref08_Ints_0 := @wr_named T _ _ r_ref08_Ints_0.eq_1
attribute [go_sem] w_ref08_Ints_0
def w_ref08_Ints_1 := @wr_named T _ _ r_ref08_Ints_1.eq_1
attribute [go_sem] w_ref08_Ints_1
def w_ref08_Ints_2 := @wr_named T _ _ r_ref08_Ints_2.eq_1
attribute [go_sem] w_ref08_Ints_2
def w_ref08_Ints_3 := @wr_named T _ _ r_ref08_Ints_3.eq_1
attribute [go_sem] w_ref08_Ints_3
def w_ref08_Ints_4 := @wr_named T _ _ r_ref08_Ints_4.eq_1
attribute [go_sem] w_ref08_Ints_4
def w_ref08_Ints_5 := @wd_named T _ _ r_ref08_Ints_5.eq_1
attribute [go_sem] w_ref08_Ints_5
def w_ref08_Ints_6 := @wr_named T _ _ r_ref08_Ints_6.eq_1
attribute [go_sem] w_ref08_Ints_6
def w_ref08_Ints_7 := @wr_named T _ _ r_ref08_Ints_7.eq_1
attribute [go_sem] w_ref08_Ints_7
def a_l_ref08_Ints_0 := @aw_named T _ _ l_ref08_Ints_0.eq_1
attribute [go_sem] a_l_ref08_Ints_0
def w_ref08_Ints_8 := @wr_named T _ _ r_ref08_Ints_8.eq_1
attribute [go_sem] w_ref08_Ints_8
def a_ref08_Ints := @aw_named T _ _ c_ref08_Ints.eq_1
attribute [go_sem] a_ref08_Ints
theorem f_ref08_Ints (a0 a1 : AV) (H : List AO) : F ref08_Ints [a0, a1] H = aw T c_ref08_Ints (finF H [.t 4]) ⟨⟨26, [(0, .v a0), (1, .v a1)]⟩, [], H, []⟩ := fnF_code T_ref08_Ints (Nat.le_of_ble_eq_true rfl) H
noncomputable def L_ref08_Ints_0 (H h : List AO) (x0 x1 x5 : AV) : Option RH := awL T [0, 1, 5] [] l_ref08_Ints_0 (blkF 0 (thn (aw T (.seq (.reg r_ref08_Ints_8) (.ret)) (finF H [.t 4])) (finF H [.t 4]))) ⟨⟨26, [(0, .v x0), (1, .v x1), (5, .v x5)]⟩, [], h, []⟩
def g_ref08_Ints_0 (H h : List AO) (x0 x1 x5 : AV) := (L_ref08_Ints_0.eq_1 H h x0 x1 x5).symm
attribute [go_sem] g_ref08_Ints_0
theorem T_tsub_Metas : T tsub_Metas = some (.code c_tsub_Metas 25 [.c 1 false 2]) := by kernel_rfl
def w_tsub_Metas_0 := @wr_named T _ _ r_tsub_Metas_0.eq_1
attribute [go_sem] w_tsub_Metas_0
def w_tsub_Metas_1 := @wr_named T _ _ r_tsub_Metas_1.eq_1
attribute [go_sem] w_tsub_Metas_1
def w_tsub_Metas_2 := @wr_named T _ _ r_tsub_Metas_2.eq_1
attribute [go_sem] w_tsub_Metas_2
def w_tsub_Metas_3 := @wr_named T _ _ r_tsub_Metas_3.eq_1
attribute [go_sem] w_tsub_Metas_3
def w_tsub_Metas_4 := @wr_named T _ _ r_tsub_Metas_4.eq_1
attribute [go_sem] w_tsub_Metas_4
def w_tsub_Metas_5 := @wr_named T _ _ r_tsub_Metas_5.eq_1
attribute [go_sem] w_tsub_Metas_5
def w_tsub_Metas_6 := @wr_named T _ _ r_tsub_Metas_6.eq_1
attribute [go_sem] w_tsub_Metas_6
def w_tsub_Metas_7 := @wd_named T _ _ r_tsub_Metas_7.eq_1
attribute [go_sem] w_tsub_Metas_7
def w_tsub_Metas_8 := @wr_named T _ _ r_tsub_Metas_8.eq_1
attribute [go_sem] w_tsub_Metas_8
def a_l_tsub_Metas_0 := @aw_named T _ _ l_tsub_Metas_0.eq_1
attribute [go_sem] a_l_tsub_Metas_0
def a_s_tsub_Metas_0 := @aw_named T _ _ s_tsub_Metas_0.eq_1
theorem o_s_tsub_Metas_0 : FC.okd s_tsub_Metas_0 = true := by kernel_rfl
attribute [go_sem] a_s_tsub_Metas_0 o_s_tsub_Metas_0
def a_y_tsub_Metas_0 := @aw_named T _ _ y_tsub_Metas_0.eq_1
theorem o_y_tsub_Metas_0 : FC.okd y_tsub_Metas_0 = true := by kernel_rfl
attribute [go_sem] a_y_tsub_Metas_0 o_y_tsub_Metas_0
def w_tsub_Metas_9 := @wr_named T _ _ r_tsub_Metas_9.eq_1
attribute [go_sem] w_tsub_Metas_9
def a_tsub_Metas := @aw_named T _ _ c_tsub_Metas.eq_1
attribute [go_sem] a_tsub_Metas
theorem f_tsub_Metas (a0 : AV) (H : List AO) : F tsub_Metas [a0] H = aw T c_tsub_Metas (finF H [.c 1 false 2]) ⟨⟨25, [(0, .v a0)]⟩, [], H, []⟩ := fnF_code T_tsub_Metas (Nat.le_of_ble_eq_true rfl) H
noncomputable def L_tsub_Metas_0 (H h : List AO) (id : Nat) (x2 x3 x12 x13 x14 : AV) : Option RH := awL T [2, 3, 12, 13, 14] [] l_tsub_Metas_0 (blkF 2 (blkF 1 (finYF H id))) ⟨⟨25, [(2, .v x2), (3, .v x3), (12, .v x12), (13, .v x13), (14, .v x14)]⟩, [], h, [id]⟩
def g_tsub_Metas_0 (H h : List AO) (id : Nat) (x2 x3 x12 x13 x14 : AV) := (L_tsub_Metas_0.eq_1 H h id x2 x3 x12 x13 x14).symm
attribute [go_sem] g_tsub_Metas_0
theorem T_tsub_Consts : T tsub_Consts = some (.code c_tsub_Consts 19 [.c 1 false 2]) := by kernel_rfl
def w_tsub_Consts_0 := @wr_named T _ _ r_tsub_Consts_0.eq_1
attribute [go_sem] w_tsub_Consts_0
def w_tsub_Consts_1 := @wr_named T _ _ r_tsub_Consts_1.eq_1
attribute [go_sem] w_tsub_Consts_1
def w_tsub_Consts_2 := @wr_named T _ _ r_tsub_Consts_2.eq_1
attribute [go_sem] w_tsub_Consts_2
def w_tsub_Consts_3 := @wr_named T _ _ r_tsub_Consts_3.eq_1
attribute [go_sem] w_tsub_Consts_3
def w_tsub_Consts_4 := @wr_named T _ _ r_tsub_Consts_4.eq_1
attribute [go_sem] w_tsub_Consts_4
def w_tsub_Consts_5 := @wr_named T _ _ r_tsub_Consts_5.eq_1
attribute [go_sem] w_tsub_Consts_5
def a_s_tsub_Consts_0 := @aw_named T _ _ s_tsub_Consts_0.eq_1
theorem o_s_tsub_Consts_0 : FC.okd s_tsub_Consts_0 = true := by kernel_rfl
attribute [go_sem] a_s_tsub_Consts_0 o_s_tsub_Consts_0
def a_y_tsub_Consts_0 := @aw_named T _ _ y_tsub_Consts_0.eq_1
theorem o_y_tsub_Consts_0 : FC.okd y_tsub_Consts_0 = true := by kernel_rfl
attribute [go_sem] a_y_tsub_Consts_0 o_y_tsub_Consts_0
def w_tsub_Consts_6 := @wr_named T _ _ r_tsub_Consts_6.eq_1
attribute [go_sem] w_tsub_Consts_6
def a_tsub_Consts := @aw_named T _ _ c_tsub_Consts.eq_1
attribute [go_sem] a_tsub_Consts
theorem f_tsub_Consts (a0 : AV) (H : List AO) : F tsub_Consts [a0] H = aw T c_tsub_Consts (finF H [.c 1 false 2]) ⟨⟨19, [(0, .v a0)]⟩, [], H, []⟩ := fnF_code T_tsub_Consts (Nat.le_of_ble_eq_true rfl) H
theorem T_tsub_odd : T tsub_odd = some (.code c_tsub_odd 6 [.t 2]) := by kernel_rfl
def w_tsub_odd_0 := @wr_named T _ _ r_tsub_odd_0.eq_1
attribute [go_sem] w_tsub_odd_0
def w_tsub_odd_1 := @wr_named T _ _ r_tsub_odd_1.eq_1
attribute [go_sem] w_tsub_odd_1
def a_tsub_odd := @aw_named T _ _ c_tsub_odd.eq_1
attribute [go_sem] a_tsub_odd
theorem f_tsub_odd (a0 : AV) (H : List AO) : F tsub_odd [a0] H = aw T c_tsub_odd (finF H [.t 2]) ⟨⟨6, [(0, .v a0)]⟩, [], H, []⟩ := fnF_code T_tsub_odd (Nat.le_of_ble_eq_true rfl) H
theorem T_tsub_putter_term : T tsub_putter_term = some (.code c_tsub_putter_term 70 [.c 4 true 4]) := by kernel_rfl
def w_tsub_putter_term_0 := @wr_named T _ _ r_tsub_putter_term_0.eq_1
attribute [go_sem] w_tsub_putter_term_0
def w_tsub_putter_term_1 := @wr_named T _ _ r_tsub_putter_term_1.eq_1
attribute [go_sem] w_tsub_putter_term_1
def w_tsub_putter_term_2 := @wr_named T _ _ r_tsub_putter_term_2.eq_1
attribute [go_sem] w_tsub_putter_term_2
def w_tsub_putter_term_3 := @wr_named T _ _ r_tsub_putter_term_3.eq_1
attribute [go_sem] w_tsub_putter_term_3
def w_tsub_putter_term_4 := @wr_named T _ _ r_tsub_putter_term_4.eq_1
attribute [go_sem] w_tsub_putter_term_4
def w_tsub_putter_term_5 := @wd_named T _ _ r_tsub_putter_term_5.eq_1
attribute [go_sem] w_tsub_putter_term_5
def w_tsub_putter_term_6 := @wr_named T _ _ r_tsub_putter_term_6.eq_1
attribute [go_sem] w_tsub_putter_term_6
def w_tsub_putter_term_7 := @wr_named T _ _ r_tsub_putter_term_7.eq_1
attribute [go_sem] w_tsub_putter_term_7
def w_tsub_putter_term_8 := @wr_named T _ _ r_tsub_putter_term_8.eq_1
attribute [go_sem] w_tsub_putter_term_8
def a_l_tsub_putter_term_0 := @aw_named T _ _ l_tsub_putter_term_0.eq_1
attribute [go_sem] a_l_tsub_putter_term_0
def w_tsub_putter_term_9 := @wr_named T _ _ r_tsub_putter_term_9.eq_1
attribute [go_sem] w_tsub_putter_term_9
def w_tsub_putter_term_10 := @wr_named T _ _ r_tsub_putter_term_10.eq_1
attribute [go_sem] w_tsub_putter_term_10
def w_tsub_putter_term_11 := @wr_named T _ _ r_tsub_putter_term_11.eq_1
attribute [go_sem] w_tsub_putter_term_11
def w_tsub_putter_term_12 := @wd_named T _ _ r_tsub_putter_term_12.eq_1
attribute [go_sem] w_tsub_putter_term_12
def w_tsub_putter_term_13 := @wr_named T _ _ r_tsub_putter_term_13.eq_1
attribute [go_sem] w_tsub_putter_term_13
def a_l_tsub_putter_term_1 := @aw_named T _ _ l_tsub_putter_term_1.eq_1
attribute [go_sem] a_l_tsub_putter_term_1
def w_tsub_putter_term_14 := @wr_named T _ _ r_tsub_putter_term_14.eq_1
attribute [go_sem] w_tsub_putter_term_14
def a_tsub_putter_term := @aw_named T _ _ c_tsub_putter_term.eq_1
attribute [go_sem] a_tsub_putter_term
theorem f_tsub_putter_term (a0 a1 : AV) (H : List AO) : F tsub_putter_term [a0, a1] H = aw T c_tsub_putter_term (finF H [.c 4 true 4]) ⟨⟨70, [(0, .v a0), (1, .v a1)]⟩, [], H, []⟩ := fnF_code T_tsub_putter_term (Nat.le_of_ble_eq_true rfl) H
noncomputable def L_tsub_putter_term_0 (H h : List AO) (x0 x18 x19 x20 : AV) (v3 v4 v5 : List AV) : Option RH := awL T [0, 3, 4, 5, 18, 19, 20] [3, 4, 5] l_tsub_putter_term_0 (blkF 0 (thn (aw T (.seq (.seq (.reg r_tsub_putter_term_9) (.block 2 (.loop [0, 4, 5, 54, 55, 56] [4, 5] l_tsub_putter_term_1))) (.seq (.reg r_tsub_putter_term_14) (.ret))) (finF H [.c 4 true 4])) (finF H [.c 4 true 4]))) ⟨⟨70, [(0, .v x0), (3, .lp 3 0), (4, .lp 4 0), (5, .lp 5 0), (18, .v x18), (19, .v x19), (20, .v x20)]⟩, [(3, v3), (4, v4), (5, v5)], h, []⟩
def g_tsub_putter_term_0 (H h : List AO) (x0 x18 x19 x20 : AV) (v3 v4 v5 : List AV) := (L_tsub_putter_term_0.eq_1 H h x0 x18 x19 x20 v3 v4 v5).symm
attribute [go_sem] g_tsub_putter_term_0
noncomputable def L_tsub_putter_term_1 (H h : List AO) (x0 x54 x55 x56 : AV) (v4 v5 : List AV) : Option RH := awL T [0, 4, 5, 54, 55, 56] [4, 5] l_tsub_putter_term_1 (blkF 2 (thn (aw T (.seq (.reg r_tsub_putter_term_14) (.ret)) (finF H [.c 4 true 4])) (finF H [.c 4 true 4]))) ⟨⟨70, [(0, .v x0), (4, .lp 4 0), (5, .lp 5 0), (54, .v x54), (55, .v x55), (56, .v x56)]⟩, [(4, v4), (5, v5)], h, []⟩
def g_tsub_putter_term_1 (H h : List AO) (x0 x54 x55 x56 : AV) (v4 v5 : List AV) := (L_tsub_putter_term_1.eq_1 H h x0 x54 x55 x56 v4 v5).symm
attribute [go_sem] g_tsub_putter_term_1
theorem T_ref13_open : T ref13_open = some (.code c_ref13_open 67 [.c 4 true 6]) := by kernel_rfl
def w_ref13_open_0 := @wr_named T _ _ r_ref13_open_0.eq_1
attribute [go_sem] w_ref13_open_0
def w_ref13_open_1 := @wr_named T _ _ r_ref13_open_1.eq_1
attribute [go_sem] w_ref13_open_1
def w_ref13_open_2 := @wr_named T _ _ r_ref13_open_2.eq_1
attribute [go_sem] w_ref13_open_2
def w_ref13_open_3 := @wr_named T _ _ r_ref13_open_3.eq_1
attribute [go_sem] w_ref13_open_3
def w_ref13_open_4 := @wr_named T _ _ r_ref13_open_4.eq_1
attribute [go_sem] w_ref13_open_4
def w_ref13_open_5 := @wr_named T _ _ r_ref13_open_5.eq_1
attribute [go_sem] w_ref13_open_5
def w_ref13_open_6 := @wr_named T _ _ r_ref13_open_6.eq_1
attribute [go_sem] w_ref13_open_6
def w_ref13_open_7 := @wr_named T _ _ r_ref13_open_7.eq_1
attribute [go_sem] w_ref13_open_7
def w_ref13_open_8 := @wd_named T _ _ r_ref13_open_8.eq_1
attribute [go_sem] w_ref13_open_8
def w_ref13_open_9 := @wr_named T _ _ r_ref13_open_9.eq_1
attribute [go_sem] w_ref13_open_9
def a_l_ref13_open_0 := @aw_named T _ _ l_ref13_open_0.eq_1
attribute [go_sem] a_l_ref13_open_0
def w_ref13_open_10 := @wr_named T _ _ r_ref13_open_10.eq_1
attribute [go_sem] w_ref13_open_10
def a_ref13_open := @aw_named T _ _ c_ref13_open.eq_1
attribute [go_sem] a_ref13_open
theorem f_ref13_open (a0 a1 a2 : AV) (H : List AO) : F ref13_open [a0, a1, a2] H = aw T c_ref13_open (finF H [.c 4 true 6]) ⟨⟨67, [(0, .v a0), (1, .v a1), (2, .v a2)]⟩, [], H, []⟩ := fnF_code T_ref13_open (Nat.le_of_ble_eq_true rfl) H
noncomputable def L_ref13_open_0 (H h : List AO) (x1 x8 : AV) (v3 v5 v6 v7 : List AV) : Option RH := awL T [1, 3, 5, 6, 7, 8] [3, 5, 6, 7] l_ref13_open_0 (blkF 0 (thn (aw T (.seq (.reg r_ref13_open_10) (.ret)) (finF H [.c 4 true 6])) (finF H [.c 4 true 6]))) ⟨⟨67, [(1, .v x1), (3, .lp 3 0), (5, .lp 5 0), (6, .lp 6 0), (7, .lp 7 0), (8, .v x8)]⟩, [(3, v3), (5, v5), (6, v6), (7, v7)], h, []⟩
def g_ref13_open_0 (H h : List AO) (x1 x8 : AV) (v3 v5 v6 v7 : List AV) := (L_ref13_open_0.eq_1 H h x1 x8 v3 v5 v6 v7).symm
attribute [go_sem] g_ref13_open_0
theorem T_ref05_right : T ref05_right = some (.code c_ref05_right 16 [.t 2]) := by kernel_rfl
def w_ref05_right_0 := @wr_named T _ _ r_ref05_right_0.eq_1
attribute [go_sem] w_ref05_right_0
def w_ref05_right_1 := @wr_named T _ _ r_ref05_right_1.eq_1
attribute [go_sem] w_ref05_right_1
def w_ref05_right_2 := @wr_named T _ _ r_ref05_right_2.eq_1
attribute [go_sem] w_ref05_right_2
def w_ref05_right_3 := @wr_named T _ _ r_ref05_right_3.eq_1
attribute [go_sem] w_ref05_right_3
def w_ref05_right_4 := @wr_named T _ _ r_ref05_right_4.eq_1
attribute [go_sem] w_ref05_right_4
def w_ref05_right_5 := @wr_named T _ _ r_ref05_right_5.eq_1
attribute [go_sem] w_ref05_right_5
def a_l_ref05_right_0 := @aw_named T _ _ l_ref05_right_0.eq_1
attribute [go_sem] a_l_ref05_right_0
def w_ref05_right_6 := @wr_named T _ _ r_ref05_right_6.eq_1
attribute [go_sem] w_ref05_right_6
def a_ref05_right := @aw_named T _ _ c_ref05_right.eq_1
attribute [go_sem] a_ref05_right
theorem f_ref05_right (a0 : AV) (H : List AO) : F ref05_right [a0] H = aw T c_ref05_right (finF H [.t 2]) ⟨⟨16, [(0, .v a0)]⟩, [], H, []⟩ := fnF_code T_ref05_right (Nat.le_of_ble_eq_true rfl) H
noncomputable def L_ref05_right_0 (H h : List AO) (x0 x3 : AV) : Option RH := awL T [0, 3] [] l_ref05_right_0 (blkF 0 (thn (aw T (.seq (.reg r_ref05_right_6) (.ret)) (finF H [.t 2])) (finF H [.t 2]))) ⟨⟨16, [(0, .v x0), (3, .v x3)]⟩, [], h, []⟩
def g_ref05_right_0 (H h : List AO) (x0 x3 : AV) := (L_ref05_right_0.eq_1 H h x0 x3).symm
attribute [go_sem] g_ref05_right_0
theorem T_ref05_sub : T ref05_sub = some (.code c_ref05_sub 65 [.c 3 true 6]) := by kernel_rfl
def w_ref05_sub_0 := @wr_named T _ _ r_ref05_sub_0.eq_1
attribute [go_sem] w_ref05_sub_0
def w_ref05_sub_1 := @wr_named T _ _ r_ref05_sub_1.eq_1
attribute [go_sem] w_ref05_sub_1
def w_ref05_sub_2 := @wr_named T _ _ r_ref05_sub_2.eq_1
attribute [go_sem] w_ref05_sub_2
def w_ref05_sub_3 := @wr_named T _ _ r_ref05_sub_3.eq_1
attribute [go_sem] w_ref05_sub_3
def w_ref05_sub_4 := @wr_named T _ _ r_ref05_sub_4.eq_1
attribute [go_sem] w_ref05_sub_4
def w_ref05_sub_5 := @wr_named T _ _ r_ref05_sub_5.eq_1
attribute [go_sem] w_ref05_sub_5
def w_ref05_sub_6 := @wr_named T _ _ r_ref05_sub_6.eq_1
attribute [go_sem] w_ref05_sub_6
def w_ref05_sub_7 := @wr_named T _ _ r_ref05_sub_7.eq_1
attribute [go_sem] w_ref05_sub_7
def w_ref05_sub_8 := @wd_named T _ _ r_ref05_sub_8.eq_1
attribute [go_sem] w_ref05_sub_8
def w_ref05_sub_9 := @wr_named T _ _ r_ref05_sub_9.eq_1
attribute [go_sem] w_ref05_sub_9
def a_l_ref05_sub_0 := @aw_named T _ _ l_ref05_sub_0.eq_1
attribute [go_sem] a_l_ref05_sub_0
def w_ref05_sub_10 := @wr_named T _ _ r_ref05_sub_10.eq_1
attribute [go_sem] w_ref05_sub_10
def a_ref05_sub := @aw_named T _ _ c_ref05_sub.eq_1
attribute [go_sem] a_ref05_sub
theorem f_ref05_sub (a0 a1 a2 : AV) (H : List AO) : F ref05_sub [a0, a1, a2] H = aw T c_ref05_sub (finF H [.c 3 true 6]) ⟨⟨65, [(0, .v a0), (1, .v a1), (2, .v a2)]⟩, [], H, []⟩ := fnF_code T_ref05_sub (Nat.le_of_ble_eq_true rfl) H
noncomputable def L_ref05_sub_0 (H h : List AO) (x1 x2 x8 : AV) (v3 v6 v7 : List AV) : Option RH := awL T [1, 2, 3, 6, 7, 8] [3, 6, 7] l_ref05_sub_0 (blkF 0 (thn (aw T (.seq (.reg r_ref05_sub_10) (.ret)) (finF H [.c 3 true 6])) (finF H [.c 3 true 6]))) ⟨⟨65, [(1, .v x1), (2, .v x2), (3, .lp 3 0), (6, .lp 6 0), (7, .lp 7 0), (8, .v x8)]⟩, [(3, v3), (6, v6), (7, v7)], h, []⟩
def g_ref05_sub_0 (H h : List AO) (x1 x2 x8 : AV) (v3 v6 v7 : List AV) := (L_ref05_sub_0.eq_1 H h x1 x2 x8 v3 v6 v7).symm
attribute [go_sem] g_ref05_sub_0
theorem T_ref05_named : T ref05_named = some (.code c_ref05_named 48 [.t 6] true) := by kernel_rfl
def w_ref05_named_0 := @wr_named T _ _ r_ref05_named_0.eq_1
attribute [go_sem] w_ref05_named_0
def w_ref05_named_1 := @wr_named T _ _ r_ref05_named_1.eq_1
attribute [go_sem] w_ref05_named_1
def w_ref05_named_2 := @wr_named T _ _ r_ref05_named_2.eq_1
attribute [go_sem] w_ref05_named_2
def w_ref05_named_3 := @wr_named T _ _ r_ref05_named_3.eq_1
attribute [go_sem] w_ref05_named_3
def w_ref05_named_4 := @wd_named T _ _ r_ref05_named_4.eq_1
attribute [go_sem] w_ref05_named_4
def w_ref05_named_5 := @wr_named T _ _ r_ref05_named_5.eq_1
attribute [go_sem] w_ref05_named_5
def w_ref05_named_6 := @wr_named T _ _ r_ref05_named_6.eq_1
attribute [go_sem] w_ref05_named_6
def a_l_ref05_named_0 := @aw_named T _ _ l_ref05_named_0.eq_1
attribute [go_sem] a_l_ref05_named_0
def w_ref05_named_7 := @wr_named T _ _ r_ref05_named_7.eq_1
attribute [go_sem] w_ref05_named_7
def w_ref05_named_8 := @wr_named T _ _ r_ref05_named_8.eq_1
attribute [go_sem] w_ref05_named_8
def w_ref05_named_9 := @wr_named T _ _ r_ref05_named_9.eq_1
attribute [go_sem] w_ref05_named_9
def w_ref05_named_10 := @wr_named T _ _ r_ref05_named_10.eq_1
attribute [go_sem] w_ref05_named_10
def w_ref05_named_11 := @wr_named T _ _ r_ref05_named_11.eq_1
attribute [go_sem] w_ref05_named_11
def a_l_ref05_named_1 := @aw_named T _ _ l_ref05_named_1.eq_1
attribute [go_sem] a_l_ref05_named_1
def w_ref05_named_12 := @wr_named T _ _ r_ref05_named_12.eq_1
attribute [go_sem] w_ref05_named_12
def a_ref05_named := @aw_named T _ _ c_ref05_named.eq_1
attribute [go_sem] a_ref05_named
theorem f_ref05_named (a0 a1 a2 : AV) (H : List AO) : F ref05_named [a0, a1, a2] H = aw T c_ref05_named (finKF [.t 6]) ⟨⟨48, [(0, .v a0), (1, .v a1), (2, .v a2)]⟩, [], H, []⟩ := fnF_codeK T_ref05_named (Nat.le_of_ble_eq_true rfl) H
noncomputable def L_ref05_named_0 (h : List AO) (x2 x7 : AV) (v3 : List AV) : Option RH := awL T [2, 3, 7] [3] l_ref05_named_0 (blkF 0 (thn (aw T (.seq (.reg r_ref05_named_7) (.ret)) (thn (aw T (.seq (.seq (.reg r_ref05_named_8) (.block 2 (.loop [1, 2, 3, 8] [3] l_ref05_named_1))) (.seq (.reg r_ref05_named_12) (.ret))) (finKF [.t 6])) (finKF [.t 6]))) (thn (aw T (.seq (.seq (.reg r_ref05_named_8) (.block 2 (.loop [1, 2, 3, 8] [3] l_ref05_named_1))) (.seq (.reg r_ref05_named_12) (.ret))) (finKF [.t 6])) (finKF [.t 6])))) ⟨⟨48, [(2, .v x2), (3, .lp 3 0), (7, .v x7)]⟩, [(3, v3)], h, []⟩
def g_ref05_named_0 (h : List AO) (x2 x7 : AV) (v3 : List AV) := (L_ref05_named_0.eq_1 h x2 x7 v3).symm
attribute [go_sem] g_ref05_named_0
noncomputable def L_ref05_named_1 (h : List AO) (x1 x2 x8 : AV) (v3 : List AV) : Option RH := awL T [1, 2, 3, 8] [3] l_ref05_named_1 (blkF 2 (thn (aw T (.seq (.reg r_ref05_named_12) (.ret)) (finKF [.t 6])) (finKF [.t 6]))) ⟨⟨48, [(1, .v x1), (2, .v x2), (3, .lp 3 0), (8, .v x8)]⟩, [(3, v3)], h, []⟩
def g_ref05_named_1 (h : List AO) (x1 x2 x8 : AV) (v3 : List AV) := (L_ref05_named_1.eq_1 h x1 x2 x8 v3).symm
attribute [go_sem] g_ref05_named_1
theorem T_level_Right : T level_Right = some (.code c_level_Right 30 [.t 6]) := by kernel_rfl
def w_level_Right_0 := @wr_named T _ _ r_level_Right_0.eq_1
attribute [go_sem] w_level_Right_0
def w_level_Right_1 := @wr_named T _ _ r_level_Right_1.eq_1
attribute [go_sem] w_level_Right_1
def w_level_Right_2 := @wr_named T _ _ r_level_Right_2.eq_1
attribute [go_sem] w_level_Right_2
def w_level_Right_3 := @wr_named T _ _ r_level_Right_3.eq_1
attribute [go_sem] w_level_Right_3
def a_level_Right := @aw_named T _ _ c_level_Right.eq_1
attribute [go_sem] a_level_Right
theorem f_level_Right (a0 a1 a2 : AV) (H : List AO) : F level_Right [a0, a1, a2] H = aw T c_level_Right (finF H [.t 6]) ⟨⟨30, [(0, .v a0), (1, .v a1), (2, .v a2)]⟩, [], H, []⟩ := fnF_code T_level_Right (Nat.le_of_ble_eq_true rfl) H
theorem T_slices_IndexFunc_Level : T slices_IndexFunc_Level = some (.code c_slices_IndexFunc_Level 19 [.t 4]) := by kernel_rfl
def w_slices_IndexFunc_Level_0 := @wr_named T _ _ r_slices_IndexFunc_Level_0.eq_1
attribute [go_sem] w_slices_IndexFunc_Level_0
def w_slices_IndexFunc_Level_1 := @wr_named T _ _ r_slices_IndexFunc_Level_1.eq_1
attribute [go_sem] w_slices_IndexFunc_Level_1
def w_slices_IndexFunc_Level_2 := @wr_named T _ _ r_slices_IndexFunc_Level_2.eq_1
attribute [go_sem] w_slices_IndexFunc_Level_2
def w_slices_IndexFunc_Level_3 := @wr_named T _ _ r_slices_IndexFunc_Level_3.eq_1
attribute [go_sem] w_slices_IndexFunc_Level_3
def w_slices_IndexFunc_Level_4 := @wr_named T _ _ r_slices_IndexFunc_Level_4.eq_1
attribute [go_sem] w_slices_IndexFunc_Level_4
def w_slices_IndexFunc_Level_5 := @wr_named T _ _ r_slices_IndexFunc_Level_5.eq_1
attribute [go_sem] w_slices_IndexFunc_Level_5
def w_slices_IndexFunc_Level_6 := @wr_named T _ _ r_slices_IndexFunc_Level_6.eq_1
attribute [go_sem] w_slices_IndexFunc_Level_6
def a_l_slices_IndexFunc_Level_0 := @aw_named T _ _ l_slices_IndexFunc_Level_0.eq_1
attribute [go_sem] a_l_slices_IndexFunc_Level_0
def w_slices_IndexFunc_Level_7 := @wr_named T _ _ r_slices_IndexFunc_Level_7.eq_1
attribute [go_sem] w_slices_IndexFunc_Level_7
def a_slices_IndexFunc_Level := @aw_named T _ _ c_slices_IndexFunc_Level.eq_1
attribute [go_sem] a_slices_IndexFunc_Level
theorem f_slices_IndexFunc_Level (a0 a1 : AV) (H : List AO) : F slices_IndexFunc_Level [a0, a1] H = aw T c_slices_IndexFunc_Level (finF H [.t 4]) ⟨⟨19, [(0, .v a0), (1, .v a1)]⟩, [], H, []⟩ := fnF_code T_slices_IndexFunc_Level (Nat.le_of_ble_eq_true rfl) H
noncomputable def L_slices_IndexFunc_Level_0 (H h : List AO) (x0 x1 x7 x8 : AV) : Option RH := awL T [0, 1, 7, 8] [] l_slices_IndexFunc_Level_0 (blkF 0 (thn (aw T (.seq (.reg r_slices_IndexFunc_Level_7) (.ret)) (finF H [.t 4])) (finF H [.t 4]))) ⟨⟨19, [(0, .v x0), (1, .v x1), (7, .v x7), (8, .v x8)]⟩, [], h, []⟩
def g_slices_IndexFunc_Level_0 (H h : List AO) (x0 x1 x7 x8 : AV) := (L_slices_IndexFunc_Level_0.eq_1 H h x0 x1 x7 x8).symm
attribute [go_sem] g_slices_IndexFunc_Level_0
theorem T_slices_Grow_Level : T slices_Grow_Level = some (.code c_slices_Grow_Level 27 [.t 4] true) := by kernel_rfl
def w_slices_Grow_Level_0 := @wr_named T _ _ r_slices_Grow_Level_0.eq_1
attribute [go_sem] w_slices_Grow_Level_0
def w_slices_Grow_Level_1 := @wr_named T _ _ r_slices_Grow_Level_1.eq_1
attribute [go_sem] w_slices_Grow_Level_1
def w_slices_Grow_Level_2 := @wr_named T _ _ r_slices_Grow_Level_2.eq_1
attribute [go_sem] w_slices_Grow_Level_2
def w_slices_Grow_Level_3 := @wr_named T _ _ r_slices_Grow_Level_3.eq_1
attribute [go_sem] w_slices_Grow_Level_3
def w_slices_Grow_Level_4 := @wr_named T _ _ r_slices_Grow_Level_4.eq_1
attribute [go_sem] w_slices_Grow_Level_4
def w_slices_Grow_Level_5 := @wr_named T _ _ r_slices_Grow_Level_5.eq_1
attribute [go_sem] w_slices_Grow_Level_5
def w_slices_Grow_Level_6 := @wr_named T _ _ r_slices_Grow_Level_6.eq_1
attribute [go_sem] w_slices_Grow_Level_6
def a_slices_Grow_Level := @aw_named T _ _ c_slices_Grow_Level.eq_1
attribute [go_sem] a_slices_Grow_Level
theorem f_slices_Grow_Level (a0 a1 : AV) (H : List AO) : F slices_Grow_Level [a0, a1] H = aw T c_slices_Grow_Level (finKF [.t 4]) ⟨⟨27, [(0, .v a0), (1, .v a1)]⟩, [], H, []⟩ := fnF_codeK T_slices_Grow_Level (Nat.le_of_ble_eq_true rfl) H
theorem T_ref02_right : T ref02_right = some (.code c_ref02_right 66 [.t 8]) := by kernel_rfl
def w_ref02_right_0 := @wr_named T _ _ r_ref02_right_0.eq_1
attribute [go_sem] w_ref02_right_0
def w_ref02_right_1 := @wd_named T _ _ r_ref02_right_1.eq_1
attribute [go_sem] w_ref02_right_1
def w_ref02_right_2 := @wr_named T _ _ r_ref02_right_2.eq_1
attribute [go_sem] w_ref02_right_2
def w_ref02_right_3 := @wr_named T _ _ r_ref02_right_3.eq_1
attribute [go_sem] w_ref02_right_3
def w_ref02_right_4 := @wr_named T _ _ r_ref02_right_4.eq_1
attribute [go_sem] w_ref02_right_4
def w_ref02_right_5 := @wr_named T _ _ r_ref02_right_5.eq_1
attribute [go_sem] w_ref02_right_5
def w_ref02_right_6 := @wr_named T _ _ r_ref02_right_6.eq_1
attribute [go_sem] w_ref02_right_6
def w_ref02_right_7 := @wr_named T _ _ r_ref02_right_7.eq_1
attribute [go_sem] w_ref02_right_7
def w_ref02_right_8 := @wr_named T _ _ r_ref02_right_8.eq_1
attribute [go_sem] w_ref02_right_8
def w_ref02_right_9 := @wr_named T _ _ r_ref02_right_9.eq_1
attribute [go_sem] w_ref02_right_9
def w_ref02_right_10 := @wr_named T _ _ r_ref02_right_10.eq_1
attribute [go_sem] w_ref02_right_10
def w_ref02_right_11 := @wr_named T _ _ r_ref02_right_11.eq_1
attribute [go_sem] w_ref02_right_11
def w_ref02_right_12 := @wr_named T _ _ r_ref02_right_12.eq_1
attribute [go_sem] w_ref02_right_12
def a_l_ref02_right_0 := @aw_named T _ _ l_ref02_right_0.eq_1
attribute [go_sem] a_l_ref02_right_0
def w_ref02_right_13 := @wr_named T _ _ r_ref02_right_13.eq_1
attribute [go_sem] w_ref02_right_13
def a_ref02_right := @aw_named T _ _ c_ref02_right.eq_1
attribute [go_sem] a_ref02_right
theorem f_ref02_right (a0 a1 a2 a3 : AV) (H : List AO) : F ref02_right [a0, a1, a2, a3] H = aw T c_ref02_right (finF H [.t 8]) ⟨⟨66, [(0, .v a0), (1, .v a1), (2, .v a2), (3, .v a3)]⟩, [], H, []⟩ := fnF_code T_ref02_right (Nat.le_of_ble_eq_true rfl) H
noncomputable def L_ref02_right_0 (H h : List AO) (x1 x2 x3 x9 : AV) (v4 : List AV) : Option RH := awL T [1, 2, 3, 4, 9] [4] l_ref02_right_0 (blkF 1 (thn (aw T (.seq (.reg r_ref02_right_13) (.ret)) (finF H [.t 8])) (finF H [.t 8]))) ⟨⟨66, [(1, .v x1), (2, .v x2), (3, .v x3), (4, .lp 4 0), (9, .v x9)]⟩, [(4, v4)], h, []⟩
def g_ref02_right_0 (H h : List AO) (x1 x2 x3 x9 : AV) (v4 : List AV) := (L_ref02_right_0.eq_1 H h x1 x2 x3 x9 v4).symm
attribute [go_sem] g_ref02_right_0
theorem T_slices_Contains_int : T slices_Contains_int = some (.code c_slices_Contains_int 9 [.t 4]) := by kernel_rfl
def w_slices_Contains_int_0 := @wr_named T _ _ r_slices_Contains_int_0.eq_1
attribute [go_sem] w_slices_Contains_int_0
def w_slices_Contains_int_1 := @wr_named T _ _ r_slices_Contains_int_1.eq_1
attribute [go_sem] w_slices_Contains_int_1
def a_slices_Contains_int := @aw_named T _ _ c_slices_Contains_int.eq_1
attribute [go_sem] a_slices_Contains_int
theorem f_slices_Contains_int (a0 a1 : AV) (H : List AO) : F slices_Contains_int [a0, a1] H = aw T c_slices_Contains_int (finF H [.t 4]) ⟨⟨9, [(0, .v a0), (1, .v a1)]⟩, [], H, []⟩ := fnF_code T_slices_Contains_int (Nat.le_of_ble_eq_true rfl) H
theorem T_lsub_named_1 : T lsub_named_1 = some (.code c_lsub_named_1 31 []) := by kernel_rfl
def w_lsub_named_1_0 := @wr_named T _ _ r_lsub_named_1_0.eq_1
attribute [go_sem] w_lsub_named_1_0
def w_lsub_named_1_1 := @wr_named T _ _ r_lsub_named_1_1.eq_1
attribute [go_sem] w_lsub_named_1_1
def w_lsub_named_1_2 := @wr_named T _ _ r_lsub_named_1_2.eq_1
attribute [go_sem] w_lsub_named_1_2
def w_lsub_named_1_3 := @wr_named T _ _ r_lsub_named_1_3.eq_1
attribute [go_sem] w_lsub_named_1_3
def w_lsub_named_1_4 := @wr_named T _ _ r_lsub_named_1_4.eq_1
attribute [go_sem] w_lsub_named_1_4
def w_lsub_named_1_5 := @wr_named T _ _ r_lsub_named_1_5.eq_1
attribute [go_sem] w_lsub_named_1_5
def w_lsub_named_1_6 := @wr_named T _ _ r_lsub_named_1_6.eq_1
attribute [go_sem] w_lsub_named_1_6
def w_lsub_named_1_7 := @wr_named T _ _ r_lsub_named_1_7.eq_1
attribute [go_sem] w_lsub_named_1_7
def w_lsub_named_1_8 := @wr_named T _ _ r_lsub_named_1_8.eq_1
attribute [go_sem] w_lsub_named_1_8
def a_s_lsub_named_1_0 := @aw_named T _ _ s_lsub_named_1_0.eq_1
theorem o_s_lsub_named_1_0 : FC.okd s_lsub_named_1_0 = true := by kernel_rfl
attribute [go_sem] a_s_lsub_named_1_0 o_s_lsub_named_1_0
def a_y_lsub_named_1_0 := @aw_named T _ _ y_lsub_named_1_0.eq_1
theorem o_y_lsub_named_1_0 : FC.okd y_lsub_named_1_0 = true := by kernel_rfl
attribute [go_sem] a_y_lsub_named_1_0 o_y_lsub_named_1_0
def w_lsub_named_1_9 := @wr_named T _ _ r_lsub_named_1_9.eq_1
attribute [go_sem] w_lsub_named_1_9
def a_l_lsub_named_1_0 := @aw_named T _ _ l_lsub_named_1_0.eq_1
attribute [go_sem] a_l_lsub_named_1_0
def a_lsub_named_1 := @aw_named T _ _ c_lsub_named_1.eq_1
attribute [go_sem] a_lsub_named_1
theorem f_lsub_named_1 (a0 a1 a2 : AV) (H : List AO) : F lsub_named_1 [a0, a1, a2] H = aw T c_lsub_named_1 (finF H []) ⟨⟨31, [(0, .v a0), (1, .v a1), (2, .v a2)]⟩, [], H, []⟩ := fnF_code T_lsub_named_1 (Nat.le_of_ble_eq_true rfl) H
noncomputable def L_lsub_named_1_0 (H h : List AO) (ds : List Nat) (x2 x3 x16 x17 x18 : AV) : Option RH := awL T [2, 3, 16, 17, 18] [] l_lsub_named_1_0 (blkF 0 (finF H [])) ⟨⟨31, [(2, .v x2), (3, .v x3), (16, .v x16), (17, .v x17), (18, .v x18)]⟩, [], h, ds⟩
def g_lsub_named_1_0 (H h : List AO) (ds : List Nat) (x2 x3 x16 x17 x18 : AV) := (L_lsub_named_1_0.eq_1 H h ds x2 x3 x16 x17 x18).symm
attribute [go_sem] g_lsub_named_1_0
theorem T_term_below : T term_below = some (.code c_term_below 12 [.t 4]) := by kernel_rfl
def w_term_below_0 := @wr_named T _ _ r_term_below_0.eq_1
attribute [go_sem] w_term_below_0
def w_term_below_1 := @wd_named T _ _ r_term_below_1.eq_1
attribute [go_sem] w_term_below_1
def w_term_below_2 := @wr_named T _ _ r_term_below_2.eq_1
attribute [go_sem] w_term_below_2
def w_term_below_3 := @wr_named T _ _ r_term_below_3.eq_1
attribute [go_sem] w_term_below_3
def a_term_below := @aw_named T _ _ c_term_below.eq_1
attribute [go_sem] a_term_below
theorem f_term_below (a0 a1 : AV) (H : List AO) : F term_below [a0, a1] H = aw T c_term_below (finF H [.t 4]) ⟨⟨12, [(0, .v a0), (1, .v a1)]⟩, [], H, []⟩ := fnF_code T_term_below (Nat.le_of_ble_eq_true rfl) H
theorem T_ref13_lift : T ref13_lift = some (.code c_ref13_lift 56 [.c 4 true 6]) := by kernel_rfl
def w_ref13_lift_0 := @wr_named T _ _ r_ref13_lift_0.eq_1
attribute [go_sem] w_ref13_lift_0
def w_ref13_lift_1 := @wr_named T _ _ r_ref13_lift_1.eq_1
attribute [go_sem] w_ref13_lift_1
def w_ref13_lift_2 := @wr_named T _ _ r_ref13_lift_2.eq_1
attribute [go_sem] w_ref13_lift_2
def w_ref13_lift_3 := @wr_named T _ _ r_ref13_lift_3.eq_1
attribute [go_sem] w_ref13_lift_3
def w_ref13_lift_4 := @wr_named T _ _ r_ref13_lift_4.eq_1
attribute [go_sem] w_ref13_lift_4
def w_ref13_lift_5 := @wr_named T _ _ r_ref13_lift_5.eq_1
attribute [go_sem] w_ref13_lift_5
def w_ref13_lift_6 := @wd_named T _ _ r_ref13_lift_6.eq_1
attribute [go_sem] w_ref13_lift_6
def w_ref13_lift_7 := @wr_named T _ _ r_ref13_lift_7.eq_1
attribute [go_sem] w_ref13_lift_7
def a_l_ref13_lift_0 := @aw_named T _ _ l_ref13_lift_0.eq_1
attribute [go_sem] a_l_ref13_lift_0
def w_ref13_lift_8 := @wr_named T _ _ r_ref13_lift_8.eq_1
attribute [go_sem] w_ref13_lift_8
def a_ref13_lift := @aw_named T _ _ c_ref13_lift.eq_1
attribute [go_sem] a_ref13_lift
theorem f_ref13_lift (a0 a1 a2 : AV) (H : List AO) : F ref13_lift [a0, a1, a2] H = aw T c_ref13_lift (finF H [.c 4 true 6]) ⟨⟨56, [(0, .v a0), (1, .v a1), (2, .v a2)]⟩, [], H, []⟩ := fnF_code T_ref13_lift (Nat.le_of_ble_eq_true rfl) H
noncomputable def L_ref13_lift_0 (H h : List AO) (x1 x2 x8 : AV) (v3 v6 v7 : List AV) : Option RH := awL T [1, 2, 3, 6, 7, 8] [3, 6, 7] l_ref13_lift_0 (blkF 0 (thn (aw T (.seq (.reg r_ref13_lift_8) (.ret)) (finF H [.c 4 true 6])) (finF H [.c 4 true 6]))) ⟨⟨56, [(1, .v x1), (2, .v x2), (3, .lp 3 0), (6, .lp 6 0), (7, .lp 7 0), (8, .v x8)]⟩, [(3, v3), (6, v6), (7, v7)], h, []⟩
def g_ref13_lift_0 (H h : List AO) (x1 x2 x8 : AV) (v3 v6 v7 : List AV) := (L_ref13_lift_0.eq_1 H h x1 x2 x8 v3 v6 v7).symm
attribute [go_sem] g_ref13_lift_0
theorem T_ref13_Parts : T ref13_Parts = some (.code c_ref13_Parts 31 [.t 4]) := by kernel_rfl
def w_ref13_Parts_0 := @wr_named T _ _ r_ref13_Parts_0.eq_1
attribute [go_sem] w_ref13_Parts_0
def w_ref13_Parts_1 := @wr_named T _ _ r_ref13_Parts_1.eq_1
attribute [go_sem] w_ref13_Parts_1
def w_ref13_Parts_2 := @wr_named T _ _ r_ref13_Parts_2.eq_1
attribute [go_sem] w_ref13_Parts_2
def w_ref13_Parts_3 := @wr_named T _ _ r_ref13_Parts_3.eq_1
attribute [go_sem] w_ref13_Parts_3
def w_ref13_Parts_4 := @wr_named T _ _ r_ref13_Parts_4.eq_1
attribute [go_sem] w_ref13_Parts_4
def w_ref13_Parts_5 := @wr_named T _ _ r_ref13_Parts_5.eq_1
attribute [go_sem] w_ref13_Parts_5
def a_l_ref13_Parts_0 := @aw_named T _ _ l_ref13_Parts_0.eq_1
attribute [go_sem] a_l_ref13_Parts_0
def w_ref13_Parts_6 := @wr_named T _ _ r_ref13_Parts_6.eq_1
attribute [go_sem] w_ref13_Parts_6
def a_ref13_Parts := @aw_named T _ _ c_ref13_Parts.eq_1
attribute [go_sem] a_ref13_Parts
theorem f_ref13_Parts (a0 a1 : AV) (H : List AO) : F ref13_Parts [a0, a1] H = aw T c_ref13_Parts (finF H [.t 4]) ⟨⟨31, [(0, .v a0), (1, .v a1)]⟩, [], H, []⟩ := fnF_code T_ref13_Parts (Nat.le_of_ble_eq_true rfl) H
noncomputable def L_ref13_Parts_0 (H h : List AO) (x1 x5 x6 : AV) (v2 : List AV) : Option RH := awL T [1, 2, 5, 6] [2] l_ref13_Parts_0 (blkF 0 (thn (aw T (.seq (.reg r_ref13_Parts_6) (.ret)) (finF H [.t 4])) (finF H [.t 4]))) ⟨⟨31, [(1, .v x1), (2, .lp 2 0), (5, .v x5), (6, .v x6)]⟩, [(2, v2)], h, []⟩
def g_ref13_Parts_0 (H h : List AO) (x1 x5 x6 : AV) (v2 : List AV) := (L_ref13_Parts_0.eq_1 H h x1 x5 x6 v2).symm
attribute [go_sem] g_ref13_Parts_0
theorem T_ref13_right : T ref13_right = some (.code c_ref13_right 55 [.t 10]) := by kernel_rfl
def w_ref13_right_0 := @wr_named T _ _ r_ref13_right_0.eq_1
attribute [go_sem] w_ref13_right_0
def w_ref13_right_1 := @wd_named T _ _ r_ref13_right_1.eq_1
attribute [go_sem] w_ref13_right_1
def w_ref13_right_2 := @wr_named T _ _ r_ref13_right_2.eq_1
attribute [go_sem] w_ref13_right_2
def w_ref13_right_3 := @wr_named T _ _ r_ref13_right_3.eq_1
attribute [go_sem] w_ref13_right_3
def w_ref13_right_4 := @wr_named T _ _ r_ref13_right_4.eq_1
attribute [go_sem] w_ref13_right_4
def w_ref13_right_5 := @wd_named T _ _ r_ref13_right_5.eq_1
attribute [go_sem] w_ref13_right_5
def w_ref13_right_6 := @wr_named T _ _ r_ref13_right_6.eq_1
attribute [go_sem] w_ref13_right_6
def w_ref13_right_7 := @wr_named T _ _ r_ref13_right_7.eq_1
attribute [go_sem] w_ref13_right_7
def a_l_ref13_right_0 := @aw_named T _ _ l_ref13_right_0.eq_1
attribute [go_sem] a_l_ref13_right_0
def w_ref13_right_8 := @wr_named T _ _ r_ref13_right_8.eq_1
attribute [go_sem] w_ref13_right_8
def a_ref13_right := @aw_named T _ _ c_ref13_right.eq_1
attribute [go_sem] a_ref13_right
theorem f_ref13_right (a0 a1 a2 a3 a4 : AV) (H : List AO) : F ref13_right [a0, a1, a2, a3, a4] H = aw T c_ref13_right (finF H [.t 10]) ⟨⟨55, [(0, .v a0), (1, .v a1), (2, .v a2), (3, .v a3), (4, .v a4)]⟩, [], H, []⟩ := fnF_code T_ref13_right (Nat.le_of_ble_eq_true rfl) H
noncomputable def L_ref13_right_0 (H h : List AO) (x1 x2 x3 x4 x11 : AV) (v5 : List AV) : Option RH := awL T [1, 2, 3, 4, 5, 11] [5] l_ref13_right_0 (blkF 0 (thn (aw T (.seq (.reg r_ref13_right_8) (.ret)) (finF H [.t 10])) (finF H [.t 10]))) ⟨⟨55, [(1, .v x1), (2, .v x2), (3, .v x3), (4, .v x4), (5, .lp 5 0), (11, .v x11)]⟩, [(5, v5)], h, []⟩
def g_ref13_right_0 (H h : List AO) (x1 x2 x3 x4 x11 : AV) (v5 : List AV) := (L_ref13_right_0.eq_1 H h x1 x2 x3 x4 x11 v5).symm
attribute [go_sem] g_ref13_right_0
theorem T_ref13_binds : T ref13_binds = some (.code c_ref13_binds 23 [.t 4]) := by kernel_rfl
def w_ref13_binds_0 := @wr_named T _ _ r_ref13_binds_0.eq_1
attribute [go_sem] w_ref13_binds_0
def w_ref13_binds_1 := @wr_named T _ _ r_ref13_binds_1.eq_1
attribute [go_sem] w_ref13_binds_1
def w_ref13_binds_2 := @wr_named T _ _ r_ref13_binds_2.eq_1
attribute [go_sem] w_ref13_binds_2
def w_ref13_binds_3 := @wr_named T _ _ r_ref13_binds_3.eq_1
attribute [go_sem] w_ref13_binds_3
def a_ref13_binds := @aw_named T _ _ c_ref13_binds.eq_1
attribute [go_sem] a_ref13_binds
theorem f_ref13_binds (a0 a1 : AV) (H : List AO) : F ref13_binds [a0, a1] H = aw T c_ref13_binds (finF H [.t 4]) ⟨⟨23, [(0, .v a0), (1, .v a1)]⟩, [], H, []⟩ := fnF_code T_ref13_binds (Nat.le_of_ble_eq_true rfl) H
theorem T_term_parts : T term_parts = some (.code c_term_parts 27 [.t 4]) := by kernel_rfl
def w_term_parts_0 := @wr_named T _ _ r_term_parts_0.eq_1
attribute [go_sem] w_term_parts_0
def w_term_parts_1 := @wr_named T _ _ r_term_parts_1.eq_1
attribute [go_sem] w_term_parts_1
def w_term_parts_2 := @wr_named T _ _ r_term_parts_2.eq_1
attribute [go_sem] w_term_parts_2
def w_term_parts_3 := @wr_named T _ _ r_term_parts_3.eq_1
attribute [go_sem] w_term_parts_3
def w_term_parts_4 := @wr_named T _ _ r_term_parts_4.eq_1
attribute [go_sem] w_term_parts_4
def w_term_parts_5 := @wr_named T _ _ r_term_parts_5.eq_1
attribute [go_sem] w_term_parts_5
def w_term_parts_6 := @wr_named T _ _ r_term_parts_6.eq_1
attribute [go_sem] w_term_parts_6
def w_term_parts_7 := @wr_named T _ _ r_term_parts_7.eq_1
attribute [go_sem] w_term_parts_7
def a_l_term_parts_0 := @aw_named T _ _ l_term_parts_0.eq_1
attribute [go_sem] a_l_term_parts_0
def w_term_parts_8 := @wr_named T _ _ r_term_parts_8.eq_1
attribute [go_sem] w_term_parts_8
def a_term_parts := @aw_named T _ _ c_term_parts.eq_1
attribute [go_sem] a_term_parts
theorem f_term_parts (a0 a1 : AV) (H : List AO) : F term_parts [a0, a1] H = aw T c_term_parts (finF H [.t 4]) ⟨⟨27, [(0, .v a0), (1, .v a1)]⟩, [], H, []⟩ := fnF_code T_term_parts (Nat.le_of_ble_eq_true rfl) H
noncomputable def L_term_parts_0 (H h : List AO) (x1 x5 x9 x10 x11 : AV) : Option RH := awL T [1, 5, 9, 10, 11] [] l_term_parts_0 (blkF 0 (thn (aw T (.seq (.reg r_term_parts_8) (.ret)) (finF H [.t 4])) (finF H [.t 4]))) ⟨⟨27, [(1, .v x1), (5, .v x5), (9, .v x9), (10, .v x10), (11, .v x11)]⟩, [], h, []⟩
def g_term_parts_0 (H h : List AO) (x1 x5 x9 x10 x11 : AV) := (L_term_parts_0.eq_1 H h x1 x5 x9 x10 x11).symm
attribute [go_sem] g_term_parts_0
theorem T_term_room_right : T term_room_right = some (.code c_term_room_right 70 [.t 6]) := by kernel_rfl
def w_term_room_right_0 := @wr_named T _ _ r_term_room_right_0.eq_1
attribute [go_sem] w_term_room_right_0
def w_term_room_right_1 := @wr_named T _ _ r_term_room_right_1.eq_1
attribute [go_sem] w_term_room_right_1
def w_term_room_right_2 := @wd_named T _ _ r_term_room_right_2.eq_1
attribute [go_sem] w_term_room_right_2
def w_term_room_right_3 := @wr_named T _ _ r_term_room_right_3.eq_1
attribute [go_sem] w_term_room_right_3
def w_term_room_right_4 := @wr_named T _ _ r_term_room_right_4.eq_1
attribute [go_sem] w_term_room_right_4
def w_term_room_right_5 := @wr_named T _ _ r_term_room_right_5.eq_1
attribute [go_sem] w_term_room_right_5
def w_term_room_right_6 := @wr_named T _ _ r_term_room_right_6.eq_1
attribute [go_sem] w_term_room_right_6
def w_term_room_right_7 := @wr_named T _ _ r_term_room_right_7.eq_1
attribute [go_sem] w_term_room_right_7
def w_term_room_right_8 := @wr_named T _ _ r_term_room_right_8.eq_1
attribute [go_sem] w_term_room_right_8
def w_term_room_right_9 := @wd_named T _ _ r_term_room_right_9.eq_1
attribute [go_sem] w_term_room_right_9
def w_term_room_right_10 := @wr_named T _ _ r_term_room_right_10.eq_1
attribute [go_sem] w_term_room_right_10
def w_term_room_right_11 := @wr_named T _ _ r_term_room_right_11.eq_1
attribute [go_sem] w_term_room_right_11
def w_term_room_right_12 := @wr_named T _ _ r_term_room_right_12.eq_1
attribute [go_sem] w_term_room_right_12
def a_l_term_room_right_0 := @aw_named T _ _ l_term_room_right_0.eq_1
attribute [go_sem] a_l_term_room_right_0
def w_term_room_right_13 := @wr_named T _ _ r_term_room_right_13.eq_1
attribute [go_sem] w_term_room_right_13
def a_term_room_right := @aw_named T _ _ c_term_room_right.eq_1
attribute [go_sem] a_term_room_right
theorem f_term_room_right (a0 a1 a2 : AV) (H : List AO) : F term_room_right [a0, a1, a2] H = aw T c_term_room_right (finF H [.t 6]) ⟨⟨70, [(0, .v a0), (1, .v a1), (2, .v a2)]⟩, [], H, []⟩ := fnF_code T_term_room_right (Nat.le_of_ble_eq_true rfl) H
noncomputable def L_term_room_right_0 (H h : List AO) (x2 x3 x48 x49 x50 : AV) (v4 : List AV) : Option RH := awL T [2, 3, 4, 48, 49, 50] [4] l_term_room_right_0 (blkF 0 (thn (aw T (.seq (.reg r_term_room_right_13) (.ret)) (finF H [.t 6])) (finF H [.t 6]))) ⟨⟨70, [(2, .v x2), (3, .v x3), (4, .lp 4 0), (48, .v x48), (49, .v x49), (50, .v x50)]⟩, [(4, v4)], h, []⟩
def g_term_room_right_0 (H h : List AO) (x2 x3 x48 x49 x50 : AV) (v4 : List AV) := (L_term_room_right_0.eq_1 H h x2 x3 x48 x49 x50 v4).symm
attribute [go_sem] g_term_room_right_0
theorem T_term_lift_1 : T term_lift_1 = some (.code c_term_lift_1 17 [.c 4 true 6]) := by kernel_rfl
def w_term_lift_1_0 := @wr_named T _ _ r_term_lift_1_0.eq_1
attribute [go_sem] w_term_lift_1_0
def w_term_lift_1_1 := @wr_named T _ _ r_term_lift_1_1.eq_1
attribute [go_sem] w_term_lift_1_1
def w_term_lift_1_2 := @wr_named T _ _ r_term_lift_1_2.eq_1
attribute [go_sem] w_term_lift_1_2
def w_term_lift_1_3 := @wr_named T _ _ r_term_lift_1_3.eq_1
attribute [go_sem] w_term_lift_1_3
def a_term_lift_1 := @aw_named T _ _ c_term_lift_1.eq_1
attribute [go_sem] a_term_lift_1
theorem f_term_lift_1 (a0 a1 a2 a3 : AV) (H : List AO) : F term_lift_1 [a0, a1, a2, a3] H = aw T c_term_lift_1 (finF H [.c 4 true 6]) ⟨⟨17, [(0, .v a0), (1, .v a1), (2, .v a2), (3, .v a3)]⟩, [], H, []⟩ := fnF_code T_term_lift_1 (Nat.le_of_ble_eq_true rfl) H
theorem T_tsub_all : T tsub_all = some (.code c_tsub_all 4 [.t 2]) := by kernel_rfl
def w_tsub_all_0 := @wr_named T _ _ r_tsub_all_0.eq_1
attribute [go_sem] w_tsub_all_0
def w_tsub_all_1 := @wr_named T _ _ r_tsub_all_1.eq_1
attribute [go_sem] w_tsub_all_1
def a_tsub_all := @aw_named T _ _ c_tsub_all.eq_1
attribute [go_sem] a_tsub_all
theorem f_tsub_all (a0 : AV) (H : List AO) : F tsub_all [a0] H = aw T c_tsub_all (finF H [.t 2]) ⟨⟨4, [(0, .v a0)]⟩, [], H, []⟩ := fnF_code T_tsub_all (Nat.le_of_ble_eq_true rfl) H
theorem T_tsub_once : T tsub_once = some (.code c_tsub_once 34 [.t 6]) := by kernel_rfl
def w_tsub_once_0 := @wr_named T _ _ r_tsub_once_0.eq_1
attribute [go_sem] w_tsub_once_0
def w_tsub_once_1 := @wr_named T _ _ r_tsub_once_1.eq_1
attribute [go_sem] w_tsub_once_1
def w_tsub_once_2 := @wr_named T _ _ r_tsub_once_2.eq_1
attribute [go_sem] w_tsub_once_2
def w_tsub_once_3 := @wr_named T _ _ r_tsub_once_3.eq_1
attribute [go_sem] w_tsub_once_3
def w_tsub_once_4 := @wr_named T _ _ r_tsub_once_4.eq_1
attribute [go_sem] w_tsub_once_4
def w_tsub_once_5 := @wr_named T _ _ r_tsub_once_5.eq_1
attribute [go_sem] w_tsub_once_5
def w_tsub_once_6 := @wr_named T _ _ r_tsub_once_6.eq_1
attribute [go_sem] w_tsub_once_6
def w_tsub_once_7 := @wr_named T _ _ r_tsub_once_7.eq_1
attribute [go_sem] w_tsub_once_7
def w_tsub_once_8 := @wr_named T _ _ r_tsub_once_8.eq_1
attribute [go_sem] w_tsub_once_8
def a_l_tsub_once_0 := @aw_named T _ _ l_tsub_once_0.eq_1
attribute [go_sem] a_l_tsub_once_0
def w_tsub_once_9 := @wr_named T _ _ r_tsub_once_9.eq_1
attribute [go_sem] w_tsub_once_9
def a_tsub_once := @aw_named T _ _ c_tsub_once.eq_1
attribute [go_sem] a_tsub_once
theorem f_tsub_once (a0 a1 a2 : AV) (H : List AO) : F tsub_once [a0, a1, a2] H = aw T c_tsub_once (finF H [.t 6]) ⟨⟨34, [(0, .v a0), (1, .v a1), (2, .v a2)]⟩, [], H, []⟩ := fnF_code T_tsub_once (Nat.le_of_ble_eq_true rfl) H
noncomputable def L_tsub_once_0 (H h : List AO) (x0 x1 x11 x12 x13 : AV) : Option RH := awL T [0, 1, 11, 12, 13] [] l_tsub_once_0 (blkF 0 (thn (aw T (.seq (.reg r_tsub_once_9) (.ret)) (finF H [.t 6])) (finF H [.t 6]))) ⟨⟨34, [(0, .v x0), (1, .v x1), (11, .v x11), (12, .v x12), (13, .v x13)]⟩, [], h, []⟩
def g_tsub_once_0 (H h : List AO) (x0 x1 x11 x12 x13 : AV) := (L_tsub_once_0.eq_1 H h x0 x1 x11 x12 x13).symm
attribute [go_sem] g_tsub_once_0
theorem T_level_nodes : T level_nodes = some (.code c_level_nodes 27 [.t 4]) := by kernel_rfl
def w_level_nodes_0 := @wr_named T _ _ r_level_nodes_0.eq_1
attribute [go_sem] w_level_nodes_0
def w_level_nodes_1 := @wr_named T _ _ r_level_nodes_1.eq_1
attribute [go_sem] w_level_nodes_1
def w_level_nodes_2 := @wr_named T _ _ r_level_nodes_2.eq_1
attribute [go_sem] w_level_nodes_2
def w_level_nodes_3 := @wr_named T _ _ r_level_nodes_3.eq_1
attribute [go_sem] w_level_nodes_3
def w_level_nodes_4 := @wr_named T _ _ r_level_nodes_4.eq_1
attribute [go_sem] w_level_nodes_4
def w_level_nodes_5 := @wr_named T _ _ r_level_nodes_5.eq_1
attribute [go_sem] w_level_nodes_5
def w_level_nodes_6 := @wr_named T _ _ r_level_nodes_6.eq_1
attribute [go_sem] w_level_nodes_6
def w_level_nodes_7 := @wr_named T _ _ r_level_nodes_7.eq_1
attribute [go_sem] w_level_nodes_7
def a_l_level_nodes_0 := @aw_named T _ _ l_level_nodes_0.eq_1
attribute [go_sem] a_l_level_nodes_0
def w_level_nodes_8 := @wr_named T _ _ r_level_nodes_8.eq_1
attribute [go_sem] w_level_nodes_8
def a_level_nodes := @aw_named T _ _ c_level_nodes.eq_1
attribute [go_sem] a_level_nodes
theorem f_level_nodes (a0 a1 : AV) (H : List AO) : F level_nodes [a0, a1] H = aw T c_level_nodes (finF H [.t 4]) ⟨⟨27, [(0, .v a0), (1, .v a1)]⟩, [], H, []⟩ := fnF_code T_level_nodes (Nat.le_of_ble_eq_true rfl) H
noncomputable def L_level_nodes_0 (H h : List AO) (x1 x5 x9 x10 x11 : AV) : Option RH := awL T [1, 5, 9, 10, 11] [] l_level_nodes_0 (blkF 0 (thn (aw T (.seq (.reg r_level_nodes_8) (.ret)) (finF H [.t 4])) (finF H [.t 4]))) ⟨⟨27, [(1, .v x1), (5, .v x5), (9, .v x9), (10, .v x10), (11, .v x11)]⟩, [], h, []⟩
def g_level_nodes_0 (H h : List AO) (x1 x5 x9 x10 x11 : AV) := (L_level_nodes_0.eq_1 H h x1 x5 x9 x10 x11).symm
attribute [go_sem] g_level_nodes_0
theorem T_level_right : T level_right = some (.code c_level_right 46 [.t 8]) := by kernel_rfl
def w_level_right_0 := @wr_named T _ _ r_level_right_0.eq_1
attribute [go_sem] w_level_right_0
def w_level_right_1 := @wd_named T _ _ r_level_right_1.eq_1
attribute [go_sem] w_level_right_1
def w_level_right_2 := @wr_named T _ _ r_level_right_2.eq_1
attribute [go_sem] w_level_right_2
def w_level_right_3 := @wr_named T _ _ r_level_right_3.eq_1
attribute [go_sem] w_level_right_3
def a_level_right := @aw_named T _ _ c_level_right.eq_1
attribute [go_sem] a_level_right
theorem f_level_right (a0 a1 a2 a3 : AV) (H : List AO) : F level_right [a0, a1, a2, a3] H = aw T c_level_right (finF H [.t 8]) ⟨⟨46, [(0, .v a0), (1, .v a1), (2, .v a2), (3, .v a3)]⟩, [], H, []⟩ := fnF_code T_level_right (Nat.le_of_ble_eq_true rfl) H
theorem T_ref02_kids : T ref02_kids = some (.code c_ref02_kids 13 [.t 2]) := by kernel_rfl
def w_ref02_kids_0 := @wr_named T _ _ r_ref02_kids_0.eq_1
attribute [go_sem] w_ref02_kids_0
def w_ref02_kids_1 := @wr_named T _ _ r_ref02_kids_1.eq_1
attribute [go_sem] w_ref02_kids_1
def w_ref02_kids_2 := @wr_named T _ _ r_ref02_kids_2.eq_1
attribute [go_sem] w_ref02_kids_2
def w_ref02_kids_3 := @wr_named T _ _ r_ref02_kids_3.eq_1
attribute [go_sem] w_ref02_kids_3
def w_ref02_kids_4 := @wr_named T _ _ r_ref02_kids_4.eq_1
attribute [go_sem] w_ref02_kids_4
def w_ref02_kids_5 := @wr_named T _ _ r_ref02_kids_5.eq_1
attribute [go_sem] w_ref02_kids_5
def w_ref02_kids_6 := @wr_named T _ _ r_ref02_kids_6.eq_1
attribute [go_sem] w_ref02_kids_6
def w_ref02_kids_7 := @wr_named T _ _ r_ref02_kids_7.eq_1
attribute [go_sem] w_ref02_kids_7
def w_ref02_kids_8 := @wr_named T _ _ r_ref02_kids_8.eq_1
attribute [go_sem] w_ref02_kids_8
def w_ref02_kids_9 := @wr_named T _ _ r_ref02_kids_9.eq_1
attribute [go_sem] w_ref02_kids_9
def w_ref02_kids_10 := @wr_named T _ _ r_ref02_kids_10.eq_1
attribute [go_sem] w_ref02_kids_10
def w_ref02_kids_11 := @wr_named T _ _ r_ref02_kids_11.eq_1
attribute [go_sem] w_ref02_kids_11
def a_ref02_kids := @aw_named T _ _ c_ref02_kids.eq_1
attribute [go_sem] a_ref02_kids
theorem f_ref02_kids (a0 : AV) (H : List AO) : F ref02_kids [a0] H = aw T c_ref02_kids (finF H [.t 2]) ⟨⟨13, [(0, .v a0)]⟩, [], H, []⟩ := fnF_code T_ref02_kids (Nat.le_of_ble_eq_true rfl) H
theorem T_slices_Index_int : T slices_Index_int = some (.code c_slices_Index_int 19 [.t 4]) := by kernel_rfl
def w_slices_Index_int_0 := @wr_named T _ _ r_slices_Index_int_0.eq_1
attribute [go_sem] w_slices_Index_int_0
def w_slices_Index_int_1 := @wr_named T _ _ r_slices_Index_int_1.eq_1
attribute [go_sem] w_slices_Index_int_1
def w_slices_Index_int_2 := @wr_named T _ _ r_slices_Index_int_2.eq_1
attribute [go_sem] w_slices_Index_int_2
def w_slices_Index_int_3 := @wr_named T _ _ r_slices_Index_int_3.eq_1
attribute [go_sem] w_slices_Index_int_3
def w_slices_Index_int_4 := @wr_named T _ _ r_slices_Index_int_4.eq_1
attribute [go_sem] w_slices_Index_int_4
def w_slices_Index_int_5 := @wr_named T _ _ r_slices_Index_int_5.eq_1
attribute [go_sem] w_slices_Index_int_5
def w_slices_Index_int_6 := @wr_named T _ _ r_slices_Index_int_6.eq_1
attribute [go_sem] w_slices_Index_int_6
def a_l_slices_Index_int_0 := @aw_named T _ _ l_slices_Index_int_0.eq_1
attribute [go_sem] a_l_slices_Index_int_0
def w_slices_Index_int_7 := @wr_named T _ _ r_slices_Index_int_7.eq_1
attribute [go_sem] w_slices_Index_int_7
def a_slices_Index_int := @aw_named T _ _ c_slices_Index_int.eq_1
attribute [go_sem] a_slices_Index_int
theorem f_slices_Index_int (a0 a1 : AV) (H : List AO) : F slices_Index_int [a0, a1] H = aw T c_slices_Index_int (finF H [.t 4]) ⟨⟨19, [(0, .v a0), (1, .v a1)]⟩, [], H, []⟩ := fnF_code T_slices_Index_int (Nat.le_of_ble_eq_true rfl) H
noncomputable def L_slices_Index_int_0 (H h : List AO) (x0 x1 x7 x8 : AV) : Option RH := awL T [0, 1, 7, 8] [] l_slices_Index_int_0 (blkF 0 (thn (aw T (.seq (.reg r_slices_Index_int_7) (.ret)) (finF H [.t 4])) (finF H [.t 4]))) ⟨⟨19, [(0, .v x0), (1, .v x1), (7, .v x7), (8, .v x8)]⟩, [], h, []⟩
def g_slices_Index_int_0 (H h : List AO) (x0 x1 x7 x8 : AV) := (L_slices_Index_int_0.eq_1 H h x0 x1 x7 x8).symm
attribute [go_sem] g_slices_Index_int_0
theorem T_term_shapes : T term_shapes = some (.code c_term_shapes 10 [.t 0]) := by kernel_rfl
def w_term_shapes_0 := @wr_named T _ _ r_term_shapes_0.eq_1
attribute [go_sem] w_term_shapes_0
def w_term_shapes_1 := @wr_named T _ _ r_term_shapes_1.eq_1
attribute [go_sem] w_term_shapes_1
def a_term_shapes := @aw_named T _ _ c_term_shapes.eq_1
attribute [go_sem] a_term_shapes
theorem f_term_shapes (H : List AO) : F term_shapes [] H = aw T c_term_shapes (finF H [.t 0]) ⟨⟨10, []⟩, [], H, []⟩ := fnF_code T_term_shapes (Nat.le_of_ble_eq_true rfl) H
theorem T_ref13_kids : T ref13_kids = some (.code c_ref13_kids 14 [.t 2]) := by kernel_rfl
def w_ref13_kids_0 := @wr_named T _ _ r_ref13_kids_0.eq_1
attribute [go_sem] w_ref13_kids_0
def w_ref13_kids_1 := @wr_named T _ _ r_ref13_kids_1.eq_1
attribute [go_sem] w_ref13_kids_1
def w_ref13_kids_2 := @wr_named T _ _ r_ref13_kids_2.eq_1
attribute [go_sem] w_ref13_kids_2
def w_ref13_kids_3 := @wr_named T _ _ r_ref13_kids_3.eq_1
attribute [go_sem] w_ref13_kids_3
def w_ref13_kids_4 := @wr_named T _ _ r_ref13_kids_4.eq_1
attribute [go_sem] w_ref13_kids_4
def w_ref13_kids_5 := @wr_named T _ _ r_ref13_kids_5.eq_1
attribute [go_sem] w_ref13_kids_5
def w_ref13_kids_6 := @wr_named T _ _ r_ref13_kids_6.eq_1
attribute [go_sem] w_ref13_kids_6
def w_ref13_kids_7 := @wr_named T _ _ r_ref13_kids_7.eq_1
attribute [go_sem] w_ref13_kids_7
def w_ref13_kids_8 := @wr_named T _ _ r_ref13_kids_8.eq_1
attribute [go_sem] w_ref13_kids_8
def w_ref13_kids_9 := @wr_named T _ _ r_ref13_kids_9.eq_1
attribute [go_sem] w_ref13_kids_9
def w_ref13_kids_10 := @wr_named T _ _ r_ref13_kids_10.eq_1
attribute [go_sem] w_ref13_kids_10
def w_ref13_kids_11 := @wr_named T _ _ r_ref13_kids_11.eq_1
attribute [go_sem] w_ref13_kids_11
def w_ref13_kids_12 := @wr_named T _ _ r_ref13_kids_12.eq_1
attribute [go_sem] w_ref13_kids_12
def a_ref13_kids := @aw_named T _ _ c_ref13_kids.eq_1
attribute [go_sem] a_ref13_kids
theorem f_ref13_kids (a0 : AV) (H : List AO) : F ref13_kids [a0] H = aw T c_ref13_kids (finF H [.t 2]) ⟨⟨14, [(0, .v a0)]⟩, [], H, []⟩ := fnF_code T_ref13_kids (Nat.le_of_ble_eq_true rfl) H
theorem T_ref13_named : T ref13_named = some (.code c_ref13_named 81 [.t 8]) := by kernel_rfl
def w_ref13_named_0 := @wr_named T _ _ r_ref13_named_0.eq_1
attribute [go_sem] w_ref13_named_0
def w_ref13_named_1 := @wr_named T _ _ r_ref13_named_1.eq_1
attribute [go_sem] w_ref13_named_1
def w_ref13_named_2 := @wr_named T _ _ r_ref13_named_2.eq_1
attribute [go_sem] w_ref13_named_2
def w_ref13_named_3 := @wr_named T _ _ r_ref13_named_3.eq_1
attribute [go_sem] w_ref13_named_3
def w_ref13_named_4 := @wr_named T _ _ r_ref13_named_4.eq_1
attribute [go_sem] w_ref13_named_4
def w_ref13_named_5 := @wr_named T _ _ r_ref13_named_5.eq_1
attribute [go_sem] w_ref13_named_5
def a_l_ref13_named_0 := @aw_named T _ _ l_ref13_named_0.eq_1
attribute [go_sem] a_l_ref13_named_0
def w_ref13_named_6 := @wr_named T _ _ r_ref13_named_6.eq_1
attribute [go_sem] w_ref13_named_6
def w_ref13_named_7 := @wr_named T _ _ r_ref13_named_7.eq_1
attribute [go_sem] w_ref13_named_7
def w_ref13_named_8 := @wr_named T _ _ r_ref13_named_8.eq_1
attribute [go_sem] w_ref13_named_8
def w_ref13_named_9 := @wr_named T _ _ r_ref13_named_9.eq_1
attribute [go_sem] w_ref13_named_9
def w_ref13_named_10 := @wr_named T _ _ r_ref13_named_10.eq_1
attribute [go_sem] w_ref13_named_10
def w_ref13_named_11 := @wr_named T _ _ r_ref13_named_11.eq_1
attribute [go_sem] w_ref13_named_11
def w_ref13_named_12 := @wr_named T _ _ r_ref13_named_12.eq_1
attribute [go_sem] w_ref13_named_12
def w_ref13_named_13 := @wr_named T _ _ r_ref13_named_13.eq_1
attribute [go_sem] w_ref13_named_13
def a_ref13_named := @aw_named T _ _ c_ref13_named.eq_1
attribute [go_sem] a_ref13_named
theorem f_ref13_named (a0 a1 a2 a3 : AV) (H : List AO) : F ref13_named [a0, a1, a2, a3] H = aw T c_ref13_named (finF H [.t 8]) ⟨⟨81, [(0, .v a0), (1, .v a1), (2, .v a2), (3, .v a3)]⟩, [], H, []⟩ := fnF_code T_ref13_named (Nat.le_of_ble_eq_true rfl) H
noncomputable def L_ref13_named_0 (H h : List AO) (x1 x2 x3 x9 : AV) (v4 : List AV) : Option RH := awL T [1, 2, 3, 4, 9] [4] l_ref13_named_0 (blkF 0 (thn (aw T (.seq (.seq (.reg r_ref13_named_6) (.block 2 (.seq (.reg r_ref13_named_7) (.cond (.t 28) (.seq (.reg r_ref13_named_8) (.ret)) (.seq (.reg r_ref13_named_9) (.cond (.t 45) (.seq (.reg r_ref13_named_10) (.ret)) (.seq (.reg r_ref13_named_11) (.cond (.t 56) (.seq (.reg r_ref13_named_12) (.ret)) (.skip))))))))) (.seq (.reg r_ref13_named_13) (.ret))) (finF H [.t 8])) (finF H [.t 8]))) ⟨⟨81, [(1, .v x1), (2, .v x2), (3, .v x3), (4, .lp 4 0), (9, .v x9)]⟩, [(4, v4)], h, []⟩
def g_ref13_named_0 (H h : List AO) (x1 x2 x3 x9 : AV) (v4 : List AV) := (L_ref13_named_0.eq_1 H h x1 x2 x3 x9 v4).symm
attribute [go_sem] g_ref13_named_0
theorem T_term_room_right_1 : T term_room_right_1 = some (.code c_term_room_right_1 11 [.t 3]) := by kernel_rfl
def w_term_room_right_1_0 := @wr_named T _ _ r_term_room_right_1_0.eq_1
attribute [go_sem] w_term_room_right_1_0
def w_term_room_right_1_1 := @wr_named T _ _ r_term_room_right_1_1.eq_1
attribute [go_sem] w_term_room_right_1_1
def a_term_room_right_1 := @aw_named T _ _ c_term_room_right_1.eq_1
attribute [go_sem] a_term_room_right_1
theorem f_term_room_right_1 (a0 a1 : AV) (H : List AO) : F term_room_right_1 [a0, a1] H = aw T c_term_room_right_1 (finF H [.t 3]) ⟨⟨11, [(0, .v a0), (1, .v a1)]⟩, [], H, []⟩ := fnF_code T_term_room_right_1 (Nat.le_of_ble_eq_true rfl) H
theorem T_term_room_named : T term_room_named = some (.code c_term_room_named 61 [.t 4]) := by kernel_rfl
def w_term_room_named_0 := @wr_named T _ _ r_term_room_named_0.eq_1
attribute [go_sem] w_term_room_named_0
def w_term_room_named_1 := @wr_named T _ _ r_term_room_named_1.eq_1
attribute [go_sem] w_term_room_named_1
def w_term_room_named_2 := @wr_named T _ _ r_term_room_named_2.eq_1
attribute [go_sem] w_term_room_named_2
def w_term_room_named_3 := @wr_named T _ _ r_term_room_named_3.eq_1
attribute [go_sem] w_term_room_named_3
def w_term_room_named_4 := @wr_named T _ _ r_term_room_named_4.eq_1
attribute [go_sem] w_term_room_named_4
def w_term_room_named_5 := @wr_named T _ _ r_term_room_named_5.eq_1
attribute [go_sem] w_term_room_named_5
def w_term_room_named_6 := @wr_named T _ _ r_term_room_named_6.eq_1
attribute [go_sem] w_term_room_named_6
def w_term_room_named_7 := @wr_named T _ _ r_term_room_named_7.eq_1
attribute [go_sem] w_term_room_named_7
def w_term_room_named_8 := @wr_named T _ _ r_term_room_named_8.eq_1
attribute [go_sem] w_term_room_named_8
def a_term_room_named := @aw_named T _ _ c_term_room_named.eq_1
attribute [go_sem] a_term_room_named
theorem f_term_room_named (a0 a1 : AV) (H : List AO) : F term_room_named [a0, a1] H = aw T c_term_room_named (finF H [.t 4]) ⟨⟨61, [(0, .v a0), (1, .v a1)]⟩, [], H, []⟩ := fnF_code T_term_room_named (Nat.le_of_ble_eq_true rfl) H
theorem T_tsub_all_1 : T tsub_all_1 = some (.code c_tsub_all_1 25 []) := by kernel_rfl
def w_tsub_all_1_0 := @wr_named T _ _ r_tsub_all_1_0.eq_1
attribute [go_sem] w_tsub_all_1_0
def w_tsub_all_1_1 := @wr_named T _ _ r_tsub_all_1_1.eq_1
attribute [go_sem] w_tsub_all_1_1
def w_tsub_all_1_2 := @wr_named T _ _ r_tsub_all_1_2.eq_1
attribute [go_sem] w_tsub_all_1_2
def w_tsub_all_1_3 := @wr_named T _ _ r_tsub_all_1_3.eq_1
attribute [go_sem] w_tsub_all_1_3
def w_tsub_all_1_4 := @wr_named T _ _ r_tsub_all_1_4.eq_1
attribute [go_sem] w_tsub_all_1_4
def w_tsub_all_1_5 := @wr_named T _ _ r_tsub_all_1_5.eq_1
attribute [go_sem] w_tsub_all_1_5
def w_tsub_all_1_6 := @wr_named T _ _ r_tsub_all_1_6.eq_1
attribute [go_sem] w_tsub_all_1_6
def w_tsub_all_1_7 := @wr_named T _ _ r_tsub_all_1_7.eq_1
attribute [go_sem] w_tsub_all_1_7
def a_s_tsub_all_1_0 := @aw_named T _ _ s_tsub_all_1_0.eq_1
theorem o_s_tsub_all_1_0 : FC.okd s_tsub_all_1_0 = true := by kernel_rfl
attribute [go_sem] a_s_tsub_all_1_0 o_s_tsub_all_1_0
def a_y_tsub_all_1_0 := @aw_named T _ _ y_tsub_all_1_0.eq_1
theorem o_y_tsub_all_1_0 : FC.okd y_tsub_all_1_0 = true := by kernel_rfl
attribute [go_sem] a_y_tsub_all_1_0 o_y_tsub_all_1_0
def w_tsub_all_1_8 := @wr_named T _ _ r_tsub_all_1_8.eq_1
attribute [go_sem] w_tsub_all_1_8
def a_l_tsub_all_1_0 := @aw_named T _ _ l_tsub_all_1_0.eq_1
attribute [go_sem] a_l_tsub_all_1_0
def a_tsub_all_1 := @aw_named T _ _ c_tsub_all_1.eq_1
attribute [go_sem] a_tsub_all_1
theorem f_tsub_all_1 (a0 a1 : AV) (H : List AO) : F tsub_all_1 [a0, a1] H = aw T c_tsub_all_1 (finF H []) ⟨⟨25, [(0, .v a0), (1, .v a1)]⟩, [], H, []⟩ := fnF_code T_tsub_all_1 (Nat.le_of_ble_eq_true rfl) H
noncomputable def L_tsub_all_1_0 (H h : List AO) (ds : List Nat) (x2 x11 x12 x13 : AV) : Option RH := awL T [2, 11, 12, 13] [] l_tsub_all_1_0 (blkF 0 (finF H [])) ⟨⟨25, [(2, .v x2), (11, .v x11), (12, .v x12), (13, .v x13)]⟩, [], h, ds⟩
def g_tsub_all_1_0 (H h : List AO) (ds : List Nat) (x2 x11 x12 x13 : AV) := (L_tsub_all_1_0.eq_1 H h ds x2 x11 x12 x13).symm
attribute [go_sem] g_tsub_all_1_0
theorem T_level_kinds : T level_kinds = some (.code c_level_kinds 9 [.t 0]) := by kernel_rfl
def w_level_kinds_0 := @wr_named T _ _ r_level_kinds_0.eq_1
attribute [go_sem] w_level_kinds_0
def w_level_kinds_1 := @wr_named T _ _ r_level_kinds_1.eq_1
attribute [go_sem] w_level_kinds_1
def a_level_kinds := @aw_named T _ _ c_level_kinds.eq_1
attribute [go_sem] a_level_kinds
theorem f_level_kinds (H : List AO) : F level_kinds [] H = aw T c_level_kinds (finF H [.t 0]) ⟨⟨9, []⟩, [], H, []⟩ := fnF_code T_level_kinds (Nat.le_of_ble_eq_true rfl) H
theorem T_level_right_1 : T level_right_1 = some (.code c_level_right_1 13 [.t 5]) := by kernel_rfl
def w_level_right_1_0 := @wr_named T _ _ r_level_right_1_0.eq_1
attribute [go_sem] w_level_right_1_0
def w_level_right_1_1 := @wr_named T _ _ r_level_right_1_1.eq_1
attribute [go_sem] w_level_right_1_1
def a_level_right_1 := @aw_named T _ _ c_level_right_1.eq_1
attribute [go_sem] a_level_right_1
theorem f_level_right_1 (a0 a1 a2 a3 : AV) (H : List AO) : F level_right_1 [a0, a1, a2, a3] H = aw T c_level_right_1 (finF H [.t 5]) ⟨⟨13, [(0, .v a0), (1, .v a1), (2, .v a2), (3, .v a3)]⟩, [], H, []⟩ := fnF_code T_level_right_1 (Nat.le_of_ble_eq_true rfl) H
theorem T_level_named : T level_named = some (.code c_level_named 34 [.t 6]) := by kernel_rfl
def w_level_named_0 := @wr_named T _ _ r_level_named_0.eq_1
attribute [go_sem] w_level_named_0
def w_level_named_1 := @wr_named T _ _ r_level_named_1.eq_1
attribute [go_sem] w_level_named_1
def w_level_named_2 := @wr_named T _ _ r_level_named_2.eq_1
attribute [go_sem] w_level_named_2
def w_level_named_3 := @wr_named T _ _ r_level_named_3.eq_1
attribute [go_sem] w_level_named_3
def w_level_named_4 := @wr_named T _ _ r_level_named_4.eq_1
attribute [go_sem] w_level_named_4
def w_level_named_5 := @wr_named T _ _ r_level_named_5.eq_1
attribute [go_sem] w_level_named_5
def w_level_named_6 := @wr_named T _ _ r_level_named_6.eq_1
attribute [go_sem] w_level_named_6
def a_level_named := @aw_named T _ _ c_level_named.eq_1
attribute [go_sem] a_level_named
theorem f_level_named (a0 a1 a2 : AV) (H : List AO) : F level_named [a0, a1, a2] H = aw T c_level_named (finF H [.t 6]) ⟨⟨34, [(0, .v a0), (1, .v a1), (2, .v a2)]⟩, [], H, []⟩ := fnF_code T_level_named (Nat.le_of_ble_eq_true rfl) H
theorem T_level_kinds_1 : T level_kinds_1 = some (.code c_level_kinds_1 7 [.t 6]) := by kernel_rfl
def w_level_kinds_1_0 := @wr_named T _ _ r_level_kinds_1_0.eq_1
attribute [go_sem] w_level_kinds_1_0
def w_level_kinds_1_1 := @wr_named T _ _ r_level_kinds_1_1.eq_1
attribute [go_sem] w_level_kinds_1_1
def a_level_kinds_1 := @aw_named T _ _ c_level_kinds_1.eq_1
attribute [go_sem] a_level_kinds_1
theorem f_level_kinds_1 (a0 a1 a2 : AV) (H : List AO) : F level_kinds_1 [a0, a1, a2] H = aw T c_level_kinds_1 (finF H [.t 6]) ⟨⟨7, [(0, .v a0), (1, .v a1), (2, .v a2)]⟩, [], H, []⟩ := fnF_code T_level_kinds_1 (Nat.le_of_ble_eq_true rfl) H
theorem T_level_kinds_2 : T level_kinds_2 = some (.code c_level_kinds_2 11 [.t 6]) := by kernel_rfl
def w_level_kinds_2_0 := @wr_named T _ _ r_level_kinds_2_0.eq_1
attribute [go_sem] w_level_kinds_2_0
def w_level_kinds_2_1 := @wr_named T _ _ r_level_kinds_2_1.eq_1
attribute [go_sem] w_level_kinds_2_1
def a_level_kinds_2 := @aw_named T _ _ c_level_kinds_2.eq_1
attribute [go_sem] a_level_kinds_2
theorem f_level_kinds_2 (a0 a1 a2 : AV) (H : List AO) : F level_kinds_2 [a0, a1, a2] H = aw T c_level_kinds_2 (finF H [.t 6]) ⟨⟨11, [(0, .v a0), (1, .v a1), (2, .v a2)]⟩, [], H, []⟩ := fnF_code T_level_kinds_2 (Nat.le_of_ble_eq_true rfl) H
theorem T_level_kinds_3 : T level_kinds_3 = some (.code c_level_kinds_3 14 [.t 6]) := by kernel_rfl
def w_level_kinds_3_0 := @wr_named T _ _ r_level_kinds_3_0.eq_1
attribute [go_sem] w_level_kinds_3_0
def w_level_kinds_3_1 := @wd_named T _ _ r_level_kinds_3_1.eq_1
attribute [go_sem] w_level_kinds_3_1
def a_level_kinds_3 := @aw_named T _ _ c_level_kinds_3.eq_1
attribute [go_sem] a_level_kinds_3
theorem f_level_kinds_3 (a0 a1 a2 : AV) (H : List AO) : F level_kinds_3 [a0, a1, a2] H = aw T c_level_kinds_3 (finF H [.t 6]) ⟨⟨14, [(0, .v a0), (1, .v a1), (2, .v a2)]⟩, [], H, []⟩ := fnF_code T_level_kinds_3 (Nat.le_of_ble_eq_true rfl) H
theorem T_level_kinds_4 : T level_kinds_4 = some (.code c_level_kinds_4 14 [.t 6]) := by kernel_rfl
def w_level_kinds_4_0 := @wr_named T _ _ r_level_kinds_4_0.eq_1
attribute [go_sem] w_level_kinds_4_0
def w_level_kinds_4_1 := @wd_named T _ _ r_level_kinds_4_1.eq_1
attribute [go_sem] w_level_kinds_4_1
def a_level_kinds_4 := @aw_named T _ _ c_level_kinds_4.eq_1
attribute [go_sem] a_level_kinds_4
theorem f_level_kinds_4 (a0 a1 a2 : AV) (H : List AO) : F level_kinds_4 [a0, a1, a2] H = aw T c_level_kinds_4 (finF H [.t 6]) ⟨⟨14, [(0, .v a0), (1, .v a1), (2, .v a2)]⟩, [], H, []⟩ := fnF_code T_level_kinds_4 (Nat.le_of_ble_eq_true rfl) H
theorem T_level_imax : T level_imax = some (.code c_level_imax 10 [.t 4]) := by kernel_rfl
def w_level_imax_0 := @wr_named T _ _ r_level_imax_0.eq_1
attribute [go_sem] w_level_imax_0
def w_level_imax_1 := @wr_named T _ _ r_level_imax_1.eq_1
attribute [go_sem] w_level_imax_1
def w_level_imax_2 := @wr_named T _ _ r_level_imax_2.eq_1
attribute [go_sem] w_level_imax_2
def w_level_imax_3 := @wr_named T _ _ r_level_imax_3.eq_1
attribute [go_sem] w_level_imax_3
def a_level_imax := @aw_named T _ _ c_level_imax.eq_1
attribute [go_sem] a_level_imax
theorem f_level_imax (a0 a1 : AV) (H : List AO) : F level_imax [a0, a1] H = aw T c_level_imax (finF H [.t 4]) ⟨⟨10, [(0, .v a0), (1, .v a1)]⟩, [], H, []⟩ := fnF_code T_level_imax (Nat.le_of_ble_eq_true rfl) H
theorem T_level_kinds_5 : T level_kinds_5 = some (.code c_level_kinds_5 13 [.t 6]) := by kernel_rfl
def w_level_kinds_5_0 := @wr_named T _ _ r_level_kinds_5_0.eq_1
attribute [go_sem] w_level_kinds_5_0
def w_level_kinds_5_1 := @wr_named T _ _ r_level_kinds_5_1.eq_1
attribute [go_sem] w_level_kinds_5_1
def a_level_kinds_5 := @aw_named T _ _ c_level_kinds_5.eq_1
attribute [go_sem] a_level_kinds_5
theorem f_level_kinds_5 (a0 a1 a2 : AV) (H : List AO) : F level_kinds_5 [a0, a1, a2] H = aw T c_level_kinds_5 (finF H [.t 6]) ⟨⟨13, [(0, .v a0), (1, .v a1), (2, .v a2)]⟩, [], H, []⟩ := fnF_code T_level_kinds_5 (Nat.le_of_ble_eq_true rfl) H
theorem T_level_kinds_6 : T level_kinds_6 = some (.code c_level_kinds_6 13 [.t 6]) := by kernel_rfl
def w_level_kinds_6_0 := @wr_named T _ _ r_level_kinds_6_0.eq_1
attribute [go_sem] w_level_kinds_6_0
def w_level_kinds_6_1 := @wr_named T _ _ r_level_kinds_6_1.eq_1
attribute [go_sem] w_level_kinds_6_1
def a_level_kinds_6 := @aw_named T _ _ c_level_kinds_6.eq_1
attribute [go_sem] a_level_kinds_6
theorem f_level_kinds_6 (a0 a1 a2 : AV) (H : List AO) : F level_kinds_6 [a0, a1, a2] H = aw T c_level_kinds_6 (finF H [.t 6]) ⟨⟨13, [(0, .v a0), (1, .v a1), (2, .v a2)]⟩, [], H, []⟩ := fnF_code T_level_kinds_6 (Nat.le_of_ble_eq_true rfl) H
end Go.Ab
