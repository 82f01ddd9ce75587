/- The small code of functions, printed by Emit2.lean. Conditions: none. -/
import Derived.Test.YtnkblnmcabfbmaaIds
set_option linter.unusedVariables false
set_option linter.defProp false
set_option maxRecDepth 100000
namespace Go.Ab
open Go.RowKit Go.Proofs
/-! stereobate/stereobateref13.Free -/
def r_ref13_Free_0 : List AI := [O 1 (.bx (.t 0)), O 2 (.mv (N 0))]
def r_ref13_Free_1 : List AI := [O 3 (.mv (N 0))]
def r_ref13_Free_2 : List AI := [O 5 (.fa 0 (.t 1)), O 6 (.ld 1 false (.t 5)), O 7 (.bin .eql (.t 6) (N 1))]
def r_ref13_Free_3 : List AI := [O 8 (.fa 1 (.t 1)), O 9 (.ld 1 false (.t 8)), O 10 (.bin .add (.t 9) (N 1)), O 3 (.mv (.t 10))]
def r_ref13_Free_4 : List AI := [O 4 (.mv (N 0))]
def r_ref13_Free_5 : List AI := [O 11 (.mv (.t 4)), O 12 (.fa 3 (.t 1)), O 13 (.ld 1 false (.t 12)), O 14 (.len (.t 13)), O 15 (.bin .lss (.t 11) (.t 14))]
def r_ref13_Free_6 : List AI := [O 18 (.mv (.t 3)), O 19 (.fa 3 (.t 1)), ⟨some 20, (.o (.ld 1 false (.t 19))), none, [1]⟩, O 21 (.mv (.t 4)), ⟨some 22, (.o (.ia 4 (.t 20) (.t 21))), none, [2, 3]⟩, ⟨some 23, (.o (.ld 4 true (.t 22))), none, [4]⟩, ⟨some 24, (.call (.c (.fn (.func ref13_Free) [] [])) [(.t 23)]), none, [5]⟩, O 25 (.fa 0 (.t 1)), ⟨some 26, (.o (.ld 1 false (.t 25))), none, [7]⟩, O 27 (.mv (.t 4)), ⟨some 28, (.call (.c (.fn (.func ref13_binds) [] [])) [(.t 26), (.t 27)]), none, [8, 9, 6]⟩, ⟨some 29, (.o (.bin .sub (.t 24) (.t 28))), none, [6, 10]⟩, ⟨some 30, (.o (.mx (.t 18) (.t 29))), none, [0, 11]⟩, ⟨some 3, (.o (.mv (.t 30))), none, [12, 10, 0, 1, 2, 3, 4, 5, 6, 7, 8, 9, 10, 11, 12]⟩]
def r_ref13_Free_7 : List AI := [O 16 (.mv (.t 4)), O 17 (.bin .add (.t 16) (N 1)), O 4 (.mv (.t 17))]
def l_ref13_Free_0 : FC := .seq (.seq (.reg r_ref13_Free_5) (.cond (.t 15) (.skip) (.exit 0))) (.seq (.block 1 (.dreg r_ref13_Free_6)) (.reg r_ref13_Free_7))
def r_ref13_Free_8 : List AI := [O 31 (.mv (.t 3)), O 2 (.mv (.t 31))]
def c_ref13_Free : FC := .seq (.reg r_ref13_Free_0) (.seq (.reg r_ref13_Free_1) (.seq (.seq (.reg r_ref13_Free_2) (.cond (.t 7) (.reg r_ref13_Free_3) (.skip))) (.seq (.seq (.reg r_ref13_Free_4) (.block 0 (.loop [1, 3, 4] [1] l_ref13_Free_0))) (.seq (.reg r_ref13_Free_8) (.ret)))))
theorem k_ref13_Free : EntOk Try.prog ref13_Free (.code c_ref13_Free 32 [.t 2]) := ⟨by kernel_rfl, Try.f59, [], [], Try.func59, by kernel_rfl, by kernel_rfl, by kernel_rfl, Try.ntmps59⟩
/-! stereobate/term.all -/
def r_term_all_0 : List AI := [O 0 (.alc [(.int .i64 0), (.int .i64 0), (.int .i64 0)])]
def r_term_all_1 : List AI := [O 1 (.bld [(.int .i64 0), (.int .i64 0), (.int .i64 0)] [(0, 1, (N 1000)), (1, 1, (N 5)), (2, 1, (N 10))]), ⟨none, (.o (.st 3 (.t 0) (.t 1))), none, []⟩]
def c_term_all : FC := .seq (.reg r_term_all_0) (.seq (.reg r_term_all_1) (.ret))
theorem k_term_all : EntOk Try.prog term_all (.code c_term_all 2 [.c 3 true 0]) := ⟨by kernel_rfl, Try.f60, [], [], Try.func60, by kernel_rfl, by kernel_rfl, by kernel_rfl, Try.ntmps60⟩
/-! (stereobate/term.room).fits -/
def r_term_room_fits_0 : List AI := [O 2 (.bx (.t 0)), O 3 (.bx (.t 1)), O 4 (.mv (B false))]
def r_term_room_fits_1 : List AI := [O 5 (.ld 4 true (.t 3)), C 6 (.c (.fn (.func term_parts) [] [])) [(.t 5), (N 601)], O 7 (.bin .leq (.t 6) (N 600)), O 8 (.mv (.t 7)), Og 9 8 true (.ld 3 true (.t 2)), Og 10 8 true (.ld 4 true (.t 3)), ⟨some 11, (.call (.c (.fn (.func term_room_right) [] [])) [(.t 9), (.t 10), (N 30)]), some (8, true), []⟩, O 12 (.pick (.t 8) (.t 11) (B false)), O 4 (.mv (.t 12))]
def c_term_room_fits : FC := .seq (.reg r_term_room_fits_0) (.seq (.reg r_term_room_fits_1) (.ret))
theorem k_term_room_fits : EntOk Try.prog term_room_fits (.code c_term_room_fits 13 [.t 4]) := ⟨by kernel_rfl, Try.f61, [], [], Try.func61, by kernel_rfl, by kernel_rfl, by kernel_rfl, Try.ntmps61⟩
/-! stereobate/term.told -/
def r_term_told_0 : List AI := [O 1 (.bx (.t 0)), O 2 (.alc [(.int .i64 0), (.int .i64 0), (.nils 3), (.nils 4)]), O 3 (.mv (N 0))]
def r_term_told_1 : List AI := [C 4 (.c (.fn (.func term_all) [] [])) [], O 5 (.ld 4 true (.t 1)), ⟨some 6, (.call (.c (.fn (.func term_room_fits) [] [])) [(.t 4), (.t 5)]), none, [0, 1, 0]⟩, ⟨some 7, (.o (.not (.t 6))), none, [2]⟩]
def r_term_told_2 : List AI := [O 8 (.bld [(.int .i64 0), (.int .i64 0), (.nils 3), (.nils 4)] []), ⟨none, (.o (.st 4 (.t 2) (.t 8))), none, []⟩, O 3 (.mv (N 2))]
def r_term_told_3 : List AI := [O 9 (.ld 4 true (.t 1)), ⟨none, (.o (.st 4 (.t 2) (.t 9))), none, []⟩, O 3 (.mv (N 0))]
def c_term_told : FC := .seq (.reg r_term_told_0) (.seq (.seq (.dreg r_term_told_1) (.cond (.t 7) (.seq (.reg r_term_told_2) (.ret)) (.skip))) (.seq (.reg r_term_told_3) (.ret)))
theorem k_term_told : EntOk Try.prog term_told (.code c_term_told 10 [.c 4 true 2, .t 3]) := ⟨by kernel_rfl, Try.f62, [], [], Try.func62, by kernel_rfl, by kernel_rfl, by kernel_rfl, Try.ntmps62⟩
/-! stereobate/term.lift -/
def r_term_lift_0 : List AI := [O 3 (.bx (.t 0)), O 4 (.bxH (.t 1)), O 5 (.bxH (.t 2)), O 6 (.alc [(.int .i64 0), (.int .i64 0), (.nils 3), (.nils 4)])]
def r_term_lift_1 : List AI := [O 7 (.ld 4 true (.t 3)), O 8 (.mkf (.func term_lift_1) [] [(.t 4), (.t 5)]), C 9 (.c (.fn (.func term_turn) [] [])) [(.t 7), (N 0), (.t 8)], ⟨none, (.o (.st 4 (.t 6) (.t 9))), none, []⟩]
def c_term_lift : FC := .seq (.reg r_term_lift_0) (.seq (.reg r_term_lift_1) (.ret))
theorem k_term_lift : EntOk Try.prog term_lift (.code c_term_lift 10 [.c 4 true 6]) := ⟨by kernel_rfl, Try.f63, [4, 5], [], Try.func63, by kernel_rfl, by kernel_rfl, by kernel_rfl, Try.ntmps63⟩
/-! stereobate/term.turn -/
def r_term_turn_0 : List AI := [O 3 (.bx (.t 0)), O 6 (.alcO [(.int .i64 0), (.int .i64 0), (.nils 3), (.nils 4)])]
def r_term_turn_1 : List AI := [O 10 (.fa 0 (.t 3)), O 11 (.ld 1 false (.t 10)), O 12 (.bin .eql (.t 11) (N 1))]
def r_term_turn_2 : List AI := [O 13 (.mv (.t 2)), O 14 (.fa 1 (.t 3)), O 15 (.ld 1 false (.t 14)), O 16 (.mv (.t 1)), C 17 (.t 13) [(.t 15), (.t 16)], ⟨none, (.o (.st 4 (.t 6) (.t 17))), none, []⟩]
def r_term_turn_3 : List AI := [O 18 (.fa 0 (.t 3)), O 19 (.ld 1 false (.t 18)), O 20 (.fa 1 (.t 3)), O 21 (.ld 1 false (.t 20)), O 22 (.fa 2 (.t 3)), O 23 (.ld 1 false (.t 22)), O 24 (.bldO [(.int .i64 0), (.int .i64 0), (.nils 3), (.nils 4)] [(0, 1, (.t 19)), (1, 1, (.t 21)), (2, 1, (.t 23))]), O 7 (.alcO [(.int .i64 0), (.int .i64 0), (.nils 3), (.nils 4)]), ⟨none, (.o (.st 4 (.t 7) (.t 24))), none, []⟩]
def r_term_turn_4 : List AI := [O 25 (.fa 3 (.t 3)), O 26 (.ld 1 false (.t 25)), O 27 (.len (.t 26)), O 28 (.mv (N 0))]
def r_term_turn_5 : List AI := [O 29 (.bin .lss (.t 28) (.t 27))]
def r_term_turn_6 : List AI := [O 30 (.mv (.t 28)), O 31 (.ia 4 (.t 26) (.t 28)), O 32 (.ld 4 true (.t 31)), O 9 (.alc [(.int .i64 0), (.int .i64 0), (.nils 3), (.nils 4)]), O 8 (.mv (.t 30)), ⟨none, (.o (.st 4 (.t 9) (.t 32))), none, []⟩]
def r_term_turn_7 : List AI := [O 33 (.fa 3 (.t 7)), ⟨some 34, (.o (.ld 1 false (.t 33))), none, [0]⟩, O 35 (.ld 4 true (.t 9)), O 36 (.mv (.t 1)), O 37 (.ld 4 true (.t 3)), O 38 (.mv (.t 8)), ⟨some 39, (.call (.c (.fn (.func term_below) [] [])) [(.t 37), (.t 38)]), none, [4, 5]⟩, ⟨some 40, (.o (.bin .add (.t 36) (.t 39))), none, [3, 6]⟩, O 41 (.mv (.t 2)), ⟨some 42, (.call (.c (.fn (.func term_turn) [] [])) [(.t 35), (.t 40), (.t 41)]), none, [2, 7, 8, 6]⟩, ⟨some 43, (.o (.bsl 4 1 [(.int .i64 0), (.int .i64 0), (.nils 3), (.nils 4)] [(0, (.t 42))])), none, [9]⟩, ⟨some 44, (.o (.app 4 (.t 34) (.t 43))), none, [1, 10, 9]⟩, ⟨some 45, (.o (.fa 3 (.t 7))), none, [0, 1, 2, 3, 4, 5, 6, 7, 8, 9, 10, 11]⟩, ⟨none, (.o (.st 1 (.t 45) (.t 44))), none, [12, 11, 11, 0, 1, 2, 3, 4, 5, 6, 7, 8, 9, 10, 11]⟩]
def r_term_turn_8 : List AI := [O 46 (.bin .add (.t 28) (N 1)), O 28 (.mv (.t 46))]
def l_term_turn_0 : FC := .seq (.reg r_term_turn_5) (.seq (.cond (.t 29) (.skip) (.exit 0)) (.seq (.block 1 (.seq (.reg r_term_turn_6) (.dreg r_term_turn_7))) (.reg r_term_turn_8)))
def r_term_turn_9 : List AI := [O 47 (.ld 4 true (.t 7)), ⟨none, (.o (.st 4 (.t 6) (.t 47))), none, []⟩]
def c_term_turn : FC := .seq (.reg r_term_turn_0) (.seq (.seq (.reg r_term_turn_1) (.cond (.t 12) (.seq (.reg r_term_turn_2) (.ret)) (.skip))) (.seq (.reg r_term_turn_3) (.seq (.seq (.reg r_term_turn_4) (.block 0 (.loop [1, 2, 3, 6, 7, 26, 27, 28] [3, 6, 7] l_term_turn_0))) (.seq (.reg r_term_turn_9) (.ret)))))
theorem k_term_turn : EntOk Try.prog term_turn (.code c_term_turn 48 [.c 4 true 6]) := ⟨by kernel_rfl, Try.f64, [], [6, 24, 7], Try.func64, by kernel_rfl, by kernel_rfl, by kernel_rfl, Try.ntmps64⟩
/-! stereobate/term.Open$1 -/
def r_term_Open_1_0 : List AI := [O 5 (.alc [(.int .i64 0), (.int .i64 0), (.nils 3), (.nils 4)])]
def r_term_Open_1_1 : List AI := [O 7 (.mv (.t 0)), O 8 (.mv (.t 1)), O 9 (.bin .eql (.t 7) (.t 8)), O 6 (.mv (.t 9))]
def r_term_Open_1_2 : List AI := [O 10 (.ld 4 true (.t 2)), O 11 (.mv (.t 1)), C 12 (.c (.fn (.func term_lift) [] [])) [(.t 10), (N 0), (.t 11)], ⟨none, (.o (.st 4 (.t 5) (.t 12))), none, []⟩]
def r_term_Open_1_3 : List AI := [O 14 (.mv (.t 0)), O 15 (.mv (.t 1)), O 16 (.bin .gtr (.t 14) (.t 15)), O 13 (.mv (.t 16))]
def r_term_Open_1_4 : List AI := [O 17 (.mv (.t 0)), O 18 (.bin .sub (.t 17) (N 1)), O 0 (.mv (.t 18))]
def r_term_Open_1_5 : List AI := [O 19 (.mv (.t 0)), C 20 (.c (.fn (.func term_variable) [] [])) [(.t 19)], ⟨none, (.o (.st 4 (.t 5) (.t 20))), none, []⟩]
def c_term_Open_1 : FC := .seq (.reg r_term_Open_1_0) (.seq (.block 0 (.seq (.reg r_term_Open_1_1) (.cond (.t 6) (.seq (.reg r_term_Open_1_2) (.ret)) (.seq (.reg r_term_Open_1_3) (.cond (.t 13) (.reg r_term_Open_1_4) (.skip)))))) (.seq (.reg r_term_Open_1_5) (.ret)))
theorem k_term_Open_1 : EntOk Try.prog term_Open_1 (.code c_term_Open_1 21 [.c 4 true 5]) := ⟨by kernel_rfl, Try.f65, [], [], Try.func65, by kernel_rfl, by kernel_rfl, by kernel_rfl, Try.ntmps65⟩
/-! stereobate/term.variable -/
def r_term_variable_0 : List AI := [O 2 (.alc [(.int .i64 0), (.int .i64 0), (.nils 3), (.nils 4)])]
def r_term_variable_1 : List AI := [O 3 (.mv (.t 0)), O 4 (.bld [(.int .i64 0), (.int .i64 0), (.nils 3), (.nils 4)] [(0, 1, (N 1)), (1, 1, (.t 3))]), ⟨none, (.o (.st 4 (.t 2) (.t 4))), none, []⟩]
def c_term_variable : FC := .seq (.reg r_term_variable_0) (.seq (.reg r_term_variable_1) (.ret))
theorem k_term_variable : EntOk Try.prog term_variable (.code c_term_variable 5 [.c 4 true 2]) := ⟨by kernel_rfl, Try.f66, [], [], Try.func66, by kernel_rfl, by kernel_rfl, by kernel_rfl, Try.ntmps66⟩
/-! slices.EqualFunc[[]stereobate/api.Level,[]stereobate/api.Level,stereobate/api.Level,stereobate/api.Level] -/
def r_slices_EqualFunc_Level_0 : List AI := [O 6 (.mv (B false))]
def r_slices_EqualFunc_Level_1 : List AI := [O 10 (.mv (.t 0)), O 11 (.len (.t 10)), O 12 (.mv (.t 1)), O 13 (.len (.t 12)), O 14 (.bin .neq (.t 11) (.t 13))]
def r_slices_EqualFunc_Level_2 : List AI := [O 6 (.mv (B false))]
def r_slices_EqualFunc_Level_3 : List AI := [O 15 (.mv (.t 0)), O 16 (.len (.t 15)), O 17 (.mv (N 0))]
def r_slices_EqualFunc_Level_4 : List AI := [O 18 (.bin .lss (.t 17) (.t 16))]
def r_slices_EqualFunc_Level_5 : List AI := [O 19 (.mv (.t 17)), O 20 (.ia 3 (.t 15) (.t 17)), O 21 (.ld 3 true (.t 20)), O 8 (.alc [(.int .i64 0), (.int .i64 0), (.nils 3)]), O 7 (.mv (.t 19)), ⟨none, (.o (.st 3 (.t 8) (.t 21))), none, []⟩]
def r_slices_EqualFunc_Level_6 : List AI := [O 22 (.mv (.t 1)), O 23 (.mv (.t 7)), O 24 (.ia 3 (.t 22) (.t 23)), O 25 (.ld 3 true (.t 24)), O 9 (.alc [(.int .i64 0), (.int .i64 0), (.nils 3)]), ⟨none, (.o (.st 3 (.t 9) (.t 25))), none, []⟩]
def r_slices_EqualFunc_Level_7 : List AI := [O 26 (.mv (.t 2)), O 27 (.ld 3 true (.t 8)), O 28 (.ld 3 true (.t 9)), C 29 (.t 26) [(.t 27), (.t 28)], O 30 (.not (.t 29))]
def r_slices_EqualFunc_Level_8 : List AI := [O 6 (.mv (B false))]
def r_slices_EqualFunc_Level_9 : List AI := [O 31 (.bin .add (.t 17) (N 1)), O 17 (.mv (.t 31))]
def l_slices_EqualFunc_Level_0 : FC := .seq (.reg r_slices_EqualFunc_Level_4) (.seq (.cond (.t 18) (.skip) (.exit 0)) (.seq (.block 1 (.seq (.reg r_slices_EqualFunc_Level_5) (.seq (.reg r_slices_EqualFunc_Level_6) (.seq (.reg r_slices_EqualFunc_Level_7) (.cond (.t 30) (.seq (.reg r_slices_EqualFunc_Level_8) (.ret)) (.skip)))))) (.reg r_slices_EqualFunc_Level_9)))
def r_slices_EqualFunc_Level_10 : List AI := [O 6 (.mv (B true))]
def c_slices_EqualFunc_Level : FC := .seq (.reg r_slices_EqualFunc_Level_0) (.seq (.seq (.reg r_slices_EqualFunc_Level_1) (.cond (.t 14) (.seq (.reg r_slices_EqualFunc_Level_2) (.ret)) (.skip))) (.seq (.seq (.reg r_slices_EqualFunc_Level_3) (.block 0 (.loop [1, 2, 15, 16, 17] [] l_slices_EqualFunc_Level_0))) (.seq (.reg r_slices_EqualFunc_Level_10) (.ret))))
theorem k_slices_EqualFunc_Level : EntOk Try.prog slices_EqualFunc_Level (.code c_slices_EqualFunc_Level 32 [.t 6]) := ⟨by kernel_rfl, Try.f67, [], [], Try.func67, by kernel_rfl, by kernel_rfl, by kernel_rfl, Try.ntmps67⟩
/-! stereobate/level.Same -/
def r_level_Same_0 : List AI := [O 2 (.bx (.t 0)), O 3 (.bx (.t 1)), O 4 (.mv (B false))]
def r_level_Same_1 : List AI := [O 5 (.fa 0 (.t 2)), O 6 (.ld 1 false (.t 5)), O 7 (.fa 0 (.t 3)), O 8 (.ld 1 false (.t 7)), O 9 (.bin .eql (.t 6) (.t 8)), O 10 (.mv (.t 9)), Og 11 10 true (.fa 1 (.t 2)), Og 12 10 true (.ld 1 false (.t 11)), Og 13 10 true (.fa 1 (.t 3)), Og 14 10 true (.ld 1 false (.t 13)), Og 15 10 true (.bin .eql (.t 12) (.t 14)), O 16 (.pick (.t 10) (.t 15) (B false)), O 17 (.mv (.t 16)), Og 18 17 true (.fa 2 (.t 2)), Og 19 17 true (.ld 1 false (.t 18)), Og 20 17 true (.fa 2 (.t 3)), Og 21 17 true (.ld 1 false (.t 20)), ⟨some 22, (.call (.c (.fn (.func slices_EqualFunc_Level) [] [])) [(.t 19), (.t 21), (.c (.fn (.func level_Same) [] []))]), some (17, true), []⟩, O 23 (.pick (.t 17) (.t 22) (B false)), O 4 (.mv (.t 23))]
def c_level_Same : FC := .seq (.reg r_level_Same_0) (.seq (.reg r_level_Same_1) (.ret))
theorem k_level_Same : EntOk Try.prog level_Same (.code c_level_Same 24 [.t 4]) := ⟨by kernel_rfl, Try.f68, [], [], Try.func68, by kernel_rfl, by kernel_rfl, by kernel_rfl, Try.ntmps68⟩
/-! slices.EqualFunc[[]stereobate/api.Term,[]stereobate/api.Term,stereobate/api.Term,stereobate/api.Term] -/
def r_slices_EqualFunc_Term_0 : List AI := [O 6 (.mv (B false))]
def r_slices_EqualFunc_Term_1 : List AI := [O 10 (.mv (.t 0)), O 11 (.len (.t 10)), O 12 (.mv (.t 1)), O 13 (.len (.t 12)), O 14 (.bin .neq (.t 11) (.t 13))]
def r_slices_EqualFunc_Term_2 : List AI := [O 6 (.mv (B false))]
def r_slices_EqualFunc_Term_3 : List AI := [O 15 (.mv (.t 0)), O 16 (.len (.t 15)), O 17 (.mv (N 0))]
def r_slices_EqualFunc_Term_4 : List AI := [O 18 (.bin .lss (.t 17) (.t 16))]
def r_slices_EqualFunc_Term_5 : List AI := [O 19 (.mv (.t 17)), O 20 (.ia 4 (.t 15) (.t 17)), O 21 (.ld 4 true (.t 20)), O 8 (.alc [(.int .i64 0), (.int .i64 0), (.nils 3), (.nils 4)]), O 7 (.mv (.t 19)), ⟨none, (.o (.st 4 (.t 8) (.t 21))), none, []⟩]
def r_slices_EqualFunc_Term_6 : List AI := [O 22 (.mv (.t 1)), O 23 (.mv (.t 7)), O 24 (.ia 4 (.t 22) (.t 23)), O 25 (.ld 4 true (.t 24)), O 9 (.alc [(.int .i64 0), (.int .i64 0), (.nils 3), (.nils 4)]), ⟨none, (.o (.st 4 (.t 9) (.t 25))), none, []⟩]
def r_slices_EqualFunc_Term_7 : List AI := [O 26 (.mv (.t 2)), O 27 (.ld 4 true (.t 8)), O 28 (.ld 4 true (.t 9)), C 29 (.t 26) [(.t 27), (.t 28)], O 30 (.not (.t 29))]
def r_slices_EqualFunc_Term_8 : List AI := [O 6 (.mv (B false))]
def r_slices_EqualFunc_Term_9 : List AI := [O 31 (.bin .add (.t 17) (N 1)), O 17 (.mv (.t 31))]
def l_slices_EqualFunc_Term_0 : FC := .seq (.reg r_slices_EqualFunc_Term_4) (.seq (.cond (.t 18) (.skip) (.exit 0)) (.seq (.block 1 (.seq (.reg r_slices_EqualFunc_Term_5) (.seq (.reg r_slices_EqualFunc_Term_6) (.seq (.reg r_slices_EqualFunc_Term_7) (.cond (.t 30) (.seq (.reg r_slices_EqualFunc_Term_8) (.ret)) (.skip)))))) (.reg r_slices_EqualFunc_Term_9)))
def r_slices_EqualFunc_Term_10 : List AI := [O 6 (.mv (B true))]
def c_slices_EqualFunc_Term : FC := .seq (.reg r_slices_EqualFunc_Term_0) (.seq (.seq (.reg r_slices_EqualFunc_Term_1) (.cond (.t 14) (.seq (.reg r_slices_EqualFunc_Term_2) (.ret)) (.skip))) (.seq (.seq (.reg r_slices_EqualFunc_Term_3) (.block 0 (.loop [1, 2, 15, 16, 17] [] l_slices_EqualFunc_Term_0))) (.seq (.reg r_slices_EqualFunc_Term_10) (.ret))))
theorem k_slices_EqualFunc_Term : EntOk Try.prog slices_EqualFunc_Term (.code c_slices_EqualFunc_Term 32 [.t 6]) := ⟨by kernel_rfl, Try.f69, [], [], Try.func69, by kernel_rfl, by kernel_rfl, by kernel_rfl, Try.ntmps69⟩
/-! (*stereobate/stereobatelaw02.Maker).Pick -/
def r_law02_Maker_Pick_0 : List AI := [O 4 (.mv (N 0))]
def r_law02_Maker_Pick_1 : List AI := [O 5 (.mv (.t 0)), O 6 (.nilc (.t 5)), O 7 (.fa 1 (.t 6)), O 8 (.ld 1 false (.t 7)), O 9 (.bin .add (.t 8) (N 1)), O 10 (.nilc (.t 5)), O 11 (.fa 1 (.t 10)), ⟨none, (.o (.st 1 (.t 11) (.t 9))), none, []⟩]
def r_law02_Maker_Pick_2 : List AI := [O 12 (.mv (.t 0)), ⟨some 13, (.o (.nilc (.t 12))), none, [0]⟩, ⟨some 14, (.o (.fa 1 (.t 13))), none, [1]⟩, ⟨some 15, (.o (.ld 1 false (.t 14))), none, [2]⟩, O 16 (.mv (.t 0)), ⟨some 17, (.o (.nilc (.t 16))), none, [4]⟩, ⟨some 18, (.o (.fa 0 (.t 17))), none, [5]⟩, ⟨some 19, (.o (.ld 1 false (.t 18))), none, [6]⟩, ⟨some 20, (.o (.len (.t 19))), none, [7]⟩, ⟨some 21, (.o (.bin .gtr (.t 15) (.t 20))), none, [3, 8]⟩]
def r_law02_Maker_Pick_3 : List AI := [O 4 (.mv (N 0))]
def r_law02_Maker_Pick_4 : List AI := [O 22 (.mv (.t 0)), ⟨some 23, (.o (.nilc (.t 22))), none, [0]⟩, ⟨some 24, (.o (.fa 0 (.t 23))), none, [1]⟩, ⟨some 25, (.o (.ld 1 false (.t 24))), none, [2]⟩, O 26 (.mv (.t 0)), ⟨some 27, (.o (.nilc (.t 26))), none, [4]⟩, ⟨some 28, (.o (.fa 1 (.t 27))), none, [5]⟩, ⟨some 29, (.o (.ld 1 false (.t 28))), none, [6]⟩, ⟨some 30, (.o (.bin .sub (.t 29) (N 1))), none, [7]⟩, ⟨some 31, (.o (.ia 1 (.t 25) (.t 30))), none, [3, 8]⟩, ⟨some 32, (.o (.ld 1 false (.t 31))), none, [9]⟩, ⟨some 33, (.o (.cv .i64 (.t 32))), none, [10]⟩, O 34 (.mv (.t 1)), ⟨some 35, (.o (.bin .rem (.t 33) (.t 34))), none, [11, 12]⟩, ⟨some 4, (.o (.mv (.t 35))), none, [13, 0, 1, 2, 3, 4, 5, 6, 7, 8, 9, 10, 11, 12, 13]⟩]
def c_law02_Maker_Pick : FC := .seq (.reg r_law02_Maker_Pick_0) (.seq (.reg r_law02_Maker_Pick_1) (.seq (.seq (.dreg r_law02_Maker_Pick_2) (.cond (.t 21) (.seq (.reg r_law02_Maker_Pick_3) (.ret)) (.skip))) (.seq (.dreg r_law02_Maker_Pick_4) (.ret))))
theorem k_law02_Maker_Pick : EntOk Try.prog law02_Maker_Pick (.code c_law02_Maker_Pick 36 [.t 4]) := ⟨by kernel_rfl, Try.f70, [], [], Try.func70, by kernel_rfl, by kernel_rfl, by kernel_rfl, Try.ntmps70⟩
/-! stereobate/stereobatelaw15.meta -/
def r_law15_meta_0 : List AI := [O 2 (.alc [(.int .i64 0), (.int .i64 0), (.nils 3)])]
def r_law15_meta_1 : List AI := [O 3 (.mv (.t 0)), O 4 (.bld [(.int .i64 0), (.int .i64 0), (.nils 3)] [(0, 1, (N 6)), (1, 1, (.t 3))]), ⟨none, (.o (.st 3 (.t 2) (.t 4))), none, []⟩]
def c_law15_meta : FC := .seq (.reg r_law15_meta_0) (.seq (.reg r_law15_meta_1) (.ret))
theorem k_law15_meta : EntOk Try.prog law15_meta (.code c_law15_meta 5 [.c 3 true 2]) := ⟨by kernel_rfl, Try.f71, [], [], Try.func71, by kernel_rfl, by kernel_rfl, by kernel_rfl, Try.ntmps71⟩
/-! stereobate/stereobateref08.Ints -/
def r_ref08_Ints_0 : List AI := [O 4 (.mv (B false))]
def r_ref08_Ints_1 : List AI := [O 6 (.mv (.t 0)), O 7 (.len (.t 6)), O 8 (.mv (.t 1)), O 9 (.len (.t 8)), O 10 (.bin .neq (.t 7) (.t 9))]
def r_ref08_Ints_2 : List AI := [O 4 (.mv (B false))]
def r_ref08_Ints_3 : List AI := [O 5 (.mv (N 0))]
def r_ref08_Ints_4 : List AI := [O 11 (.mv (.t 5)), O 12 (.mv (.t 0)), O 13 (.len (.t 12)), O 14 (.bin .lss (.t 11) (.t 13))]
def r_ref08_Ints_5 : List AI := [O 17 (.mv (.t 0)), O 18 (.mv (.t 5)), ⟨some 19, (.o (.ia 1 (.t 17) (.t 18))), none, [0, 1]⟩, ⟨some 20, (.o (.ld 1 false (.t 19))), none, [2]⟩, O 21 (.mv (.t 1)), O 22 (.mv (.t 5)), ⟨some 23, (.o (.ia 1 (.t 21) (.t 22))), none, [4, 5]⟩, ⟨some 24, (.o (.ld 1 false (.t 23))), none, [6]⟩, ⟨some 25, (.o (.bin .neq (.t 20) (.t 24))), none, [3, 7]⟩]
def r_ref08_Ints_6 : List AI := [O 4 (.mv (B false))]
def r_ref08_Ints_7 : List AI := [O 15 (.mv (.t 5)), O 16 (.bin .add (.t 15) (N 1)), O 5 (.mv (.t 16))]
def l_ref08_Ints_0 : FC := .seq (.seq (.reg r_ref08_Ints_4) (.cond (.t 14) (.skip) (.exit 0))) (.seq (.block 1 (.seq (.dreg r_ref08_Ints_5) (.cond (.t 25) (.seq (.reg r_ref08_Ints_6) (.ret)) (.skip)))) (.reg r_ref08_Ints_7))
def r_ref08_Ints_8 : List AI := [O 4 (.mv (B true))]
def c_ref08_Ints : FC := .seq (.reg r_ref08_Ints_0) (.seq (.seq (.reg r_ref08_Ints_1) (.cond (.t 10) (.seq (.reg r_ref08_Ints_2) (.ret)) (.skip))) (.seq (.seq (.reg r_ref08_Ints_3) (.block 0 (.loop [0, 1, 5] [] l_ref08_Ints_0))) (.seq (.reg r_ref08_Ints_8) (.ret))))
theorem k_ref08_Ints : EntOk Try.prog ref08_Ints (.code c_ref08_Ints 26 [.t 4]) := ⟨by kernel_rfl, Try.f72, [], [], Try.func72, by kernel_rfl, by kernel_rfl, by kernel_rfl, Try.ntmps72⟩
/-! stereobate/tsub.Metas -/
def r_tsub_Metas_0 : List AI := [O 1 (.bx (.t 0)), O 2 (.alcHO [(.nils 1)])]
def r_tsub_Metas_1 : List AI := [O 7 (.mkm), O 3 (.alcH [.nilm]), ⟨none, (.o (.st 1 (.t 3) (.t 7))), none, []⟩]
def r_tsub_Metas_2 : List AI := [O 8 (.ld 4 true (.t 1)), C 9 (.c (.fn (.func tsub_all) [] [])) [(.t 8)]]
def r_tsub_Metas_3 : List AI := [O 4 (.alc [(.int .i64 0), (.int .i64 0), (.nils 3), (.nils 4)]), ⟨none, (.o (.st 4 (.t 4) (.t 10))), none, []⟩]
def r_tsub_Metas_4 : List AI := [O 11 (.fa 2 (.t 4)), O 12 (.ld 1 false (.t 11)), O 13 (.len (.t 12)), O 14 (.mv (N 0))]
def r_tsub_Metas_5 : List AI := [O 15 (.bin .lss (.t 14) (.t 13))]
def r_tsub_Metas_6 : List AI := [O 16 (.ia 3 (.t 12) (.t 14)), O 17 (.ld 3 true (.t 16)), O 6 (.alc [(.int .i64 0), (.int .i64 0), (.nils 3)]), ⟨none, (.o (.st 3 (.t 6) (.t 17))), none, []⟩]
def r_tsub_Metas_7 : List AI := [O 18 (.ld 1 false (.t 2)), O 19 (.ld 1 false (.t 3)), O 20 (.ldl 3 true (.t 6)), ⟨some 21, (.call (.c (.fn (.func lsub_Metas) [] [])) [(.t 20)]), none, [2]⟩, ⟨some 22, (.callW (.c (.fn (.func tsub_once) [] [])) [(.t 18), (.t 19), (.t 21)]), none, [0, 1, 3, 3]⟩, ⟨none, (.o (.st 1 (.t 2) (.t 22))), none, [4, 4, 0, 1, 2, 3, 4]⟩]
def r_tsub_Metas_8 : List AI := [O 23 (.bin .add (.t 14) (N 1)), O 14 (.mv (.t 23))]
def l_tsub_Metas_0 : FC := .seq (.reg r_tsub_Metas_5) (.seq (.cond (.t 15) (.skip) (.exit 2)) (.seq (.block 3 (.seq (.reg r_tsub_Metas_6) (.dreg r_tsub_Metas_7))) (.reg r_tsub_Metas_8)))
def s_tsub_Metas_0 : FC := .reg r_tsub_Metas_3
def y_tsub_Metas_0 : FC := .block 1 (.seq (.reg r_tsub_Metas_4) (.block 2 (.loop [2, 3, 12, 13, 14] [] l_tsub_Metas_0)))
def r_tsub_Metas_9 : List AI := [O 24 (.ld 1 false (.t 2)), ⟨none, (.o (.st 1 (.t 2) (.t 24))), none, []⟩]
def c_tsub_Metas : FC := .seq (.reg r_tsub_Metas_0) (.seq (.reg r_tsub_Metas_1) (.seq (.seq (.reg r_tsub_Metas_2) (.block 0 (.rf (.t 9) [10] [2, 3] s_tsub_Metas_0 y_tsub_Metas_0))) (.seq (.reg r_tsub_Metas_9) (.ret))))
theorem k_tsub_Metas : EntOk Try.prog tsub_Metas (.code c_tsub_Metas 25 [.c 1 false 2]) := ⟨by kernel_rfl, Try.f73, [2, 3], [2000022, 3000020, 2], Try.func73, by kernel_rfl, by kernel_rfl, by kernel_rfl, Try.ntmps73⟩
/-! stereobate/tsub.Consts -/
def r_tsub_Consts_0 : List AI := [O 1 (.bx (.t 0)), O 2 (.alcHO [(.nils 1)])]
def r_tsub_Consts_1 : List AI := [O 5 (.mkm), O 3 (.alcH [.nilm]), ⟨none, (.o (.st 1 (.t 3) (.t 5))), none, []⟩]
def r_tsub_Consts_2 : List AI := [O 6 (.ld 4 true (.t 1)), C 7 (.c (.fn (.func tsub_all) [] [])) [(.t 6)]]
def r_tsub_Consts_3 : List AI := [O 4 (.alc [(.int .i64 0), (.int .i64 0), (.nils 3), (.nils 4)]), ⟨none, (.o (.st 4 (.t 4) (.t 8))), none, []⟩]
def r_tsub_Consts_4 : List AI := [O 9 (.fa 0 (.t 4)), O 10 (.ld 1 false (.t 9)), O 11 (.bin .eql (.t 10) (N 3))]
def r_tsub_Consts_5 : List AI := [O 12 (.ld 1 false (.t 2)), O 13 (.ld 1 false (.t 3)), O 14 (.fa 1 (.t 4)), O 15 (.ld 1 false (.t 14)), O 16 (.bsl 1 1 [(.int .i64 0)] [(0, (.t 15))]), C 17 (.c (.fn (.func tsub_once) [] [])) [(.t 12), (.t 13), (.t 16)], ⟨none, (.o (.st 1 (.t 2) (.t 17))), none, []⟩]
def s_tsub_Consts_0 : FC := .reg r_tsub_Consts_3
def y_tsub_Consts_0 : FC := .block 1 (.seq (.reg r_tsub_Consts_4) (.cond (.t 11) (.reg r_tsub_Consts_5) (.skip)))
def r_tsub_Consts_6 : List AI := [O 18 (.ld 1 false (.t 2)), ⟨none, (.o (.st 1 (.t 2) (.t 18))), none, []⟩]
def c_tsub_Consts : FC := .seq (.reg r_tsub_Consts_0) (.seq (.reg r_tsub_Consts_1) (.seq (.seq (.reg r_tsub_Consts_2) (.block 0 (.rf (.t 7) [8] [2, 3] s_tsub_Consts_0 y_tsub_Consts_0))) (.seq (.reg r_tsub_Consts_6) (.ret))))
theorem k_tsub_Consts : EntOk Try.prog tsub_Consts (.code c_tsub_Consts 19 [.c 1 false 2]) := ⟨by kernel_rfl, Try.f74, [2, 3], [2], Try.func74, by kernel_rfl, by kernel_rfl, by kernel_rfl, Try.ntmps74⟩
/-! stereobate/tsub.odd -/
def r_tsub_odd_0 : List AI := [O 1 (.bx (.t 0)), O 2 (.mv (B false))]
def r_tsub_odd_1 : List AI := [O 3 (.ld 3 true (.t 1)), C 4 (.c (.fn (.func level_Right) [] [])) [(.t 3), (N 5), (N 10)], O 5 (.not (.t 4)), O 2 (.mv (.t 5))]
def c_tsub_odd : FC := .seq (.reg r_tsub_odd_0) (.seq (.reg r_tsub_odd_1) (.ret))
theorem k_tsub_odd : EntOk Try.prog tsub_odd (.code c_tsub_odd 6 [.t 2]) := ⟨by kernel_rfl, Try.f75, [], [], Try.func75, by kernel_rfl, by kernel_rfl, by kernel_rfl, Try.ntmps75⟩
/-! (*stereobate/tsub.putter).term -/
def r_tsub_putter_term_0 : List AI := [O 3 (.bx (.t 1)), O 4 (.alcO [(.int .i64 0), (.int .i64 0), (.nils 3), (.nils 4)])]
def r_tsub_putter_term_1 : List AI := [O 12 (.fa 0 (.t 3)), O 13 (.ld 1 false (.t 12)), O 14 (.fa 1 (.t 3)), O 15 (.ld 1 false (.t 14)), O 16 (.bldO [(.int .i64 0), (.int .i64 0), (.nils 3), (.nils 4)] [(0, 1, (.t 13)), (1, 1, (.t 15))]), O 5 (.alcO [(.int .i64 0), (.int .i64 0), (.nils 3), (.nils 4)]), ⟨none, (.o (.st 4 (.t 5) (.t 16))), none, []⟩]
def r_tsub_putter_term_2 : List AI := [O 17 (.fa 2 (.t 3)), O 18 (.ld 1 false (.t 17)), O 19 (.len (.t 18)), O 20 (.mv (N 0))]
def r_tsub_putter_term_3 : List AI := [O 21 (.bin .lss (.t 20) (.t 19))]
def r_tsub_putter_term_4 : List AI := [O 22 (.ia 3 (.t 18) (.t 20)), O 23 (.ld 3 true (.t 22)), O 7 (.alc [(.int .i64 0), (.int .i64 0), (.nils 3)]), ⟨none, (.o (.st 3 (.t 7) (.t 23))), none, []⟩]
def r_tsub_putter_term_5 : List AI := [O 25 (.ld 3 true (.t 7)), O 26 (.mv (.t 0)), ⟨some 27, (.o (.nilc (.t 26))), none, [1]⟩, ⟨some 28, (.o (.fa 0 (.t 27))), none, [2]⟩, ⟨some 29, (.o (.ld 1 false (.t 28))), none, [3]⟩, O 30 (.mv (.t 0)), ⟨some 31, (.o (.nilc (.t 30))), none, [5]⟩, ⟨some 32, (.o (.fa 1 (.t 31))), none, [6]⟩, ⟨some 33, (.o (.ld 1 false (.t 32))), none, [7]⟩, ⟨some 34, (.call (.c (.fn (.func lsub_Sub) [] [])) [(.t 25), (.t 29), (.t 33)]), none, [0, 4, 8]⟩, ⟨some 24, (.o (.mv (.t 34))), none, [9]⟩, ⟨some 35, (.o (.ext (.t 24) 0)), none, [10]⟩, ⟨some 36, (.o (.ext (.t 24) 1)), none, [10]⟩, O 8 (.alc [(.int .i64 0), (.int .i64 0), (.nils 3)]), ⟨none, (.o (.st 3 (.t 8) (.t 35))), none, [13, 11, 9, 0, 1, 2, 3, 4, 5, 6, 7, 8, 9, 10, 11, 13]⟩, ⟨some 9, (.o (.mv (.t 36))), none, [12, 14, 0, 1, 2, 3, 4, 5, 6, 7, 8, 9, 10, 11, 12, 13, 14]⟩]
def r_tsub_putter_term_6 : List AI := [O 37 (.mv (.t 0)), O 38 (.mv (.t 0)), O 39 (.nilc (.t 38)), O 40 (.fa 2 (.t 39)), O 41 (.ld 1 false (.t 40)), O 42 (.mv (.t 9)), O 43 (.mx (.t 41) (.t 42)), O 44 (.nilc (.t 37)), O 45 (.fa 2 (.t 44)), ⟨none, (.o (.st 1 (.t 45) (.t 43))), none, []⟩]
def r_tsub_putter_term_7 : List AI := [O 46 (.fa 2 (.t 5)), O 47 (.ld 1 false (.t 46)), O 48 (.ld 3 true (.t 8)), O 49 (.bsl 3 1 [(.int .i64 0), (.int .i64 0), (.nils 3)] [(0, (.t 48))]), O 50 (.app 3 (.t 47) (.t 49)), O 51 (.fa 2 (.t 5)), ⟨none, (.o (.st 1 (.t 51) (.t 50))), none, []⟩]
def r_tsub_putter_term_8 : List AI := [O 52 (.bin .add (.t 20) (N 1)), O 20 (.mv (.t 52))]
def l_tsub_putter_term_0 : FC := .seq (.reg r_tsub_putter_term_3) (.seq (.cond (.t 21) (.skip) (.exit 0)) (.seq (.block 1 (.seq (.reg r_tsub_putter_term_4) (.seq (.dreg r_tsub_putter_term_5) (.seq (.reg r_tsub_putter_term_6) (.reg r_tsub_putter_term_7))))) (.reg r_tsub_putter_term_8)))
def r_tsub_putter_term_9 : List AI := [O 53 (.fa 3 (.t 3)), O 54 (.ld 1 false (.t 53)), O 55 (.len (.t 54)), O 56 (.mv (N 0))]
def r_tsub_putter_term_10 : List AI := [O 57 (.bin .lss (.t 56) (.t 55))]
def r_tsub_putter_term_11 : List AI := [O 58 (.ia 4 (.t 54) (.t 56)), O 59 (.ld 4 true (.t 58)), O 11 (.alc [(.int .i64 0), (.int .i64 0), (.nils 3), (.nils 4)]), ⟨none, (.o (.st 4 (.t 11) (.t 59))), none, []⟩]
def r_tsub_putter_term_12 : List AI := [O 60 (.fa 3 (.t 5)), ⟨some 61, (.o (.ldl 1 false (.t 60))), none, [0]⟩, O 62 (.mv (.t 0)), O 63 (.ldl 4 true (.t 11)), ⟨some 64, (.callW (.c (.fn (.func tsub_putter_term) [] [])) [(.t 62), (.t 63)]), none, [2, 3]⟩, ⟨some 65, (.o (.bsl 4 1 [(.int .i64 0), (.int .i64 0), (.nils 3), (.nils 4)] [(0, (.t 64))])), none, [4]⟩, ⟨some 66, (.o (.app 4 (.t 61) (.t 65))), none, [1, 5, 4]⟩, ⟨some 67, (.o (.fa 3 (.t 5))), none, [0, 1, 2, 3, 4, 5, 6]⟩, ⟨none, (.o (.st 1 (.t 67) (.t 66))), none, [7, 6, 6, 0, 1, 2, 3, 4, 5, 6]⟩]
def r_tsub_putter_term_13 : List AI := [O 68 (.bin .add (.t 56) (N 1)), O 56 (.mv (.t 68))]
def l_tsub_putter_term_1 : FC := .seq (.reg r_tsub_putter_term_10) (.seq (.cond (.t 57) (.skip) (.exit 2)) (.seq (.block 3 (.seq (.reg r_tsub_putter_term_11) (.dreg r_tsub_putter_term_12))) (.reg r_tsub_putter_term_13)))
def r_tsub_putter_term_14 : List AI := [O 69 (.ld 4 true (.t 5)), ⟨none, (.o (.st 4 (.t 4) (.t 69))), none, []⟩]
def c_tsub_putter_term : FC := .seq (.reg r_tsub_putter_term_0) (.seq (.reg r_tsub_putter_term_1) (.seq (.seq (.reg r_tsub_putter_term_2) (.block 0 (.loop [0, 3, 4, 5, 18, 19, 20] [3, 4, 5] l_tsub_putter_term_0))) (.seq (.seq (.reg r_tsub_putter_term_9) (.block 2 (.loop [0, 4, 5, 54, 55, 56] [4, 5] l_tsub_putter_term_1))) (.seq (.reg r_tsub_putter_term_14) (.ret)))))
theorem k_tsub_putter_term : EntOk Try.prog tsub_putter_term (.code c_tsub_putter_term 70 [.c 4 true 4]) := ⟨by kernel_rfl, Try.f76, [], [4, 16, 5, 2000064, 3000061, 3000063], Try.func76, by kernel_rfl, by kernel_rfl, by kernel_rfl, Try.ntmps76⟩
/-! stereobate/stereobateref13.open -/
def r_ref13_open_0 : List AI := [O 3 (.bx (.t 0)), O 5 (.bx (.t 2)), O 6 (.alcO [(.int .i64 0), (.int .i64 0), (.nils 3), (.nils 4)])]
def r_ref13_open_1 : List AI := [O 9 (.fa 0 (.t 3)), O 10 (.ld 1 false (.t 9)), O 11 (.bin .eql (.t 10) (N 1)), O 12 (.mv (.t 11)), Og 13 12 true (.fa 1 (.t 3)), Og 14 12 true (.ld 1 false (.t 13)), Og 15 12 true (.mv (.t 1)), Og 16 12 true (.bin .eql (.t 14) (.t 15)), O 17 (.pick (.t 12) (.t 16) (B false))]
def r_ref13_open_2 : List AI := [O 18 (.ld 4 true (.t 5)), O 19 (.mv (.t 1)), C 20 (.c (.fn (.func ref13_lift) [] [])) [(.t 18), (N 0), (.t 19)], ⟨none, (.o (.st 4 (.t 6) (.t 20))), none, []⟩]
def r_ref13_open_3 : List AI := [O 21 (.fa 0 (.t 3)), O 22 (.ld 1 false (.t 21)), O 23 (.fa 1 (.t 3)), O 24 (.ld 1 false (.t 23)), O 25 (.fa 2 (.t 3)), O 26 (.ld 1 false (.t 25)), O 27 (.bldO [(.int .i64 0), (.int .i64 0), (.nils 3), (.nils 4)] [(0, 1, (.t 22)), (1, 1, (.t 24)), (2, 1, (.t 26))]), O 7 (.alcO [(.int .i64 0), (.int .i64 0), (.nils 3), (.nils 4)]), ⟨none, (.o (.st 4 (.t 7) (.t 27))), none, []⟩]
def r_ref13_open_4 : List AI := [O 28 (.fa 0 (.t 3)), O 29 (.ld 1 false (.t 28)), O 30 (.bin .eql (.t 29) (N 1)), O 31 (.mv (.t 30)), Og 32 31 true (.fa 1 (.t 3)), Og 33 31 true (.ld 1 false (.t 32)), Og 34 31 true (.mv (.t 1)), Og 35 31 true (.bin .gtr (.t 33) (.t 34)), O 36 (.pick (.t 31) (.t 35) (B false))]
def r_ref13_open_5 : List AI := [O 37 (.fa 1 (.t 3)), O 38 (.ld 1 false (.t 37)), O 39 (.bin .sub (.t 38) (N 1)), O 40 (.fa 1 (.t 7)), ⟨none, (.o (.st 1 (.t 40) (.t 39))), none, []⟩]
def r_ref13_open_6 : List AI := [O 8 (.mv (N 0))]
def r_ref13_open_7 : List AI := [O 41 (.mv (.t 8)), O 42 (.fa 3 (.t 3)), O 43 (.ld 1 false (.t 42)), O 44 (.len (.t 43)), O 45 (.bin .lss (.t 41) (.t 44))]
def r_ref13_open_8 : List AI := [O 48 (.fa 3 (.t 7)), ⟨some 49, (.o (.ld 1 false (.t 48))), none, [0]⟩, O 50 (.fa 3 (.t 3)), ⟨some 51, (.o (.ld 1 false (.t 50))), none, [2]⟩, O 52 (.mv (.t 8)), ⟨some 53, (.o (.ia 4 (.t 51) (.t 52))), none, [3, 4]⟩, ⟨some 54, (.o (.ld 4 true (.t 53))), none, [5]⟩, O 55 (.mv (.t 1)), O 56 (.fa 0 (.t 3)), ⟨some 57, (.o (.ld 1 false (.t 56))), none, [8]⟩, O 58 (.mv (.t 8)), ⟨some 59, (.call (.c (.fn (.func ref13_binds) [] [])) [(.t 57), (.t 58)]), none, [9, 10]⟩, ⟨some 60, (.o (.bin .add (.t 55) (.t 59))), none, [7, 11]⟩, O 61 (.ld 4 true (.t 5)), ⟨some 62, (.call (.c (.fn (.func ref13_open) [] [])) [(.t 54), (.t 60), (.t 61)]), none, [6, 12, 13, 11]⟩, ⟨some 63, (.o (.bsl 4 1 [(.int .i64 0), (.int .i64 0), (.nils 3), (.nils 4)] [(0, (.t 62))])), none, [14]⟩, ⟨some 64, (.o (.app 4 (.t 49) (.t 63))), none, [1, 15, 14]⟩, ⟨some 65, (.o (.fa 3 (.t 7))), none, [0, 1, 2, 3, 4, 5, 6, 7, 8, 9, 10, 11, 12, 13, 14, 15, 16]⟩, ⟨none, (.o (.st 1 (.t 65) (.t 64))), none, [17, 16, 16, 0, 1, 2, 3, 4, 5, 6, 7, 8, 9, 10, 11, 12, 13, 14, 15, 16]⟩]
def r_ref13_open_9 : List AI := [O 46 (.mv (.t 8)), O 47 (.bin .add (.t 46) (N 1)), O 8 (.mv (.t 47))]
def l_ref13_open_0 : FC := .seq (.seq (.reg r_ref13_open_7) (.cond (.t 45) (.skip) (.exit 0))) (.seq (.block 1 (.dreg r_ref13_open_8)) (.reg r_ref13_open_9))
def r_ref13_open_10 : List AI := [O 66 (.ld 4 true (.t 7)), ⟨none, (.o (.st 4 (.t 6) (.t 66))), none, []⟩]
def c_ref13_open : FC := .seq (.reg r_ref13_open_0) (.seq (.seq (.reg r_ref13_open_1) (.cond (.t 17) (.seq (.reg r_ref13_open_2) (.ret)) (.skip))) (.seq (.reg r_ref13_open_3) (.seq (.seq (.reg r_ref13_open_4) (.cond (.t 36) (.reg r_ref13_open_5) (.skip))) (.seq (.seq (.reg r_ref13_open_6) (.block 0 (.loop [1, 3, 5, 6, 7, 8] [3, 5, 6, 7] l_ref13_open_0))) (.seq (.reg r_ref13_open_10) (.ret))))))
theorem k_ref13_open : EntOk Try.prog ref13_open (.code c_ref13_open 67 [.c 4 true 6]) := ⟨by kernel_rfl, Try.f77, [], [6, 27, 7], Try.func77, by kernel_rfl, by kernel_rfl, by kernel_rfl, Try.ntmps77⟩
/-! stereobate/stereobateref05.right -/
def r_ref05_right_0 : List AI := [O 2 (.mv (B false))]
def r_ref05_right_1 : List AI := [O 3 (.mv (N 0))]
def r_ref05_right_2 : List AI := [O 4 (.mv (.t 3)), O 5 (.mv (.t 0)), O 6 (.len (.t 5)), O 7 (.bin .lss (.t 4) (.t 6))]
def r_ref05_right_3 : List AI := [O 10 (.mv (.t 0)), O 11 (.mv (.t 3)), O 12 (.ia 3 (.t 10) (.t 11)), O 13 (.ld 3 true (.t 12)), C 14 (.c (.fn (.func ref02_Right) [] [])) [(.t 13), (N 5), (N 10)], O 15 (.not (.t 14))]
def r_ref05_right_4 : List AI := [O 2 (.mv (B false))]
def r_ref05_right_5 : List AI := [O 8 (.mv (.t 3)), O 9 (.bin .add (.t 8) (N 1)), O 3 (.mv (.t 9))]
def l_ref05_right_0 : FC := .seq (.seq (.reg r_ref05_right_2) (.cond (.t 7) (.skip) (.exit 0))) (.seq (.block 1 (.seq (.reg r_ref05_right_3) (.cond (.t 15) (.seq (.reg r_ref05_right_4) (.ret)) (.skip)))) (.reg r_ref05_right_5))
def r_ref05_right_6 : List AI := [O 2 (.mv (B true))]
def c_ref05_right : FC := .seq (.reg r_ref05_right_0) (.seq (.seq (.reg r_ref05_right_1) (.block 0 (.loop [0, 3] [] l_ref05_right_0))) (.seq (.reg r_ref05_right_6) (.ret)))
theorem k_ref05_right : EntOk Try.prog ref05_right (.code c_ref05_right 16 [.t 2]) := ⟨by kernel_rfl, Try.f78, [], [], Try.func78, by kernel_rfl, by kernel_rfl, by kernel_rfl, Try.ntmps78⟩
/-! stereobate/stereobateref05.sub -/
def r_ref05_sub_0 : List AI := [O 3 (.bx (.t 0)), O 6 (.alcO [(.int .i64 0), (.int .i64 0), (.nils 3)])]
def r_ref05_sub_1 : List AI := [O 9 (.fa 0 (.t 3)), O 10 (.ld 1 false (.t 9)), O 11 (.bin .eql (.t 10) (N 5)), O 12 (.mv (.t 11)), Og 13 12 true (.fa 1 (.t 3)), Og 14 12 true (.ld 1 false (.t 13)), Og 15 12 true (.mv (.t 1)), Og 16 12 true (.len (.t 15)), Og 17 12 true (.bin .lss (.t 14) (.t 16)), O 18 (.pick (.t 12) (.t 17) (B false))]
def r_ref05_sub_2 : List AI := [O 19 (.mv (.t 1)), O 20 (.fa 1 (.t 3)), O 21 (.ld 1 false (.t 20)), O 22 (.ia 3 (.t 19) (.t 21)), O 23 (.ld 3 true (.t 22)), ⟨none, (.o (.st 3 (.t 6) (.t 23))), none, []⟩]
def r_ref05_sub_3 : List AI := [O 24 (.fa 0 (.t 3)), O 25 (.ld 1 false (.t 24)), O 26 (.bin .eql (.t 25) (N 6)), O 27 (.mv (.t 26)), Og 28 27 true (.fa 1 (.t 3)), Og 29 27 true (.ld 1 false (.t 28)), Og 30 27 true (.mv (.t 2)), Og 31 27 true (.len (.t 30)), Og 32 27 true (.bin .lss (.t 29) (.t 31)), O 33 (.pick (.t 27) (.t 32) (B false))]
def r_ref05_sub_4 : List AI := [O 34 (.mv (.t 2)), O 35 (.fa 1 (.t 3)), O 36 (.ld 1 false (.t 35)), O 37 (.ia 3 (.t 34) (.t 36)), O 38 (.ld 3 true (.t 37)), ⟨none, (.o (.st 3 (.t 6) (.t 38))), none, []⟩]
def r_ref05_sub_5 : List AI := [O 39 (.fa 0 (.t 3)), O 40 (.ld 1 false (.t 39)), O 41 (.fa 1 (.t 3)), O 42 (.ld 1 false (.t 41)), O 43 (.bldO [(.int .i64 0), (.int .i64 0), (.nils 3)] [(0, 1, (.t 40)), (1, 1, (.t 42))]), O 7 (.alcO [(.int .i64 0), (.int .i64 0), (.nils 3)]), ⟨none, (.o (.st 3 (.t 7) (.t 43))), none, []⟩]
def r_ref05_sub_6 : List AI := [O 8 (.mv (N 0))]
def r_ref05_sub_7 : List AI := [O 44 (.mv (.t 8)), O 45 (.fa 2 (.t 3)), O 46 (.ld 1 false (.t 45)), O 47 (.len (.t 46)), O 48 (.bin .lss (.t 44) (.t 47))]
def r_ref05_sub_8 : List AI := [O 51 (.fa 2 (.t 7)), ⟨some 52, (.o (.ld 1 false (.t 51))), none, [0]⟩, O 53 (.fa 2 (.t 3)), ⟨some 54, (.o (.ld 1 false (.t 53))), none, [2]⟩, O 55 (.mv (.t 8)), ⟨some 56, (.o (.ia 3 (.t 54) (.t 55))), none, [3, 4]⟩, ⟨some 57, (.o (.ld 3 true (.t 56))), none, [5]⟩, O 58 (.mv (.t 1)), O 59 (.mv (.t 2)), ⟨some 60, (.call (.c (.fn (.func ref05_sub) [] [])) [(.t 57), (.t 58), (.t 59)]), none, [6, 7, 8]⟩, ⟨some 61, (.o (.bsl 3 1 [(.int .i64 0), (.int .i64 0), (.nils 3)] [(0, (.t 60))])), none, [9]⟩, ⟨some 62, (.o (.app 3 (.t 52) (.t 61))), none, [1, 10, 9]⟩, ⟨some 63, (.o (.fa 2 (.t 7))), none, [0, 1, 2, 3, 4, 5, 6, 7, 8, 9, 10, 11]⟩, ⟨none, (.o (.st 1 (.t 63) (.t 62))), none, [12, 11, 11, 0, 1, 2, 3, 4, 5, 6, 7, 8, 9, 10, 11]⟩]
def r_ref05_sub_9 : List AI := [O 49 (.mv (.t 8)), O 50 (.bin .add (.t 49) (N 1)), O 8 (.mv (.t 50))]
def l_ref05_sub_0 : FC := .seq (.seq (.reg r_ref05_sub_7) (.cond (.t 48) (.skip) (.exit 0))) (.seq (.block 1 (.dreg r_ref05_sub_8)) (.reg r_ref05_sub_9))
def r_ref05_sub_10 : List AI := [O 64 (.ld 3 true (.t 7)), ⟨none, (.o (.st 3 (.t 6) (.t 64))), none, []⟩]
def c_ref05_sub : FC := .seq (.reg r_ref05_sub_0) (.seq (.seq (.reg r_ref05_sub_1) (.cond (.t 18) (.seq (.reg r_ref05_sub_2) (.ret)) (.skip))) (.seq (.seq (.reg r_ref05_sub_3) (.cond (.t 33) (.seq (.reg r_ref05_sub_4) (.ret)) (.skip))) (.seq (.reg r_ref05_sub_5) (.seq (.seq (.reg r_ref05_sub_6) (.block 0 (.loop [1, 2, 3, 6, 7, 8] [3, 6, 7] l_ref05_sub_0))) (.seq (.reg r_ref05_sub_10) (.ret))))))
theorem k_ref05_sub : EntOk Try.prog ref05_sub (.code c_ref05_sub 65 [.c 3 true 6]) := ⟨by kernel_rfl, Try.f79, [], [6, 43, 7], Try.func79, by kernel_rfl, by kernel_rfl, by kernel_rfl, Try.ntmps79⟩
/-! stereobate/stereobateref05.named -/
def r_ref05_named_0 : List AI := [O 3 (.bx (.t 0)), O 6 (.mv (.c (.sl [])))]
def r_ref05_named_1 : List AI := [O 9 (.fa 0 (.t 3)), O 10 (.ld 1 false (.t 9)), O 11 (.mv (.t 1)), O 12 (.bin .eql (.t 10) (.t 11))]
def r_ref05_named_2 : List AI := [O 7 (.mv (N 0))]
def r_ref05_named_3 : List AI := [O 13 (.mv (.t 7)), O 14 (.mv (.t 2)), O 15 (.len (.t 14)), O 16 (.bin .lss (.t 13) (.t 15))]
def r_ref05_named_4 : List AI := [O 19 (.mv (.t 2)), O 20 (.mv (.t 7)), ⟨some 21, (.o (.ia 1 (.t 19) (.t 20))), none, [0, 1]⟩, ⟨some 22, (.o (.ld 1 false (.t 21))), none, [2]⟩, O 23 (.fa 1 (.t 3)), ⟨some 24, (.o (.ld 1 false (.t 23))), none, [4]⟩, ⟨some 25, (.o (.bin .eql (.t 22) (.t 24))), none, [3, 5]⟩]
def r_ref05_named_5 : List AI := [O 26 (.mv (.t 2)), O 6 (.mv (.t 26))]
def r_ref05_named_6 : List AI := [O 17 (.mv (.t 7)), O 18 (.bin .add (.t 17) (N 1)), O 7 (.mv (.t 18))]
def l_ref05_named_0 : FC := .seq (.seq (.reg r_ref05_named_3) (.cond (.t 16) (.skip) (.exit 0))) (.seq (.block 1 (.seq (.dreg r_ref05_named_4) (.cond (.t 25) (.seq (.reg r_ref05_named_5) (.ret)) (.skip)))) (.reg r_ref05_named_6))
def r_ref05_named_7 : List AI := [O 27 (.mv (.t 2)), O 28 (.fa 1 (.t 3)), O 29 (.ld 1 false (.t 28)), O 30 (.bsl 1 1 [(.int .i64 0)] [(0, (.t 29))]), O 31 (.app 1 (.t 27) (.t 30)), O 6 (.mv (.t 31))]
def r_ref05_named_8 : List AI := [O 8 (.mv (N 0))]
def r_ref05_named_9 : List AI := [O 32 (.mv (.t 8)), O 33 (.fa 2 (.t 3)), O 34 (.ld 1 false (.t 33)), O 35 (.len (.t 34)), O 36 (.bin .lss (.t 32) (.t 35))]
def r_ref05_named_10 : List AI := [O 39 (.fa 2 (.t 3)), O 40 (.ld 1 false (.t 39)), O 41 (.mv (.t 8)), O 42 (.ia 3 (.t 40) (.t 41)), O 43 (.ld 3 true (.t 42)), O 44 (.mv (.t 1)), O 45 (.mv (.t 2)), C 46 (.c (.fn (.func ref05_named) [] [])) [(.t 43), (.t 44), (.t 45)], O 2 (.mv (.t 46))]
def r_ref05_named_11 : List AI := [O 37 (.mv (.t 8)), O 38 (.bin .add (.t 37) (N 1)), O 8 (.mv (.t 38))]
def l_ref05_named_1 : FC := .seq (.seq (.reg r_ref05_named_9) (.cond (.t 36) (.skip) (.exit 2))) (.seq (.block 3 (.reg r_ref05_named_10)) (.reg r_ref05_named_11))
def r_ref05_named_12 : List AI := [O 47 (.mv (.t 2)), O 6 (.mv (.t 47))]
def c_ref05_named : FC := .seq (.reg r_ref05_named_0) (.seq (.seq (.reg r_ref05_named_1) (.cond (.t 12) (.seq (.seq (.reg r_ref05_named_2) (.block 0 (.loop [2, 3, 7] [3] l_ref05_named_0))) (.seq (.reg r_ref05_named_7) (.ret))) (.skip))) (.seq (.seq (.reg r_ref05_named_8) (.block 2 (.loop [1, 2, 3, 8] [3] l_ref05_named_1))) (.seq (.reg r_ref05_named_12) (.ret))))
theorem k_ref05_named : EntOk Try.prog ref05_named (.code c_ref05_named 48 [.t 6] true) := ⟨by kernel_rfl, Try.f80, [], [], Try.func80, by kernel_rfl, by kernel_rfl, by kernel_rfl, Try.ntmps80⟩
/-! stereobate/level.Right -/
def r_level_Right_0 : List AI := [O 3 (.bx (.t 0)), O 6 (.mv (B false))]
def r_level_Right_1 : List AI := [O 7 (.mv (.t 1)), O 8 (.bin .lss (.t 7) (N 0)), O 9 (.mv (.t 8)), Og 10 9 false (.mv (.t 1)), Og 11 9 false (.bin .gtr (.t 10) (N 5)), O 12 (.pick (.t 9) (B true) (.t 11)), O 13 (.mv (.t 12)), Og 14 13 false (.mv (.t 2)), Og 15 13 false (.bin .lss (.t 14) (N 0)), O 16 (.pick (.t 13) (B true) (.t 15)), O 17 (.mv (.t 16)), Og 18 17 false (.mv (.t 2)), Og 19 17 false (.bin .gtr (.t 18) (N 10)), O 20 (.pick (.t 17) (B true) (.t 19))]
def r_level_Right_2 : List AI := [O 6 (.mv (B false))]
def r_level_Right_3 : List AI := [O 21 (.ld 3 true (.t 3)), C 22 (.c (.fn (.func level_nodes) [] [])) [(.t 21), (N 101)], O 23 (.bin .leq (.t 22) (N 100)), O 24 (.mv (.t 23)), Og 25 24 true (.ld 3 true (.t 3)), Og 26 24 true (.mv (.t 1)), Og 27 24 true (.mv (.t 2)), ⟨some 28, (.call (.c (.fn (.func level_right) [] [])) [(.t 25), (.t 26), (.t 27), (N 12)]), some (24, true), []⟩, O 29 (.pick (.t 24) (.t 28) (B false)), O 6 (.mv (.t 29))]
def c_level_Right : FC := .seq (.reg r_level_Right_0) (.seq (.seq (.reg r_level_Right_1) (.cond (.t 20) (.seq (.reg r_level_Right_2) (.ret)) (.skip))) (.seq (.reg r_level_Right_3) (.ret)))
theorem k_level_Right : EntOk Try.prog level_Right (.code c_level_Right 30 [.t 6]) := ⟨by kernel_rfl, Try.f81, [], [], Try.func81, by kernel_rfl, by kernel_rfl, by kernel_rfl, Try.ntmps81⟩
/-! slices.IndexFunc[[]stereobate/api.Level,stereobate/api.Level] -/
def r_slices_IndexFunc_Level_0 : List AI := [O 4 (.mv (N 0))]
def r_slices_IndexFunc_Level_1 : List AI := [O 6 (.mv (.t 0)), O 7 (.len (.t 6)), O 8 (.mv (N 0))]
def r_slices_IndexFunc_Level_2 : List AI := [O 9 (.bin .lss (.t 8) (.t 7))]
def r_slices_IndexFunc_Level_3 : List AI := [O 10 (.mv (.t 8)), O 5 (.mv (.t 10))]
def r_slices_IndexFunc_Level_4 : List AI := [O 11 (.mv (.t 1)), O 12 (.mv (.t 0)), O 13 (.mv (.t 5)), O 14 (.ia 3 (.t 12) (.t 13)), O 15 (.ld 3 true (.t 14)), C 16 (.t 11) [(.t 15)]]
def r_slices_IndexFunc_Level_5 : List AI := [O 17 (.mv (.t 5)), O 4 (.mv (.t 17))]
def r_slices_IndexFunc_Level_6 : List AI := [O 18 (.bin .add (.t 8) (N 1)), O 8 (.mv (.t 18))]
def l_slices_IndexFunc_Level_0 : FC := .seq (.reg r_slices_IndexFunc_Level_2) (.seq (.cond (.t 9) (.skip) (.exit 0)) (.seq (.block 1 (.seq (.reg r_slices_IndexFunc_Level_3) (.seq (.reg r_slices_IndexFunc_Level_4) (.cond (.t 16) (.seq (.reg r_slices_IndexFunc_Level_5) (.ret)) (.skip))))) (.reg r_slices_IndexFunc_Level_6)))
def r_slices_IndexFunc_Level_7 : List AI := [O 4 (.mv (N (-1)))]
def c_slices_IndexFunc_Level : FC := .seq (.reg r_slices_IndexFunc_Level_0) (.seq (.seq (.reg r_slices_IndexFunc_Level_1) (.block 0 (.loop [0, 1, 7, 8] [] l_slices_IndexFunc_Level_0))) (.seq (.reg r_slices_IndexFunc_Level_7) (.ret)))
theorem k_slices_IndexFunc_Level : EntOk Try.prog slices_IndexFunc_Level (.code c_slices_IndexFunc_Level 19 [.t 4]) := ⟨by kernel_rfl, Try.f82, [], [], Try.func82, by kernel_rfl, by kernel_rfl, by kernel_rfl, Try.ntmps82⟩
/-! slices.Grow[[]stereobate/api.Level,stereobate/api.Level] -/
def r_slices_Grow_Level_0 : List AI := [O 4 (.mv (.c (.sl [])))]
def r_slices_Grow_Level_1 : List AI := [O 5 (.mv (.t 1)), O 6 (.bin .lss (.t 5) (N 0))]
def r_slices_Grow_Level_2 : List AI := [O 7 (.ifc 9 (.c (.str ⟨#[99, 97, 110, 110, 111, 116, 32, 98, 101, 32, 110, 101, 103, 97, 116, 105, 118, 101]⟩))), ⟨none, (.pan (.t 7)), none, []⟩]
def r_slices_Grow_Level_3 : List AI := [O 8 (.mv (.t 1)), O 9 (.mv (.t 0)), O 10 (.cap (.t 9)), O 11 (.mv (.t 0)), O 12 (.len (.t 11)), O 13 (.bin .sub (.t 10) (.t 12)), O 14 (.bin .sub (.t 8) (.t 13)), O 1 (.mv (.t 14))]
def r_slices_Grow_Level_4 : List AI := [O 15 (.mv (.t 1)), O 16 (.bin .gtr (.t 15) (N 0))]
def r_slices_Grow_Level_5 : List AI := [O 17 (.mv (.t 0)), O 18 (.mv (.t 0)), O 19 (.cap (.t 18)), O 20 (.slc 3 (.t 17) none (some (.t 19))), O 21 (.mv (.t 1)), O 22 (.apz 3 [(.int .i64 0), (.int .i64 0), (.nils 3)] (.t 20) (.t 21)), O 23 (.mv (.t 0)), O 24 (.len (.t 23)), O 25 (.slc 3 (.t 22) none (some (.t 24))), O 0 (.mv (.t 25))]
def r_slices_Grow_Level_6 : List AI := [O 26 (.mv (.t 0)), O 4 (.mv (.t 26))]
def c_slices_Grow_Level : FC := .seq (.reg r_slices_Grow_Level_0) (.seq (.seq (.reg r_slices_Grow_Level_1) (.cond (.t 6) (.reg r_slices_Grow_Level_2) (.skip))) (.seq (.seq (.reg r_slices_Grow_Level_3) (.seq (.reg r_slices_Grow_Level_4) (.cond (.t 16) (.reg r_slices_Grow_Level_5) (.skip)))) (.seq (.reg r_slices_Grow_Level_6) (.ret))))
theorem k_slices_Grow_Level : EntOk Try.prog slices_Grow_Level (.code c_slices_Grow_Level 27 [.t 4] true) := ⟨by kernel_rfl, Try.f83, [], [], Try.func83, by kernel_rfl, by kernel_rfl, by kernel_rfl, Try.ntmps83⟩
/-! stereobate/stereobateref02.right -/
def r_ref02_right_0 : List AI := [O 4 (.bx (.t 0)), O 8 (.mv (B false))]
def r_ref02_right_1 : List AI := [O 10 (.mv (.t 3)), ⟨some 11, (.o (.bin .lss (.t 10) (N 1))), none, [0]⟩, ⟨some 12, (.o (.mv (.t 11))), none, [1]⟩, ⟨some 13, (.o (.fa 2 (.t 4))), some (12, false), [2]⟩, ⟨some 14, (.o (.ld 1 false (.t 13))), some (12, false), [3, 2]⟩, ⟨some 15, (.o (.len (.t 14))), some (12, false), [4, 2]⟩, ⟨some 16, (.o (.fa 0 (.t 4))), some (12, false), [2]⟩, ⟨some 17, (.o (.ld 1 false (.t 16))), some (12, false), [6, 2]⟩, ⟨some 18, (.call (.c (.fn (.func ref02_kids) [] [])) [(.t 17)]), some (12, false), [7, 2, 2]⟩, ⟨some 19, (.o (.bin .neq (.t 15) (.t 18))), some (12, false), [5, 8, 2]⟩, ⟨some 20, (.o (.pick (.t 12) (B true) (.t 19))), none, [2, 9]⟩]
def r_ref02_right_2 : List AI := [O 8 (.mv (B false))]
def r_ref02_right_3 : List AI := [O 21 (.fa 0 (.t 4)), O 22 (.ld 1 false (.t 21))]
def r_ref02_right_4 : List AI := [O 24 (.bin .eql (.t 22) (N 5)), O 23 (.mv (.t 24))]
def r_ref02_right_5 : List AI := [O 25 (.fa 1 (.t 4)), O 26 (.ld 1 false (.t 25)), O 27 (.bin .geq (.t 26) (N 0)), O 28 (.mv (.t 27)), Og 29 28 true (.fa 1 (.t 4)), Og 30 28 true (.ld 1 false (.t 29)), Og 31 28 true (.mv (.t 1)), Og 32 28 true (.bin .lss (.t 30) (.t 31)), O 33 (.pick (.t 28) (.t 32) (B false)), O 8 (.mv (.t 33))]
def r_ref02_right_6 : List AI := [O 35 (.bin .eql (.t 22) (N 6)), O 34 (.mv (.t 35))]
def r_ref02_right_7 : List AI := [O 36 (.fa 1 (.t 4)), O 37 (.ld 1 false (.t 36)), O 38 (.bin .geq (.t 37) (N 0)), O 39 (.mv (.t 38)), Og 40 39 true (.fa 1 (.t 4)), Og 41 39 true (.ld 1 false (.t 40)), Og 42 39 true (.mv (.t 2)), Og 43 39 true (.bin .lss (.t 41) (.t 42)), O 44 (.pick (.t 39) (.t 43) (B false)), O 8 (.mv (.t 44))]
def r_ref02_right_8 : List AI := [O 9 (.mv (N 0))]
def r_ref02_right_9 : List AI := [O 45 (.mv (.t 9)), O 46 (.fa 2 (.t 4)), O 47 (.ld 1 false (.t 46)), O 48 (.len (.t 47)), O 49 (.bin .lss (.t 45) (.t 48))]
def r_ref02_right_10 : List AI := [O 52 (.fa 2 (.t 4)), O 53 (.ld 1 false (.t 52)), O 54 (.mv (.t 9)), O 55 (.ia 3 (.t 53) (.t 54)), O 56 (.ld 3 true (.t 55)), O 57 (.mv (.t 1)), O 58 (.mv (.t 2)), O 59 (.mv (.t 3)), O 60 (.bin .sub (.t 59) (N 1)), C 61 (.c (.fn (.func ref02_right) [] [])) [(.t 56), (.t 57), (.t 58), (.t 60)], O 62 (.not (.t 61))]
def r_ref02_right_11 : List AI := [O 8 (.mv (B false))]
def r_ref02_right_12 : List AI := [O 50 (.mv (.t 9)), O 51 (.bin .add (.t 50) (N 1)), O 9 (.mv (.t 51))]
def l_ref02_right_0 : FC := .seq (.seq (.reg r_ref02_right_9) (.cond (.t 49) (.skip) (.exit 1))) (.seq (.block 2 (.seq (.reg r_ref02_right_10) (.cond (.t 62) (.seq (.reg r_ref02_right_11) (.ret)) (.skip)))) (.reg r_ref02_right_12))
def r_ref02_right_13 : List AI := [O 63 (.fa 1 (.t 4)), O 64 (.ld 1 false (.t 63)), O 65 (.bin .eql (.t 64) (N 0)), O 8 (.mv (.t 65))]
def c_ref02_right : FC := .seq (.reg r_ref02_right_0) (.seq (.seq (.dreg r_ref02_right_1) (.cond (.t 20) (.seq (.reg r_ref02_right_2) (.ret)) (.skip))) (.seq (.seq (.reg r_ref02_right_3) (.block 0 (.seq (.reg r_ref02_right_4) (.cond (.t 23) (.seq (.reg r_ref02_right_5) (.ret)) (.seq (.reg r_ref02_right_6) (.cond (.t 34) (.seq (.reg r_ref02_right_7) (.ret)) (.skip))))))) (.seq (.seq (.reg r_ref02_right_8) (.block 1 (.loop [1, 2, 3, 4, 9] [4] l_ref02_right_0))) (.seq (.reg r_ref02_right_13) (.ret)))))
theorem k_ref02_right : EntOk Try.prog ref02_right (.code c_ref02_right 66 [.t 8]) := ⟨by kernel_rfl, Try.f84, [], [], Try.func84, by kernel_rfl, by kernel_rfl, by kernel_rfl, Try.ntmps84⟩
/-! slices.Contains[[]int,int] -/
def r_slices_Contains_int_0 : List AI := [O 4 (.mv (B false))]
def r_slices_Contains_int_1 : List AI := [O 5 (.mv (.t 0)), O 6 (.mv (.t 1)), C 7 (.c (.fn (.func slices_Index_int) [] [])) [(.t 5), (.t 6)], O 8 (.bin .geq (.t 7) (N 0)), O 4 (.mv (.t 8))]
def c_slices_Contains_int : FC := .seq (.reg r_slices_Contains_int_0) (.seq (.reg r_slices_Contains_int_1) (.ret))
theorem k_slices_Contains_int : EntOk Try.prog slices_Contains_int (.code c_slices_Contains_int 9 [.t 4]) := ⟨by kernel_rfl, Try.f85, [], [], Try.func85, by kernel_rfl, by kernel_rfl, by kernel_rfl, Try.ntmps85⟩
/-! stereobate/lsub.named$1 -/
def r_lsub_named_1_0 : List AI := [O 3 (.bxF (.t 0))]
def r_lsub_named_1_1 : List AI := [O 7 (.fa 0 (.t 1)), O 8 (.ld 1 false (.t 7)), O 9 (.ld 1 false (.t 2)), O 10 (.bin .eql (.t 8) (.t 9))]
def r_lsub_named_1_2 : List AI := [O 11 (.ld 1 false (.t 3)), O 12 (.fa 1 (.t 1)), O 13 (.ld 1 false (.t 12)), C 14 (.t 11) [(.t 13)]]
def r_lsub_named_1_3 : List AI := [O 15 (.fa 2 (.t 1)), O 16 (.ld 1 false (.t 15)), O 17 (.len (.t 16)), O 18 (.mv (N 0))]
def r_lsub_named_1_4 : List AI := [O 19 (.bin .lss (.t 18) (.t 17))]
def r_lsub_named_1_5 : List AI := [O 20 (.ia 3 (.t 16) (.t 18)), O 21 (.ld 3 true (.t 20)), O 5 (.alc [(.int .i64 0), (.int .i64 0), (.nils 3)]), ⟨none, (.o (.st 3 (.t 5) (.t 21))), none, []⟩]
def r_lsub_named_1_6 : List AI := [O 22 (.ld 3 true (.t 5)), O 23 (.ld 1 false (.t 2)), C 24 (.c (.fn (.func lsub_named) [] [])) [(.t 22), (.t 23)]]
def r_lsub_named_1_7 : List AI := [O 6 (.mv (.t 25))]
def r_lsub_named_1_8 : List AI := [O 26 (.ld 1 false (.t 3)), O 27 (.mv (.t 6)), C 28 (.t 26) [(.t 27)], O 29 (.not (.t 28))]
def s_lsub_named_1_0 : FC := .reg r_lsub_named_1_7
def y_lsub_named_1_0 : FC := .block 3 (.seq (.reg r_lsub_named_1_8) (.cond (.t 29) (.ret) (.skip)))
def r_lsub_named_1_9 : List AI := [O 30 (.bin .add (.t 18) (N 1)), O 18 (.mv (.t 30))]
def l_lsub_named_1_0 : FC := .seq (.reg r_lsub_named_1_4) (.seq (.cond (.t 19) (.skip) (.exit 0)) (.seq (.block 1 (.seq (.reg r_lsub_named_1_5) (.seq (.reg r_lsub_named_1_6) (.block 2 (.rf (.t 24) [25] [3] s_lsub_named_1_0 y_lsub_named_1_0))))) (.reg r_lsub_named_1_9)))
def c_lsub_named_1 : FC := .seq (.reg r_lsub_named_1_0) (.seq (.seq (.reg r_lsub_named_1_1) (.cond (.t 10) (.seq (.reg r_lsub_named_1_2) (.ret)) (.skip))) (.seq (.reg r_lsub_named_1_3) (.block 0 (.loop [2, 3, 16, 17, 18] [] l_lsub_named_1_0))))
theorem k_lsub_named_1 : EntOk Try.prog lsub_named_1 (.code c_lsub_named_1 31 []) := ⟨by kernel_rfl, Try.f86, [], [5000003], Try.func86, by kernel_rfl, by kernel_rfl, by kernel_rfl, Try.ntmps86⟩
/-! stereobate/term.below -/
def r_term_below_0 : List AI := [O 2 (.bx (.t 0)), O 4 (.mv (N 0))]
def r_term_below_1 : List AI := [C 5 (.c (.fn (.func term_shapes) [] [])) [], O 6 (.fa 0 (.t 2)), ⟨some 7, (.o (.ld 1 false (.t 6))), none, [1]⟩, ⟨some 8, (.o (.lk false (.agg [(.int .i64 0), (.int .i64 0)]) (.t 5) (.t 7))), none, [0, 2]⟩, ⟨some 9, (.o (.fld 1 1 false (.t 8))), none, [3]⟩, O 10 (.mv (.t 1)), ⟨some 11, (.o (.bin .eql (.t 9) (.t 10))), none, [4, 5]⟩]
def r_term_below_2 : List AI := [O 4 (.mv (N 1))]
def r_term_below_3 : List AI := [O 4 (.mv (N 0))]
def c_term_below : FC := .seq (.reg r_term_below_0) (.seq (.seq (.dreg r_term_below_1) (.cond (.t 11) (.seq (.reg r_term_below_2) (.ret)) (.skip))) (.seq (.reg r_term_below_3) (.ret)))
theorem k_term_below : EntOk Try.prog term_below (.code c_term_below 12 [.t 4]) := ⟨by kernel_rfl, Try.f87, [], [], Try.func87, by kernel_rfl, by kernel_rfl, by kernel_rfl, Try.ntmps87⟩
/-! stereobate/stereobateref13.lift -/
def r_ref13_lift_0 : List AI := [O 3 (.bx (.t 0)), O 6 (.alcO [(.int .i64 0), (.int .i64 0), (.nils 3), (.nils 4)])]
def r_ref13_lift_1 : List AI := [O 9 (.fa 0 (.t 3)), O 10 (.ld 1 false (.t 9)), O 11 (.fa 1 (.t 3)), O 12 (.ld 1 false (.t 11)), O 13 (.fa 2 (.t 3)), O 14 (.ld 1 false (.t 13)), O 15 (.bldO [(.int .i64 0), (.int .i64 0), (.nils 3), (.nils 4)] [(0, 1, (.t 10)), (1, 1, (.t 12)), (2, 1, (.t 14))]), O 7 (.alcO [(.int .i64 0), (.int .i64 0), (.nils 3), (.nils 4)]), ⟨none, (.o (.st 4 (.t 7) (.t 15))), none, []⟩]
def r_ref13_lift_2 : List AI := [O 16 (.fa 0 (.t 3)), O 17 (.ld 1 false (.t 16)), O 18 (.bin .eql (.t 17) (N 1)), O 19 (.mv (.t 18)), Og 20 19 true (.fa 1 (.t 3)), Og 21 19 true (.ld 1 false (.t 20)), Og 22 19 true (.mv (.t 1)), Og 23 19 true (.bin .geq (.t 21) (.t 22)), O 24 (.pick (.t 19) (.t 23) (B false))]
def r_ref13_lift_3 : List AI := [O 25 (.fa 1 (.t 3)), O 26 (.ld 1 false (.t 25)), O 27 (.mv (.t 2)), O 28 (.bin .add (.t 26) (.t 27)), O 29 (.fa 1 (.t 7)), ⟨none, (.o (.st 1 (.t 29) (.t 28))), none, []⟩]
def r_ref13_lift_4 : List AI := [O 8 (.mv (N 0))]
def r_ref13_lift_5 : List AI := [O 30 (.mv (.t 8)), O 31 (.fa 3 (.t 3)), O 32 (.ld 1 false (.t 31)), O 33 (.len (.t 32)), O 34 (.bin .lss (.t 30) (.t 33))]
def r_ref13_lift_6 : List AI := [O 37 (.fa 3 (.t 7)), ⟨some 38, (.o (.ld 1 false (.t 37))), none, [0]⟩, O 39 (.fa 3 (.t 3)), ⟨some 40, (.o (.ld 1 false (.t 39))), none, [2]⟩, O 41 (.mv (.t 8)), ⟨some 42, (.o (.ia 4 (.t 40) (.t 41))), none, [3, 4]⟩, ⟨some 43, (.o (.ld 4 true (.t 42))), none, [5]⟩, O 44 (.mv (.t 1)), O 45 (.fa 0 (.t 3)), ⟨some 46, (.o (.ld 1 false (.t 45))), none, [8]⟩, O 47 (.mv (.t 8)), ⟨some 48, (.call (.c (.fn (.func ref13_binds) [] [])) [(.t 46), (.t 47)]), none, [9, 10]⟩, ⟨some 49, (.o (.bin .add (.t 44) (.t 48))), none, [7, 11]⟩, O 50 (.mv (.t 2)), ⟨some 51, (.call (.c (.fn (.func ref13_lift) [] [])) [(.t 43), (.t 49), (.t 50)]), none, [6, 12, 13, 11]⟩, ⟨some 52, (.o (.bsl 4 1 [(.int .i64 0), (.int .i64 0), (.nils 3), (.nils 4)] [(0, (.t 51))])), none, [14]⟩, ⟨some 53, (.o (.app 4 (.t 38) (.t 52))), none, [1, 15, 14]⟩, ⟨some 54, (.o (.fa 3 (.t 7))), none, [0, 1, 2, 3, 4, 5, 6, 7, 8, 9, 10, 11, 12, 13, 14, 15, 16]⟩, ⟨none, (.o (.st 1 (.t 54) (.t 53))), none, [17, 16, 16, 0, 1, 2, 3, 4, 5, 6, 7, 8, 9, 10, 11, 12, 13, 14, 15, 16]⟩]
def r_ref13_lift_7 : List AI := [O 35 (.mv (.t 8)), O 36 (.bin .add (.t 35) (N 1)), O 8 (.mv (.t 36))]
def l_ref13_lift_0 : FC := .seq (.seq (.reg r_ref13_lift_5) (.cond (.t 34) (.skip) (.exit 0))) (.seq (.block 1 (.dreg r_ref13_lift_6)) (.reg r_ref13_lift_7))
def r_ref13_lift_8 : List AI := [O 55 (.ld 4 true (.t 7)), ⟨none, (.o (.st 4 (.t 6) (.t 55))), none, []⟩]
def c_ref13_lift : FC := .seq (.reg r_ref13_lift_0) (.seq (.reg r_ref13_lift_1) (.seq (.seq (.reg r_ref13_lift_2) (.cond (.t 24) (.reg r_ref13_lift_3) (.skip))) (.seq (.seq (.reg r_ref13_lift_4) (.block 0 (.loop [1, 2, 3, 6, 7, 8] [3, 6, 7] l_ref13_lift_0))) (.seq (.reg r_ref13_lift_8) (.ret)))))
theorem k_ref13_lift : EntOk Try.prog ref13_lift (.code c_ref13_lift 56 [.c 4 true 6]) := ⟨by kernel_rfl, Try.f88, [], [6, 15, 7], Try.func88, by kernel_rfl, by kernel_rfl, by kernel_rfl, Try.ntmps88⟩
/-! stereobate/stereobateref13.Parts -/
def r_ref13_Parts_0 : List AI := [O 2 (.bx (.t 0)), O 4 (.mv (N 0))]
def r_ref13_Parts_1 : List AI := [O 5 (.mv (N 1))]
def r_ref13_Parts_2 : List AI := [O 6 (.mv (N 0))]
def r_ref13_Parts_3 : List AI := [O 7 (.mv (.t 6)), O 8 (.fa 3 (.t 2)), O 9 (.ld 1 false (.t 8)), O 10 (.len (.t 9)), O 11 (.bin .lss (.t 7) (.t 10)), O 12 (.mv (.t 11)), Og 13 12 true (.mv (.t 5)), Og 14 12 true (.mv (.t 1)), Og 15 12 true (.bin .lss (.t 13) (.t 14)), O 16 (.pick (.t 12) (.t 15) (B false))]
def r_ref13_Parts_4 : List AI := [O 19 (.mv (.t 5)), O 20 (.fa 3 (.t 2)), O 21 (.ld 1 false (.t 20)), O 22 (.mv (.t 6)), O 23 (.ia 4 (.t 21) (.t 22)), O 24 (.ld 4 true (.t 23)), O 25 (.mv (.t 1)), O 26 (.mv (.t 5)), O 27 (.bin .sub (.t 25) (.t 26)), C 28 (.c (.fn (.func ref13_Parts) [] [])) [(.t 24), (.t 27)], O 29 (.bin .add (.t 19) (.t 28)), O 5 (.mv (.t 29))]
def r_ref13_Parts_5 : List AI := [O 17 (.mv (.t 6)), O 18 (.bin .add (.t 17) (N 1)), O 6 (.mv (.t 18))]
def l_ref13_Parts_0 : FC := .seq (.seq (.reg r_ref13_Parts_3) (.cond (.t 16) (.skip) (.exit 0))) (.seq (.block 1 (.reg r_ref13_Parts_4)) (.reg r_ref13_Parts_5))
def r_ref13_Parts_6 : List AI := [O 30 (.mv (.t 5)), O 4 (.mv (.t 30))]
def c_ref13_Parts : FC := .seq (.reg r_ref13_Parts_0) (.seq (.reg r_ref13_Parts_1) (.seq (.seq (.reg r_ref13_Parts_2) (.block 0 (.loop [1, 2, 5, 6] [2] l_ref13_Parts_0))) (.seq (.reg r_ref13_Parts_6) (.ret))))
theorem k_ref13_Parts : EntOk Try.prog ref13_Parts (.code c_ref13_Parts 31 [.t 4]) := ⟨by kernel_rfl, Try.f89, [], [], Try.func89, by kernel_rfl, by kernel_rfl, by kernel_rfl, Try.ntmps89⟩
/-! stereobate/stereobateref13.right -/
def r_ref13_right_0 : List AI := [O 5 (.bx (.t 0)), O 10 (.mv (B false))]
def r_ref13_right_1 : List AI := [O 12 (.mv (.t 4)), ⟨some 13, (.o (.bin .lss (.t 12) (N 1))), none, [0]⟩, ⟨some 14, (.o (.mv (.t 13))), none, [1]⟩, ⟨some 15, (.o (.fa 3 (.t 5))), some (14, false), [2]⟩, ⟨some 16, (.o (.ld 1 false (.t 15))), some (14, false), [3, 2]⟩, ⟨some 17, (.o (.len (.t 16))), some (14, false), [4, 2]⟩, ⟨some 18, (.o (.fa 0 (.t 5))), some (14, false), [2]⟩, ⟨some 19, (.o (.ld 1 false (.t 18))), some (14, false), [6, 2]⟩, ⟨some 20, (.call (.c (.fn (.func ref13_kids) [] [])) [(.t 19)]), some (14, false), [7, 2, 2]⟩, ⟨some 21, (.o (.bin .neq (.t 17) (.t 20))), some (14, false), [5, 8, 2]⟩, ⟨some 22, (.o (.pick (.t 14) (B true) (.t 21))), none, [2, 9]⟩, ⟨some 23, (.o (.mv (.t 22))), none, [10, 8]⟩, ⟨some 24, (.o (.ld 4 true (.t 5))), some (23, false), [11]⟩, ⟨some 25, (.o (.mv (.t 1))), some (23, false), [11]⟩, ⟨some 26, (.o (.mv (.t 2))), some (23, false), [11]⟩, ⟨some 27, (.o (.mv (.t 3))), some (23, false), [11]⟩, ⟨some 28, (.call (.c (.fn (.func ref13_named) [] [])) [(.t 24), (.t 25), (.t 26), (.t 27)]), some (23, false), [12, 13, 14, 15, 11, 11]⟩, ⟨some 29, (.o (.not (.t 28))), some (23, false), [16, 11]⟩, ⟨some 30, (.o (.pick (.t 23) (B true) (.t 29))), none, [11, 17]⟩]
def r_ref13_right_2 : List AI := [O 10 (.mv (B false))]
def r_ref13_right_3 : List AI := [O 11 (.mv (N 0))]
def r_ref13_right_4 : List AI := [O 31 (.mv (.t 11)), O 32 (.fa 3 (.t 5)), O 33 (.ld 1 false (.t 32)), O 34 (.len (.t 33)), O 35 (.bin .lss (.t 31) (.t 34))]
def r_ref13_right_5 : List AI := [O 38 (.fa 3 (.t 5)), ⟨some 39, (.o (.ld 1 false (.t 38))), none, [0]⟩, O 40 (.mv (.t 11)), ⟨some 41, (.o (.ia 4 (.t 39) (.t 40))), none, [1, 2]⟩, ⟨some 42, (.o (.ld 4 true (.t 41))), none, [3]⟩, O 43 (.mv (.t 1)), O 44 (.fa 0 (.t 5)), ⟨some 45, (.o (.ld 1 false (.t 44))), none, [6]⟩, O 46 (.mv (.t 11)), ⟨some 47, (.call (.c (.fn (.func ref13_binds) [] [])) [(.t 45), (.t 46)]), none, [7, 8]⟩, ⟨some 48, (.o (.bin .add (.t 43) (.t 47))), none, [5, 9]⟩, O 49 (.mv (.t 2)), O 50 (.mv (.t 3)), O 51 (.mv (.t 4)), ⟨some 52, (.o (.bin .sub (.t 51) (N 1))), none, [13]⟩, ⟨some 53, (.call (.c (.fn (.func ref13_right) [] [])) [(.t 42), (.t 48), (.t 49), (.t 50), (.t 52)]), none, [4, 10, 11, 12, 14, 9]⟩, ⟨some 54, (.o (.not (.t 53))), none, [15]⟩]
def r_ref13_right_6 : List AI := [O 10 (.mv (B false))]
def r_ref13_right_7 : List AI := [O 36 (.mv (.t 11)), O 37 (.bin .add (.t 36) (N 1)), O 11 (.mv (.t 37))]
def l_ref13_right_0 : FC := .seq (.seq (.reg r_ref13_right_4) (.cond (.t 35) (.skip) (.exit 0))) (.seq (.block 1 (.seq (.dreg r_ref13_right_5) (.cond (.t 54) (.seq (.reg r_ref13_right_6) (.ret)) (.skip)))) (.reg r_ref13_right_7))
def r_ref13_right_8 : List AI := [O 10 (.mv (B true))]
def c_ref13_right : FC := .seq (.reg r_ref13_right_0) (.seq (.seq (.dreg r_ref13_right_1) (.cond (.t 30) (.seq (.reg r_ref13_right_2) (.ret)) (.skip))) (.seq (.seq (.reg r_ref13_right_3) (.block 0 (.loop [1, 2, 3, 4, 5, 11] [5] l_ref13_right_0))) (.seq (.reg r_ref13_right_8) (.ret))))
theorem k_ref13_right : EntOk Try.prog ref13_right (.code c_ref13_right 55 [.t 10]) := ⟨by kernel_rfl, Try.f90, [], [], Try.func90, by kernel_rfl, by kernel_rfl, by kernel_rfl, Try.ntmps90⟩
/-! stereobate/stereobateref13.binds -/
def r_ref13_binds_0 : List AI := [O 4 (.mv (N 0))]
def r_ref13_binds_1 : List AI := [O 5 (.mv (.t 0)), O 6 (.bin .eql (.t 5) (N 5)), O 7 (.mv (.t 6)), Og 8 7 false (.mv (.t 0)), Og 9 7 false (.bin .eql (.t 8) (N 6)), O 10 (.pick (.t 7) (B true) (.t 9)), O 11 (.mv (.t 10)), Og 12 11 true (.mv (.t 1)), Og 13 11 true (.bin .eql (.t 12) (N 1)), O 14 (.pick (.t 11) (.t 13) (B false)), O 15 (.mv (.t 14)), Og 16 15 false (.mv (.t 0)), Og 17 15 false (.bin .eql (.t 16) (N 7)), Og 18 15 false (.mv (.t 17)), Og 19 18 true (.mv (.t 1)), Og 20 18 true (.bin .eql (.t 19) (N 2)), Og 21 15 false (.pick (.t 18) (.t 20) (B false)), O 22 (.pick (.t 15) (B true) (.t 21))]
def r_ref13_binds_2 : List AI := [O 4 (.mv (N 1))]
def r_ref13_binds_3 : List AI := [O 4 (.mv (N 0))]
def c_ref13_binds : FC := .seq (.reg r_ref13_binds_0) (.seq (.seq (.reg r_ref13_binds_1) (.cond (.t 22) (.seq (.reg r_ref13_binds_2) (.ret)) (.skip))) (.seq (.reg r_ref13_binds_3) (.ret)))
theorem k_ref13_binds : EntOk Try.prog ref13_binds (.code c_ref13_binds 23 [.t 4]) := ⟨by kernel_rfl, Try.f91, [], [], Try.func91, by kernel_rfl, by kernel_rfl, by kernel_rfl, Try.ntmps91⟩
/-! stereobate/term.parts -/
def r_term_parts_0 : List AI := [O 2 (.bx (.t 0)), O 4 (.mv (N 0))]
def r_term_parts_1 : List AI := [O 5 (.mv (N 1))]
def r_term_parts_2 : List AI := [O 8 (.fa 3 (.t 2)), O 9 (.ld 1 false (.t 8)), O 10 (.len (.t 9)), O 11 (.mv (N 0))]
def r_term_parts_3 : List AI := [O 12 (.bin .lss (.t 11) (.t 10))]
def r_term_parts_4 : List AI := [O 13 (.ia 4 (.t 9) (.t 11)), O 14 (.ld 4 true (.t 13)), O 7 (.alc [(.int .i64 0), (.int .i64 0), (.nils 3), (.nils 4)]), ⟨none, (.o (.st 4 (.t 7) (.t 14))), none, []⟩]
def r_term_parts_5 : List AI := [O 15 (.mv (.t 5)), O 16 (.mv (.t 1)), O 17 (.bin .lss (.t 15) (.t 16))]
def r_term_parts_6 : List AI := [O 18 (.mv (.t 5)), O 19 (.ld 4 true (.t 7)), O 20 (.mv (.t 1)), O 21 (.mv (.t 5)), O 22 (.bin .sub (.t 20) (.t 21)), C 23 (.c (.fn (.func term_parts) [] [])) [(.t 19), (.t 22)], O 24 (.bin .add (.t 18) (.t 23)), O 5 (.mv (.t 24))]
def r_term_parts_7 : List AI := [O 25 (.bin .add (.t 11) (N 1)), O 11 (.mv (.t 25))]
def l_term_parts_0 : FC := .seq (.reg r_term_parts_3) (.seq (.cond (.t 12) (.skip) (.exit 0)) (.seq (.block 1 (.seq (.reg r_term_parts_4) (.seq (.reg r_term_parts_5) (.cond (.t 17) (.reg r_term_parts_6) (.skip))))) (.reg r_term_parts_7)))
def r_term_parts_8 : List AI := [O 26 (.mv (.t 5)), O 4 (.mv (.t 26))]
def c_term_parts : FC := .seq (.reg r_term_parts_0) (.seq (.reg r_term_parts_1) (.seq (.seq (.reg r_term_parts_2) (.block 0 (.loop [1, 5, 9, 10, 11] [] l_term_parts_0))) (.seq (.reg r_term_parts_8) (.ret))))
theorem k_term_parts : EntOk Try.prog term_parts (.code c_term_parts 27 [.t 4]) := ⟨by kernel_rfl, Try.f92, [], [], Try.func92, by kernel_rfl, by kernel_rfl, by kernel_rfl, Try.ntmps92⟩
/-! (stereobate/term.room).right -/
def r_term_room_right_0 : List AI := [O 3 (.bxH (.t 0)), O 4 (.bx (.t 1)), O 6 (.mv (B false))]
def r_term_room_right_1 : List AI := [O 13 (.mkf (.func term_room_right_1) [] [(.t 3)]), O 7 (.mv (.t 13))]
def r_term_room_right_2 : List AI := [C 15 (.c (.fn (.func term_shapes) [] [])) [], O 16 (.fa 0 (.t 4)), ⟨some 17, (.o (.ld 1 false (.t 16))), none, [1]⟩, ⟨some 18, (.o (.lk true (.agg [(.int .i64 0), (.int .i64 0)]) (.t 15) (.t 17))), none, [0, 2]⟩, ⟨some 14, (.o (.mv (.t 18))), none, [3]⟩, ⟨some 19, (.o (.ext (.t 14) 0)), none, [4]⟩, ⟨some 20, (.o (.ext (.t 14) 1)), none, [4]⟩, O 8 (.alc [(.int .i64 0), (.int .i64 0)]), ⟨none, (.o (.st 2 (.t 8) (.t 19))), none, [7, 5, 0, 0, 1, 2, 3, 4, 5, 7]⟩, ⟨some 9, (.o (.mv (.t 20))), none, [6, 8, 0, 1, 2, 3, 4, 5, 6, 7, 8]⟩]
def r_term_room_right_3 : List AI := [O 21 (.mv (.t 2)), O 22 (.bin .eql (.t 21) (N 0)), O 23 (.mv (.t 22)), Og 24 23 false (.mv (.t 9)), Og 25 23 false (.not (.t 24)), O 26 (.pick (.t 23) (B true) (.t 25)), O 27 (.mv (.t 26)), Og 28 27 false (.fa 3 (.t 4)), Og 29 27 false (.ld 1 false (.t 28)), Og 30 27 false (.len (.t 29)), Og 31 27 false (.fa 0 (.t 8)), Og 32 27 false (.ld 1 false (.t 31)), Og 33 27 false (.bin .neq (.t 30) (.t 32)), O 34 (.pick (.t 27) (B true) (.t 33)), O 35 (.mv (.t 34)), Og 36 35 false (.ld 3 true (.t 3)), Og 37 35 false (.ld 4 true (.t 4)), ⟨some 38, (.call (.c (.fn (.func term_room_named) [] [])) [(.t 36), (.t 37)]), some (35, false), []⟩, Og 39 35 false (.not (.t 38)), O 40 (.pick (.t 35) (B true) (.t 39)), O 41 (.mv (.t 40)), Og 42 41 false (.fa 2 (.t 4)), Og 43 41 false (.ld 1 false (.t 42)), Og 44 41 false (.mv (.t 7)), ⟨some 45, (.call (.c (.fn (.func slices_ContainsFunc_Level) [] [])) [(.t 43), (.t 44)]), some (41, false), []⟩, O 46 (.pick (.t 41) (B true) (.t 45))]
def r_term_room_right_4 : List AI := [O 6 (.mv (B false))]
def r_term_room_right_5 : List AI := [O 47 (.fa 3 (.t 4)), O 48 (.ld 1 false (.t 47)), O 49 (.len (.t 48)), O 50 (.mv (N 0))]
def r_term_room_right_6 : List AI := [O 51 (.bin .lss (.t 50) (.t 49))]
def r_term_room_right_7 : List AI := [O 52 (.mv (.t 50)), O 53 (.ia 4 (.t 48) (.t 50)), O 54 (.ld 4 true (.t 53)), O 11 (.alc [(.int .i64 0), (.int .i64 0), (.nils 3), (.nils 4)]), O 10 (.mv (.t 52)), ⟨none, (.o (.st 4 (.t 11) (.t 54))), none, []⟩]
def r_term_room_right_8 : List AI := [O 55 (.ld 3 true (.t 3)), O 12 (.alc [(.int .i64 0), (.int .i64 0), (.int .i64 0)]), ⟨none, (.o (.st 3 (.t 12) (.t 55))), none, []⟩]
def r_term_room_right_9 : List AI := [O 56 (.fa 0 (.t 12)), ⟨some 57, (.o (.ld 1 false (.t 56))), none, [0]⟩, O 58 (.ld 4 true (.t 4)), O 59 (.mv (.t 10)), ⟨some 60, (.call (.c (.fn (.func term_below) [] [])) [(.t 58), (.t 59)]), none, [2, 3]⟩, ⟨some 61, (.o (.bin .add (.t 57) (.t 60))), none, [1, 4]⟩, ⟨some 62, (.o (.fa 0 (.t 12))), none, [0, 1, 2, 3, 4, 5]⟩, ⟨none, (.o (.st 1 (.t 62) (.t 61))), none, [6, 5, 4, 0, 1, 2, 3, 4, 5]⟩]
def r_term_room_right_10 : List AI := [O 63 (.ld 3 true (.t 12)), O 64 (.ld 4 true (.t 11)), O 65 (.mv (.t 2)), O 66 (.bin .sub (.t 65) (N 1)), C 67 (.c (.fn (.func term_room_right) [] [])) [(.t 63), (.t 64), (.t 66)], O 68 (.not (.t 67))]
def r_term_room_right_11 : List AI := [O 6 (.mv (B false))]
def r_term_room_right_12 : List AI := [O 69 (.bin .add (.t 50) (N 1)), O 50 (.mv (.t 69))]
def l_term_room_right_0 : FC := .seq (.reg r_term_room_right_6) (.seq (.cond (.t 51) (.skip) (.exit 0)) (.seq (.block 1 (.seq (.reg r_term_room_right_7) (.seq (.reg r_term_room_right_8) (.seq (.dreg r_term_room_right_9) (.seq (.reg r_term_room_right_10) (.cond (.t 68) (.seq (.reg r_term_room_right_11) (.ret)) (.skip))))))) (.reg r_term_room_right_12)))
def r_term_room_right_13 : List AI := [O 6 (.mv (B true))]
def c_term_room_right : FC := .seq (.reg r_term_room_right_0) (.seq (.reg r_term_room_right_1) (.seq (.dreg r_term_room_right_2) (.seq (.seq (.reg r_term_room_right_3) (.cond (.t 46) (.seq (.reg r_term_room_right_4) (.ret)) (.skip))) (.seq (.seq (.reg r_term_room_right_5) (.block 0 (.loop [2, 3, 4, 48, 49, 50] [4] l_term_room_right_0))) (.seq (.reg r_term_room_right_13) (.ret))))))
theorem k_term_room_right : EntOk Try.prog term_room_right (.code c_term_room_right 70 [.t 6]) := ⟨by kernel_rfl, Try.f93, [3], [], Try.func93, by kernel_rfl, by kernel_rfl, by kernel_rfl, Try.ntmps93⟩
/-! stereobate/term.lift$1 -/
def r_term_lift_1_0 : List AI := [O 6 (.alc [(.int .i64 0), (.int .i64 0), (.nils 3), (.nils 4)])]
def r_term_lift_1_1 : List AI := [O 7 (.mv (.t 0)), O 8 (.ld 1 false (.t 2)), O 9 (.mv (.t 1)), O 10 (.bin .add (.t 8) (.t 9)), O 11 (.bin .geq (.t 7) (.t 10))]
def r_term_lift_1_2 : List AI := [O 12 (.mv (.t 0)), O 13 (.ld 1 false (.t 3)), O 14 (.bin .add (.t 12) (.t 13)), O 0 (.mv (.t 14))]
def r_term_lift_1_3 : List AI := [O 15 (.mv (.t 0)), C 16 (.c (.fn (.func term_variable) [] [])) [(.t 15)], ⟨none, (.o (.st 4 (.t 6) (.t 16))), none, []⟩]
def c_term_lift_1 : FC := .seq (.reg r_term_lift_1_0) (.seq (.seq (.reg r_term_lift_1_1) (.cond (.t 11) (.reg r_term_lift_1_2) (.skip))) (.seq (.reg r_term_lift_1_3) (.ret)))
theorem k_term_lift_1 : EntOk Try.prog term_lift_1 (.code c_term_lift_1 17 [.c 4 true 6]) := ⟨by kernel_rfl, Try.f94, [], [], Try.func94, by kernel_rfl, by kernel_rfl, by kernel_rfl, Try.ntmps94⟩
/-! stereobate/tsub.all -/
def r_tsub_all_0 : List AI := [O 1 (.bxF (.t 0)), O 2 (.mv (.c .nilf))]
def r_tsub_all_1 : List AI := [O 3 (.mkf (.func tsub_all_1) [] [(.t 1)]), O 2 (.mv (.t 3))]
def c_tsub_all : FC := .seq (.reg r_tsub_all_0) (.seq (.reg r_tsub_all_1) (.ret))
theorem k_tsub_all : EntOk Try.prog tsub_all (.code c_tsub_all 4 [.t 2]) := ⟨by kernel_rfl, Try.f95, [], [5000001], Try.func95, by kernel_rfl, by kernel_rfl, by kernel_rfl, Try.ntmps95⟩
/-! stereobate/tsub.once -/
def r_tsub_once_0 : List AI := [O 6 (.mvO 1)]
def r_tsub_once_1 : List AI := [O 11 (.mv (.t 2)), O 12 (.len (.t 11)), O 13 (.mv (N 0))]
def r_tsub_once_2 : List AI := [O 14 (.bin .lss (.t 13) (.t 12))]
def r_tsub_once_3 : List AI := [O 15 (.ia 1 (.t 11) (.t 13)), O 16 (.ld 1 false (.t 15)), O 8 (.mv (.t 16))]
def r_tsub_once_4 : List AI := [O 18 (.mv (.t 1)), O 19 (.mv (.t 8)), O 20 (.lk true (.agg []) (.t 18) (.t 19)), O 17 (.mv (.t 20)), O 21 (.ext (.t 17) 0), O 22 (.ext (.t 17) 1), O 9 (.alc []), ⟨none, (.o (.st 0 (.t 9) (.t 21))), none, []⟩, O 10 (.mv (.t 22))]
def r_tsub_once_5 : List AI := [O 23 (.mv (.t 10)), O 24 (.not (.t 23))]
def r_tsub_once_6 : List AI := [O 25 (.mv (.t 1)), O 26 (.mv (.t 8)), O 27 (.bld [] []), ⟨none, (.o (.ins (.t 25) (.t 26) (.t 27))), none, []⟩]
def r_tsub_once_7 : List AI := [O 28 (.mv (.t 0)), O 29 (.mv (.t 8)), O 30 (.bsl 1 1 [(.int .i64 0)] [(0, (.t 29))]), O 31 (.app 1 (.t 28) (.t 30)), O 0 (.mv (.t 31))]
def r_tsub_once_8 : List AI := [O 32 (.bin .add (.t 13) (N 1)), O 13 (.mv (.t 32))]
def l_tsub_once_0 : FC := .seq (.reg r_tsub_once_2) (.seq (.cond (.t 14) (.skip) (.exit 0)) (.seq (.block 1 (.seq (.reg r_tsub_once_3) (.seq (.reg r_tsub_once_4) (.seq (.reg r_tsub_once_5) (.cond (.t 24) (.seq (.reg r_tsub_once_6) (.reg r_tsub_once_7)) (.skip)))))) (.reg r_tsub_once_8)))
def r_tsub_once_9 : List AI := [O 33 (.mv (.t 0)), O 6 (.mv (.t 33))]
def c_tsub_once : FC := .seq (.reg r_tsub_once_0) (.seq (.seq (.reg r_tsub_once_1) (.block 0 (.loop [0, 1, 11, 12, 13] [] l_tsub_once_0))) (.seq (.reg r_tsub_once_9) (.ret)))
theorem k_tsub_once : EntOk Try.prog tsub_once (.code c_tsub_once 34 [.t 6]) := ⟨by kernel_rfl, Try.f96, [], [6], Try.func96, by kernel_rfl, by kernel_rfl, by kernel_rfl, Try.ntmps96⟩
/-! stereobate/level.nodes -/
def r_level_nodes_0 : List AI := [O 2 (.bx (.t 0)), O 4 (.mv (N 0))]
def r_level_nodes_1 : List AI := [O 5 (.mv (N 1))]
def r_level_nodes_2 : List AI := [O 8 (.fa 2 (.t 2)), O 9 (.ld 1 false (.t 8)), O 10 (.len (.t 9)), O 11 (.mv (N 0))]
def r_level_nodes_3 : List AI := [O 12 (.bin .lss (.t 11) (.t 10))]
def r_level_nodes_4 : List AI := [O 13 (.ia 3 (.t 9) (.t 11)), O 14 (.ld 3 true (.t 13)), O 7 (.alc [(.int .i64 0), (.int .i64 0), (.nils 3)]), ⟨none, (.o (.st 3 (.t 7) (.t 14))), none, []⟩]
def r_level_nodes_5 : List AI := [O 15 (.mv (.t 5)), O 16 (.mv (.t 1)), O 17 (.bin .lss (.t 15) (.t 16))]
def r_level_nodes_6 : List AI := [O 18 (.mv (.t 5)), O 19 (.ld 3 true (.t 7)), O 20 (.mv (.t 1)), O 21 (.mv (.t 5)), O 22 (.bin .sub (.t 20) (.t 21)), C 23 (.c (.fn (.func level_nodes) [] [])) [(.t 19), (.t 22)], O 24 (.bin .add (.t 18) (.t 23)), O 5 (.mv (.t 24))]
def r_level_nodes_7 : List AI := [O 25 (.bin .add (.t 11) (N 1)), O 11 (.mv (.t 25))]
def l_level_nodes_0 : FC := .seq (.reg r_level_nodes_3) (.seq (.cond (.t 12) (.skip) (.exit 0)) (.seq (.block 1 (.seq (.reg r_level_nodes_4) (.seq (.reg r_level_nodes_5) (.cond (.t 17) (.reg r_level_nodes_6) (.skip))))) (.reg r_level_nodes_7)))
def r_level_nodes_8 : List AI := [O 26 (.mv (.t 5)), O 4 (.mv (.t 26))]
def c_level_nodes : FC := .seq (.reg r_level_nodes_0) (.seq (.reg r_level_nodes_1) (.seq (.seq (.reg r_level_nodes_2) (.block 0 (.loop [1, 5, 9, 10, 11] [] l_level_nodes_0))) (.seq (.reg r_level_nodes_8) (.ret))))
theorem k_level_nodes : EntOk Try.prog level_nodes (.code c_level_nodes 27 [.t 4]) := ⟨by kernel_rfl, Try.f97, [], [], Try.func97, by kernel_rfl, by kernel_rfl, by kernel_rfl, Try.ntmps97⟩
/-! stereobate/level.right -/
def r_level_right_0 : List AI := [O 4 (.bx (.t 0)), O 5 (.bxH (.t 1)), O 6 (.bxH (.t 2)), O 7 (.bxH (.t 3)), O 8 (.mv (B false))]
def r_level_right_1 : List AI := [C 13 (.c (.fn (.func level_kinds) [] [])) [], O 14 (.fa 0 (.t 4)), ⟨some 15, (.o (.ld 1 false (.t 14))), none, [1]⟩, ⟨some 16, (.o (.lk true (.agg [(.int .i64 0), .nilf]) (.t 13) (.t 15))), none, [0, 2]⟩, ⟨some 12, (.o (.mv (.t 16))), none, [3]⟩, ⟨some 17, (.o (.ext (.t 12) 0)), none, [4]⟩, ⟨some 18, (.o (.ext (.t 12) 1)), none, [4]⟩, O 9 (.alc [(.int .i64 0), .nilf]), ⟨none, (.o (.st 2 (.t 9) (.t 17))), none, [7, 5, 0, 0, 1, 2, 3, 4, 5, 7]⟩, ⟨some 10, (.o (.mv (.t 18))), none, [6, 8, 0, 1, 2, 3, 4, 5, 6, 7, 8]⟩]
def r_level_right_2 : List AI := [O 19 (.mkf (.func level_right_1) [] [(.t 5), (.t 6), (.t 7)]), O 11 (.mv (.t 19))]
def r_level_right_3 : List AI := [O 20 (.ld 1 false (.t 7)), O 21 (.bin .gtr (.t 20) (N 0)), O 22 (.mv (.t 21)), Og 23 22 true (.mv (.t 10)), O 24 (.pick (.t 22) (.t 23) (B false)), O 25 (.mv (.t 24)), Og 26 25 true (.fa 2 (.t 4)), Og 27 25 true (.ld 1 false (.t 26)), Og 28 25 true (.len (.t 27)), Og 29 25 true (.fa 0 (.t 9)), Og 30 25 true (.ld 1 false (.t 29)), Og 31 25 true (.bin .eql (.t 28) (.t 30)), O 32 (.pick (.t 25) (.t 31) (B false)), O 33 (.mv (.t 32)), Og 34 33 true (.ld 3 true (.t 4)), Og 35 33 true (.ld 1 false (.t 5)), Og 36 33 true (.ld 1 false (.t 6)), ⟨some 37, (.call (.c (.fn (.func level_named) [] [])) [(.t 34), (.t 35), (.t 36)]), some (33, true), []⟩, O 38 (.pick (.t 33) (.t 37) (B false)), O 39 (.mv (.t 38)), Og 40 39 true (.fa 2 (.t 4)), Og 41 39 true (.ld 1 false (.t 40)), Og 42 39 true (.mv (.t 11)), ⟨some 43, (.call (.c (.fn (.func slices_ContainsFunc_Level) [] [])) [(.t 41), (.t 42)]), some (39, true), []⟩, Og 44 39 true (.not (.t 43)), O 45 (.pick (.t 39) (.t 44) (B false)), O 8 (.mv (.t 45))]
def c_level_right : FC := .seq (.reg r_level_right_0) (.seq (.dreg r_level_right_1) (.seq (.reg r_level_right_2) (.seq (.reg r_level_right_3) (.ret))))
theorem k_level_right : EntOk Try.prog level_right (.code c_level_right 46 [.t 8]) := ⟨by kernel_rfl, Try.f98, [5, 6, 7], [], Try.func98, by kernel_rfl, by kernel_rfl, by kernel_rfl, Try.ntmps98⟩
/-! stereobate/stereobateref02.kids -/
def r_ref02_kids_0 : List AI := [O 2 (.mv (N 0))]
def r_ref02_kids_1 : List AI := [O 3 (.mv (.t 0))]
def r_ref02_kids_2 : List AI := [O 5 (.bin .eql (.t 3) (N 1)), O 4 (.mv (.t 5))]
def r_ref02_kids_3 : List AI := [O 6 (.bin .eql (.t 3) (N 5)), O 4 (.mv (.t 6))]
def r_ref02_kids_4 : List AI := [O 7 (.bin .eql (.t 3) (N 6)), O 4 (.mv (.t 7))]
def r_ref02_kids_5 : List AI := [O 2 (.mv (N 0))]
def r_ref02_kids_6 : List AI := [O 9 (.bin .eql (.t 3) (N 2)), O 8 (.mv (.t 9))]
def r_ref02_kids_7 : List AI := [O 2 (.mv (N 1))]
def r_ref02_kids_8 : List AI := [O 11 (.bin .eql (.t 3) (N 3)), O 10 (.mv (.t 11))]
def r_ref02_kids_9 : List AI := [O 12 (.bin .eql (.t 3) (N 4)), O 10 (.mv (.t 12))]
def r_ref02_kids_10 : List AI := [O 2 (.mv (N 2))]
def r_ref02_kids_11 : List AI := [O 2 (.mv (N (-1)))]
def c_ref02_kids : FC := .seq (.reg r_ref02_kids_0) (.seq (.seq (.reg r_ref02_kids_1) (.block 0 (.seq (.seq (.reg r_ref02_kids_2) (.cond (.t 4) (.skip) (.seq (.reg r_ref02_kids_3) (.cond (.t 4) (.skip) (.reg r_ref02_kids_4))))) (.cond (.t 4) (.seq (.reg r_ref02_kids_5) (.ret)) (.seq (.reg r_ref02_kids_6) (.cond (.t 8) (.seq (.reg r_ref02_kids_7) (.ret)) (.seq (.seq (.reg r_ref02_kids_8) (.cond (.t 10) (.skip) (.reg r_ref02_kids_9))) (.cond (.t 10) (.seq (.reg r_ref02_kids_10) (.ret)) (.skip))))))))) (.seq (.reg r_ref02_kids_11) (.ret)))
theorem k_ref02_kids : EntOk Try.prog ref02_kids (.code c_ref02_kids 13 [.t 2]) := ⟨by kernel_rfl, Try.f99, [], [], Try.func99, by kernel_rfl, by kernel_rfl, by kernel_rfl, Try.ntmps99⟩
/-! slices.Index[[]int,int] -/
def r_slices_Index_int_0 : List AI := [O 4 (.mv (N 0))]
def r_slices_Index_int_1 : List AI := [O 6 (.mv (.t 0)), O 7 (.len (.t 6)), O 8 (.mv (N 0))]
def r_slices_Index_int_2 : List AI := [O 9 (.bin .lss (.t 8) (.t 7))]
def r_slices_Index_int_3 : List AI := [O 10 (.mv (.t 8)), O 5 (.mv (.t 10))]
def r_slices_Index_int_4 : List AI := [O 11 (.mv (.t 1)), O 12 (.mv (.t 0)), O 13 (.mv (.t 5)), O 14 (.ia 1 (.t 12) (.t 13)), O 15 (.ld 1 false (.t 14)), O 16 (.bin .eql (.t 11) (.t 15))]
def r_slices_Index_int_5 : List AI := [O 17 (.mv (.t 5)), O 4 (.mv (.t 17))]
def r_slices_Index_int_6 : List AI := [O 18 (.bin .add (.t 8) (N 1)), O 8 (.mv (.t 18))]
def l_slices_Index_int_0 : FC := .seq (.reg r_slices_Index_int_2) (.seq (.cond (.t 9) (.skip) (.exit 0)) (.seq (.block 1 (.seq (.reg r_slices_Index_int_3) (.seq (.reg r_slices_Index_int_4) (.cond (.t 16) (.seq (.reg r_slices_Index_int_5) (.ret)) (.skip))))) (.reg r_slices_Index_int_6)))
def r_slices_Index_int_7 : List AI := [O 4 (.mv (N (-1)))]
def c_slices_Index_int : FC := .seq (.reg r_slices_Index_int_0) (.seq (.seq (.reg r_slices_Index_int_1) (.block 0 (.loop [0, 1, 7, 8] [] l_slices_Index_int_0))) (.seq (.reg r_slices_Index_int_7) (.ret)))
theorem k_slices_Index_int : EntOk Try.prog slices_Index_int (.code c_slices_Index_int 19 [.t 4]) := ⟨by kernel_rfl, Try.f100, [], [], Try.func100, by kernel_rfl, by kernel_rfl, by kernel_rfl, Try.ntmps100⟩
/-! stereobate/term.shapes -/
def r_term_shapes_0 : List AI := [O 0 (.mv (.c .nilm))]
def r_term_shapes_1 : List AI := [O 1 (.mkm), O 2 (.bld [(.int .i64 0), (.int .i64 0)] [(0, 1, (N 0)), (1, 1, (N (-1)))]), ⟨none, (.o (.ins (.t 1) (N 1) (.t 2))), none, []⟩, O 3 (.bld [(.int .i64 0), (.int .i64 0)] [(0, 1, (N 0)), (1, 1, (N (-1)))]), ⟨none, (.o (.ins (.t 1) (N 2) (.t 3))), none, []⟩, O 4 (.bld [(.int .i64 0), (.int .i64 0)] [(0, 1, (N 0)), (1, 1, (N (-1)))]), ⟨none, (.o (.ins (.t 1) (N 3) (.t 4))), none, []⟩, O 5 (.bld [(.int .i64 0), (.int .i64 0)] [(0, 1, (N 2)), (1, 1, (N (-1)))]), ⟨none, (.o (.ins (.t 1) (N 4) (.t 5))), none, []⟩, O 6 (.bld [(.int .i64 0), (.int .i64 0)] [(0, 1, (N 2)), (1, 1, (N 1))]), ⟨none, (.o (.ins (.t 1) (N 5) (.t 6))), none, []⟩, O 7 (.bld [(.int .i64 0), (.int .i64 0)] [(0, 1, (N 2)), (1, 1, (N 1))]), ⟨none, (.o (.ins (.t 1) (N 6) (.t 7))), none, []⟩, O 8 (.bld [(.int .i64 0), (.int .i64 0)] [(0, 1, (N 3)), (1, 1, (N 2))]), ⟨none, (.o (.ins (.t 1) (N 7) (.t 8))), none, []⟩, O 9 (.mv (.t 1)), O 0 (.mv (.t 9))]
def c_term_shapes : FC := .seq (.reg r_term_shapes_0) (.seq (.reg r_term_shapes_1) (.ret))
theorem k_term_shapes : EntOk Try.prog term_shapes (.code c_term_shapes 10 [.t 0]) := ⟨by kernel_rfl, Try.f101, [], [], Try.func101, by kernel_rfl, by kernel_rfl, by kernel_rfl, Try.ntmps101⟩
/-! stereobate/stereobateref13.kids -/
def r_ref13_kids_0 : List AI := [O 2 (.mv (N 0))]
def r_ref13_kids_1 : List AI := [O 3 (.mv (.t 0))]
def r_ref13_kids_2 : List AI := [O 5 (.bin .eql (.t 3) (N 1)), O 4 (.mv (.t 5))]
def r_ref13_kids_3 : List AI := [O 6 (.bin .eql (.t 3) (N 2)), O 4 (.mv (.t 6))]
def r_ref13_kids_4 : List AI := [O 7 (.bin .eql (.t 3) (N 3)), O 4 (.mv (.t 7))]
def r_ref13_kids_5 : List AI := [O 2 (.mv (N 0))]
def r_ref13_kids_6 : List AI := [O 9 (.bin .eql (.t 3) (N 4)), O 8 (.mv (.t 9))]
def r_ref13_kids_7 : List AI := [O 10 (.bin .eql (.t 3) (N 5)), O 8 (.mv (.t 10))]
def r_ref13_kids_8 : List AI := [O 11 (.bin .eql (.t 3) (N 6)), O 8 (.mv (.t 11))]
def r_ref13_kids_9 : List AI := [O 2 (.mv (N 2))]
def r_ref13_kids_10 : List AI := [O 13 (.bin .eql (.t 3) (N 7)), O 12 (.mv (.t 13))]
def r_ref13_kids_11 : List AI := [O 2 (.mv (N 3))]
def r_ref13_kids_12 : List AI := [O 2 (.mv (N (-1)))]
def c_ref13_kids : FC := .seq (.reg r_ref13_kids_0) (.seq (.seq (.reg r_ref13_kids_1) (.block 0 (.seq (.seq (.reg r_ref13_kids_2) (.cond (.t 4) (.skip) (.seq (.reg r_ref13_kids_3) (.cond (.t 4) (.skip) (.reg r_ref13_kids_4))))) (.cond (.t 4) (.seq (.reg r_ref13_kids_5) (.ret)) (.seq (.seq (.reg r_ref13_kids_6) (.cond (.t 8) (.skip) (.seq (.reg r_ref13_kids_7) (.cond (.t 8) (.skip) (.reg r_ref13_kids_8))))) (.cond (.t 8) (.seq (.reg r_ref13_kids_9) (.ret)) (.seq (.reg r_ref13_kids_10) (.cond (.t 12) (.seq (.reg r_ref13_kids_11) (.ret)) (.skip))))))))) (.seq (.reg r_ref13_kids_12) (.ret)))
theorem k_ref13_kids : EntOk Try.prog ref13_kids (.code c_ref13_kids 14 [.t 2]) := ⟨by kernel_rfl, Try.f102, [], [], Try.func102, by kernel_rfl, by kernel_rfl, by kernel_rfl, Try.ntmps102⟩
/-! stereobate/stereobateref13.named -/
def r_ref13_named_0 : List AI := [O 4 (.bx (.t 0)), O 8 (.mv (B false))]
def r_ref13_named_1 : List AI := [O 9 (.mv (N 0))]
def r_ref13_named_2 : List AI := [O 10 (.mv (.t 9)), O 11 (.fa 2 (.t 4)), O 12 (.ld 1 false (.t 11)), O 13 (.len (.t 12)), O 14 (.bin .lss (.t 10) (.t 13))]
def r_ref13_named_3 : List AI := [O 17 (.fa 2 (.t 4)), O 18 (.ld 1 false (.t 17)), O 19 (.mv (.t 9)), O 20 (.ia 3 (.t 18) (.t 19)), O 21 (.ld 3 true (.t 20)), O 22 (.mv (.t 2)), O 23 (.mv (.t 3)), C 24 (.c (.fn (.func ref02_Right) [] [])) [(.t 21), (.t 22), (.t 23)], O 25 (.not (.t 24))]
def r_ref13_named_4 : List AI := [O 8 (.mv (B false))]
def r_ref13_named_5 : List AI := [O 15 (.mv (.t 9)), O 16 (.bin .add (.t 15) (N 1)), O 9 (.mv (.t 16))]
def l_ref13_named_0 : FC := .seq (.seq (.reg r_ref13_named_2) (.cond (.t 14) (.skip) (.exit 0))) (.seq (.block 1 (.seq (.reg r_ref13_named_3) (.cond (.t 25) (.seq (.reg r_ref13_named_4) (.ret)) (.skip)))) (.reg r_ref13_named_5))
def r_ref13_named_6 : List AI := [O 26 (.fa 0 (.t 4)), O 27 (.ld 1 false (.t 26))]
def r_ref13_named_7 : List AI := [O 29 (.bin .eql (.t 27) (N 1)), O 28 (.mv (.t 29))]
def r_ref13_named_8 : List AI := [O 30 (.fa 1 (.t 4)), O 31 (.ld 1 false (.t 30)), O 32 (.bin .geq (.t 31) (N 0)), O 33 (.mv (.t 32)), Og 34 33 true (.fa 1 (.t 4)), Og 35 33 true (.ld 1 false (.t 34)), Og 36 33 true (.mv (.t 1)), Og 37 33 true (.bin .lss (.t 35) (.t 36)), O 38 (.pick (.t 33) (.t 37) (B false)), O 39 (.mv (.t 38)), Og 40 39 true (.fa 2 (.t 4)), Og 41 39 true (.ld 1 false (.t 40)), Og 42 39 true (.len (.t 41)), Og 43 39 true (.bin .eql (.t 42) (N 0)), O 44 (.pick (.t 39) (.t 43) (B false)), O 8 (.mv (.t 44))]
def r_ref13_named_9 : List AI := [O 46 (.bin .eql (.t 27) (N 2)), O 45 (.mv (.t 46))]
def r_ref13_named_10 : List AI := [O 47 (.fa 1 (.t 4)), O 48 (.ld 1 false (.t 47)), O 49 (.bin .eql (.t 48) (N 0)), O 50 (.mv (.t 49)), Og 51 50 true (.fa 2 (.t 4)), Og 52 50 true (.ld 1 false (.t 51)), Og 53 50 true (.len (.t 52)), Og 54 50 true (.bin .eql (.t 53) (N 1)), O 55 (.pick (.t 50) (.t 54) (B false)), O 8 (.mv (.t 55))]
def r_ref13_named_11 : List AI := [O 57 (.bin .eql (.t 27) (N 3)), O 56 (.mv (.t 57))]
def r_ref13_named_12 : List AI := [O 58 (.fa 1 (.t 4)), O 59 (.ld 1 false (.t 58)), O 60 (.bin .geq (.t 59) (N 0)), O 61 (.mv (.t 60)), Og 62 61 true (.fa 1 (.t 4)), Og 63 61 true (.ld 1 false (.t 62)), Og 64 61 true (.bin .lss (.t 63) (N 20)), O 65 (.pick (.t 61) (.t 64) (B false)), O 66 (.mv (.t 65)), Og 67 66 true (.fa 2 (.t 4)), Og 68 66 true (.ld 1 false (.t 67)), Og 69 66 true (.len (.t 68)), Og 70 66 true (.bin .leq (.t 69) (N 5)), O 71 (.pick (.t 66) (.t 70) (B false)), O 8 (.mv (.t 71))]
def r_ref13_named_13 : List AI := [O 72 (.fa 1 (.t 4)), O 73 (.ld 1 false (.t 72)), O 74 (.bin .eql (.t 73) (N 0)), O 75 (.mv (.t 74)), Og 76 75 true (.fa 2 (.t 4)), Og 77 75 true (.ld 1 false (.t 76)), Og 78 75 true (.len (.t 77)), Og 79 75 true (.bin .eql (.t 78) (N 0)), O 80 (.pick (.t 75) (.t 79) (B false)), O 8 (.mv (.t 80))]
def c_ref13_named : FC := .seq (.reg r_ref13_named_0) (.seq (.seq (.reg r_ref13_named_1) (.block 0 (.loop [1, 2, 3, 4, 9] [4] l_ref13_named_0))) (.seq (.seq (.reg r_ref13_named_6) (.block 2 (.seq (.reg r_ref13_named_7) (.cond (.t 28) (.seq (.reg r_ref13_named_8) (.ret)) (.seq (.reg r_ref13_named_9) (.cond (.t 45) (.seq (.reg r_ref13_named_10) (.ret)) (.seq (.reg r_ref13_named_11) (.cond (.t 56) (.seq (.reg r_ref13_named_12) (.ret)) (.skip))))))))) (.seq (.reg r_ref13_named_13) (.ret))))
theorem k_ref13_named : EntOk Try.prog ref13_named (.code c_ref13_named 81 [.t 8]) := ⟨by kernel_rfl, Try.f103, [], [], Try.func103, by kernel_rfl, by kernel_rfl, by kernel_rfl, Try.ntmps103⟩
/-! (stereobate/term.room).right$1 -/
def r_term_room_right_1_0 : List AI := [O 2 (.bx (.t 0)), O 3 (.mv (B false))]
def r_term_room_right_1_1 : List AI := [O 4 (.ld 3 true (.t 2)), O 5 (.fa 1 (.t 1)), O 6 (.ld 1 false (.t 5)), O 7 (.fa 2 (.t 1)), O 8 (.ld 1 false (.t 7)), C 9 (.c (.fn (.func level_Right) [] [])) [(.t 4), (.t 6), (.t 8)], O 10 (.not (.t 9)), O 3 (.mv (.t 10))]
def c_term_room_right_1 : FC := .seq (.reg r_term_room_right_1_0) (.seq (.reg r_term_room_right_1_1) (.ret))
theorem k_term_room_right_1 : EntOk Try.prog term_room_right_1 (.code c_term_room_right_1 11 [.t 3]) := ⟨by kernel_rfl, Try.f104, [], [], Try.func104, by kernel_rfl, by kernel_rfl, by kernel_rfl, Try.ntmps104⟩
/-! (stereobate/term.room).named -/
def r_term_room_named_0 : List AI := [O 2 (.bx (.t 0)), O 3 (.bx (.t 1)), O 4 (.mv (B false))]
def r_term_room_named_1 : List AI := [O 5 (.fa 0 (.t 3)), O 6 (.ld 1 false (.t 5))]
def r_term_room_named_2 : List AI := [O 8 (.bin .eql (.t 6) (N 1)), O 7 (.mv (.t 8))]
def r_term_room_named_3 : List AI := [O 9 (.fa 1 (.t 3)), O 10 (.ld 1 false (.t 9)), O 11 (.bin .geq (.t 10) (N 0)), O 12 (.mv (.t 11)), Og 13 12 true (.fa 1 (.t 3)), Og 14 12 true (.ld 1 false (.t 13)), Og 15 12 true (.fa 0 (.t 2)), Og 16 12 true (.ld 1 false (.t 15)), Og 17 12 true (.bin .lss (.t 14) (.t 16)), O 18 (.pick (.t 12) (.t 17) (B false)), O 19 (.mv (.t 18)), Og 20 19 true (.fa 2 (.t 3)), Og 21 19 true (.ld 1 false (.t 20)), Og 22 19 true (.len (.t 21)), Og 23 19 true (.bin .eql (.t 22) (N 0)), O 24 (.pick (.t 19) (.t 23) (B false)), O 4 (.mv (.t 24))]
def r_term_room_named_4 : List AI := [O 26 (.bin .eql (.t 6) (N 3)), O 25 (.mv (.t 26))]
def r_term_room_named_5 : List AI := [O 27 (.fa 1 (.t 3)), O 28 (.ld 1 false (.t 27)), O 29 (.bin .geq (.t 28) (N 0)), O 30 (.mv (.t 29)), Og 31 30 true (.fa 1 (.t 3)), Og 32 30 true (.ld 1 false (.t 31)), Og 33 30 true (.bin .lss (.t 32) (N 20)), O 34 (.pick (.t 30) (.t 33) (B false)), O 35 (.mv (.t 34)), Og 36 35 true (.fa 2 (.t 3)), Og 37 35 true (.ld 1 false (.t 36)), Og 38 35 true (.len (.t 37)), Og 39 35 true (.bin .leq (.t 38) (N 5)), O 40 (.pick (.t 35) (.t 39) (B false)), O 4 (.mv (.t 40))]
def r_term_room_named_6 : List AI := [O 42 (.bin .eql (.t 6) (N 2)), O 41 (.mv (.t 42))]
def r_term_room_named_7 : List AI := [O 43 (.fa 1 (.t 3)), O 44 (.ld 1 false (.t 43)), O 45 (.bin .eql (.t 44) (N 0)), O 46 (.mv (.t 45)), Og 47 46 true (.fa 2 (.t 3)), Og 48 46 true (.ld 1 false (.t 47)), Og 49 46 true (.len (.t 48)), Og 50 46 true (.bin .eql (.t 49) (N 1)), O 51 (.pick (.t 46) (.t 50) (B false)), O 4 (.mv (.t 51))]
def r_term_room_named_8 : List AI := [O 52 (.fa 1 (.t 3)), O 53 (.ld 1 false (.t 52)), O 54 (.bin .eql (.t 53) (N 0)), O 55 (.mv (.t 54)), Og 56 55 true (.fa 2 (.t 3)), Og 57 55 true (.ld 1 false (.t 56)), Og 58 55 true (.len (.t 57)), Og 59 55 true (.bin .eql (.t 58) (N 0)), O 60 (.pick (.t 55) (.t 59) (B false)), O 4 (.mv (.t 60))]
def c_term_room_named : FC := .seq (.reg r_term_room_named_0) (.seq (.seq (.reg r_term_room_named_1) (.block 0 (.seq (.reg r_term_room_named_2) (.cond (.t 7) (.seq (.reg r_term_room_named_3) (.ret)) (.seq (.reg r_term_room_named_4) (.cond (.t 25) (.seq (.reg r_term_room_named_5) (.ret)) (.seq (.reg r_term_room_named_6) (.cond (.t 41) (.seq (.reg r_term_room_named_7) (.ret)) (.skip))))))))) (.seq (.reg r_term_room_named_8) (.ret)))
theorem k_term_room_named : EntOk Try.prog term_room_named (.code c_term_room_named 61 [.t 4]) := ⟨by kernel_rfl, Try.f105, [], [], Try.func105, by kernel_rfl, by kernel_rfl, by kernel_rfl, Try.ntmps105⟩
/-! stereobate/tsub.all$1 -/
def r_tsub_all_1_0 : List AI := [O 2 (.bxF (.t 0))]
def r_tsub_all_1_1 : List AI := [O 6 (.ld 1 false (.t 2)), O 7 (.ld 4 true (.t 1)), C 8 (.t 6) [(.t 7)], O 9 (.not (.t 8))]
def r_tsub_all_1_2 : List AI := [O 10 (.fa 3 (.t 1)), O 11 (.ld 1 false (.t 10)), O 12 (.len (.t 11)), O 13 (.mv (N 0))]
def r_tsub_all_1_3 : List AI := [O 14 (.bin .lss (.t 13) (.t 12))]
def r_tsub_all_1_4 : List AI := [O 15 (.ia 4 (.t 11) (.t 13)), O 16 (.ld 4 true (.t 15)), O 4 (.alc [(.int .i64 0), (.int .i64 0), (.nils 3), (.nils 4)]), ⟨none, (.o (.st 4 (.t 4) (.t 16))), none, []⟩]
def r_tsub_all_1_5 : List AI := [O 17 (.ld 4 true (.t 4)), C 18 (.c (.fn (.func tsub_all) [] [])) [(.t 17)]]
def r_tsub_all_1_6 : List AI := [O 5 (.alc [(.int .i64 0), (.int .i64 0), (.nils 3), (.nils 4)]), ⟨none, (.o (.st 4 (.t 5) (.t 19))), none, []⟩]
def r_tsub_all_1_7 : List AI := [O 20 (.ld 1 false (.t 2)), O 21 (.ld 4 true (.t 5)), C 22 (.t 20) [(.t 21)], O 23 (.not (.t 22))]
def s_tsub_all_1_0 : FC := .reg r_tsub_all_1_6
def y_tsub_all_1_0 : FC := .block 3 (.seq (.reg r_tsub_all_1_7) (.cond (.t 23) (.ret) (.skip)))
def r_tsub_all_1_8 : List AI := [O 24 (.bin .add (.t 13) (N 1)), O 13 (.mv (.t 24))]
def l_tsub_all_1_0 : FC := .seq (.reg r_tsub_all_1_3) (.seq (.cond (.t 14) (.skip) (.exit 0)) (.seq (.block 1 (.seq (.reg r_tsub_all_1_4) (.seq (.reg r_tsub_all_1_5) (.block 2 (.rf (.t 18) [19] [2] s_tsub_all_1_0 y_tsub_all_1_0))))) (.reg r_tsub_all_1_8)))
def c_tsub_all_1 : FC := .seq (.reg r_tsub_all_1_0) (.seq (.seq (.reg r_tsub_all_1_1) (.cond (.t 9) (.ret) (.skip))) (.seq (.reg r_tsub_all_1_2) (.block 0 (.loop [2, 11, 12, 13] [] l_tsub_all_1_0))))
theorem k_tsub_all_1 : EntOk Try.prog tsub_all_1 (.code c_tsub_all_1 25 []) := ⟨by kernel_rfl, Try.f106, [], [5000002], Try.func106, by kernel_rfl, by kernel_rfl, by kernel_rfl, Try.ntmps106⟩
/-! stereobate/level.kinds -/
def r_level_kinds_0 : List AI := [O 0 (.mv (.c .nilm))]
def r_level_kinds_1 : List AI := [O 1 (.mkm), O 2 (.bld [(.int .i64 0), .nilf] [(0, 1, (N 0)), (1, 1, (.c (.fn (.func level_kinds_1) [] [])))]), ⟨none, (.o (.ins (.t 1) (N 1) (.t 2))), none, []⟩, O 3 (.bld [(.int .i64 0), .nilf] [(0, 1, (N 1)), (1, 1, (.c (.fn (.func level_kinds_2) [] [])))]), ⟨none, (.o (.ins (.t 1) (N 2) (.t 3))), none, []⟩, O 4 (.bld [(.int .i64 0), .nilf] [(0, 1, (N 2)), (1, 1, (.c (.fn (.func level_kinds_3) [] [])))]), ⟨none, (.o (.ins (.t 1) (N 3) (.t 4))), none, []⟩, O 5 (.bld [(.int .i64 0), .nilf] [(0, 1, (N 2)), (1, 1, (.c (.fn (.func level_kinds_4) [] [])))]), ⟨none, (.o (.ins (.t 1) (N 4) (.t 5))), none, []⟩, O 6 (.bld [(.int .i64 0), .nilf] [(0, 1, (N 0)), (1, 1, (.c (.fn (.func level_kinds_5) [] [])))]), ⟨none, (.o (.ins (.t 1) (N 5) (.t 6))), none, []⟩, O 7 (.bld [(.int .i64 0), .nilf] [(0, 1, (N 0)), (1, 1, (.c (.fn (.func level_kinds_6) [] [])))]), ⟨none, (.o (.ins (.t 1) (N 6) (.t 7))), none, []⟩, O 8 (.mv (.t 1)), O 0 (.mv (.t 8))]
def c_level_kinds : FC := .seq (.reg r_level_kinds_0) (.seq (.reg r_level_kinds_1) (.ret))
theorem k_level_kinds : EntOk Try.prog level_kinds (.code c_level_kinds 9 [.t 0]) := ⟨by kernel_rfl, Try.f107, [], [], Try.func107, by kernel_rfl, by kernel_rfl, by kernel_rfl, Try.ntmps107⟩
/-! stereobate/level.right$1 -/
def r_level_right_1_0 : List AI := [O 4 (.bx (.t 0)), O 5 (.mv (B false))]
def r_level_right_1_1 : List AI := [O 6 (.ld 3 true (.t 4)), O 7 (.ld 1 false (.t 1)), O 8 (.ld 1 false (.t 2)), O 9 (.ld 1 false (.t 3)), O 10 (.bin .sub (.t 9) (N 1)), C 11 (.c (.fn (.func level_right) [] [])) [(.t 6), (.t 7), (.t 8), (.t 10)], O 12 (.not (.t 11)), O 5 (.mv (.t 12))]
def c_level_right_1 : FC := .seq (.reg r_level_right_1_0) (.seq (.reg r_level_right_1_1) (.ret))
theorem k_level_right_1 : EntOk Try.prog level_right_1 (.code c_level_right_1 13 [.t 5]) := ⟨by kernel_rfl, Try.f108, [], [], Try.func108, by kernel_rfl, by kernel_rfl, by kernel_rfl, Try.ntmps108⟩
/-! stereobate/level.named -/
def r_level_named_0 : List AI := [O 3 (.bx (.t 0)), O 6 (.mv (B false))]
def r_level_named_1 : List AI := [O 7 (.fa 0 (.t 3)), O 8 (.ld 1 false (.t 7))]
def r_level_named_2 : List AI := [O 10 (.bin .eql (.t 8) (N 5)), O 9 (.mv (.t 10))]
def r_level_named_3 : List AI := [O 11 (.fa 1 (.t 3)), O 12 (.ld 1 false (.t 11)), O 13 (.bin .geq (.t 12) (N 0)), O 14 (.mv (.t 13)), Og 15 14 true (.fa 1 (.t 3)), Og 16 14 true (.ld 1 false (.t 15)), Og 17 14 true (.mv (.t 1)), Og 18 14 true (.bin .lss (.t 16) (.t 17)), O 19 (.pick (.t 14) (.t 18) (B false)), O 6 (.mv (.t 19))]
def r_level_named_4 : List AI := [O 21 (.bin .eql (.t 8) (N 6)), O 20 (.mv (.t 21))]
def r_level_named_5 : List AI := [O 22 (.fa 1 (.t 3)), O 23 (.ld 1 false (.t 22)), O 24 (.bin .geq (.t 23) (N 0)), O 25 (.mv (.t 24)), Og 26 25 true (.fa 1 (.t 3)), Og 27 25 true (.ld 1 false (.t 26)), Og 28 25 true (.mv (.t 2)), Og 29 25 true (.bin .lss (.t 27) (.t 28)), O 30 (.pick (.t 25) (.t 29) (B false)), O 6 (.mv (.t 30))]
def r_level_named_6 : List AI := [O 31 (.fa 1 (.t 3)), O 32 (.ld 1 false (.t 31)), O 33 (.bin .eql (.t 32) (N 0)), O 6 (.mv (.t 33))]
def c_level_named : FC := .seq (.reg r_level_named_0) (.seq (.seq (.reg r_level_named_1) (.block 0 (.seq (.reg r_level_named_2) (.cond (.t 9) (.seq (.reg r_level_named_3) (.ret)) (.seq (.reg r_level_named_4) (.cond (.t 20) (.seq (.reg r_level_named_5) (.ret)) (.skip))))))) (.seq (.reg r_level_named_6) (.ret)))
theorem k_level_named : EntOk Try.prog level_named (.code c_level_named 34 [.t 6]) := ⟨by kernel_rfl, Try.f109, [], [], Try.func109, by kernel_rfl, by kernel_rfl, by kernel_rfl, Try.ntmps109⟩
/-! stereobate/level.kinds$1 -/
def r_level_kinds_1_0 : List AI := [O 3 (.bx (.t 0)), O 4 (.bx (.t 1)), O 6 (.mv (N 0))]
def r_level_kinds_1_1 : List AI := [O 6 (.mv (N 0))]
def c_level_kinds_1 : FC := .seq (.reg r_level_kinds_1_0) (.seq (.reg r_level_kinds_1_1) (.ret))
theorem k_level_kinds_1 : EntOk Try.prog level_kinds_1 (.code c_level_kinds_1 7 [.t 6]) := ⟨by kernel_rfl, Try.f110, [], [], Try.func110, by kernel_rfl, by kernel_rfl, by kernel_rfl, Try.ntmps110⟩
/-! stereobate/level.kinds$2 -/
def r_level_kinds_2_0 : List AI := [O 3 (.bx (.t 0)), O 4 (.bx (.t 1)), O 6 (.mv (N 0))]
def r_level_kinds_2_1 : List AI := [O 7 (.mv (.t 2)), O 8 (.ia 1 (.t 7) (N 0)), O 9 (.ld 1 false (.t 8)), O 10 (.bin .add (.t 9) (N 1)), O 6 (.mv (.t 10))]
def c_level_kinds_2 : FC := .seq (.reg r_level_kinds_2_0) (.seq (.reg r_level_kinds_2_1) (.ret))
theorem k_level_kinds_2 : EntOk Try.prog level_kinds_2 (.code c_level_kinds_2 11 [.t 6]) := ⟨by kernel_rfl, Try.f111, [], [], Try.func111, by kernel_rfl, by kernel_rfl, by kernel_rfl, Try.ntmps111⟩
/-! stereobate/level.kinds$3 -/
def r_level_kinds_3_0 : List AI := [O 3 (.bx (.t 0)), O 4 (.bx (.t 1)), O 6 (.mv (N 0))]
def r_level_kinds_3_1 : List AI := [O 7 (.mv (.t 2)), ⟨some 8, (.o (.ia 1 (.t 7) (N 0))), none, [0]⟩, ⟨some 9, (.o (.ld 1 false (.t 8))), none, [1]⟩, O 10 (.mv (.t 2)), ⟨some 11, (.o (.ia 1 (.t 10) (N 1))), none, [3]⟩, ⟨some 12, (.o (.ld 1 false (.t 11))), none, [4]⟩, ⟨some 13, (.o (.mx (.t 9) (.t 12))), none, [2, 5]⟩, ⟨some 6, (.o (.mv (.t 13))), none, [6, 0, 1, 2, 3, 4, 5, 6]⟩]
def c_level_kinds_3 : FC := .seq (.reg r_level_kinds_3_0) (.seq (.dreg r_level_kinds_3_1) (.ret))
theorem k_level_kinds_3 : EntOk Try.prog level_kinds_3 (.code c_level_kinds_3 14 [.t 6]) := ⟨by kernel_rfl, Try.f112, [], [], Try.func112, by kernel_rfl, by kernel_rfl, by kernel_rfl, Try.ntmps112⟩
/-! stereobate/level.kinds$4 -/
def r_level_kinds_4_0 : List AI := [O 3 (.bx (.t 0)), O 4 (.bx (.t 1)), O 6 (.mv (N 0))]
def r_level_kinds_4_1 : List AI := [O 7 (.mv (.t 2)), ⟨some 8, (.o (.ia 1 (.t 7) (N 0))), none, [0]⟩, ⟨some 9, (.o (.ld 1 false (.t 8))), none, [1]⟩, O 10 (.mv (.t 2)), ⟨some 11, (.o (.ia 1 (.t 10) (N 1))), none, [3]⟩, ⟨some 12, (.o (.ld 1 false (.t 11))), none, [4]⟩, ⟨some 13, (.call (.c (.fn (.func level_imax) [] [])) [(.t 9), (.t 12)]), none, [2, 5]⟩, ⟨some 6, (.o (.mv (.t 13))), none, [6, 6, 0, 1, 2, 3, 4, 5, 6]⟩]
def c_level_kinds_4 : FC := .seq (.reg r_level_kinds_4_0) (.seq (.dreg r_level_kinds_4_1) (.ret))
theorem k_level_kinds_4 : EntOk Try.prog level_kinds_4 (.code c_level_kinds_4 14 [.t 6]) := ⟨by kernel_rfl, Try.f113, [], [], Try.func113, by kernel_rfl, by kernel_rfl, by kernel_rfl, Try.ntmps113⟩
/-! stereobate/level.imax -/
def r_level_imax_0 : List AI := [O 4 (.mv (N 0))]
def r_level_imax_1 : List AI := [O 5 (.mv (.t 1)), O 6 (.bin .eql (.t 5) (N 0))]
def r_level_imax_2 : List AI := [O 4 (.mv (N 0))]
def r_level_imax_3 : List AI := [O 7 (.mv (.t 0)), O 8 (.mv (.t 1)), O 9 (.mx (.t 7) (.t 8)), O 4 (.mv (.t 9))]
def c_level_imax : FC := .seq (.reg r_level_imax_0) (.seq (.seq (.reg r_level_imax_1) (.cond (.t 6) (.seq (.reg r_level_imax_2) (.ret)) (.skip))) (.seq (.reg r_level_imax_3) (.ret)))
theorem k_level_imax : EntOk Try.prog level_imax (.code c_level_imax 10 [.t 4]) := ⟨by kernel_rfl, Try.f114, [], [], Try.func114, by kernel_rfl, by kernel_rfl, by kernel_rfl, Try.ntmps114⟩
/-! stereobate/level.kinds$5 -/
def r_level_kinds_5_0 : List AI := [O 3 (.bx (.t 0)), O 4 (.bx (.t 1)), O 6 (.mv (N 0))]
def r_level_kinds_5_1 : List AI := [O 7 (.fa 0 (.t 4)), O 8 (.ld 1 false (.t 7)), O 9 (.fa 1 (.t 3)), O 10 (.ld 1 false (.t 9)), O 11 (.ia 1 (.t 8) (.t 10)), O 12 (.ld 1 false (.t 11)), O 6 (.mv (.t 12))]
def c_level_kinds_5 : FC := .seq (.reg r_level_kinds_5_0) (.seq (.reg r_level_kinds_5_1) (.ret))
theorem k_level_kinds_5 : EntOk Try.prog level_kinds_5 (.code c_level_kinds_5 13 [.t 6]) := ⟨by kernel_rfl, Try.f115, [], [], Try.func115, by kernel_rfl, by kernel_rfl, by kernel_rfl, Try.ntmps115⟩
/-! stereobate/level.kinds$6 -/
def r_level_kinds_6_0 : List AI := [O 3 (.bx (.t 0)), O 4 (.bx (.t 1)), O 6 (.mv (N 0))]
def r_level_kinds_6_1 : List AI := [O 7 (.fa 1 (.t 4)), O 8 (.ld 1 false (.t 7)), O 9 (.fa 1 (.t 3)), O 10 (.ld 1 false (.t 9)), O 11 (.ia 1 (.t 8) (.t 10)), O 12 (.ld 1 false (.t 11)), O 6 (.mv (.t 12))]
def c_level_kinds_6 : FC := .seq (.reg r_level_kinds_6_0) (.seq (.reg r_level_kinds_6_1) (.ret))
theorem k_level_kinds_6 : EntOk Try.prog level_kinds_6 (.code c_level_kinds_6 13 [.t 6]) := ⟨by kernel_rfl, Try.f116, [], [], Try.func116, by kernel_rfl, by kernel_rfl, by kernel_rfl, Try.ntmps116⟩
end Go.Ab
