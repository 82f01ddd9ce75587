/- The small code of functions, printed by Emit2.lean. Conditions: none. -/
import Derived.Test.YtgcegmmobpibbaaIds
set_option linter.unusedVariables false
set_option linter.defProp false
set_option maxRecDepth 100000
namespace Go.Ab
open Go.RowKit Go.Proofs
/-! stereobate/term.all -/
def r_term_all_0 : List AI := [O 0 (.alc [(.int .i64 0), (.int .i64 0), (.int .i64 0)])]
def r_term_all_1 : List AI := [O 1 (.bld [(.int .i64 0), (.int .i64 0), (.int .i64 0)] [(0, 1, (N 1000)), (1, 1, (N 5)), (2, 1, (N 10))]), ⟨none, (.o (.st 3 (.t 0) (.t 1))), none, []⟩]
def c_term_all : FC := .seq (.reg r_term_all_0) (.seq (.reg r_term_all_1) (.ret))
theorem k_term_all : EntOk Try.prog term_all (.code c_term_all 2 [.c 3 true 0]) := ⟨by kernel_rfl, Try.f74, [], [], Try.func74, by kernel_rfl, by kernel_rfl, by kernel_rfl, Try.ntmps74⟩
/-! stereobate/term.told -/
def r_term_told_0 : List AI := [O 1 (.bx (.t 0)), O 2 (.alc [(.int .i64 0), (.int .i64 0), (.nils 3), (.nils 4)]), O 3 (.mv (N 0))]
def r_term_told_1 : List AI := [C 4 (.c (.fn (.func term_all) [] [])) [], O 5 (.ld 4 true (.t 1)), ⟨some 6, (.call (.c (.fn (.func term_room_fits) [] [])) [(.t 4), (.t 5)]), none, [0, 1, 0]⟩, ⟨some 7, (.o (.not (.t 6))), none, [2]⟩]
def r_term_told_2 : List AI := [O 8 (.bld [(.int .i64 0), (.int .i64 0), (.nils 3), (.nils 4)] []), ⟨none, (.o (.st 4 (.t 2) (.t 8))), none, []⟩, O 3 (.mv (N 2))]
def r_term_told_3 : List AI := [O 9 (.ld 4 true (.t 1)), ⟨none, (.o (.st 4 (.t 2) (.t 9))), none, []⟩, O 3 (.mv (N 0))]
def c_term_told : FC := .seq (.reg r_term_told_0) (.seq (.seq (.dreg r_term_told_1) (.cond (.t 7) (.seq (.reg r_term_told_2) (.ret)) (.skip))) (.seq (.reg r_term_told_3) (.ret)))
theorem k_term_told : EntOk Try.prog term_told (.code c_term_told 10 [.c 4 true 2, .t 3]) := ⟨by kernel_rfl, Try.f75, [], [], Try.func75, by kernel_rfl, by kernel_rfl, by kernel_rfl, Try.ntmps75⟩
/-! stereobate/term.turn -/
def r_term_turn_0 : List AI := [O 3 (.bx (.t 0)), O 6 (.alcO [(.int .i64 0), (.int .i64 0), (.nils 3), (.nils 4)])]
def r_term_turn_1 : List AI := [O 10 (.fa 0 (.t 3)), O 11 (.ld 1 false (.t 10)), O 12 (.bin .eql (.t 11) (N 1))]
def r_term_turn_2 : List AI := [O 13 (.mv (.t 2)), O 14 (.fa 1 (.t 3)), O 15 (.ld 1 false (.t 14)), O 16 (.mv (.t 1)), C 17 (.t 13) [(.t 15), (.t 16)], ⟨none, (.o (.st 4 (.t 6) (.t 17))), none, []⟩]
def r_term_turn_3 : List AI := [O 18 (.fa 0 (.t 3)), O 19 (.ld 1 false (.t 18)), O 20 (.fa 1 (.t 3)), O 21 (.ld 1 false (.t 20)), O 22 (.fa 2 (.t 3)), O 23 (.ld 1 false (.t 22)), O 24 (.bldO [(.int .i64 0), (.int .i64 0), (.nils 3), (.nils 4)] [(0, 1, (.t 19)), (1, 1, (.t 21)), (2, 1, (.t 23))]), O 7 (.alcO [(.int .i64 0), (.int .i64 0), (.nils 3), (.nils 4)]), ⟨none, (.o (.st 4 (.t 7) (.t 24))), none, []⟩]
def r_term_turn_4 : List AI := [O 25 (.fa 3 (.t 3)), O 26 (.ld 1 false (.t 25)), O 27 (.len (.t 26)), O 28 (.mv (N 0))]
def r_term_turn_5 : List AI := [O 29 (.bin .lss (.t 28) (.t 27))]
def r_term_turn_6 : List AI := [O 30 (.mv (.t 28)), O 31 (.ia 4 (.t 26) (.t 28)), O 32 (.ld 4 true (.t 31)), O 9 (.alc [(.int .i64 0), (.int .i64 0), (.nils 3), (.nils 4)]), O 8 (.mv (.t 30)), ⟨none, (.o (.st 4 (.t 9) (.t 32))), none, []⟩]
def r_term_turn_7 : List AI := [O 33 (.fa 3 (.t 7)), ⟨some 34, (.o (.ld 1 false (.t 33))), none, [0]⟩, O 35 (.ld 4 true (.t 9)), O 36 (.mv (.t 1)), O 37 (.ld 4 true (.t 3)), O 38 (.mv (.t 8)), ⟨some 39, (.call (.c (.fn (.func term_below) [] [])) [(.t 37), (.t 38)]), none, [4, 5]⟩, ⟨some 40, (.o (.bin .add (.t 36) (.t 39))), none, [3, 6]⟩, O 41 (.mv (.t 2)), ⟨some 42, (.call (.c (.fn (.func term_turn) [] [])) [(.t 35), (.t 40), (.t 41)]), none, [2, 7, 8, 6]⟩, ⟨some 43, (.o (.bsl 4 1 [(.int .i64 0), (.int .i64 0), (.nils 3), (.nils 4)] [(0, (.t 42))])), none, [9]⟩, ⟨some 44, (.o (.app 4 (.t 34) (.t 43))), none, [1, 10, 9]⟩, ⟨some 45, (.o (.fa 3 (.t 7))), none, [0, 1, 2, 3, 4, 5, 6, 7, 8, 9, 10, 11]⟩, ⟨none, (.o (.st 1 (.t 45) (.t 44))), none, [12, 11, 11, 0, 1, 2, 3, 4, 5, 6, 7, 8, 9, 10, 11]⟩]
def r_term_turn_8 : List AI := [O 46 (.bin .add (.t 28) (N 1)), O 28 (.mv (.t 46))]
def l_term_turn_0 : FC := .seq (.reg r_term_turn_5) (.seq (.cond (.t 29) (.skip) (.exit 0)) (.seq (.block 1 (.seq (.reg r_term_turn_6) (.dreg r_term_turn_7))) (.reg r_term_turn_8)))
def r_term_turn_9 : List AI := [O 47 (.ld 4 true (.t 7)), ⟨none, (.o (.st 4 (.t 6) (.t 47))), none, []⟩]
def c_term_turn : FC := .seq (.reg r_term_turn_0) (.seq (.seq (.reg r_term_turn_1) (.cond (.t 12) (.seq (.reg r_term_turn_2) (.ret)) (.skip))) (.seq (.reg r_term_turn_3) (.seq (.seq (.reg r_term_turn_4) (.block 0 (.loop [1, 2, 3, 6, 7, 26, 27, 28] [3, 6, 7] l_term_turn_0))) (.seq (.reg r_term_turn_9) (.ret)))))
theorem k_term_turn : EntOk Try.prog term_turn (.code c_term_turn 48 [.c 4 true 6]) := ⟨by kernel_rfl, Try.f76, [], [6, 24, 7], Try.func76, by kernel_rfl, by kernel_rfl, by kernel_rfl, Try.ntmps76⟩
/-! stereobate/term.Open$1 -/
def r_term_Open_1_0 : List AI := [O 5 (.alc [(.int .i64 0), (.int .i64 0), (.nils 3), (.nils 4)])]
def r_term_Open_1_1 : List AI := [O 7 (.mv (.t 0)), O 8 (.mv (.t 1)), O 9 (.bin .eql (.t 7) (.t 8)), O 6 (.mv (.t 9))]
def r_term_Open_1_2 : List AI := [O 10 (.ld 4 true (.t 2)), O 11 (.mv (.t 1)), C 12 (.c (.fn (.func term_lift) [] [])) [(.t 10), (N 0), (.t 11)], ⟨none, (.o (.st 4 (.t 5) (.t 12))), none, []⟩]
def r_term_Open_1_3 : List AI := [O 14 (.mv (.t 0)), O 15 (.mv (.t 1)), O 16 (.bin .gtr (.t 14) (.t 15)), O 13 (.mv (.t 16))]
def r_term_Open_1_4 : List AI := [O 17 (.mv (.t 0)), O 18 (.bin .sub (.t 17) (N 1)), O 0 (.mv (.t 18))]
def r_term_Open_1_5 : List AI := [O 19 (.mv (.t 0)), C 20 (.c (.fn (.func term_variable) [] [])) [(.t 19)], ⟨none, (.o (.st 4 (.t 5) (.t 20))), none, []⟩]
def c_term_Open_1 : FC := .seq (.reg r_term_Open_1_0) (.seq (.block 0 (.seq (.reg r_term_Open_1_1) (.cond (.t 6) (.seq (.reg r_term_Open_1_2) (.ret)) (.seq (.reg r_term_Open_1_3) (.cond (.t 13) (.reg r_term_Open_1_4) (.skip)))))) (.seq (.reg r_term_Open_1_5) (.ret)))
theorem k_term_Open_1 : EntOk Try.prog term_Open_1 (.code c_term_Open_1 21 [.c 4 true 5]) := ⟨by kernel_rfl, Try.f77, [], [], Try.func77, by kernel_rfl, by kernel_rfl, by kernel_rfl, Try.ntmps77⟩
/-! stereobate/term.lift -/
def r_term_lift_0 : List AI := [O 3 (.bx (.t 0)), O 4 (.bxH (.t 1)), O 5 (.bxH (.t 2)), O 6 (.alc [(.int .i64 0), (.int .i64 0), (.nils 3), (.nils 4)])]
def r_term_lift_1 : List AI := [O 7 (.ld 4 true (.t 3)), O 8 (.mkf (.func term_lift_1) [] [(.t 4), (.t 5)]), C 9 (.c (.fn (.func term_turn) [] [])) [(.t 7), (N 0), (.t 8)], ⟨none, (.o (.st 4 (.t 6) (.t 9))), none, []⟩]
def c_term_lift : FC := .seq (.reg r_term_lift_0) (.seq (.reg r_term_lift_1) (.ret))
theorem k_term_lift : EntOk Try.prog term_lift (.code c_term_lift 10 [.c 4 true 6]) := ⟨by kernel_rfl, Try.f78, [4, 5], [], Try.func78, by kernel_rfl, by kernel_rfl, by kernel_rfl, Try.ntmps78⟩
/-! stereobate/term.variable -/
def r_term_variable_0 : List AI := [O 2 (.alc [(.int .i64 0), (.int .i64 0), (.nils 3), (.nils 4)])]
def r_term_variable_1 : List AI := [O 3 (.mv (.t 0)), O 4 (.bld [(.int .i64 0), (.int .i64 0), (.nils 3), (.nils 4)] [(0, 1, (N 1)), (1, 1, (.t 3))]), ⟨none, (.o (.st 4 (.t 2) (.t 4))), none, []⟩]
def c_term_variable : FC := .seq (.reg r_term_variable_0) (.seq (.reg r_term_variable_1) (.ret))
theorem k_term_variable : EntOk Try.prog term_variable (.code c_term_variable 5 [.c 4 true 2]) := ⟨by kernel_rfl, Try.f79, [], [], Try.func79, by kernel_rfl, by kernel_rfl, by kernel_rfl, Try.ntmps79⟩
/-! slices.Concat[[]stereobate/api.Level,stereobate/api.Level] -/
def r_slices_Concat_Level_0 : List AI := [O 2 (.mvO 3)]
def r_slices_Concat_Level_1 : List AI := [O 3 (.mv (N 0))]
def r_slices_Concat_Level_2 : List AI := [O 9 (.mv (.t 0)), O 10 (.len (.t 9)), O 11 (.mv (N 0))]
def r_slices_Concat_Level_3 : List AI := [O 12 (.bin .lss (.t 11) (.t 10))]
def r_slices_Concat_Level_4 : List AI := [O 13 (.ia 1 (.t 9) (.t 11)), O 14 (.ld 1 false (.t 13)), O 5 (.mv (.t 14))]
def r_slices_Concat_Level_5 : List AI := [O 15 (.mv (.t 3)), O 16 (.mv (.t 5)), O 17 (.len (.t 16)), O 18 (.bin .add (.t 15) (.t 17)), O 3 (.mv (.t 18))]
def r_slices_Concat_Level_6 : List AI := [O 19 (.mv (.t 3)), O 20 (.bin .lss (.t 19) (N 0))]
def r_slices_Concat_Level_7 : List AI := [O 21 (.ifc 9 (.c (.str ⟨#[108, 101, 110, 32, 111, 117, 116, 32, 111, 102, 32, 114, 97, 110, 103, 101]⟩))), ⟨none, (.pan (.t 21)), none, []⟩]
def r_slices_Concat_Level_8 : List AI := [O 22 (.bin .add (.t 11) (N 1)), O 11 (.mv (.t 22))]
def l_slices_Concat_Level_0 : FC := .seq (.reg r_slices_Concat_Level_3) (.seq (.cond (.t 12) (.skip) (.exit 0)) (.seq (.block 1 (.seq (.reg r_slices_Concat_Level_4) (.seq (.reg r_slices_Concat_Level_5) (.seq (.reg r_slices_Concat_Level_6) (.cond (.t 20) (.reg r_slices_Concat_Level_7) (.skip)))))) (.reg r_slices_Concat_Level_8)))
def r_slices_Concat_Level_9 : List AI := [O 23 (.mv (.t 3)), C 24 (.c (.fn (.func slices_Grow_Level) [] [])) [(.c .ze), (.t 23)], O 6 (.mv (.t 24))]
def r_slices_Concat_Level_10 : List AI := [O 25 (.mv (.t 0)), O 26 (.len (.t 25)), O 27 (.mv (N 0))]
def r_slices_Concat_Level_11 : List AI := [O 28 (.bin .lss (.t 27) (.t 26))]
def r_slices_Concat_Level_12 : List AI := [O 29 (.ia 1 (.t 25) (.t 27)), O 30 (.ld 1 false (.t 29)), O 8 (.mv (.t 30))]
def r_slices_Concat_Level_13 : List AI := [O 31 (.mv (.t 6)), O 32 (.mv (.t 8)), O 33 (.app 3 (.t 31) (.t 32)), O 6 (.mv (.t 33))]
def r_slices_Concat_Level_14 : List AI := [O 34 (.bin .add (.t 27) (N 1)), O 27 (.mv (.t 34))]
def l_slices_Concat_Level_1 : FC := .seq (.reg r_slices_Concat_Level_11) (.seq (.cond (.t 28) (.skip) (.exit 2)) (.seq (.block 3 (.seq (.reg r_slices_Concat_Level_12) (.reg r_slices_Concat_Level_13))) (.reg r_slices_Concat_Level_14)))
def r_slices_Concat_Level_15 : List AI := [O 35 (.mv (.t 6)), O 2 (.mv (.t 35))]
def c_slices_Concat_Level : FC := .seq (.reg r_slices_Concat_Level_0) (.seq (.reg r_slices_Concat_Level_1) (.seq (.seq (.reg r_slices_Concat_Level_2) (.block 0 (.loop [0, 3, 9, 10, 11] [] l_slices_Concat_Level_0))) (.seq (.reg r_slices_Concat_Level_9) (.seq (.seq (.reg r_slices_Concat_Level_10) (.block 2 (.loop [6, 25, 26, 27] [] l_slices_Concat_Level_1))) (.seq (.reg r_slices_Concat_Level_15) (.ret))))))
theorem k_slices_Concat_Level : EntOk Try.prog slices_Concat_Level (.code c_slices_Concat_Level 36 [.t 2]) := ⟨by kernel_rfl, Try.f80, [], [2, 6000024], Try.func80, by kernel_rfl, by kernel_rfl, by kernel_rfl, Try.ntmps80⟩
/-! stereobate/tsub.odd -/
def r_tsub_odd_0 : List AI := [O 1 (.bx (.t 0)), O 2 (.mv (B false))]
def r_tsub_odd_1 : List AI := [O 3 (.ld 3 true (.t 1)), C 4 (.c (.fn (.func level_Right) [] [])) [(.t 3), (N 5), (N 10)], O 5 (.not (.t 4)), O 2 (.mv (.t 5))]
def c_tsub_odd : FC := .seq (.reg r_tsub_odd_0) (.seq (.reg r_tsub_odd_1) (.ret))
theorem k_tsub_odd : EntOk Try.prog tsub_odd (.code c_tsub_odd 6 [.t 2]) := ⟨by kernel_rfl, Try.f81, [], [], Try.func81, by kernel_rfl, by kernel_rfl, by kernel_rfl, Try.ntmps81⟩
/-! (*stereobate/tsub.putter).term -/
def r_tsub_putter_term_0 : List AI := [O 3 (.bx (.t 1)), O 4 (.alcO [(.int .i64 0), (.int .i64 0), (.nils 3), (.nils 4)])]
def r_tsub_putter_term_1 : List AI := [O 12 (.fa 0 (.t 3)), O 13 (.ld 1 false (.t 12)), O 14 (.fa 1 (.t 3)), O 15 (.ld 1 false (.t 14)), O 16 (.bldO [(.int .i64 0), (.int .i64 0), (.nils 3), (.nils 4)] [(0, 1, (.t 13)), (1, 1, (.t 15))]), O 5 (.alcO [(.int .i64 0), (.int .i64 0), (.nils 3), (.nils 4)]), ⟨none, (.o (.st 4 (.t 5) (.t 16))), none, []⟩]
def r_tsub_putter_term_2 : List AI := [O 17 (.fa 2 (.t 3)), O 18 (.ld 1 false (.t 17)), O 19 (.len (.t 18)), O 20 (.mv (N 0))]
def r_tsub_putter_term_3 : List AI := [O 21 (.bin .lss (.t 20) (.t 19))]
def r_tsub_putter_term_4 : List AI := [O 22 (.ia 3 (.t 18) (.t 20)), O 23 (.ld 3 true (.t 22)), O 7 (.alc [(.int .i64 0), (.int .i64 0), (.nils 3)]), ⟨none, (.o (.st 3 (.t 7) (.t 23))), none, []⟩]
def r_tsub_putter_term_5 : List AI := [O 25 (.ld 3 true (.t 7)), O 26 (.mv (.t 0)), ⟨some 27, (.o (.nilc (.t 26))), none, [1]⟩, ⟨some 28, (.o (.fa 0 (.t 27))), none, [2]⟩, ⟨some 29, (.o (.ld 1 false (.t 28))), none, [3]⟩, O 30 (.mv (.t 0)), ⟨some 31, (.o (.nilc (.t 30))), none, [5]⟩, ⟨some 32, (.o (.fa 1 (.t 31))), none, [6]⟩, ⟨some 33, (.o (.ld 1 false (.t 32))), none, [7]⟩, ⟨some 34, (.call (.c (.fn (.func lsub_Sub) [] [])) [(.t 25), (.t 29), (.t 33)]), none, [0, 4, 8]⟩, ⟨some 24, (.o (.mv (.t 34))), none, [9]⟩, ⟨some 35, (.o (.ext (.t 24) 0)), none, [10]⟩, ⟨some 36, (.o (.ext (.t 24) 1)), none, [10]⟩, O 8 (.alc [(.int .i64 0), (.int .i64 0), (.nils 3)]), ⟨none, (.o (.st 3 (.t 8) (.t 35))), none, [13, 11, 9, 0, 1, 2, 3, 4, 5, 6, 7, 8, 9, 10, 11, 13]⟩, ⟨some 9, (.o (.mv (.t 36))), none, [12, 14, 0, 1, 2, 3, 4, 5, 6, 7, 8, 9, 10, 11, 12, 13, 14]⟩]
def r_tsub_putter_term_6 : List AI := [O 37 (.mv (.t 0)), O 38 (.mv (.t 0)), O 39 (.nilc (.t 38)), O 40 (.fa 2 (.t 39)), O 41 (.ld 1 false (.t 40)), O 42 (.mv (.t 9)), O 43 (.mx (.t 41) (.t 42)), O 44 (.nilc (.t 37)), O 45 (.fa 2 (.t 44)), ⟨none, (.o (.st 1 (.t 45) (.t 43))), none, []⟩]
def r_tsub_putter_term_7 : List AI := [O 46 (.fa 2 (.t 5)), O 47 (.ld 1 false (.t 46)), O 48 (.ld 3 true (.t 8)), O 49 (.bsl 3 1 [(.int .i64 0), (.int .i64 0), (.nils 3)] [(0, (.t 48))]), O 50 (.app 3 (.t 47) (.t 49)), O 51 (.fa 2 (.t 5)), ⟨none, (.o (.st 1 (.t 51) (.t 50))), none, []⟩]
def r_tsub_putter_term_8 : List AI := [O 52 (.bin .add (.t 20) (N 1)), O 20 (.mv (.t 52))]
def l_tsub_putter_term_0 : FC := .seq (.reg r_tsub_putter_term_3) (.seq (.cond (.t 21) (.skip) (.exit 0)) (.seq (.block 1 (.seq (.reg r_tsub_putter_term_4) (.seq (.dreg r_tsub_putter_term_5) (.seq (.reg r_tsub_putter_term_6) (.reg r_tsub_putter_term_7))))) (.reg r_tsub_putter_term_8)))
def r_tsub_putter_term_9 : List AI := [O 53 (.fa 3 (.t 3)), O 54 (.ld 1 false (.t 53)), O 55 (.len (.t 54)), O 56 (.mv (N 0))]
def r_tsub_putter_term_10 : List AI := [O 57 (.bin .lss (.t 56) (.t 55))]
def r_tsub_putter_term_11 : List AI := [O 58 (.ia 4 (.t 54) (.t 56)), O 59 (.ld 4 true (.t 58)), O 11 (.alc [(.int .i64 0), (.int .i64 0), (.nils 3), (.nils 4)]), ⟨none, (.o (.st 4 (.t 11) (.t 59))), none, []⟩]
def r_tsub_putter_term_12 : List AI := [O 60 (.fa 3 (.t 5)), ⟨some 61, (.o (.ldl 1 false (.t 60))), none, [0]⟩, O 62 (.mv (.t 0)), O 63 (.ldl 4 true (.t 11)), ⟨some 64, (.callW (.c (.fn (.func tsub_putter_term) [] [])) [(.t 62), (.t 63)]), none, [2, 3]⟩, ⟨some 65, (.o (.bsl 4 1 [(.int .i64 0), (.int .i64 0), (.nils 3), (.nils 4)] [(0, (.t 64))])), none, [4]⟩, ⟨some 66, (.o (.app 4 (.t 61) (.t 65))), none, [1, 5, 4]⟩, ⟨some 67, (.o (.fa 3 (.t 5))), none, [0, 1, 2, 3, 4, 5, 6]⟩, ⟨none, (.o (.st 1 (.t 67) (.t 66))), none, [7, 6, 6, 0, 1, 2, 3, 4, 5, 6]⟩]
def r_tsub_putter_term_13 : List AI := [O 68 (.bin .add (.t 56) (N 1)), O 56 (.mv (.t 68))]
def l_tsub_putter_term_1 : FC := .seq (.reg r_tsub_putter_term_10) (.seq (.cond (.t 57) (.skip) (.exit 2)) (.seq (.block 3 (.seq (.reg r_tsub_putter_term_11) (.dreg r_tsub_putter_term_12))) (.reg r_tsub_putter_term_13)))
def r_tsub_putter_term_14 : List AI := [O 69 (.ld 4 true (.t 5)), ⟨none, (.o (.st 4 (.t 4) (.t 69))), none, []⟩]
def c_tsub_putter_term : FC := .seq (.reg r_tsub_putter_term_0) (.seq (.reg r_tsub_putter_term_1) (.seq (.seq (.reg r_tsub_putter_term_2) (.block 0 (.loop [0, 3, 4, 5, 18, 19, 20] [3, 4, 5] l_tsub_putter_term_0))) (.seq (.seq (.reg r_tsub_putter_term_9) (.block 2 (.loop [0, 4, 5, 54, 55, 56] [4, 5] l_tsub_putter_term_1))) (.seq (.reg r_tsub_putter_term_14) (.ret)))))
theorem k_tsub_putter_term : EntOk Try.prog tsub_putter_term (.code c_tsub_putter_term 70 [.c 4 true 4]) := ⟨by kernel_rfl, Try.f82, [], [4, 16, 5, 2000064, 3000061, 3000063], Try.func82, by kernel_rfl, by kernel_rfl, by kernel_rfl, Try.ntmps82⟩
/-! stereobate/stereobateref02.Right -/
def r_ref02_Right_0 : List AI := [O 3 (.bx (.t 0)), O 6 (.mv (B false))]
def r_ref02_Right_1 : List AI := [O 7 (.mv (.t 1)), O 8 (.bin .geq (.t 7) (N 0)), O 9 (.mv (.t 8)), Og 10 9 true (.mv (.t 1)), Og 11 9 true (.bin .leq (.t 10) (N 5)), O 12 (.pick (.t 9) (.t 11) (B false)), O 13 (.mv (.t 12)), Og 14 13 true (.mv (.t 2)), Og 15 13 true (.bin .geq (.t 14) (N 0)), O 16 (.pick (.t 13) (.t 15) (B false)), O 17 (.mv (.t 16)), Og 18 17 true (.mv (.t 2)), Og 19 17 true (.bin .leq (.t 18) (N 10)), O 20 (.pick (.t 17) (.t 19) (B false)), O 21 (.mv (.t 20)), Og 22 21 true (.ld 3 true (.t 3)), ⟨some 23, (.call (.c (.fn (.func ref02_Nodes) [] [])) [(.t 22), (N 101)]), some (21, true), []⟩, Og 24 21 true (.bin .leq (.t 23) (N 100)), O 25 (.pick (.t 21) (.t 24) (B false)), O 26 (.mv (.t 25)), Og 27 26 true (.ld 3 true (.t 3)), Og 28 26 true (.mv (.t 1)), Og 29 26 true (.mv (.t 2)), ⟨some 30, (.call (.c (.fn (.func ref02_right) [] [])) [(.t 27), (.t 28), (.t 29), (N 12)]), some (26, true), []⟩, O 31 (.pick (.t 26) (.t 30) (B false)), O 6 (.mv (.t 31))]
def c_ref02_Right : FC := .seq (.reg r_ref02_Right_0) (.seq (.reg r_ref02_Right_1) (.ret))
theorem k_ref02_Right : EntOk Try.prog ref02_Right (.code c_ref02_Right 32 [.t 6]) := ⟨by kernel_rfl, Try.f83, [], [], Try.func83, by kernel_rfl, by kernel_rfl, by kernel_rfl, Try.ntmps83⟩
/-! stereobate/level.kinds$1 -/
def r_level_kinds_1_0 : List AI := [O 3 (.bx (.t 0)), O 4 (.bx (.t 1)), O 6 (.mv (N 0))]
def r_level_kinds_1_1 : List AI := [O 6 (.mv (N 0))]
def c_level_kinds_1 : FC := .seq (.reg r_level_kinds_1_0) (.seq (.reg r_level_kinds_1_1) (.ret))
theorem k_level_kinds_1 : EntOk Try.prog level_kinds_1 (.code c_level_kinds_1 7 [.t 6]) := ⟨by kernel_rfl, Try.f84, [], [], Try.func84, by kernel_rfl, by kernel_rfl, by kernel_rfl, Try.ntmps84⟩
/-! stereobate/level.kinds$2 -/
def r_level_kinds_2_0 : List AI := [O 3 (.bx (.t 0)), O 4 (.bx (.t 1)), O 6 (.mv (N 0))]
def r_level_kinds_2_1 : List AI := [O 7 (.mv (.t 2)), O 8 (.ia 1 (.t 7) (N 0)), O 9 (.ld 1 false (.t 8)), O 10 (.bin .add (.t 9) (N 1)), O 6 (.mv (.t 10))]
def c_level_kinds_2 : FC := .seq (.reg r_level_kinds_2_0) (.seq (.reg r_level_kinds_2_1) (.ret))
theorem k_level_kinds_2 : EntOk Try.prog level_kinds_2 (.code c_level_kinds_2 11 [.t 6]) := ⟨by kernel_rfl, Try.f85, [], [], Try.func85, by kernel_rfl, by kernel_rfl, by kernel_rfl, Try.ntmps85⟩
/-! stereobate/level.kinds$3 -/
def r_level_kinds_3_0 : List AI := [O 3 (.bx (.t 0)), O 4 (.bx (.t 1)), O 6 (.mv (N 0))]
def r_level_kinds_3_1 : List AI := [O 7 (.mv (.t 2)), ⟨some 8, (.o (.ia 1 (.t 7) (N 0))), none, [0]⟩, ⟨some 9, (.o (.ld 1 false (.t 8))), none, [1]⟩, O 10 (.mv (.t 2)), ⟨some 11, (.o (.ia 1 (.t 10) (N 1))), none, [3]⟩, ⟨some 12, (.o (.ld 1 false (.t 11))), none, [4]⟩, ⟨some 13, (.o (.mx (.t 9) (.t 12))), none, [2, 5]⟩, ⟨some 6, (.o (.mv (.t 13))), none, [6, 0, 1, 2, 3, 4, 5, 6]⟩]
def c_level_kinds_3 : FC := .seq (.reg r_level_kinds_3_0) (.seq (.dreg r_level_kinds_3_1) (.ret))
theorem k_level_kinds_3 : EntOk Try.prog level_kinds_3 (.code c_level_kinds_3 14 [.t 6]) := ⟨by kernel_rfl, Try.f86, [], [], Try.func86, by kernel_rfl, by kernel_rfl, by kernel_rfl, Try.ntmps86⟩
/-! stereobate/level.kinds$4 -/
def r_level_kinds_4_0 : List AI := [O 3 (.bx (.t 0)), O 4 (.bx (.t 1)), O 6 (.mv (N 0))]
def r_level_kinds_4_1 : List AI := [O 7 (.mv (.t 2)), ⟨some 8, (.o (.ia 1 (.t 7) (N 0))), none, [0]⟩, ⟨some 9, (.o (.ld 1 false (.t 8))), none, [1]⟩, O 10 (.mv (.t 2)), ⟨some 11, (.o (.ia 1 (.t 10) (N 1))), none, [3]⟩, ⟨some 12, (.o (.ld 1 false (.t 11))), none, [4]⟩, ⟨some 13, (.call (.c (.fn (.func level_imax) [] [])) [(.t 9), (.t 12)]), none, [2, 5]⟩, ⟨some 6, (.o (.mv (.t 13))), none, [6, 6, 0, 1, 2, 3, 4, 5, 6]⟩]
def c_level_kinds_4 : FC := .seq (.reg r_level_kinds_4_0) (.seq (.dreg r_level_kinds_4_1) (.ret))
theorem k_level_kinds_4 : EntOk Try.prog level_kinds_4 (.code c_level_kinds_4 14 [.t 6]) := ⟨by kernel_rfl, Try.f87, [], [], Try.func87, by kernel_rfl, by kernel_rfl, by kernel_rfl, Try.ntmps87⟩
/-! stereobate/level.imax -/
def r_level_imax_0 : List AI := [O 4 (.mv (N 0))]
def r_level_imax_1 : List AI := [O 5 (.mv (.t 1)), O 6 (.bin .eql (.t 5) (N 0))]
def r_level_imax_2 : List AI := [O 4 (.mv (N 0))]
def r_level_imax_3 : List AI := [O 7 (.mv (.t 0)), O 8 (.mv (.t 1)), O 9 (.mx (.t 7) (.t 8)), O 4 (.mv (.t 9))]
def c_level_imax : FC := .seq (.reg r_level_imax_0) (.seq (.seq (.reg r_level_imax_1) (.cond (.t 6) (.seq (.reg r_level_imax_2) (.ret)) (.skip))) (.seq (.reg r_level_imax_3) (.ret)))
theorem k_level_imax : EntOk Try.prog level_imax (.code c_level_imax 10 [.t 4]) := ⟨by kernel_rfl, Try.f88, [], [], Try.func88, by kernel_rfl, by kernel_rfl, by kernel_rfl, Try.ntmps88⟩
/-! stereobate/level.kinds$5 -/
def r_level_kinds_5_0 : List AI := [O 3 (.bx (.t 0)), O 4 (.bx (.t 1)), O 6 (.mv (N 0))]
def r_level_kinds_5_1 : List AI := [O 7 (.fa 0 (.t 4)), O 8 (.ld 1 false (.t 7)), O 9 (.fa 1 (.t 3)), O 10 (.ld 1 false (.t 9)), O 11 (.ia 1 (.t 8) (.t 10)), O 12 (.ld 1 false (.t 11)), O 6 (.mv (.t 12))]
def c_level_kinds_5 : FC := .seq (.reg r_level_kinds_5_0) (.seq (.reg r_level_kinds_5_1) (.ret))
theorem k_level_kinds_5 : EntOk Try.prog level_kinds_5 (.code c_level_kinds_5 13 [.t 6]) := ⟨by kernel_rfl, Try.f89, [], [], Try.func89, by kernel_rfl, by kernel_rfl, by kernel_rfl, Try.ntmps89⟩
/-! stereobate/level.kinds$6 -/
def r_level_kinds_6_0 : List AI := [O 3 (.bx (.t 0)), O 4 (.bx (.t 1)), O 6 (.mv (N 0))]
def r_level_kinds_6_1 : List AI := [O 7 (.fa 1 (.t 4)), O 8 (.ld 1 false (.t 7)), O 9 (.fa 1 (.t 3)), O 10 (.ld 1 false (.t 9)), O 11 (.ia 1 (.t 8) (.t 10)), O 12 (.ld 1 false (.t 11)), O 6 (.mv (.t 12))]
def c_level_kinds_6 : FC := .seq (.reg r_level_kinds_6_0) (.seq (.reg r_level_kinds_6_1) (.ret))
theorem k_level_kinds_6 : EntOk Try.prog level_kinds_6 (.code c_level_kinds_6 13 [.t 6]) := ⟨by kernel_rfl, Try.f90, [], [], Try.func90, by kernel_rfl, by kernel_rfl, by kernel_rfl, Try.ntmps90⟩
/-! slices.IndexFunc[[]stereobate/api.Level,stereobate/api.Level] -/
def r_slices_IndexFunc_Level_0 : List AI := [O 4 (.mv (N 0))]
def r_slices_IndexFunc_Level_1 : List AI := [O 6 (.mv (.t 0)), O 7 (.len (.t 6)), O 8 (.mv (N 0))]
def r_slices_IndexFunc_Level_2 : List AI := [O 9 (.bin .lss (.t 8) (.t 7))]
def r_slices_IndexFunc_Level_3 : List AI := [O 10 (.mv (.t 8)), O 5 (.mv (.t 10))]
def r_slices_IndexFunc_Level_4 : List AI := [O 11 (.mv (.t 1)), O 12 (.mv (.t 0)), O 13 (.mv (.t 5)), O 14 (.ia 3 (.t 12) (.t 13)), O 15 (.ld 3 true (.t 14)), C 16 (.t 11) [(.t 15)]]
def r_slices_IndexFunc_Level_5 : List AI := [O 17 (.mv (.t 5)), O 4 (.mv (.t 17))]
def r_slices_IndexFunc_Level_6 : List AI := [O 18 (.bin .add (.t 8) (N 1)), O 8 (.mv (.t 18))]
def l_slices_IndexFunc_Level_0 : FC := .seq (.reg r_slices_IndexFunc_Level_2) (.seq (.cond (.t 9) (.skip) (.exit 0)) (.seq (.block 1 (.seq (.reg r_slices_IndexFunc_Level_3) (.seq (.reg r_slices_IndexFunc_Level_4) (.cond (.t 16) (.seq (.reg r_slices_IndexFunc_Level_5) (.ret)) (.skip))))) (.reg r_slices_IndexFunc_Level_6)))
def r_slices_IndexFunc_Level_7 : List AI := [O 4 (.mv (N (-1)))]
def c_slices_IndexFunc_Level : FC := .seq (.reg r_slices_IndexFunc_Level_0) (.seq (.seq (.reg r_slices_IndexFunc_Level_1) (.block 0 (.loop [0, 1, 7, 8] [] l_slices_IndexFunc_Level_0))) (.seq (.reg r_slices_IndexFunc_Level_7) (.ret)))
theorem k_slices_IndexFunc_Level : EntOk Try.prog slices_IndexFunc_Level (.code c_slices_IndexFunc_Level 19 [.t 4]) := ⟨by kernel_rfl, Try.f91, [], [], Try.func91, by kernel_rfl, by kernel_rfl, by kernel_rfl, Try.ntmps91⟩
/-! stereobate/term.lift$1 -/
def r_term_lift_1_0 : List AI := [O 6 (.alc [(.int .i64 0), (.int .i64 0), (.nils 3), (.nils 4)])]
def r_term_lift_1_1 : List AI := [O 7 (.mv (.t 0)), O 8 (.ld 1 false (.t 2)), O 9 (.mv (.t 1)), O 10 (.bin .add (.t 8) (.t 9)), O 11 (.bin .geq (.t 7) (.t 10))]
def r_term_lift_1_2 : List AI := [O 12 (.mv (.t 0)), O 13 (.ld 1 false (.t 3)), O 14 (.bin .add (.t 12) (.t 13)), O 0 (.mv (.t 14))]
def r_term_lift_1_3 : List AI := [O 15 (.mv (.t 0)), C 16 (.c (.fn (.func term_variable) [] [])) [(.t 15)], ⟨none, (.o (.st 4 (.t 6) (.t 16))), none, []⟩]
def c_term_lift_1 : FC := .seq (.reg r_term_lift_1_0) (.seq (.seq (.reg r_term_lift_1_1) (.cond (.t 11) (.reg r_term_lift_1_2) (.skip))) (.seq (.reg r_term_lift_1_3) (.ret)))
theorem k_term_lift_1 : EntOk Try.prog term_lift_1 (.code c_term_lift_1 17 [.c 4 true 6]) := ⟨by kernel_rfl, Try.f92, [], [], Try.func92, by kernel_rfl, by kernel_rfl, by kernel_rfl, Try.ntmps92⟩
/-! slices.Grow[[]stereobate/api.Level,stereobate/api.Level] -/
def r_slices_Grow_Level_0 : List AI := [O 4 (.mv (.c (.sl [])))]
def r_slices_Grow_Level_1 : List AI := [O 5 (.mv (.t 1)), O 6 (.bin .lss (.t 5) (N 0))]
def r_slices_Grow_Level_2 : List AI := [O 7 (.ifc 9 (.c (.str ⟨#[99, 97, 110, 110, 111, 116, 32, 98, 101, 32, 110, 101, 103, 97, 116, 105, 118, 101]⟩))), ⟨none, (.pan (.t 7)), none, []⟩]
def r_slices_Grow_Level_3 : List AI := [O 8 (.mv (.t 1)), O 9 (.mv (.t 0)), O 10 (.cap (.t 9)), O 11 (.mv (.t 0)), O 12 (.len (.t 11)), O 13 (.bin .sub (.t 10) (.t 12)), O 14 (.bin .sub (.t 8) (.t 13)), O 1 (.mv (.t 14))]
def r_slices_Grow_Level_4 : List AI := [O 15 (.mv (.t 1)), O 16 (.bin .gtr (.t 15) (N 0))]
def r_slices_Grow_Level_5 : List AI := [O 17 (.mv (.t 0)), O 18 (.mv (.t 0)), O 19 (.cap (.t 18)), O 20 (.slc 3 (.t 17) none (some (.t 19))), O 21 (.mv (.t 1)), O 22 (.apz 3 [(.int .i64 0), (.int .i64 0), (.nils 3)] (.t 20) (.t 21)), O 23 (.mv (.t 0)), O 24 (.len (.t 23)), O 25 (.slc 3 (.t 22) none (some (.t 24))), O 0 (.mv (.t 25))]
def r_slices_Grow_Level_6 : List AI := [O 26 (.mv (.t 0)), O 4 (.mv (.t 26))]
def c_slices_Grow_Level : FC := .seq (.reg r_slices_Grow_Level_0) (.seq (.seq (.reg r_slices_Grow_Level_1) (.cond (.t 6) (.reg r_slices_Grow_Level_2) (.skip))) (.seq (.seq (.reg r_slices_Grow_Level_3) (.seq (.reg r_slices_Grow_Level_4) (.cond (.t 16) (.reg r_slices_Grow_Level_5) (.skip)))) (.seq (.reg r_slices_Grow_Level_6) (.ret))))
theorem k_slices_Grow_Level : EntOk Try.prog slices_Grow_Level (.code c_slices_Grow_Level 27 [.t 4] true) := ⟨by kernel_rfl, Try.f93, [], [], Try.func93, by kernel_rfl, by kernel_rfl, by kernel_rfl, Try.ntmps93⟩
/-! stereobate/lsub.Sub -/
def r_lsub_Sub_0 : List AI := [O 3 (.bx (.t 0)), O 4 (.bxH (.t 1)), O 5 (.bxH (.t 2)), O 6 (.alc [(.int .i64 0), (.int .i64 0), (.nils 3)]), O 7 (.mv (N 0))]
def r_lsub_Sub_1 : List AI := [O 9 (.ld 3 true (.t 3)), C 10 (.c (.fn (.func lsub_odd) [] [])) [(.t 9)], O 11 (.mv (.t 10)), Og 12 11 false (.ld 1 false (.t 4)), Og 13 11 false (.len (.t 12)), Og 14 11 false (.bin .gtr (.t 13) (N 5)), O 15 (.pick (.t 11) (B true) (.t 14)), O 16 (.mv (.t 15)), Og 17 16 false (.ld 1 false (.t 5)), Og 18 16 false (.len (.t 17)), Og 19 16 false (.bin .gtr (.t 18) (N 10)), O 20 (.pick (.t 16) (B true) (.t 19)), O 21 (.mv (.t 20)), Og 22 21 false (.ld 1 false (.t 4)), Og 23 21 false (.ld 1 false (.t 5)), Og 24 21 false (.bsl 1 2 [(.nils 3)] [(0, (.t 22)), (1, (.t 23))]), ⟨some 25, (.call (.c (.fn (.func slices_Concat_Level) [] [])) [(.t 24)]), some (21, false), []⟩, ⟨some 26, (.call (.c (.fn (.func slices_ContainsFunc_Level) [] [])) [(.t 25), (.c (.fn (.func lsub_odd) [] []))]), some (21, false), []⟩, O 27 (.pick (.t 21) (B true) (.t 26))]
def r_lsub_Sub_2 : List AI := [O 28 (.bld [(.int .i64 0), (.int .i64 0), (.nils 3)] []), ⟨none, (.o (.st 3 (.t 6) (.t 28))), none, []⟩, O 7 (.mv (N 1))]
def r_lsub_Sub_3 : List AI := [O 29 (.ld 3 true (.t 3)), O 30 (.mkf (.func lsub_Sub_1) [] [(.t 4), (.t 5)]), C 31 (.c (.fn (.func lsub_turn) [] [])) [(.t 29), (.t 30)], O 8 (.alc [(.int .i64 0), (.int .i64 0), (.nils 3)]), ⟨none, (.o (.st 3 (.t 8) (.t 31))), none, []⟩]
def r_lsub_Sub_4 : List AI := [O 32 (.ld 3 true (.t 8)), C 33 (.c (.fn (.func lsub_odd) [] [])) [(.t 32)]]
def r_lsub_Sub_5 : List AI := [O 34 (.bld [(.int .i64 0), (.int .i64 0), (.nils 3)] []), ⟨none, (.o (.st 3 (.t 6) (.t 34))), none, []⟩, O 7 (.mv (N 2))]
def r_lsub_Sub_6 : List AI := [O 35 (.ld 3 true (.t 8)), ⟨none, (.o (.st 3 (.t 6) (.t 35))), none, []⟩, O 7 (.mv (N 0))]
def c_lsub_Sub : FC := .seq (.reg r_lsub_Sub_0) (.seq (.seq (.reg r_lsub_Sub_1) (.cond (.t 27) (.seq (.reg r_lsub_Sub_2) (.ret)) (.skip))) (.seq (.reg r_lsub_Sub_3) (.seq (.seq (.reg r_lsub_Sub_4) (.cond (.t 33) (.seq (.reg r_lsub_Sub_5) (.ret)) (.skip))) (.seq (.reg r_lsub_Sub_6) (.ret)))))
theorem k_lsub_Sub : EntOk Try.prog lsub_Sub (.code c_lsub_Sub 36 [.c 3 true 6, .t 7]) := ⟨by kernel_rfl, Try.f94, [4, 5], [], Try.func94, by kernel_rfl, by kernel_rfl, by kernel_rfl, Try.ntmps94⟩
/-! stereobate/stereobateref02.Nodes -/
def r_ref02_Nodes_0 : List AI := [O 2 (.bx (.t 0)), O 4 (.mv (N 0))]
def r_ref02_Nodes_1 : List AI := [O 5 (.mv (N 1))]
def r_ref02_Nodes_2 : List AI := [O 6 (.mv (N 0))]
def r_ref02_Nodes_3 : List AI := [O 7 (.mv (.t 6)), O 8 (.fa 2 (.t 2)), O 9 (.ld 1 false (.t 8)), O 10 (.len (.t 9)), O 11 (.bin .lss (.t 7) (.t 10)), O 12 (.mv (.t 11)), Og 13 12 true (.mv (.t 5)), Og 14 12 true (.mv (.t 1)), Og 15 12 true (.bin .lss (.t 13) (.t 14)), O 16 (.pick (.t 12) (.t 15) (B false))]
def r_ref02_Nodes_4 : List AI := [O 19 (.mv (.t 5)), O 20 (.fa 2 (.t 2)), O 21 (.ld 1 false (.t 20)), O 22 (.mv (.t 6)), O 23 (.ia 3 (.t 21) (.t 22)), O 24 (.ld 3 true (.t 23)), O 25 (.mv (.t 1)), O 26 (.mv (.t 5)), O 27 (.bin .sub (.t 25) (.t 26)), C 28 (.c (.fn (.func ref02_Nodes) [] [])) [(.t 24), (.t 27)], O 29 (.bin .add (.t 19) (.t 28)), O 5 (.mv (.t 29))]
def r_ref02_Nodes_5 : List AI := [O 17 (.mv (.t 6)), O 18 (.bin .add (.t 17) (N 1)), O 6 (.mv (.t 18))]
def l_ref02_Nodes_0 : FC := .seq (.seq (.reg r_ref02_Nodes_3) (.cond (.t 16) (.skip) (.exit 0))) (.seq (.block 1 (.reg r_ref02_Nodes_4)) (.reg r_ref02_Nodes_5))
def r_ref02_Nodes_6 : List AI := [O 30 (.mv (.t 5)), O 4 (.mv (.t 30))]
def c_ref02_Nodes : FC := .seq (.reg r_ref02_Nodes_0) (.seq (.reg r_ref02_Nodes_1) (.seq (.seq (.reg r_ref02_Nodes_2) (.block 0 (.loop [1, 2, 5, 6] [2] l_ref02_Nodes_0))) (.seq (.reg r_ref02_Nodes_6) (.ret))))
theorem k_ref02_Nodes : EntOk Try.prog ref02_Nodes (.code c_ref02_Nodes 31 [.t 4]) := ⟨by kernel_rfl, Try.f95, [], [], Try.func95, by kernel_rfl, by kernel_rfl, by kernel_rfl, Try.ntmps95⟩
/-! stereobate/stereobateref02.right -/
def r_ref02_right_0 : List AI := [O 4 (.bx (.t 0)), O 8 (.mv (B false))]
def r_ref02_right_1 : List AI := [O 10 (.mv (.t 3)), ⟨some 11, (.o (.bin .lss (.t 10) (N 1))), none, [0]⟩, ⟨some 12, (.o (.mv (.t 11))), none, [1]⟩, ⟨some 13, (.o (.fa 2 (.t 4))), some (12, false), [2]⟩, ⟨some 14, (.o (.ld 1 false (.t 13))), some (12, false), [3, 2]⟩, ⟨some 15, (.o (.len (.t 14))), some (12, false), [4, 2]⟩, ⟨some 16, (.o (.fa 0 (.t 4))), some (12, false), [2]⟩, ⟨some 17, (.o (.ld 1 false (.t 16))), some (12, false), [6, 2]⟩, ⟨some 18, (.call (.c (.fn (.func ref02_kids) [] [])) [(.t 17)]), some (12, false), [7, 2, 2]⟩, ⟨some 19, (.o (.bin .neq (.t 15) (.t 18))), some (12, false), [5, 8, 2]⟩, ⟨some 20, (.o (.pick (.t 12) (B true) (.t 19))), none, [2, 9]⟩]
def r_ref02_right_2 : List AI := [O 8 (.mv (B false))]
def r_ref02_right_3 : List AI := [O 21 (.fa 0 (.t 4)), O 22 (.ld 1 false (.t 21))]
def r_ref02_right_4 : List AI := [O 24 (.bin .eql (.t 22) (N 5)), O 23 (.mv (.t 24))]
def r_ref02_right_5 : List AI := [O 25 (.fa 1 (.t 4)), O 26 (.ld 1 false (.t 25)), O 27 (.bin .geq (.t 26) (N 0)), O 28 (.mv (.t 27)), Og 29 28 true (.fa 1 (.t 4)), Og 30 28 true (.ld 1 false (.t 29)), Og 31 28 true (.mv (.t 1)), Og 32 28 true (.bin .lss (.t 30) (.t 31)), O 33 (.pick (.t 28) (.t 32) (B false)), O 8 (.mv (.t 33))]
def r_ref02_right_6 : List AI := [O 35 (.bin .eql (.t 22) (N 6)), O 34 (.mv (.t 35))]
def r_ref02_right_7 : List AI := [O 36 (.fa 1 (.t 4)), O 37 (.ld 1 false (.t 36)), O 38 (.bin .geq (.t 37) (N 0)), O 39 (.mv (.t 38)), Og 40 39 true (.fa 1 (.t 4)), Og 41 39 true (.ld 1 false (.t 40)), Og 42 39 true (.mv (.t 2)), Og 43 39 true (.bin .lss (.t 41) (.t 42)), O 44 (.pick (.t 39) (.t 43) (B false)), O 8 (.mv (.t 44))]
def r_ref02_right_8 : List AI := [O 9 (.mv (N 0))]
def r_ref02_right_9 : List AI := [O 45 (.mv (.t 9)), O 46 (.fa 2 (.t 4)), O 47 (.ld 1 false (.t 46)), O 48 (.len (.t 47)), O 49 (.bin .lss (.t 45) (.t 48))]
def r_ref02_right_10 : List AI := [O 52 (.fa 2 (.t 4)), O 53 (.ld 1 false (.t 52)), O 54 (.mv (.t 9)), O 55 (.ia 3 (.t 53) (.t 54)), O 56 (.ld 3 true (.t 55)), O 57 (.mv (.t 1)), O 58 (.mv (.t 2)), O 59 (.mv (.t 3)), O 60 (.bin .sub (.t 59) (N 1)), C 61 (.c (.fn (.func ref02_right) [] [])) [(.t 56), (.t 57), (.t 58), (.t 60)], O 62 (.not (.t 61))]
def r_ref02_right_11 : List AI := [O 8 (.mv (B false))]
def r_ref02_right_12 : List AI := [O 50 (.mv (.t 9)), O 51 (.bin .add (.t 50) (N 1)), O 9 (.mv (.t 51))]
def l_ref02_right_0 : FC := .seq (.seq (.reg r_ref02_right_9) (.cond (.t 49) (.skip) (.exit 1))) (.seq (.block 2 (.seq (.reg r_ref02_right_10) (.cond (.t 62) (.seq (.reg r_ref02_right_11) (.ret)) (.skip)))) (.reg r_ref02_right_12))
def r_ref02_right_13 : List AI := [O 63 (.fa 1 (.t 4)), O 64 (.ld 1 false (.t 63)), O 65 (.bin .eql (.t 64) (N 0)), O 8 (.mv (.t 65))]
def c_ref02_right : FC := .seq (.reg r_ref02_right_0) (.seq (.seq (.dreg r_ref02_right_1) (.cond (.t 20) (.seq (.reg r_ref02_right_2) (.ret)) (.skip))) (.seq (.seq (.reg r_ref02_right_3) (.block 0 (.seq (.reg r_ref02_right_4) (.cond (.t 23) (.seq (.reg r_ref02_right_5) (.ret)) (.seq (.reg r_ref02_right_6) (.cond (.t 34) (.seq (.reg r_ref02_right_7) (.ret)) (.skip))))))) (.seq (.seq (.reg r_ref02_right_8) (.block 1 (.loop [1, 2, 3, 4, 9] [4] l_ref02_right_0))) (.seq (.reg r_ref02_right_13) (.ret)))))
theorem k_ref02_right : EntOk Try.prog ref02_right (.code c_ref02_right 66 [.t 8]) := ⟨by kernel_rfl, Try.f96, [], [], Try.func96, by kernel_rfl, by kernel_rfl, by kernel_rfl, Try.ntmps96⟩
/-! stereobate/lsub.odd -/
def r_lsub_odd_0 : List AI := [O 1 (.bx (.t 0)), O 2 (.mv (B false))]
def r_lsub_odd_1 : List AI := [O 3 (.ld 3 true (.t 1)), C 4 (.c (.fn (.func level_Right) [] [])) [(.t 3), (N 5), (N 10)], O 5 (.not (.t 4)), O 2 (.mv (.t 5))]
def c_lsub_odd : FC := .seq (.reg r_lsub_odd_0) (.seq (.reg r_lsub_odd_1) (.ret))
theorem k_lsub_odd : EntOk Try.prog lsub_odd (.code c_lsub_odd 6 [.t 2]) := ⟨by kernel_rfl, Try.f97, [], [], Try.func97, by kernel_rfl, by kernel_rfl, by kernel_rfl, Try.ntmps97⟩
/-! stereobate/lsub.turn -/
def r_lsub_turn_0 : List AI := [O 2 (.bx (.t 0)), O 4 (.alcO [(.int .i64 0), (.int .i64 0), (.nils 3)])]
def r_lsub_turn_1 : List AI := [O 11 (.mv (.t 1)), O 12 (.ld 3 true (.t 2)), C 13 (.t 11) [(.t 12)], O 10 (.mv (.t 13)), O 14 (.ext (.t 10) 0), O 15 (.ext (.t 10) 1), O 5 (.alcO [(.int .i64 0), (.int .i64 0), (.nils 3)]), ⟨none, (.o (.st 3 (.t 5) (.t 14))), none, []⟩, O 6 (.mv (.t 15))]
def r_lsub_turn_2 : List AI := [O 16 (.mv (.t 6))]
def r_lsub_turn_3 : List AI := [O 17 (.ld 3 true (.t 5)), ⟨none, (.o (.st 3 (.t 4) (.t 17))), none, []⟩]
def r_lsub_turn_4 : List AI := [O 18 (.fa 0 (.t 2)), O 19 (.ld 1 false (.t 18)), O 20 (.fa 1 (.t 2)), O 21 (.ld 1 false (.t 20)), O 22 (.bldO [(.int .i64 0), (.int .i64 0), (.nils 3)] [(0, 1, (.t 19)), (1, 1, (.t 21))]), O 7 (.alcO [(.int .i64 0), (.int .i64 0), (.nils 3)]), ⟨none, (.o (.st 3 (.t 7) (.t 22))), none, []⟩]
def r_lsub_turn_5 : List AI := [O 23 (.fa 2 (.t 2)), O 24 (.ld 1 false (.t 23)), O 25 (.len (.t 24)), O 26 (.mv (N 0))]
def r_lsub_turn_6 : List AI := [O 27 (.bin .lss (.t 26) (.t 25))]
def r_lsub_turn_7 : List AI := [O 28 (.ia 3 (.t 24) (.t 26)), O 29 (.ld 3 true (.t 28)), O 9 (.alc [(.int .i64 0), (.int .i64 0), (.nils 3)]), ⟨none, (.o (.st 3 (.t 9) (.t 29))), none, []⟩]
def r_lsub_turn_8 : List AI := [O 30 (.fa 2 (.t 7)), ⟨some 31, (.o (.ld 1 false (.t 30))), none, [0]⟩, O 32 (.ld 3 true (.t 9)), O 33 (.mv (.t 1)), ⟨some 34, (.call (.c (.fn (.func lsub_turn) [] [])) [(.t 32), (.t 33)]), none, [2, 3]⟩, ⟨some 35, (.o (.bsl 3 1 [(.int .i64 0), (.int .i64 0), (.nils 3)] [(0, (.t 34))])), none, [4]⟩, ⟨some 36, (.o (.app 3 (.t 31) (.t 35))), none, [1, 5, 4]⟩, ⟨some 37, (.o (.fa 2 (.t 7))), none, [0, 1, 2, 3, 4, 5, 6]⟩, ⟨none, (.o (.st 1 (.t 37) (.t 36))), none, [7, 6, 6, 0, 1, 2, 3, 4, 5, 6]⟩]
def r_lsub_turn_9 : List AI := [O 38 (.bin .add (.t 26) (N 1)), O 26 (.mv (.t 38))]
def l_lsub_turn_0 : FC := .seq (.reg r_lsub_turn_6) (.seq (.cond (.t 27) (.skip) (.exit 0)) (.seq (.block 1 (.seq (.reg r_lsub_turn_7) (.dreg r_lsub_turn_8))) (.reg r_lsub_turn_9)))
def r_lsub_turn_10 : List AI := [O 39 (.ld 3 true (.t 7)), ⟨none, (.o (.st 3 (.t 4) (.t 39))), none, []⟩]
def c_lsub_turn : FC := .seq (.reg r_lsub_turn_0) (.seq (.seq (.reg r_lsub_turn_1) (.seq (.reg r_lsub_turn_2) (.cond (.t 16) (.seq (.reg r_lsub_turn_3) (.ret)) (.skip)))) (.seq (.reg r_lsub_turn_4) (.seq (.seq (.reg r_lsub_turn_5) (.block 0 (.loop [1, 4, 7, 24, 25, 26] [4, 7] l_lsub_turn_0))) (.seq (.reg r_lsub_turn_10) (.ret)))))
theorem k_lsub_turn : EntOk Try.prog lsub_turn (.code c_lsub_turn 40 [.c 3 true 4]) := ⟨by kernel_rfl, Try.f98, [], [4, 5, 22, 7], Try.func98, by kernel_rfl, by kernel_rfl, by kernel_rfl, Try.ntmps98⟩
/-! stereobate/lsub.Sub$1 -/
def r_lsub_Sub_1_0 : List AI := [O 3 (.bx (.t 0)), O 4 (.alc [(.int .i64 0), (.int .i64 0), (.nils 3)]), O 5 (.mv (B false))]
def r_lsub_Sub_1_1 : List AI := [O 7 (.fa 0 (.t 3)), O 8 (.ld 1 false (.t 7)), O 9 (.bin .eql (.t 8) (N 5)), O 10 (.mv (.t 9)), Og 11 10 true (.fa 1 (.t 3)), Og 12 10 true (.ld 1 false (.t 11)), Og 13 10 true (.ld 1 false (.t 1)), Og 14 10 true (.len (.t 13)), Og 15 10 true (.bin .lss (.t 12) (.t 14)), O 16 (.pick (.t 10) (.t 15) (B false)), O 6 (.mv (.t 16))]
def r_lsub_Sub_1_2 : List AI := [O 17 (.ld 1 false (.t 1)), O 18 (.fa 1 (.t 3)), O 19 (.ld 1 false (.t 18)), O 20 (.ia 3 (.t 17) (.t 19)), O 21 (.ld 3 true (.t 20)), ⟨none, (.o (.st 3 (.t 4) (.t 21))), none, []⟩, O 5 (.mv (B true))]
def r_lsub_Sub_1_3 : List AI := [O 23 (.fa 0 (.t 3)), O 24 (.ld 1 false (.t 23)), O 25 (.bin .eql (.t 24) (N 6)), O 26 (.mv (.t 25)), Og 27 26 true (.fa 1 (.t 3)), Og 28 26 true (.ld 1 false (.t 27)), Og 29 26 true (.ld 1 false (.t 2)), Og 30 26 true (.len (.t 29)), Og 31 26 true (.bin .lss (.t 28) (.t 30)), O 32 (.pick (.t 26) (.t 31) (B false)), O 22 (.mv (.t 32))]
def r_lsub_Sub_1_4 : List AI := [O 33 (.ld 1 false (.t 2)), O 34 (.fa 1 (.t 3)), O 35 (.ld 1 false (.t 34)), O 36 (.ia 3 (.t 33) (.t 35)), O 37 (.ld 3 true (.t 36)), ⟨none, (.o (.st 3 (.t 4) (.t 37))), none, []⟩, O 5 (.mv (B true))]
def r_lsub_Sub_1_5 : List AI := [O 38 (.ld 3 true (.t 3)), ⟨none, (.o (.st 3 (.t 4) (.t 38))), none, []⟩, O 5 (.mv (B false))]
def c_lsub_Sub_1 : FC := .seq (.reg r_lsub_Sub_1_0) (.seq (.block 0 (.seq (.reg r_lsub_Sub_1_1) (.cond (.t 6) (.seq (.reg r_lsub_Sub_1_2) (.ret)) (.seq (.reg r_lsub_Sub_1_3) (.cond (.t 22) (.seq (.reg r_lsub_Sub_1_4) (.ret)) (.skip)))))) (.seq (.reg r_lsub_Sub_1_5) (.ret)))
theorem k_lsub_Sub_1 : EntOk Try.prog lsub_Sub_1 (.code c_lsub_Sub_1 39 [.c 3 true 4, .t 5]) := ⟨by kernel_rfl, Try.f99, [], [], Try.func99, by kernel_rfl, by kernel_rfl, by kernel_rfl, Try.ntmps99⟩
/-! stereobate/stereobateref02.kids -/
def r_ref02_kids_0 : List AI := [O 2 (.mv (N 0))]
def r_ref02_kids_1 : List AI := [O 3 (.mv (.t 0))]
def r_ref02_kids_2 : List AI := [O 5 (.bin .eql (.t 3) (N 1)), O 4 (.mv (.t 5))]
def r_ref02_kids_3 : List AI := [O 6 (.bin .eql (.t 3) (N 5)), O 4 (.mv (.t 6))]
def r_ref02_kids_4 : List AI := [O 7 (.bin .eql (.t 3) (N 6)), O 4 (.mv (.t 7))]
def r_ref02_kids_5 : List AI := [O 2 (.mv (N 0))]
def r_ref02_kids_6 : List AI := [O 9 (.bin .eql (.t 3) (N 2)), O 8 (.mv (.t 9))]
def r_ref02_kids_7 : List AI := [O 2 (.mv (N 1))]
def r_ref02_kids_8 : List AI := [O 11 (.bin .eql (.t 3) (N 3)), O 10 (.mv (.t 11))]
def r_ref02_kids_9 : List AI := [O 12 (.bin .eql (.t 3) (N 4)), O 10 (.mv (.t 12))]
def r_ref02_kids_10 : List AI := [O 2 (.mv (N 2))]
def r_ref02_kids_11 : List AI := [O 2 (.mv (N (-1)))]
def c_ref02_kids : FC := .seq (.reg r_ref02_kids_0) (.seq (.seq (.reg r_ref02_kids_1) (.block 0 (.seq (.seq (.reg r_ref02_kids_2) (.cond (.t 4) (.skip) (.seq (.reg r_ref02_kids_3) (.cond (.t 4) (.skip) (.reg r_ref02_kids_4))))) (.cond (.t 4) (.seq (.reg r_ref02_kids_5) (.ret)) (.seq (.reg r_ref02_kids_6) (.cond (.t 8) (.seq (.reg r_ref02_kids_7) (.ret)) (.seq (.seq (.reg r_ref02_kids_8) (.cond (.t 10) (.skip) (.reg r_ref02_kids_9))) (.cond (.t 10) (.seq (.reg r_ref02_kids_10) (.ret)) (.skip))))))))) (.seq (.reg r_ref02_kids_11) (.ret)))
theorem k_ref02_kids : EntOk Try.prog ref02_kids (.code c_ref02_kids 13 [.t 2]) := ⟨by kernel_rfl, Try.f100, [], [], Try.func100, by kernel_rfl, by kernel_rfl, by kernel_rfl, Try.ntmps100⟩
end Go.Ab
