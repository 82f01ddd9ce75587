/- The small code of functions, printed by Emit2.lean. Conditions: none. -/
import Derived.Test.YtgcegmmobpibbaaGreatIds
set_option linter.unusedVariables false
set_option linter.defProp false
set_option maxRecDepth 100000
namespace Go.Ab
open Go.RowKit Go.Proofs
/-! stereobate/stereobateref15.sub -/
def r_ref15_sub_0 : List AI := [O 3 (.bx (.t 0)), O 6 (.alcO [(.int .i64 0), (.int .i64 0), (.nils 3), (.nils 4)]), O 7 (.mv (B false))]
def r_ref15_sub_1 : List AI := [O 15 (.fa 0 (.t 3)), O 16 (.ld 1 false (.t 15)), O 17 (.fa 1 (.t 3)), O 18 (.ld 1 false (.t 17)), O 19 (.bldO [(.int .i64 0), (.int .i64 0), (.nils 3), (.nils 4)] [(0, 1, (.t 16)), (1, 1, (.t 18))]), O 8 (.alcO [(.int .i64 0), (.int .i64 0), (.nils 3), (.nils 4)]), ⟨none, (.o (.st 4 (.t 8) (.t 19))), none, []⟩]
def r_ref15_sub_2 : List AI := [O 9 (.mv (N 0))]
def r_ref15_sub_3 : List AI := [O 20 (.mv (.t 9)), O 21 (.fa 2 (.t 3)), O 22 (.ld 1 false (.t 21)), O 23 (.len (.t 22)), O 24 (.bin .lss (.t 20) (.t 23))]
def r_ref15_sub_4 : List AI := [O 28 (.fa 2 (.t 3)), O 29 (.ld 1 false (.t 28)), O 30 (.mv (.t 9)), O 31 (.ia 3 (.t 29) (.t 30)), O 32 (.ld 3 true (.t 31)), O 33 (.mv (.t 1)), O 34 (.mv (.t 2)), C 35 (.c (.fn (.func ref05_Sub) [] [])) [(.t 32), (.t 33), (.t 34)], O 27 (.mv (.t 35)), O 36 (.ext (.t 27) 0), O 37 (.ext (.t 27) 1), O 10 (.alc [(.int .i64 0), (.int .i64 0), (.nils 3)]), ⟨none, (.o (.st 3 (.t 10) (.t 36))), none, []⟩, O 11 (.mv (.t 37))]
def r_ref15_sub_5 : List AI := [O 38 (.mv (.t 11)), O 39 (.bin .neq (.t 38) (N 0))]
def r_ref15_sub_6 : List AI := [O 40 (.bldO [(.int .i64 0), (.int .i64 0), (.nils 3), (.nils 4)] []), ⟨none, (.o (.st 4 (.t 6) (.t 40))), none, []⟩, O 7 (.mv (B false))]
def r_ref15_sub_7 : List AI := [O 41 (.fa 2 (.t 8)), O 42 (.ld 1 false (.t 41)), O 43 (.ld 3 true (.t 10)), O 44 (.bsl 3 1 [(.int .i64 0), (.int .i64 0), (.nils 3)] [(0, (.t 43))]), O 45 (.app 3 (.t 42) (.t 44)), O 46 (.fa 2 (.t 8)), ⟨none, (.o (.st 1 (.t 46) (.t 45))), none, []⟩]
def r_ref15_sub_8 : List AI := [O 25 (.mv (.t 9)), O 26 (.bin .add (.t 25) (N 1)), O 9 (.mv (.t 26))]
def l_ref15_sub_0 : FC := .seq (.seq (.reg r_ref15_sub_3) (.cond (.t 24) (.skip) (.exit 0))) (.seq (.block 1 (.seq (.reg r_ref15_sub_4) (.seq (.seq (.reg r_ref15_sub_5) (.cond (.t 39) (.seq (.reg r_ref15_sub_6) (.ret)) (.skip))) (.reg r_ref15_sub_7)))) (.reg r_ref15_sub_8))
def r_ref15_sub_9 : List AI := [O 12 (.mv (N 0))]
def r_ref15_sub_10 : List AI := [O 47 (.mv (.t 12)), O 48 (.fa 3 (.t 3)), O 49 (.ld 1 false (.t 48)), O 50 (.len (.t 49)), O 51 (.bin .lss (.t 47) (.t 50))]
def r_ref15_sub_11 : List AI := [O 55 (.fa 3 (.t 3)), O 56 (.ld 1 false (.t 55)), O 57 (.mv (.t 12)), O 58 (.ia 4 (.t 56) (.t 57)), O 59 (.ld 4 true (.t 58)), O 60 (.mv (.t 1)), O 61 (.mv (.t 2)), C 62 (.c (.fn (.func ref15_sub) [] [])) [(.t 59), (.t 60), (.t 61)], O 54 (.mv (.t 62)), O 63 (.ext (.t 54) 0), O 64 (.ext (.t 54) 1), O 13 (.alc [(.int .i64 0), (.int .i64 0), (.nils 3), (.nils 4)]), ⟨none, (.o (.st 4 (.t 13) (.t 63))), none, []⟩, O 14 (.mv (.t 64))]
def r_ref15_sub_12 : List AI := [O 65 (.mv (.t 14)), O 66 (.not (.t 65))]
def r_ref15_sub_13 : List AI := [O 67 (.bldO [(.int .i64 0), (.int .i64 0), (.nils 3), (.nils 4)] []), ⟨none, (.o (.st 4 (.t 6) (.t 67))), none, []⟩, O 7 (.mv (B false))]
def r_ref15_sub_14 : List AI := [O 68 (.fa 3 (.t 8)), O 69 (.ld 1 false (.t 68)), O 70 (.ld 4 true (.t 13)), O 71 (.bsl 4 1 [(.int .i64 0), (.int .i64 0), (.nils 3), (.nils 4)] [(0, (.t 70))]), O 72 (.app 4 (.t 69) (.t 71)), O 73 (.fa 3 (.t 8)), ⟨none, (.o (.st 1 (.t 73) (.t 72))), none, []⟩]
def r_ref15_sub_15 : List AI := [O 52 (.mv (.t 12)), O 53 (.bin .add (.t 52) (N 1)), O 12 (.mv (.t 53))]
def l_ref15_sub_1 : FC := .seq (.seq (.reg r_ref15_sub_10) (.cond (.t 51) (.skip) (.exit 2))) (.seq (.block 3 (.seq (.reg r_ref15_sub_11) (.seq (.seq (.reg r_ref15_sub_12) (.cond (.t 66) (.seq (.reg r_ref15_sub_13) (.ret)) (.skip))) (.reg r_ref15_sub_14)))) (.reg r_ref15_sub_15))
def r_ref15_sub_16 : List AI := [O 74 (.ld 4 true (.t 8)), ⟨none, (.o (.st 4 (.t 6) (.t 74))), none, []⟩, O 7 (.mv (B true))]
def c_ref15_sub : FC := .seq (.reg r_ref15_sub_0) (.seq (.reg r_ref15_sub_1) (.seq (.seq (.reg r_ref15_sub_2) (.block 0 (.loop [1, 2, 3, 6, 8, 9] [3, 6, 8] l_ref15_sub_0))) (.seq (.seq (.reg r_ref15_sub_9) (.block 2 (.loop [1, 2, 3, 6, 8, 12] [3, 6, 8] l_ref15_sub_1))) (.seq (.reg r_ref15_sub_16) (.ret)))))
theorem k_ref15_sub : EntOk Tryz.prog ref15_sub (.code c_ref15_sub 75 [.c 4 true 6, .t 7]) := ⟨by kernel_rfl, Tryz.f70, [], [6, 19, 8, 40, 67], Tryz.func70, by kernel_rfl, by kernel_rfl, by kernel_rfl, Tryz.ntmps70⟩
/-! stereobate/stereobateref02.Right -/
def r_ref02_Right_0 : List AI := [O 3 (.bx (.t 0)), O 6 (.mv (B false))]
def r_ref02_Right_1 : List AI := [O 7 (.mv (.t 1)), O 8 (.bin .geq (.t 7) (N 0)), O 9 (.mv (.t 8)), Og 10 9 true (.mv (.t 1)), Og 11 9 true (.bin .leq (.t 10) (N 5)), O 12 (.pick (.t 9) (.t 11) (B false)), O 13 (.mv (.t 12)), Og 14 13 true (.mv (.t 2)), Og 15 13 true (.bin .geq (.t 14) (N 0)), O 16 (.pick (.t 13) (.t 15) (B false)), O 17 (.mv (.t 16)), Og 18 17 true (.mv (.t 2)), Og 19 17 true (.bin .leq (.t 18) (N 10)), O 20 (.pick (.t 17) (.t 19) (B false)), O 21 (.mv (.t 20)), Og 22 21 true (.ld 3 true (.t 3)), ⟨some 23, (.call (.c (.fn (.func ref02_Nodes) [] [])) [(.t 22), (N 101)]), some (21, true), []⟩, Og 24 21 true (.bin .leq (.t 23) (N 100)), O 25 (.pick (.t 21) (.t 24) (B false)), O 26 (.mv (.t 25)), Og 27 26 true (.ld 3 true (.t 3)), Og 28 26 true (.mv (.t 1)), Og 29 26 true (.mv (.t 2)), ⟨some 30, (.call (.c (.fn (.func ref02_right) [] [])) [(.t 27), (.t 28), (.t 29), (N 12)]), some (26, true), []⟩, O 31 (.pick (.t 26) (.t 30) (B false)), O 6 (.mv (.t 31))]
def c_ref02_Right : FC := .seq (.reg r_ref02_Right_0) (.seq (.reg r_ref02_Right_1) (.ret))
theorem k_ref02_Right : EntOk Tryz.prog ref02_Right (.code c_ref02_Right 32 [.t 6]) := ⟨by kernel_rfl, Tryz.f71, [], [], Tryz.func71, by kernel_rfl, by kernel_rfl, by kernel_rfl, Tryz.ntmps71⟩
/-! stereobate/stereobateref15.Consts -/
def r_ref15_Consts_0 : List AI := [O 1 (.bx (.t 0)), O 2 (.mvO 1)]
def r_ref15_Consts_1 : List AI := [O 3 (.mvO 1)]
def r_ref15_Consts_2 : List AI := [O 9 (.fa 0 (.t 1)), O 10 (.ld 1 false (.t 9)), O 11 (.bin .eql (.t 10) (N 3))]
def r_ref15_Consts_3 : List AI := [O 12 (.mv (.t 3)), O 13 (.fa 1 (.t 1)), O 14 (.ld 1 false (.t 13)), O 15 (.bsl 1 1 [(.int .i64 0)] [(0, (.t 14))]), O 16 (.app 1 (.t 12) (.t 15)), O 3 (.mv (.t 16))]
def r_ref15_Consts_4 : List AI := [O 4 (.mv (N 0))]
def r_ref15_Consts_5 : List AI := [O 17 (.mv (.t 4)), O 18 (.fa 3 (.t 1)), O 19 (.ld 1 false (.t 18)), O 20 (.len (.t 19)), O 21 (.bin .lss (.t 17) (.t 20))]
def r_ref15_Consts_6 : List AI := [O 24 (.fa 3 (.t 1)), O 25 (.ld 1 false (.t 24)), O 26 (.mv (.t 4)), O 27 (.ia 4 (.t 25) (.t 26)), O 28 (.ld 4 true (.t 27)), C 29 (.c (.fn (.func ref15_Consts) [] [])) [(.t 28)], O 5 (.mv (.t 29))]
def r_ref15_Consts_7 : List AI := [O 6 (.mv (N 0))]
def r_ref15_Consts_8 : List AI := [O 30 (.mv (.t 6)), O 31 (.mv (.t 5)), O 32 (.len (.t 31)), O 33 (.bin .lss (.t 30) (.t 32))]
def r_ref15_Consts_9 : List AI := [O 7 (.mv (B false))]
def r_ref15_Consts_10 : List AI := [O 8 (.mv (N 0))]
def r_ref15_Consts_11 : List AI := [O 36 (.mv (.t 8)), O 37 (.mv (.t 3)), O 38 (.len (.t 37)), O 39 (.bin .lss (.t 36) (.t 38))]
def r_ref15_Consts_12 : List AI := [O 42 (.mv (.t 7)), ⟨some 43, (.o (.mv (.t 42))), none, [0]⟩, ⟨some 44, (.o (.mv (.t 3))), some (43, false), [1]⟩, ⟨some 45, (.o (.mv (.t 8))), some (43, false), [1]⟩, ⟨some 46, (.o (.ia 1 (.t 44) (.t 45))), some (43, false), [2, 3, 1]⟩, ⟨some 47, (.o (.ld 1 false (.t 46))), some (43, false), [4, 1]⟩, ⟨some 48, (.o (.mv (.t 5))), some (43, false), [1]⟩, ⟨some 49, (.o (.mv (.t 6))), some (43, false), [1]⟩, ⟨some 50, (.o (.ia 1 (.t 48) (.t 49))), some (43, false), [6, 7, 1]⟩, ⟨some 51, (.o (.ld 1 false (.t 50))), some (43, false), [8, 1]⟩, ⟨some 52, (.o (.bin .eql (.t 47) (.t 51))), some (43, false), [5, 9, 1]⟩, ⟨some 53, (.o (.pick (.t 43) (B true) (.t 52))), none, [1, 10]⟩, ⟨some 7, (.o (.mv (.t 53))), none, [11, 1, 0, 1, 2, 3, 4, 5, 6, 7, 8, 9, 10, 11]⟩]
def r_ref15_Consts_13 : List AI := [O 40 (.mv (.t 8)), O 41 (.bin .add (.t 40) (N 1)), O 8 (.mv (.t 41))]
def l_ref15_Consts_0 : FC := .seq (.seq (.reg r_ref15_Consts_11) (.cond (.t 39) (.skip) (.exit 4))) (.seq (.block 5 (.dreg r_ref15_Consts_12)) (.reg r_ref15_Consts_13))
def r_ref15_Consts_14 : List AI := [O 54 (.mv (.t 7)), O 55 (.not (.t 54))]
def r_ref15_Consts_15 : List AI := [O 56 (.mv (.t 3)), O 57 (.mv (.t 5)), O 58 (.mv (.t 6)), O 59 (.ia 1 (.t 57) (.t 58)), O 60 (.ld 1 false (.t 59)), O 61 (.bsl 1 1 [(.int .i64 0)] [(0, (.t 60))]), O 62 (.app 1 (.t 56) (.t 61)), O 3 (.mv (.t 62))]
def r_ref15_Consts_16 : List AI := [O 34 (.mv (.t 6)), O 35 (.bin .add (.t 34) (N 1)), O 6 (.mv (.t 35))]
def l_ref15_Consts_1 : FC := .seq (.seq (.reg r_ref15_Consts_8) (.cond (.t 33) (.skip) (.exit 2))) (.seq (.block 3 (.seq (.reg r_ref15_Consts_9) (.seq (.seq (.reg r_ref15_Consts_10) (.block 4 (.loop [1, 3, 4, 5, 6, 7, 8] [1] l_ref15_Consts_0))) (.seq (.reg r_ref15_Consts_14) (.cond (.t 55) (.reg r_ref15_Consts_15) (.skip)))))) (.reg r_ref15_Consts_16))
def r_ref15_Consts_17 : List AI := [O 22 (.mv (.t 4)), O 23 (.bin .add (.t 22) (N 1)), O 4 (.mv (.t 23))]
def l_ref15_Consts_2 : FC := .seq (.seq (.reg r_ref15_Consts_5) (.cond (.t 21) (.skip) (.exit 0))) (.seq (.block 1 (.seq (.reg r_ref15_Consts_6) (.seq (.reg r_ref15_Consts_7) (.block 2 (.loop [1, 3, 4, 5, 6] [1] l_ref15_Consts_1))))) (.reg r_ref15_Consts_17))
def r_ref15_Consts_18 : List AI := [O 63 (.mv (.t 3)), O 2 (.mv (.t 63))]
def c_ref15_Consts : FC := .seq (.reg r_ref15_Consts_0) (.seq (.reg r_ref15_Consts_1) (.seq (.seq (.reg r_ref15_Consts_2) (.cond (.t 11) (.reg r_ref15_Consts_3) (.skip))) (.seq (.seq (.reg r_ref15_Consts_4) (.block 0 (.loop [1, 3, 4] [1] l_ref15_Consts_2))) (.seq (.reg r_ref15_Consts_18) (.ret)))))
theorem k_ref15_Consts : EntOk Tryz.prog ref15_Consts (.code c_ref15_Consts 64 [.t 2]) := ⟨by kernel_rfl, Tryz.f72, [], [2, 3], Tryz.func72, by kernel_rfl, by kernel_rfl, by kernel_rfl, Tryz.ntmps72⟩
/-! stereobate/term.parts -/
def r_term_parts_0 : List AI := [O 2 (.bx (.t 0)), O 4 (.mv (N 0))]
def r_term_parts_1 : List AI := [O 5 (.mv (N 1))]
def r_term_parts_2 : List AI := [O 8 (.fa 3 (.t 2)), O 9 (.ld 1 false (.t 8)), O 10 (.len (.t 9)), O 11 (.mv (N 0))]
def r_term_parts_3 : List AI := [O 12 (.bin .lss (.t 11) (.t 10))]
def r_term_parts_4 : List AI := [O 13 (.ia 4 (.t 9) (.t 11)), O 14 (.ld 4 true (.t 13)), O 7 (.alc [(.int .i64 0), (.int .i64 0), (.nils 3), (.nils 4)]), ⟨none, (.o (.st 4 (.t 7) (.t 14))), none, []⟩]
def r_term_parts_5 : List AI := [O 15 (.mv (.t 5)), O 16 (.mv (.t 1)), O 17 (.bin .lss (.t 15) (.t 16))]
def r_term_parts_6 : List AI := [O 18 (.mv (.t 5)), O 19 (.ld 4 true (.t 7)), O 20 (.mv (.t 1)), O 21 (.mv (.t 5)), O 22 (.bin .sub (.t 20) (.t 21)), C 23 (.c (.fn (.func term_parts) [] [])) [(.t 19), (.t 22)], O 24 (.bin .add (.t 18) (.t 23)), O 5 (.mv (.t 24))]
def r_term_parts_7 : List AI := [O 25 (.bin .add (.t 11) (N 1)), O 11 (.mv (.t 25))]
def l_term_parts_0 : FC := .seq (.reg r_term_parts_3) (.seq (.cond (.t 12) (.skip) (.exit 0)) (.seq (.block 1 (.seq (.reg r_term_parts_4) (.seq (.reg r_term_parts_5) (.cond (.t 17) (.reg r_term_parts_6) (.skip))))) (.reg r_term_parts_7)))
def r_term_parts_8 : List AI := [O 26 (.mv (.t 5)), O 4 (.mv (.t 26))]
def c_term_parts : FC := .seq (.reg r_term_parts_0) (.seq (.reg r_term_parts_1) (.seq (.seq (.reg r_term_parts_2) (.block 0 (.loop [1, 5, 9, 10, 11] [] l_term_parts_0))) (.seq (.reg r_term_parts_8) (.ret))))
theorem k_term_parts : EntOk Tryz.prog term_parts (.code c_term_parts 27 [.t 4]) := ⟨by kernel_rfl, Tryz.f73, [], [], Tryz.func73, by kernel_rfl, by kernel_rfl, by kernel_rfl, Tryz.ntmps73⟩
/-! (stereobate/term.room).right -/
def r_term_room_right_0 : List AI := [O 3 (.bxH (.t 0)), O 4 (.bx (.t 1)), O 6 (.mv (B false))]
def r_term_room_right_1 : List AI := [O 13 (.mkf (.func term_room_right_1) [] [(.t 3)]), O 7 (.mv (.t 13))]
def r_term_room_right_2 : List AI := [C 15 (.c (.fn (.func term_shapes) [] [])) [], O 16 (.fa 0 (.t 4)), ⟨some 17, (.o (.ld 1 false (.t 16))), none, [1]⟩, ⟨some 18, (.o (.lk true (.agg [(.int .i64 0), (.int .i64 0)]) (.t 15) (.t 17))), none, [0, 2]⟩, ⟨some 14, (.o (.mv (.t 18))), none, [3]⟩, ⟨some 19, (.o (.ext (.t 14) 0)), none, [4]⟩, ⟨some 20, (.o (.ext (.t 14) 1)), none, [4]⟩, O 8 (.alc [(.int .i64 0), (.int .i64 0)]), ⟨none, (.o (.st 2 (.t 8) (.t 19))), none, [7, 5, 0, 0, 1, 2, 3, 4, 5, 7]⟩, ⟨some 9, (.o (.mv (.t 20))), none, [6, 8, 0, 1, 2, 3, 4, 5, 6, 7, 8]⟩]
def r_term_room_right_3 : List AI := [O 21 (.mv (.t 2)), O 22 (.bin .eql (.t 21) (N 0)), O 23 (.mv (.t 22)), Og 24 23 false (.mv (.t 9)), Og 25 23 false (.not (.t 24)), O 26 (.pick (.t 23) (B true) (.t 25)), O 27 (.mv (.t 26)), Og 28 27 false (.fa 3 (.t 4)), Og 29 27 false (.ld 1 false (.t 28)), Og 30 27 false (.len (.t 29)), Og 31 27 false (.fa 0 (.t 8)), Og 32 27 false (.ld 1 false (.t 31)), Og 33 27 false (.bin .neq (.t 30) (.t 32)), O 34 (.pick (.t 27) (B true) (.t 33)), O 35 (.mv (.t 34)), Og 36 35 false (.ld 3 true (.t 3)), Og 37 35 false (.ld 4 true (.t 4)), ⟨some 38, (.call (.c (.fn (.func term_room_named) [] [])) [(.t 36), (.t 37)]), some (35, false), []⟩, Og 39 35 false (.not (.t 38)), O 40 (.pick (.t 35) (B true) (.t 39)), O 41 (.mv (.t 40)), Og 42 41 false (.fa 2 (.t 4)), Og 43 41 false (.ld 1 false (.t 42)), Og 44 41 false (.mv (.t 7)), ⟨some 45, (.call (.c (.fn (.func slices_ContainsFunc_Level) [] [])) [(.t 43), (.t 44)]), some (41, false), []⟩, O 46 (.pick (.t 41) (B true) (.t 45))]
def r_term_room_right_4 : List AI := [O 6 (.mv (B false))]
def r_term_room_right_5 : List AI := [O 47 (.fa 3 (.t 4)), O 48 (.ld 1 false (.t 47)), O 49 (.len (.t 48)), O 50 (.mv (N 0))]
def r_term_room_right_6 : List AI := [O 51 (.bin .lss (.t 50) (.t 49))]
def r_term_room_right_7 : List AI := [O 52 (.mv (.t 50)), O 53 (.ia 4 (.t 48) (.t 50)), O 54 (.ld 4 true (.t 53)), O 11 (.alc [(.int .i64 0), (.int .i64 0), (.nils 3), (.nils 4)]), O 10 (.mv (.t 52)), ⟨none, (.o (.st 4 (.t 11) (.t 54))), none, []⟩]
def r_term_room_right_8 : List AI := [O 55 (.ld 3 true (.t 3)), O 12 (.alc [(.int .i64 0), (.int .i64 0), (.int .i64 0)]), ⟨none, (.o (.st 3 (.t 12) (.t 55))), none, []⟩]
def r_term_room_right_9 : List AI := [O 56 (.fa 0 (.t 12)), ⟨some 57, (.o (.ld 1 false (.t 56))), none, [0]⟩, O 58 (.ld 4 true (.t 4)), O 59 (.mv (.t 10)), ⟨some 60, (.call (.c (.fn (.func term_below) [] [])) [(.t 58), (.t 59)]), none, [2, 3]⟩, ⟨some 61, (.o (.bin .add (.t 57) (.t 60))), none, [1, 4]⟩, ⟨some 62, (.o (.fa 0 (.t 12))), none, [0, 1, 2, 3, 4, 5]⟩, ⟨none, (.o (.st 1 (.t 62) (.t 61))), none, [6, 5, 4, 0, 1, 2, 3, 4, 5]⟩]
def r_term_room_right_10 : List AI := [O 63 (.ld 3 true (.t 12)), O 64 (.ld 4 true (.t 11)), O 65 (.mv (.t 2)), O 66 (.bin .sub (.t 65) (N 1)), C 67 (.c (.fn (.func term_room_right) [] [])) [(.t 63), (.t 64), (.t 66)], O 68 (.not (.t 67))]
def r_term_room_right_11 : List AI := [O 6 (.mv (B false))]
def r_term_room_right_12 : List AI := [O 69 (.bin .add (.t 50) (N 1)), O 50 (.mv (.t 69))]
def l_term_room_right_0 : FC := .seq (.reg r_term_room_right_6) (.seq (.cond (.t 51) (.skip) (.exit 0)) (.seq (.block 1 (.seq (.reg r_term_room_right_7) (.seq (.reg r_term_room_right_8) (.seq (.dreg r_term_room_right_9) (.seq (.reg r_term_room_right_10) (.cond (.t 68) (.seq (.reg r_term_room_right_11) (.ret)) (.skip))))))) (.reg r_term_room_right_12)))
def r_term_room_right_13 : List AI := [O 6 (.mv (B true))]
def c_term_room_right : FC := .seq (.reg r_term_room_right_0) (.seq (.reg r_term_room_right_1) (.seq (.dreg r_term_room_right_2) (.seq (.seq (.reg r_term_room_right_3) (.cond (.t 46) (.seq (.reg r_term_room_right_4) (.ret)) (.skip))) (.seq (.seq (.reg r_term_room_right_5) (.block 0 (.loop [2, 3, 4, 48, 49, 50] [4] l_term_room_right_0))) (.seq (.reg r_term_room_right_13) (.ret))))))
theorem k_term_room_right : EntOk Tryz.prog term_room_right (.code c_term_room_right 70 [.t 6]) := ⟨by kernel_rfl, Tryz.f74, [3], [], Tryz.func74, by kernel_rfl, by kernel_rfl, by kernel_rfl, Tryz.ntmps74⟩
/-! (*stereobate/reduce.Machine).Burn -/
def r_reduce_Machine_Burn_0 : List AI := [O 2 (.mv (B false))]
def r_reduce_Machine_Burn_1 : List AI := [O 4 (.mv (.t 0)), O 5 (.nilc (.t 4)), O 6 (.fa 2 (.t 5)), O 7 (.ld 1 false (.t 6)), O 8 (.bin .neq (.t 7) (N 0)), O 3 (.mv (.t 8))]
def r_reduce_Machine_Burn_2 : List AI := [O 2 (.mv (B false))]
def r_reduce_Machine_Burn_3 : List AI := [O 10 (.mv (.t 0)), O 11 (.nilc (.t 10)), O 12 (.fa 1 (.t 11)), O 13 (.ld 1 false (.t 12)), O 14 (.bin .eql (.t 13) (N 0)), O 9 (.mv (.t 14))]
def r_reduce_Machine_Burn_4 : List AI := [O 15 (.mv (.t 0)), C 16 (.c (.fn (.func reduce_Machine_Fail) [] [])) [(.t 15), (N 40)], O 2 (.mv (.t 16))]
def r_reduce_Machine_Burn_5 : List AI := [O 17 (.mv (.t 0)), O 18 (.nilc (.t 17)), O 19 (.fa 1 (.t 18)), O 20 (.ld 1 false (.t 19)), O 21 (.bin .sub (.t 20) (N 1)), O 22 (.nilc (.t 17)), O 23 (.fa 1 (.t 22)), ⟨none, (.o (.st 1 (.t 23) (.t 21))), none, []⟩]
def r_reduce_Machine_Burn_6 : List AI := [O 2 (.mv (B true))]
def c_reduce_Machine_Burn : FC := .seq (.reg r_reduce_Machine_Burn_0) (.seq (.block 0 (.seq (.reg r_reduce_Machine_Burn_1) (.cond (.t 3) (.seq (.reg r_reduce_Machine_Burn_2) (.ret)) (.seq (.reg r_reduce_Machine_Burn_3) (.cond (.t 9) (.seq (.reg r_reduce_Machine_Burn_4) (.ret)) (.skip)))))) (.seq (.reg r_reduce_Machine_Burn_5) (.seq (.reg r_reduce_Machine_Burn_6) (.ret))))
theorem k_reduce_Machine_Burn : EntOk Tryz.prog reduce_Machine_Burn (.code c_reduce_Machine_Burn 24 [.t 2]) := ⟨by kernel_rfl, Tryz.f75, [], [], Tryz.func75, by kernel_rfl, by kernel_rfl, by kernel_rfl, Tryz.ntmps75⟩
/-! (*stereobate/reduce.Machine).Put -/
def r_reduce_Machine_Put_0 : List AI := [O 4 (.bx (.t 1)), O 6 (.alc [(.int .i64 0), (.int .i64 0), (.nils 3), (.nils 4)])]
def r_reduce_Machine_Put_1 : List AI := [O 7 (.mv (.t 2)), O 8 (.bin .neq (.t 7) (N 0))]
def r_reduce_Machine_Put_2 : List AI := [O 9 (.mv (.t 0)), O 10 (.mv (.t 2)), C 11 (.c (.fn (.func reduce_Machine_Fail) [] [])) [(.t 9), (.t 10)]]
def r_reduce_Machine_Put_3 : List AI := [O 12 (.ld 4 true (.t 4)), ⟨none, (.o (.st 4 (.t 6) (.t 12))), none, []⟩]
def c_reduce_Machine_Put : FC := .seq (.reg r_reduce_Machine_Put_0) (.seq (.seq (.reg r_reduce_Machine_Put_1) (.cond (.t 8) (.reg r_reduce_Machine_Put_2) (.skip))) (.seq (.reg r_reduce_Machine_Put_3) (.ret)))
theorem k_reduce_Machine_Put : EntOk Tryz.prog reduce_Machine_Put (.code c_reduce_Machine_Put 13 [.c 4 true 6]) := ⟨by kernel_rfl, Tryz.f76, [], [], Tryz.func76, by kernel_rfl, by kernel_rfl, by kernel_rfl, Tryz.ntmps76⟩
/-! stereobate/term.Open -/
def r_term_Open_0 : List AI := [O 2 (.bx (.t 0)), O 3 (.bxH (.t 1)), O 4 (.alc [(.int .i64 0), (.int .i64 0), (.nils 3), (.nils 4)]), O 5 (.mv (N 0))]
def r_term_Open_1 : List AI := [C 6 (.c (.fn (.func term_all) [] [])) [], O 7 (.ld 4 true (.t 2)), ⟨some 8, (.call (.c (.fn (.func term_room_fits) [] [])) [(.t 6), (.t 7)]), none, [0, 1, 0]⟩, ⟨some 9, (.o (.not (.t 8))), none, [2]⟩, ⟨some 10, (.o (.mv (.t 9))), none, [3, 2]⟩, ⟨some 11, (.call (.c (.fn (.func term_all) [] [])) []), some (10, false), [4, 4]⟩, ⟨some 12, (.o (.ld 4 true (.t 3))), some (10, false), [4]⟩, ⟨some 13, (.call (.c (.fn (.func term_room_fits) [] [])) [(.t 11), (.t 12)]), some (10, false), [5, 6, 5, 4]⟩, ⟨some 14, (.o (.not (.t 13))), some (10, false), [7, 4]⟩, ⟨some 15, (.o (.pick (.t 10) (B true) (.t 14))), none, [4, 8]⟩]
def r_term_Open_2 : List AI := [O 16 (.bld [(.int .i64 0), (.int .i64 0), (.nils 3), (.nils 4)] []), ⟨none, (.o (.st 4 (.t 4) (.t 16))), none, []⟩, O 5 (.mv (N 1))]
def r_term_Open_3 : List AI := [O 17 (.ld 4 true (.t 2)), O 18 (.mkf (.func term_Open_1) [] [(.t 3)]), C 19 (.c (.fn (.func term_turn) [] [])) [(.t 17), (N 0), (.t 18)], C 20 (.c (.fn (.func term_told) [] [])) [(.t 19)], O 21 (.ext (.t 20) 0), O 22 (.ext (.t 20) 1), ⟨none, (.o (.st 4 (.t 4) (.t 21))), none, []⟩, O 5 (.mv (.t 22))]
def c_term_Open : FC := .seq (.reg r_term_Open_0) (.seq (.seq (.dreg r_term_Open_1) (.cond (.t 15) (.seq (.reg r_term_Open_2) (.ret)) (.skip))) (.seq (.reg r_term_Open_3) (.ret)))
theorem k_term_Open : EntOk Tryz.prog term_Open (.code c_term_Open 23 [.c 4 true 4, .t 5]) := ⟨by kernel_rfl, Tryz.f77, [3], [], Tryz.func77, by kernel_rfl, by kernel_rfl, by kernel_rfl, Tryz.ntmps77⟩
/-! stereobate/tsub.Sub -/
def r_tsub_Sub_0 : List AI := [O 3 (.bx (.t 0)), O 6 (.alc [(.int .i64 0), (.int .i64 0), (.nils 3), (.nils 4)]), O 7 (.mv (N 0))]
def r_tsub_Sub_1 : List AI := [O 10 (.ld 4 true (.t 3)), C 11 (.c (.fn (.func term_Right) [] [])) [(.t 10), (N 1000), (N 5), (N 10)], O 12 (.not (.t 11)), O 13 (.mv (.t 12)), Og 14 13 false (.mv (.t 1)), Og 15 13 false (.len (.t 14)), Og 16 13 false (.bin .gtr (.t 15) (N 5)), O 17 (.pick (.t 13) (B true) (.t 16)), O 18 (.mv (.t 17)), Og 19 18 false (.mv (.t 2)), Og 20 18 false (.len (.t 19)), Og 21 18 false (.bin .gtr (.t 20) (N 10)), O 22 (.pick (.t 18) (B true) (.t 21)), O 23 (.mv (.t 22)), Og 24 23 false (.mv (.t 1)), Og 25 23 false (.mv (.t 2)), Og 26 23 false (.bsl 1 2 [(.nils 3)] [(0, (.t 24)), (1, (.t 25))]), ⟨some 27, (.call (.c (.fn (.func slices_Concat_Level) [] [])) [(.t 26)]), some (23, false), []⟩, ⟨some 28, (.call (.c (.fn (.func slices_ContainsFunc_Level) [] [])) [(.t 27), (.c (.fn (.func tsub_odd) [] []))]), some (23, false), []⟩, O 29 (.pick (.t 23) (B true) (.t 28))]
def r_tsub_Sub_2 : List AI := [O 30 (.bld [(.int .i64 0), (.int .i64 0), (.nils 3), (.nils 4)] []), ⟨none, (.o (.st 4 (.t 6) (.t 30))), none, []⟩, O 7 (.mv (N 1))]
def r_tsub_Sub_3 : List AI := [O 31 (.mv (.t 1)), O 32 (.mv (.t 2)), O 33 (.bld [(.nils 3), (.nils 3), (.int .i64 0)] [(0, 1, (.t 31)), (1, 1, (.t 32))]), O 34 (.bxH (.t 33)), O 8 (.mv (.t 34))]
def r_tsub_Sub_4 : List AI := [O 35 (.mv (.t 8)), O 36 (.ld 4 true (.t 3)), C 37 (.c (.fn (.func tsub_putter_term) [] [])) [(.t 35), (.t 36)], O 9 (.alc [(.int .i64 0), (.int .i64 0), (.nils 3), (.nils 4)]), ⟨none, (.o (.st 4 (.t 9) (.t 37))), none, []⟩]
def r_tsub_Sub_5 : List AI := [O 38 (.mv (.t 8)), O 39 (.nilc (.t 38)), O 40 (.fa 2 (.t 39)), O 41 (.ld 1 false (.t 40)), O 42 (.bin .neq (.t 41) (N 0))]
def r_tsub_Sub_6 : List AI := [O 43 (.bld [(.int .i64 0), (.int .i64 0), (.nils 3), (.nils 4)] []), ⟨none, (.o (.st 4 (.t 6) (.t 43))), none, []⟩, O 7 (.mv (N 2))]
def r_tsub_Sub_7 : List AI := [O 44 (.ld 4 true (.t 9)), ⟨none, (.o (.st 4 (.t 6) (.t 44))), none, []⟩, O 7 (.mv (N 0))]
def c_tsub_Sub : FC := .seq (.reg r_tsub_Sub_0) (.seq (.seq (.reg r_tsub_Sub_1) (.cond (.t 29) (.seq (.reg r_tsub_Sub_2) (.ret)) (.skip))) (.seq (.reg r_tsub_Sub_3) (.seq (.reg r_tsub_Sub_4) (.seq (.seq (.reg r_tsub_Sub_5) (.cond (.t 42) (.seq (.reg r_tsub_Sub_6) (.ret)) (.skip))) (.seq (.reg r_tsub_Sub_7) (.ret))))))
theorem k_tsub_Sub : EntOk Tryz.prog tsub_Sub (.code c_tsub_Sub 45 [.c 4 true 6, .t 7]) := ⟨by kernel_rfl, Tryz.f78, [34], [], Tryz.func78, by kernel_rfl, by kernel_rfl, by kernel_rfl, Tryz.ntmps78⟩
/-! stereobate/tsub.all$1 -/
def r_tsub_all_1_0 : List AI := [O 2 (.bxF (.t 0))]
def r_tsub_all_1_1 : List AI := [O 6 (.ld 1 false (.t 2)), O 7 (.ld 4 true (.t 1)), C 8 (.t 6) [(.t 7)], O 9 (.not (.t 8))]
def r_tsub_all_1_2 : List AI := [O 10 (.fa 3 (.t 1)), O 11 (.ld 1 false (.t 10)), O 12 (.len (.t 11)), O 13 (.mv (N 0))]
def r_tsub_all_1_3 : List AI := [O 14 (.bin .lss (.t 13) (.t 12))]
def r_tsub_all_1_4 : List AI := [O 15 (.ia 4 (.t 11) (.t 13)), O 16 (.ld 4 true (.t 15)), O 4 (.alc [(.int .i64 0), (.int .i64 0), (.nils 3), (.nils 4)]), ⟨none, (.o (.st 4 (.t 4) (.t 16))), none, []⟩]
def r_tsub_all_1_5 : List AI := [O 17 (.ld 4 true (.t 4)), C 18 (.c (.fn (.func tsub_all) [] [])) [(.t 17)]]
def r_tsub_all_1_6 : List AI := [O 5 (.alc [(.int .i64 0), (.int .i64 0), (.nils 3), (.nils 4)]), ⟨none, (.o (.st 4 (.t 5) (.t 19))), none, []⟩]
def r_tsub_all_1_7 : List AI := [O 20 (.ld 1 false (.t 2)), O 21 (.ld 4 true (.t 5)), C 22 (.t 20) [(.t 21)], O 23 (.not (.t 22))]
def s_tsub_all_1_0 : FC := .reg r_tsub_all_1_6
def y_tsub_all_1_0 : FC := .block 3 (.seq (.reg r_tsub_all_1_7) (.cond (.t 23) (.ret) (.skip)))
def r_tsub_all_1_8 : List AI := [O 24 (.bin .add (.t 13) (N 1)), O 13 (.mv (.t 24))]
def l_tsub_all_1_0 : FC := .seq (.reg r_tsub_all_1_3) (.seq (.cond (.t 14) (.skip) (.exit 0)) (.seq (.block 1 (.seq (.reg r_tsub_all_1_4) (.seq (.reg r_tsub_all_1_5) (.block 2 (.rf (.t 18) [19] [2] s_tsub_all_1_0 y_tsub_all_1_0))))) (.reg r_tsub_all_1_8)))
def c_tsub_all_1 : FC := .seq (.reg r_tsub_all_1_0) (.seq (.seq (.reg r_tsub_all_1_1) (.cond (.t 9) (.ret) (.skip))) (.seq (.reg r_tsub_all_1_2) (.block 0 (.loop [2, 11, 12, 13] [] l_tsub_all_1_0))))
theorem k_tsub_all_1 : EntOk Tryz.prog tsub_all_1 (.code c_tsub_all_1 25 []) := ⟨by kernel_rfl, Tryz.f79, [], [5000002], Tryz.func79, by kernel_rfl, by kernel_rfl, by kernel_rfl, Tryz.ntmps79⟩
/-! stereobate/level.kinds -/
def r_level_kinds_0 : List AI := [O 0 (.mv (.c .nilm))]
def r_level_kinds_1 : List AI := [O 1 (.mkm), O 2 (.bld [(.int .i64 0), .nilf] [(0, 1, (N 0)), (1, 1, (.c (.fn (.func level_kinds_1) [] [])))]), ⟨none, (.o (.ins (.t 1) (N 1) (.t 2))), none, []⟩, O 3 (.bld [(.int .i64 0), .nilf] [(0, 1, (N 1)), (1, 1, (.c (.fn (.func level_kinds_2) [] [])))]), ⟨none, (.o (.ins (.t 1) (N 2) (.t 3))), none, []⟩, O 4 (.bld [(.int .i64 0), .nilf] [(0, 1, (N 2)), (1, 1, (.c (.fn (.func level_kinds_3) [] [])))]), ⟨none, (.o (.ins (.t 1) (N 3) (.t 4))), none, []⟩, O 5 (.bld [(.int .i64 0), .nilf] [(0, 1, (N 2)), (1, 1, (.c (.fn (.func level_kinds_4) [] [])))]), ⟨none, (.o (.ins (.t 1) (N 4) (.t 5))), none, []⟩, O 6 (.bld [(.int .i64 0), .nilf] [(0, 1, (N 0)), (1, 1, (.c (.fn (.func level_kinds_5) [] [])))]), ⟨none, (.o (.ins (.t 1) (N 5) (.t 6))), none, []⟩, O 7 (.bld [(.int .i64 0), .nilf] [(0, 1, (N 0)), (1, 1, (.c (.fn (.func level_kinds_6) [] [])))]), ⟨none, (.o (.ins (.t 1) (N 6) (.t 7))), none, []⟩, O 8 (.mv (.t 1)), O 0 (.mv (.t 8))]
def c_level_kinds : FC := .seq (.reg r_level_kinds_0) (.seq (.reg r_level_kinds_1) (.ret))
theorem k_level_kinds : EntOk Tryz.prog level_kinds (.code c_level_kinds 9 [.t 0]) := ⟨by kernel_rfl, Tryz.f80, [], [], Tryz.func80, by kernel_rfl, by kernel_rfl, by kernel_rfl, Tryz.ntmps80⟩
/-! stereobate/level.right$1 -/
def r_level_right_1_0 : List AI := [O 4 (.bx (.t 0)), O 5 (.mv (B false))]
def r_level_right_1_1 : List AI := [O 6 (.ld 3 true (.t 4)), O 7 (.ld 1 false (.t 1)), O 8 (.ld 1 false (.t 2)), O 9 (.ld 1 false (.t 3)), O 10 (.bin .sub (.t 9) (N 1)), C 11 (.c (.fn (.func level_right) [] [])) [(.t 6), (.t 7), (.t 8), (.t 10)], O 12 (.not (.t 11)), O 5 (.mv (.t 12))]
def c_level_right_1 : FC := .seq (.reg r_level_right_1_0) (.seq (.reg r_level_right_1_1) (.ret))
theorem k_level_right_1 : EntOk Tryz.prog level_right_1 (.code c_level_right_1 13 [.t 5]) := ⟨by kernel_rfl, Tryz.f81, [], [], Tryz.func81, by kernel_rfl, by kernel_rfl, by kernel_rfl, Tryz.ntmps81⟩
/-! stereobate/level.named -/
def r_level_named_0 : List AI := [O 3 (.bx (.t 0)), O 6 (.mv (B false))]
def r_level_named_1 : List AI := [O 7 (.fa 0 (.t 3)), O 8 (.ld 1 false (.t 7))]
def r_level_named_2 : List AI := [O 10 (.bin .eql (.t 8) (N 5)), O 9 (.mv (.t 10))]
def r_level_named_3 : List AI := [O 11 (.fa 1 (.t 3)), O 12 (.ld 1 false (.t 11)), O 13 (.bin .geq (.t 12) (N 0)), O 14 (.mv (.t 13)), Og 15 14 true (.fa 1 (.t 3)), Og 16 14 true (.ld 1 false (.t 15)), Og 17 14 true (.mv (.t 1)), Og 18 14 true (.bin .lss (.t 16) (.t 17)), O 19 (.pick (.t 14) (.t 18) (B false)), O 6 (.mv (.t 19))]
def r_level_named_4 : List AI := [O 21 (.bin .eql (.t 8) (N 6)), O 20 (.mv (.t 21))]
def r_level_named_5 : List AI := [O 22 (.fa 1 (.t 3)), O 23 (.ld 1 false (.t 22)), O 24 (.bin .geq (.t 23) (N 0)), O 25 (.mv (.t 24)), Og 26 25 true (.fa 1 (.t 3)), Og 27 25 true (.ld 1 false (.t 26)), Og 28 25 true (.mv (.t 2)), Og 29 25 true (.bin .lss (.t 27) (.t 28)), O 30 (.pick (.t 25) (.t 29) (B false)), O 6 (.mv (.t 30))]
def r_level_named_6 : List AI := [O 31 (.fa 1 (.t 3)), O 32 (.ld 1 false (.t 31)), O 33 (.bin .eql (.t 32) (N 0)), O 6 (.mv (.t 33))]
def c_level_named : FC := .seq (.reg r_level_named_0) (.seq (.seq (.reg r_level_named_1) (.block 0 (.seq (.reg r_level_named_2) (.cond (.t 9) (.seq (.reg r_level_named_3) (.ret)) (.seq (.reg r_level_named_4) (.cond (.t 20) (.seq (.reg r_level_named_5) (.ret)) (.skip))))))) (.seq (.reg r_level_named_6) (.ret)))
theorem k_level_named : EntOk Tryz.prog level_named (.code c_level_named 34 [.t 6]) := ⟨by kernel_rfl, Tryz.f82, [], [], Tryz.func82, by kernel_rfl, by kernel_rfl, by kernel_rfl, Tryz.ntmps82⟩
/-! slices.ContainsFunc[[]stereobate/api.Level,stereobate/api.Level] -/
def r_slices_ContainsFunc_Level_0 : List AI := [O 4 (.mv (B false))]
def r_slices_ContainsFunc_Level_1 : List AI := [O 5 (.mv (.t 0)), O 6 (.mv (.t 1)), C 7 (.c (.fn (.func slices_IndexFunc_Level) [] [])) [(.t 5), (.t 6)], O 8 (.bin .geq (.t 7) (N 0)), O 4 (.mv (.t 8))]
def c_slices_ContainsFunc_Level : FC := .seq (.reg r_slices_ContainsFunc_Level_0) (.seq (.reg r_slices_ContainsFunc_Level_1) (.ret))
theorem k_slices_ContainsFunc_Level : EntOk Tryz.prog slices_ContainsFunc_Level (.code c_slices_ContainsFunc_Level 9 [.t 4]) := ⟨by kernel_rfl, Tryz.f83, [], [], Tryz.func83, by kernel_rfl, by kernel_rfl, by kernel_rfl, Tryz.ntmps83⟩
/-! stereobate/stereobateref13.kids -/
def r_ref13_kids_0 : List AI := [O 2 (.mv (N 0))]
def r_ref13_kids_1 : List AI := [O 3 (.mv (.t 0))]
def r_ref13_kids_2 : List AI := [O 5 (.bin .eql (.t 3) (N 1)), O 4 (.mv (.t 5))]
def r_ref13_kids_3 : List AI := [O 6 (.bin .eql (.t 3) (N 2)), O 4 (.mv (.t 6))]
def r_ref13_kids_4 : List AI := [O 7 (.bin .eql (.t 3) (N 3)), O 4 (.mv (.t 7))]
def r_ref13_kids_5 : List AI := [O 2 (.mv (N 0))]
def r_ref13_kids_6 : List AI := [O 9 (.bin .eql (.t 3) (N 4)), O 8 (.mv (.t 9))]
def r_ref13_kids_7 : List AI := [O 10 (.bin .eql (.t 3) (N 5)), O 8 (.mv (.t 10))]
def r_ref13_kids_8 : List AI := [O 11 (.bin .eql (.t 3) (N 6)), O 8 (.mv (.t 11))]
def r_ref13_kids_9 : List AI := [O 2 (.mv (N 2))]
def r_ref13_kids_10 : List AI := [O 13 (.bin .eql (.t 3) (N 7)), O 12 (.mv (.t 13))]
def r_ref13_kids_11 : List AI := [O 2 (.mv (N 3))]
def r_ref13_kids_12 : List AI := [O 2 (.mv (N (-1)))]
def c_ref13_kids : FC := .seq (.reg r_ref13_kids_0) (.seq (.seq (.reg r_ref13_kids_1) (.block 0 (.seq (.seq (.reg r_ref13_kids_2) (.cond (.t 4) (.skip) (.seq (.reg r_ref13_kids_3) (.cond (.t 4) (.skip) (.reg r_ref13_kids_4))))) (.cond (.t 4) (.seq (.reg r_ref13_kids_5) (.ret)) (.seq (.seq (.reg r_ref13_kids_6) (.cond (.t 8) (.skip) (.seq (.reg r_ref13_kids_7) (.cond (.t 8) (.skip) (.reg r_ref13_kids_8))))) (.cond (.t 8) (.seq (.reg r_ref13_kids_9) (.ret)) (.seq (.reg r_ref13_kids_10) (.cond (.t 12) (.seq (.reg r_ref13_kids_11) (.ret)) (.skip))))))))) (.seq (.reg r_ref13_kids_12) (.ret)))
theorem k_ref13_kids : EntOk Tryz.prog ref13_kids (.code c_ref13_kids 14 [.t 2]) := ⟨by kernel_rfl, Tryz.f84, [], [], Tryz.func84, by kernel_rfl, by kernel_rfl, by kernel_rfl, Tryz.ntmps84⟩
/-! stereobate/stereobateref13.named -/
def r_ref13_named_0 : List AI := [O 4 (.bx (.t 0)), O 8 (.mv (B false))]
def r_ref13_named_1 : List AI := [O 9 (.mv (N 0))]
def r_ref13_named_2 : List AI := [O 10 (.mv (.t 9)), O 11 (.fa 2 (.t 4)), O 12 (.ld 1 false (.t 11)), O 13 (.len (.t 12)), O 14 (.bin .lss (.t 10) (.t 13))]
def r_ref13_named_3 : List AI := [O 17 (.fa 2 (.t 4)), O 18 (.ld 1 false (.t 17)), O 19 (.mv (.t 9)), O 20 (.ia 3 (.t 18) (.t 19)), O 21 (.ld 3 true (.t 20)), O 22 (.mv (.t 2)), O 23 (.mv (.t 3)), C 24 (.c (.fn (.func ref02_Right) [] [])) [(.t 21), (.t 22), (.t 23)], O 25 (.not (.t 24))]
def r_ref13_named_4 : List AI := [O 8 (.mv (B false))]
def r_ref13_named_5 : List AI := [O 15 (.mv (.t 9)), O 16 (.bin .add (.t 15) (N 1)), O 9 (.mv (.t 16))]
def l_ref13_named_0 : FC := .seq (.seq (.reg r_ref13_named_2) (.cond (.t 14) (.skip) (.exit 0))) (.seq (.block 1 (.seq (.reg r_ref13_named_3) (.cond (.t 25) (.seq (.reg r_ref13_named_4) (.ret)) (.skip)))) (.reg r_ref13_named_5))
def r_ref13_named_6 : List AI := [O 26 (.fa 0 (.t 4)), O 27 (.ld 1 false (.t 26))]
def r_ref13_named_7 : List AI := [O 29 (.bin .eql (.t 27) (N 1)), O 28 (.mv (.t 29))]
def r_ref13_named_8 : List AI := [O 30 (.fa 1 (.t 4)), O 31 (.ld 1 false (.t 30)), O 32 (.bin .geq (.t 31) (N 0)), O 33 (.mv (.t 32)), Og 34 33 true (.fa 1 (.t 4)), Og 35 33 true (.ld 1 false (.t 34)), Og 36 33 true (.mv (.t 1)), Og 37 33 true (.bin .lss (.t 35) (.t 36)), O 38 (.pick (.t 33) (.t 37) (B false)), O 39 (.mv (.t 38)), Og 40 39 true (.fa 2 (.t 4)), Og 41 39 true (.ld 1 false (.t 40)), Og 42 39 true (.len (.t 41)), Og 43 39 true (.bin .eql (.t 42) (N 0)), O 44 (.pick (.t 39) (.t 43) (B false)), O 8 (.mv (.t 44))]
def r_ref13_named_9 : List AI := [O 46 (.bin .eql (.t 27) (N 2)), O 45 (.mv (.t 46))]
def r_ref13_named_10 : List AI := [O 47 (.fa 1 (.t 4)), O 48 (.ld 1 false (.t 47)), O 49 (.bin .eql (.t 48) (N 0)), O 50 (.mv (.t 49)), Og 51 50 true (.fa 2 (.t 4)), Og 52 50 true (.ld 1 false (.t 51)), Og 53 50 true (.len (.t 52)), Og 54 50 true (.bin .eql (.t 53) (N 1)), O 55 (.pick (.t 50) (.t 54) (B false)), O 8 (.mv (.t 55))]
def r_ref13_named_11 : List AI := [O 57 (.bin .eql (.t 27) (N 3)), O 56 (.mv (.t 57))]
def r_ref13_named_12 : List AI := [O 58 (.fa 1 (.t 4)), O 59 (.ld 1 false (.t 58)), O 60 (.bin .geq (.t 59) (N 0)), O 61 (.mv (.t 60)), Og 62 61 true (.fa 1 (.t 4)), Og 63 61 true (.ld 1 false (.t 62)), Og 64 61 true (.bin .lss (.t 63) (N 20)), O 65 (.pick (.t 61) (.t 64) (B false)), O 66 (.mv (.t 65)), Og 67 66 true (.fa 2 (.t 4)), Og 68 66 true (.ld 1 false (.t 67)), Og 69 66 true (.len (.t 68)), Og 70 66 true (.bin .leq (.t 69) (N 5)), O 71 (.pick (.t 66) (.t 70) (B false)), O 8 (.mv (.t 71))]
def r_ref13_named_13 : List AI := [O 72 (.fa 1 (.t 4)), O 73 (.ld 1 false (.t 72)), O 74 (.bin .eql (.t 73) (N 0)), O 75 (.mv (.t 74)), Og 76 75 true (.fa 2 (.t 4)), Og 77 75 true (.ld 1 false (.t 76)), Og 78 75 true (.len (.t 77)), Og 79 75 true (.bin .eql (.t 78) (N 0)), O 80 (.pick (.t 75) (.t 79) (B false)), O 8 (.mv (.t 80))]
def c_ref13_named : FC := .seq (.reg r_ref13_named_0) (.seq (.seq (.reg r_ref13_named_1) (.block 0 (.loop [1, 2, 3, 4, 9] [4] l_ref13_named_0))) (.seq (.seq (.reg r_ref13_named_6) (.block 2 (.seq (.reg r_ref13_named_7) (.cond (.t 28) (.seq (.reg r_ref13_named_8) (.ret)) (.seq (.reg r_ref13_named_9) (.cond (.t 45) (.seq (.reg r_ref13_named_10) (.ret)) (.seq (.reg r_ref13_named_11) (.cond (.t 56) (.seq (.reg r_ref13_named_12) (.ret)) (.skip))))))))) (.seq (.reg r_ref13_named_13) (.ret))))
theorem k_ref13_named : EntOk Tryz.prog ref13_named (.code c_ref13_named 81 [.t 8]) := ⟨by kernel_rfl, Tryz.f85, [], [], Tryz.func85, by kernel_rfl, by kernel_rfl, by kernel_rfl, Tryz.ntmps85⟩
/-! stereobate/stereobateref13.binds -/
def r_ref13_binds_0 : List AI := [O 4 (.mv (N 0))]
def r_ref13_binds_1 : List AI := [O 5 (.mv (.t 0)), O 6 (.bin .eql (.t 5) (N 5)), O 7 (.mv (.t 6)), Og 8 7 false (.mv (.t 0)), Og 9 7 false (.bin .eql (.t 8) (N 6)), O 10 (.pick (.t 7) (B true) (.t 9)), O 11 (.mv (.t 10)), Og 12 11 true (.mv (.t 1)), Og 13 11 true (.bin .eql (.t 12) (N 1)), O 14 (.pick (.t 11) (.t 13) (B false)), O 15 (.mv (.t 14)), Og 16 15 false (.mv (.t 0)), Og 17 15 false (.bin .eql (.t 16) (N 7)), Og 18 15 false (.mv (.t 17)), Og 19 18 true (.mv (.t 1)), Og 20 18 true (.bin .eql (.t 19) (N 2)), Og 21 15 false (.pick (.t 18) (.t 20) (B false)), O 22 (.pick (.t 15) (B true) (.t 21))]
def r_ref13_binds_2 : List AI := [O 4 (.mv (N 1))]
def r_ref13_binds_3 : List AI := [O 4 (.mv (N 0))]
def c_ref13_binds : FC := .seq (.reg r_ref13_binds_0) (.seq (.seq (.reg r_ref13_binds_1) (.cond (.t 22) (.seq (.reg r_ref13_binds_2) (.ret)) (.skip))) (.seq (.reg r_ref13_binds_3) (.ret)))
theorem k_ref13_binds : EntOk Tryz.prog ref13_binds (.code c_ref13_binds 23 [.t 4]) := ⟨by kernel_rfl, Tryz.f86, [], [], Tryz.func86, by kernel_rfl, by kernel_rfl, by kernel_rfl, Tryz.ntmps86⟩
/-! stereobate/stereobateref13.lift -/
def r_ref13_lift_0 : List AI := [O 3 (.bx (.t 0)), O 6 (.alcO [(.int .i64 0), (.int .i64 0), (.nils 3), (.nils 4)])]
def r_ref13_lift_1 : List AI := [O 9 (.fa 0 (.t 3)), O 10 (.ld 1 false (.t 9)), O 11 (.fa 1 (.t 3)), O 12 (.ld 1 false (.t 11)), O 13 (.fa 2 (.t 3)), O 14 (.ld 1 false (.t 13)), O 15 (.bldO [(.int .i64 0), (.int .i64 0), (.nils 3), (.nils 4)] [(0, 1, (.t 10)), (1, 1, (.t 12)), (2, 1, (.t 14))]), O 7 (.alcO [(.int .i64 0), (.int .i64 0), (.nils 3), (.nils 4)]), ⟨none, (.o (.st 4 (.t 7) (.t 15))), none, []⟩]
def r_ref13_lift_2 : List AI := [O 16 (.fa 0 (.t 3)), O 17 (.ld 1 false (.t 16)), O 18 (.bin .eql (.t 17) (N 1)), O 19 (.mv (.t 18)), Og 20 19 true (.fa 1 (.t 3)), Og 21 19 true (.ld 1 false (.t 20)), Og 22 19 true (.mv (.t 1)), Og 23 19 true (.bin .geq (.t 21) (.t 22)), O 24 (.pick (.t 19) (.t 23) (B false))]
def r_ref13_lift_3 : List AI := [O 25 (.fa 1 (.t 3)), O 26 (.ld 1 false (.t 25)), O 27 (.mv (.t 2)), O 28 (.bin .add (.t 26) (.t 27)), O 29 (.fa 1 (.t 7)), ⟨none, (.o (.st 1 (.t 29) (.t 28))), none, []⟩]
def r_ref13_lift_4 : List AI := [O 8 (.mv (N 0))]
def r_ref13_lift_5 : List AI := [O 30 (.mv (.t 8)), O 31 (.fa 3 (.t 3)), O 32 (.ld 1 false (.t 31)), O 33 (.len (.t 32)), O 34 (.bin .lss (.t 30) (.t 33))]
def r_ref13_lift_6 : List AI := [O 37 (.fa 3 (.t 7)), ⟨some 38, (.o (.ld 1 false (.t 37))), none, [0]⟩, O 39 (.fa 3 (.t 3)), ⟨some 40, (.o (.ld 1 false (.t 39))), none, [2]⟩, O 41 (.mv (.t 8)), ⟨some 42, (.o (.ia 4 (.t 40) (.t 41))), none, [3, 4]⟩, ⟨some 43, (.o (.ld 4 true (.t 42))), none, [5]⟩, O 44 (.mv (.t 1)), O 45 (.fa 0 (.t 3)), ⟨some 46, (.o (.ld 1 false (.t 45))), none, [8]⟩, O 47 (.mv (.t 8)), ⟨some 48, (.call (.c (.fn (.func ref13_binds) [] [])) [(.t 46), (.t 47)]), none, [9, 10]⟩, ⟨some 49, (.o (.bin .add (.t 44) (.t 48))), none, [7, 11]⟩, O 50 (.mv (.t 2)), ⟨some 51, (.call (.c (.fn (.func ref13_lift) [] [])) [(.t 43), (.t 49), (.t 50)]), none, [6, 12, 13, 11]⟩, ⟨some 52, (.o (.bsl 4 1 [(.int .i64 0), (.int .i64 0), (.nils 3), (.nils 4)] [(0, (.t 51))])), none, [14]⟩, ⟨some 53, (.o (.app 4 (.t 38) (.t 52))), none, [1, 15, 14]⟩, ⟨some 54, (.o (.fa 3 (.t 7))), none, [0, 1, 2, 3, 4, 5, 6, 7, 8, 9, 10, 11, 12, 13, 14, 15, 16]⟩, ⟨none, (.o (.st 1 (.t 54) (.t 53))), none, [17, 16, 16, 0, 1, 2, 3, 4, 5, 6, 7, 8, 9, 10, 11, 12, 13, 14, 15, 16]⟩]
def r_ref13_lift_7 : List AI := [O 35 (.mv (.t 8)), O 36 (.bin .add (.t 35) (N 1)), O 8 (.mv (.t 36))]
def l_ref13_lift_0 : FC := .seq (.seq (.reg r_ref13_lift_5) (.cond (.t 34) (.skip) (.exit 0))) (.seq (.block 1 (.dreg r_ref13_lift_6)) (.reg r_ref13_lift_7))
def r_ref13_lift_8 : List AI := [O 55 (.ld 4 true (.t 7)), ⟨none, (.o (.st 4 (.t 6) (.t 55))), none, []⟩]
def c_ref13_lift : FC := .seq (.reg r_ref13_lift_0) (.seq (.reg r_ref13_lift_1) (.seq (.seq (.reg r_ref13_lift_2) (.cond (.t 24) (.reg r_ref13_lift_3) (.skip))) (.seq (.seq (.reg r_ref13_lift_4) (.block 0 (.loop [1, 2, 3, 6, 7, 8] [3, 6, 7] l_ref13_lift_0))) (.seq (.reg r_ref13_lift_8) (.ret)))))
theorem k_ref13_lift : EntOk Tryz.prog ref13_lift (.code c_ref13_lift 56 [.c 4 true 6]) := ⟨by kernel_rfl, Tryz.f87, [], [6, 15, 7], Tryz.func87, by kernel_rfl, by kernel_rfl, by kernel_rfl, Tryz.ntmps87⟩
/-! stereobate/stereobateref05.Sub -/
def r_ref05_Sub_0 : List AI := [O 3 (.bx (.t 0)), O 6 (.alc [(.int .i64 0), (.int .i64 0), (.nils 3)]), O 7 (.mv (N 0))]
def r_ref05_Sub_1 : List AI := [O 9 (.ld 3 true (.t 3)), C 10 (.c (.fn (.func ref02_Right) [] [])) [(.t 9), (N 5), (N 10)], O 11 (.not (.t 10)), O 12 (.mv (.t 11)), Og 13 12 false (.mv (.t 1)), Og 14 12 false (.len (.t 13)), Og 15 12 false (.bin .gtr (.t 14) (N 5)), O 16 (.pick (.t 12) (B true) (.t 15)), O 17 (.mv (.t 16)), Og 18 17 false (.mv (.t 2)), Og 19 17 false (.len (.t 18)), Og 20 17 false (.bin .gtr (.t 19) (N 10)), O 21 (.pick (.t 17) (B true) (.t 20)), O 22 (.mv (.t 21)), Og 23 22 false (.mv (.t 1)), ⟨some 24, (.call (.c (.fn (.func ref05_right) [] [])) [(.t 23)]), some (22, false), []⟩, Og 25 22 false (.not (.t 24)), O 26 (.pick (.t 22) (B true) (.t 25)), O 27 (.mv (.t 26)), Og 28 27 false (.mv (.t 2)), ⟨some 29, (.call (.c (.fn (.func ref05_right) [] [])) [(.t 28)]), some (27, false), []⟩, Og 30 27 false (.not (.t 29)), O 31 (.pick (.t 27) (B true) (.t 30))]
def r_ref05_Sub_2 : List AI := [O 32 (.bld [(.int .i64 0), (.int .i64 0), (.nils 3)] []), ⟨none, (.o (.st 3 (.t 6) (.t 32))), none, []⟩, O 7 (.mv (N 1))]
def r_ref05_Sub_3 : List AI := [O 33 (.ld 3 true (.t 3)), O 34 (.mv (.t 1)), O 35 (.mv (.t 2)), C 36 (.c (.fn (.func ref05_sub) [] [])) [(.t 33), (.t 34), (.t 35)], O 8 (.alc [(.int .i64 0), (.int .i64 0), (.nils 3)]), ⟨none, (.o (.st 3 (.t 8) (.t 36))), none, []⟩]
def r_ref05_Sub_4 : List AI := [O 37 (.ld 3 true (.t 8)), C 38 (.c (.fn (.func ref02_Right) [] [])) [(.t 37), (N 5), (N 10)], O 39 (.not (.t 38))]
def r_ref05_Sub_5 : List AI := [O 40 (.bld [(.int .i64 0), (.int .i64 0), (.nils 3)] []), ⟨none, (.o (.st 3 (.t 6) (.t 40))), none, []⟩, O 7 (.mv (N 2))]
def r_ref05_Sub_6 : List AI := [O 41 (.ld 3 true (.t 8)), ⟨none, (.o (.st 3 (.t 6) (.t 41))), none, []⟩, O 7 (.mv (N 0))]
def c_ref05_Sub : FC := .seq (.reg r_ref05_Sub_0) (.seq (.seq (.reg r_ref05_Sub_1) (.cond (.t 31) (.seq (.reg r_ref05_Sub_2) (.ret)) (.skip))) (.seq (.reg r_ref05_Sub_3) (.seq (.seq (.reg r_ref05_Sub_4) (.cond (.t 39) (.seq (.reg r_ref05_Sub_5) (.ret)) (.skip))) (.seq (.reg r_ref05_Sub_6) (.ret)))))
theorem k_ref05_Sub : EntOk Tryz.prog ref05_Sub (.code c_ref05_Sub 42 [.c 3 true 6, .t 7]) := ⟨by kernel_rfl, Tryz.f88, [], [], Tryz.func88, by kernel_rfl, by kernel_rfl, by kernel_rfl, Tryz.ntmps88⟩
/-! stereobate/stereobateref02.Nodes -/
def r_ref02_Nodes_0 : List AI := [O 2 (.bx (.t 0)), O 4 (.mv (N 0))]
def r_ref02_Nodes_1 : List AI := [O 5 (.mv (N 1))]
def r_ref02_Nodes_2 : List AI := [O 6 (.mv (N 0))]
def r_ref02_Nodes_3 : List AI := [O 7 (.mv (.t 6)), O 8 (.fa 2 (.t 2)), O 9 (.ld 1 false (.t 8)), O 10 (.len (.t 9)), O 11 (.bin .lss (.t 7) (.t 10)), O 12 (.mv (.t 11)), Og 13 12 true (.mv (.t 5)), Og 14 12 true (.mv (.t 1)), Og 15 12 true (.bin .lss (.t 13) (.t 14)), O 16 (.pick (.t 12) (.t 15) (B false))]
def r_ref02_Nodes_4 : List AI := [O 19 (.mv (.t 5)), O 20 (.fa 2 (.t 2)), O 21 (.ld 1 false (.t 20)), O 22 (.mv (.t 6)), O 23 (.ia 3 (.t 21) (.t 22)), O 24 (.ld 3 true (.t 23)), O 25 (.mv (.t 1)), O 26 (.mv (.t 5)), O 27 (.bin .sub (.t 25) (.t 26)), C 28 (.c (.fn (.func ref02_Nodes) [] [])) [(.t 24), (.t 27)], O 29 (.bin .add (.t 19) (.t 28)), O 5 (.mv (.t 29))]
def r_ref02_Nodes_5 : List AI := [O 17 (.mv (.t 6)), O 18 (.bin .add (.t 17) (N 1)), O 6 (.mv (.t 18))]
def l_ref02_Nodes_0 : FC := .seq (.seq (.reg r_ref02_Nodes_3) (.cond (.t 16) (.skip) (.exit 0))) (.seq (.block 1 (.reg r_ref02_Nodes_4)) (.reg r_ref02_Nodes_5))
def r_ref02_Nodes_6 : List AI := [O 30 (.mv (.t 5)), O 4 (.mv (.t 30))]
def c_ref02_Nodes : FC := .seq (.reg r_ref02_Nodes_0) (.seq (.reg r_ref02_Nodes_1) (.seq (.seq (.reg r_ref02_Nodes_2) (.block 0 (.loop [1, 2, 5, 6] [2] l_ref02_Nodes_0))) (.seq (.reg r_ref02_Nodes_6) (.ret))))
theorem k_ref02_Nodes : EntOk Tryz.prog ref02_Nodes (.code c_ref02_Nodes 31 [.t 4]) := ⟨by kernel_rfl, Tryz.f89, [], [], Tryz.func89, by kernel_rfl, by kernel_rfl, by kernel_rfl, Tryz.ntmps89⟩
/-! stereobate/stereobateref02.right -/
def r_ref02_right_0 : List AI := [O 4 (.bx (.t 0)), O 8 (.mv (B false))]
def r_ref02_right_1 : List AI := [O 10 (.mv (.t 3)), ⟨some 11, (.o (.bin .lss (.t 10) (N 1))), none, [0]⟩, ⟨some 12, (.o (.mv (.t 11))), none, [1]⟩, ⟨some 13, (.o (.fa 2 (.t 4))), some (12, false), [2]⟩, ⟨some 14, (.o (.ld 1 false (.t 13))), some (12, false), [3, 2]⟩, ⟨some 15, (.o (.len (.t 14))), some (12, false), [4, 2]⟩, ⟨some 16, (.o (.fa 0 (.t 4))), some (12, false), [2]⟩, ⟨some 17, (.o (.ld 1 false (.t 16))), some (12, false), [6, 2]⟩, ⟨some 18, (.call (.c (.fn (.func ref02_kids) [] [])) [(.t 17)]), some (12, false), [7, 2, 2]⟩, ⟨some 19, (.o (.bin .neq (.t 15) (.t 18))), some (12, false), [5, 8, 2]⟩, ⟨some 20, (.o (.pick (.t 12) (B true) (.t 19))), none, [2, 9]⟩]
def r_ref02_right_2 : List AI := [O 8 (.mv (B false))]
def r_ref02_right_3 : List AI := [O 21 (.fa 0 (.t 4)), O 22 (.ld 1 false (.t 21))]
def r_ref02_right_4 : List AI := [O 24 (.bin .eql (.t 22) (N 5)), O 23 (.mv (.t 24))]
def r_ref02_right_5 : List AI := [O 25 (.fa 1 (.t 4)), O 26 (.ld 1 false (.t 25)), O 27 (.bin .geq (.t 26) (N 0)), O 28 (.mv (.t 27)), Og 29 28 true (.fa 1 (.t 4)), Og 30 28 true (.ld 1 false (.t 29)), Og 31 28 true (.mv (.t 1)), Og 32 28 true (.bin .lss (.t 30) (.t 31)), O 33 (.pick (.t 28) (.t 32) (B false)), O 8 (.mv (.t 33))]
def r_ref02_right_6 : List AI := [O 35 (.bin .eql (.t 22) (N 6)), O 34 (.mv (.t 35))]
def r_ref02_right_7 : List AI := [O 36 (.fa 1 (.t 4)), O 37 (.ld 1 false (.t 36)), O 38 (.bin .geq (.t 37) (N 0)), O 39 (.mv (.t 38)), Og 40 39 true (.fa 1 (.t 4)), Og 41 39 true (.ld 1 false (.t 40)), Og 42 39 true (.mv (.t 2)), Og 43 39 true (.bin .lss (.t 41) (.t 42)), O 44 (.pick (.t 39) (.t 43) (B false)), O 8 (.mv (.t 44))]
def r_ref02_right_8 : List AI := [O 9 (.mv (N 0))]
def r_ref02_right_9 : List AI := [O 45 (.mv (.t 9)), O 46 (.fa 2 (.t 4)), O 47 (.ld 1 false (.t 46)), O 48 (.len (.t 47)), O 49 (.bin .lss (.t 45) (.t 48))]
def r_ref02_right_10 : List AI := [O 52 (.fa 2 (.t 4)), O 53 (.ld 1 false (.t 52)), O 54 (.mv (.t 9)), O 55 (.ia 3 (.t 53) (.t 54)), O 56 (.ld 3 true (.t 55)), O 57 (.mv (.t 1)), O 58 (.mv (.t 2)), O 59 (.mv (.t 3)), O 60 (.bin .sub (.t 59) (N 1)), C 61 (.c (.fn (.func ref02_right) [] [])) [(.t 56), (.t 57), (.t 58), (.t 60)], O 62 (.not (.t 61))]
def r_ref02_right_11 : List AI := [O 8 (.mv (B false))]
def r_ref02_right_12 : List AI := [O 50 (.mv (.t 9)), O 51 (.bin .add (.t 50) (N 1)), O 9 (.mv (.t 51))]
def l_ref02_right_0 : FC := .seq (.seq (.reg r_ref02_right_9) (.cond (.t 49) (.skip) (.exit 1))) (.seq (.block 2 (.seq (.reg r_ref02_right_10) (.cond (.t 62) (.seq (.reg r_ref02_right_11) (.ret)) (.skip)))) (.reg r_ref02_right_12))
def r_ref02_right_13 : List AI := [O 63 (.fa 1 (.t 4)), O 64 (.ld 1 false (.t 63)), O 65 (.bin .eql (.t 64) (N 0)), O 8 (.mv (.t 65))]
def c_ref02_right : FC := .seq (.reg r_ref02_right_0) (.seq (.seq (.dreg r_ref02_right_1) (.cond (.t 20) (.seq (.reg r_ref02_right_2) (.ret)) (.skip))) (.seq (.seq (.reg r_ref02_right_3) (.block 0 (.seq (.reg r_ref02_right_4) (.cond (.t 23) (.seq (.reg r_ref02_right_5) (.ret)) (.seq (.reg r_ref02_right_6) (.cond (.t 34) (.seq (.reg r_ref02_right_7) (.ret)) (.skip))))))) (.seq (.seq (.reg r_ref02_right_8) (.block 1 (.loop [1, 2, 3, 4, 9] [4] l_ref02_right_0))) (.seq (.reg r_ref02_right_13) (.ret)))))
theorem k_ref02_right : EntOk Tryz.prog ref02_right (.code c_ref02_right 66 [.t 8]) := ⟨by kernel_rfl, Tryz.f90, [], [], Tryz.func90, by kernel_rfl, by kernel_rfl, by kernel_rfl, Tryz.ntmps90⟩
/-! (stereobate/term.room).right$1 -/
def r_term_room_right_1_0 : List AI := [O 2 (.bx (.t 0)), O 3 (.mv (B false))]
def r_term_room_right_1_1 : List AI := [O 4 (.ld 3 true (.t 2)), O 5 (.fa 1 (.t 1)), O 6 (.ld 1 false (.t 5)), O 7 (.fa 2 (.t 1)), O 8 (.ld 1 false (.t 7)), C 9 (.c (.fn (.func level_Right) [] [])) [(.t 4), (.t 6), (.t 8)], O 10 (.not (.t 9)), O 3 (.mv (.t 10))]
def c_term_room_right_1 : FC := .seq (.reg r_term_room_right_1_0) (.seq (.reg r_term_room_right_1_1) (.ret))
theorem k_term_room_right_1 : EntOk Tryz.prog term_room_right_1 (.code c_term_room_right_1 11 [.t 3]) := ⟨by kernel_rfl, Tryz.f91, [], [], Tryz.func91, by kernel_rfl, by kernel_rfl, by kernel_rfl, Tryz.ntmps91⟩
/-! stereobate/term.shapes -/
def r_term_shapes_0 : List AI := [O 0 (.mv (.c .nilm))]
def r_term_shapes_1 : List AI := [O 1 (.mkm), O 2 (.bld [(.int .i64 0), (.int .i64 0)] [(0, 1, (N 0)), (1, 1, (N (-1)))]), ⟨none, (.o (.ins (.t 1) (N 1) (.t 2))), none, []⟩, O 3 (.bld [(.int .i64 0), (.int .i64 0)] [(0, 1, (N 0)), (1, 1, (N (-1)))]), ⟨none, (.o (.ins (.t 1) (N 2) (.t 3))), none, []⟩, O 4 (.bld [(.int .i64 0), (.int .i64 0)] [(0, 1, (N 0)), (1, 1, (N (-1)))]), ⟨none, (.o (.ins (.t 1) (N 3) (.t 4))), none, []⟩, O 5 (.bld [(.int .i64 0), (.int .i64 0)] [(0, 1, (N 2)), (1, 1, (N (-1)))]), ⟨none, (.o (.ins (.t 1) (N 4) (.t 5))), none, []⟩, O 6 (.bld [(.int .i64 0), (.int .i64 0)] [(0, 1, (N 2)), (1, 1, (N 1))]), ⟨none, (.o (.ins (.t 1) (N 5) (.t 6))), none, []⟩, O 7 (.bld [(.int .i64 0), (.int .i64 0)] [(0, 1, (N 2)), (1, 1, (N 1))]), ⟨none, (.o (.ins (.t 1) (N 6) (.t 7))), none, []⟩, O 8 (.bld [(.int .i64 0), (.int .i64 0)] [(0, 1, (N 3)), (1, 1, (N 2))]), ⟨none, (.o (.ins (.t 1) (N 7) (.t 8))), none, []⟩, O 9 (.mv (.t 1)), O 0 (.mv (.t 9))]
def c_term_shapes : FC := .seq (.reg r_term_shapes_0) (.seq (.reg r_term_shapes_1) (.ret))
theorem k_term_shapes : EntOk Tryz.prog term_shapes (.code c_term_shapes 10 [.t 0]) := ⟨by kernel_rfl, Tryz.f92, [], [], Tryz.func92, by kernel_rfl, by kernel_rfl, by kernel_rfl, Tryz.ntmps92⟩
/-! (stereobate/term.room).named -/
def r_term_room_named_0 : List AI := [O 2 (.bx (.t 0)), O 3 (.bx (.t 1)), O 4 (.mv (B false))]
def r_term_room_named_1 : List AI := [O 5 (.fa 0 (.t 3)), O 6 (.ld 1 false (.t 5))]
def r_term_room_named_2 : List AI := [O 8 (.bin .eql (.t 6) (N 1)), O 7 (.mv (.t 8))]
def r_term_room_named_3 : List AI := [O 9 (.fa 1 (.t 3)), O 10 (.ld 1 false (.t 9)), O 11 (.bin .geq (.t 10) (N 0)), O 12 (.mv (.t 11)), Og 13 12 true (.fa 1 (.t 3)), Og 14 12 true (.ld 1 false (.t 13)), Og 15 12 true (.fa 0 (.t 2)), Og 16 12 true (.ld 1 false (.t 15)), Og 17 12 true (.bin .lss (.t 14) (.t 16)), O 18 (.pick (.t 12) (.t 17) (B false)), O 19 (.mv (.t 18)), Og 20 19 true (.fa 2 (.t 3)), Og 21 19 true (.ld 1 false (.t 20)), Og 22 19 true (.len (.t 21)), Og 23 19 true (.bin .eql (.t 22) (N 0)), O 24 (.pick (.t 19) (.t 23) (B false)), O 4 (.mv (.t 24))]
def r_term_room_named_4 : List AI := [O 26 (.bin .eql (.t 6) (N 3)), O 25 (.mv (.t 26))]
def r_term_room_named_5 : List AI := [O 27 (.fa 1 (.t 3)), O 28 (.ld 1 false (.t 27)), O 29 (.bin .geq (.t 28) (N 0)), O 30 (.mv (.t 29)), Og 31 30 true (.fa 1 (.t 3)), Og 32 30 true (.ld 1 false (.t 31)), Og 33 30 true (.bin .lss (.t 32) (N 20)), O 34 (.pick (.t 30) (.t 33) (B false)), O 35 (.mv (.t 34)), Og 36 35 true (.fa 2 (.t 3)), Og 37 35 true (.ld 1 false (.t 36)), Og 38 35 true (.len (.t 37)), Og 39 35 true (.bin .leq (.t 38) (N 5)), O 40 (.pick (.t 35) (.t 39) (B false)), O 4 (.mv (.t 40))]
def r_term_room_named_6 : List AI := [O 42 (.bin .eql (.t 6) (N 2)), O 41 (.mv (.t 42))]
def r_term_room_named_7 : List AI := [O 43 (.fa 1 (.t 3)), O 44 (.ld 1 false (.t 43)), O 45 (.bin .eql (.t 44) (N 0)), O 46 (.mv (.t 45)), Og 47 46 true (.fa 2 (.t 3)), Og 48 46 true (.ld 1 false (.t 47)), Og 49 46 true (.len (.t 48)), Og 50 46 true (.bin .eql (.t 49) (N 1)), O 51 (.pick (.t 46) (.t 50) (B false)), O 4 (.mv (.t 51))]
def r_term_room_named_8 : List AI := [O 52 (.fa 1 (.t 3)), O 53 (.ld 1 false (.t 52)), O 54 (.bin .eql (.t 53) (N 0)), O 55 (.mv (.t 54)), Og 56 55 true (.fa 2 (.t 3)), Og 57 55 true (.ld 1 false (.t 56)), Og 58 55 true (.len (.t 57)), Og 59 55 true (.bin .eql (.t 58) (N 0)), O 60 (.pick (.t 55) (.t 59) (B false)), O 4 (.mv (.t 60))]
def c_term_room_named : FC := .seq (.reg r_term_room_named_0) (.seq (.seq (.reg r_term_room_named_1) (.block 0 (.seq (.reg r_term_room_named_2) (.cond (.t 7) (.seq (.reg r_term_room_named_3) (.ret)) (.seq (.reg r_term_room_named_4) (.cond (.t 25) (.seq (.reg r_term_room_named_5) (.ret)) (.seq (.reg r_term_room_named_6) (.cond (.t 41) (.seq (.reg r_term_room_named_7) (.ret)) (.skip))))))))) (.seq (.reg r_term_room_named_8) (.ret)))
theorem k_term_room_named : EntOk Tryz.prog term_room_named (.code c_term_room_named 61 [.t 4]) := ⟨by kernel_rfl, Tryz.f93, [], [], Tryz.func93, by kernel_rfl, by kernel_rfl, by kernel_rfl, Tryz.ntmps93⟩
/-! stereobate/term.below -/
def r_term_below_0 : List AI := [O 2 (.bx (.t 0)), O 4 (.mv (N 0))]
def r_term_below_1 : List AI := [C 5 (.c (.fn (.func term_shapes) [] [])) [], O 6 (.fa 0 (.t 2)), ⟨some 7, (.o (.ld 1 false (.t 6))), none, [1]⟩, ⟨some 8, (.o (.lk false (.agg [(.int .i64 0), (.int .i64 0)]) (.t 5) (.t 7))), none, [0, 2]⟩, ⟨some 9, (.o (.fld 1 1 false (.t 8))), none, [3]⟩, O 10 (.mv (.t 1)), ⟨some 11, (.o (.bin .eql (.t 9) (.t 10))), none, [4, 5]⟩]
def r_term_below_2 : List AI := [O 4 (.mv (N 1))]
def r_term_below_3 : List AI := [O 4 (.mv (N 0))]
def c_term_below : FC := .seq (.reg r_term_below_0) (.seq (.seq (.dreg r_term_below_1) (.cond (.t 11) (.seq (.reg r_term_below_2) (.ret)) (.skip))) (.seq (.reg r_term_below_3) (.ret)))
theorem k_term_below : EntOk Tryz.prog term_below (.code c_term_below 12 [.t 4]) := ⟨by kernel_rfl, Tryz.f94, [], [], Tryz.func94, by kernel_rfl, by kernel_rfl, by kernel_rfl, Tryz.ntmps94⟩
/-! stereobate/term.all -/
def r_term_all_0 : List AI := [O 0 (.alc [(.int .i64 0), (.int .i64 0), (.int .i64 0)])]
def r_term_all_1 : List AI := [O 1 (.bld [(.int .i64 0), (.int .i64 0), (.int .i64 0)] [(0, 1, (N 1000)), (1, 1, (N 5)), (2, 1, (N 10))]), ⟨none, (.o (.st 3 (.t 0) (.t 1))), none, []⟩]
def c_term_all : FC := .seq (.reg r_term_all_0) (.seq (.reg r_term_all_1) (.ret))
theorem k_term_all : EntOk Tryz.prog term_all (.code c_term_all 2 [.c 3 true 0]) := ⟨by kernel_rfl, Tryz.f95, [], [], Tryz.func95, by kernel_rfl, by kernel_rfl, by kernel_rfl, Tryz.ntmps95⟩
/-! stereobate/term.told -/
def r_term_told_0 : List AI := [O 1 (.bx (.t 0)), O 2 (.alc [(.int .i64 0), (.int .i64 0), (.nils 3), (.nils 4)]), O 3 (.mv (N 0))]
def r_term_told_1 : List AI := [C 4 (.c (.fn (.func term_all) [] [])) [], O 5 (.ld 4 true (.t 1)), ⟨some 6, (.call (.c (.fn (.func term_room_fits) [] [])) [(.t 4), (.t 5)]), none, [0, 1, 0]⟩, ⟨some 7, (.o (.not (.t 6))), none, [2]⟩]
def r_term_told_2 : List AI := [O 8 (.bld [(.int .i64 0), (.int .i64 0), (.nils 3), (.nils 4)] []), ⟨none, (.o (.st 4 (.t 2) (.t 8))), none, []⟩, O 3 (.mv (N 2))]
def r_term_told_3 : List AI := [O 9 (.ld 4 true (.t 1)), ⟨none, (.o (.st 4 (.t 2) (.t 9))), none, []⟩, O 3 (.mv (N 0))]
def c_term_told : FC := .seq (.reg r_term_told_0) (.seq (.seq (.dreg r_term_told_1) (.cond (.t 7) (.seq (.reg r_term_told_2) (.ret)) (.skip))) (.seq (.reg r_term_told_3) (.ret)))
theorem k_term_told : EntOk Tryz.prog term_told (.code c_term_told 10 [.c 4 true 2, .t 3]) := ⟨by kernel_rfl, Tryz.f96, [], [], Tryz.func96, by kernel_rfl, by kernel_rfl, by kernel_rfl, Tryz.ntmps96⟩
/-! stereobate/term.turn -/
def r_term_turn_0 : List AI := [O 3 (.bx (.t 0)), O 6 (.alcO [(.int .i64 0), (.int .i64 0), (.nils 3), (.nils 4)])]
def r_term_turn_1 : List AI := [O 10 (.fa 0 (.t 3)), O 11 (.ld 1 false (.t 10)), O 12 (.bin .eql (.t 11) (N 1))]
def r_term_turn_2 : List AI := [O 13 (.mv (.t 2)), O 14 (.fa 1 (.t 3)), O 15 (.ld 1 false (.t 14)), O 16 (.mv (.t 1)), C 17 (.t 13) [(.t 15), (.t 16)], ⟨none, (.o (.st 4 (.t 6) (.t 17))), none, []⟩]
def r_term_turn_3 : List AI := [O 18 (.fa 0 (.t 3)), O 19 (.ld 1 false (.t 18)), O 20 (.fa 1 (.t 3)), O 21 (.ld 1 false (.t 20)), O 22 (.fa 2 (.t 3)), O 23 (.ld 1 false (.t 22)), O 24 (.bldO [(.int .i64 0), (.int .i64 0), (.nils 3), (.nils 4)] [(0, 1, (.t 19)), (1, 1, (.t 21)), (2, 1, (.t 23))]), O 7 (.alcO [(.int .i64 0), (.int .i64 0), (.nils 3), (.nils 4)]), ⟨none, (.o (.st 4 (.t 7) (.t 24))), none, []⟩]
def r_term_turn_4 : List AI := [O 25 (.fa 3 (.t 3)), O 26 (.ld 1 false (.t 25)), O 27 (.len (.t 26)), O 28 (.mv (N 0))]
def r_term_turn_5 : List AI := [O 29 (.bin .lss (.t 28) (.t 27))]
def r_term_turn_6 : List AI := [O 30 (.mv (.t 28)), O 31 (.ia 4 (.t 26) (.t 28)), O 32 (.ld 4 true (.t 31)), O 9 (.alc [(.int .i64 0), (.int .i64 0), (.nils 3), (.nils 4)]), O 8 (.mv (.t 30)), ⟨none, (.o (.st 4 (.t 9) (.t 32))), none, []⟩]
def r_term_turn_7 : List AI := [O 33 (.fa 3 (.t 7)), ⟨some 34, (.o (.ld 1 false (.t 33))), none, [0]⟩, O 35 (.ld 4 true (.t 9)), O 36 (.mv (.t 1)), O 37 (.ld 4 true (.t 3)), O 38 (.mv (.t 8)), ⟨some 39, (.call (.c (.fn (.func term_below) [] [])) [(.t 37), (.t 38)]), none, [4, 5]⟩, ⟨some 40, (.o (.bin .add (.t 36) (.t 39))), none, [3, 6]⟩, O 41 (.mv (.t 2)), ⟨some 42, (.call (.c (.fn (.func term_turn) [] [])) [(.t 35), (.t 40), (.t 41)]), none, [2, 7, 8, 6]⟩, ⟨some 43, (.o (.bsl 4 1 [(.int .i64 0), (.int .i64 0), (.nils 3), (.nils 4)] [(0, (.t 42))])), none, [9]⟩, ⟨some 44, (.o (.app 4 (.t 34) (.t 43))), none, [1, 10, 9]⟩, ⟨some 45, (.o (.fa 3 (.t 7))), none, [0, 1, 2, 3, 4, 5, 6, 7, 8, 9, 10, 11]⟩, ⟨none, (.o (.st 1 (.t 45) (.t 44))), none, [12, 11, 11, 0, 1, 2, 3, 4, 5, 6, 7, 8, 9, 10, 11]⟩]
def r_term_turn_8 : List AI := [O 46 (.bin .add (.t 28) (N 1)), O 28 (.mv (.t 46))]
def l_term_turn_0 : FC := .seq (.reg r_term_turn_5) (.seq (.cond (.t 29) (.skip) (.exit 0)) (.seq (.block 1 (.seq (.reg r_term_turn_6) (.dreg r_term_turn_7))) (.reg r_term_turn_8)))
def r_term_turn_9 : List AI := [O 47 (.ld 4 true (.t 7)), ⟨none, (.o (.st 4 (.t 6) (.t 47))), none, []⟩]
def c_term_turn : FC := .seq (.reg r_term_turn_0) (.seq (.seq (.reg r_term_turn_1) (.cond (.t 12) (.seq (.reg r_term_turn_2) (.ret)) (.skip))) (.seq (.reg r_term_turn_3) (.seq (.seq (.reg r_term_turn_4) (.block 0 (.loop [1, 2, 3, 6, 7, 26, 27, 28] [3, 6, 7] l_term_turn_0))) (.seq (.reg r_term_turn_9) (.ret)))))
theorem k_term_turn : EntOk Tryz.prog term_turn (.code c_term_turn 48 [.c 4 true 6]) := ⟨by kernel_rfl, Tryz.f97, [], [6, 24, 7], Tryz.func97, by kernel_rfl, by kernel_rfl, by kernel_rfl, Tryz.ntmps97⟩
/-! stereobate/term.Open$1 -/
def r_term_Open_1_0 : List AI := [O 5 (.alc [(.int .i64 0), (.int .i64 0), (.nils 3), (.nils 4)])]
def r_term_Open_1_1 : List AI := [O 7 (.mv (.t 0)), O 8 (.mv (.t 1)), O 9 (.bin .eql (.t 7) (.t 8)), O 6 (.mv (.t 9))]
def r_term_Open_1_2 : List AI := [O 10 (.ld 4 true (.t 2)), O 11 (.mv (.t 1)), C 12 (.c (.fn (.func term_lift) [] [])) [(.t 10), (N 0), (.t 11)], ⟨none, (.o (.st 4 (.t 5) (.t 12))), none, []⟩]
def r_term_Open_1_3 : List AI := [O 14 (.mv (.t 0)), O 15 (.mv (.t 1)), O 16 (.bin .gtr (.t 14) (.t 15)), O 13 (.mv (.t 16))]
def r_term_Open_1_4 : List AI := [O 17 (.mv (.t 0)), O 18 (.bin .sub (.t 17) (N 1)), O 0 (.mv (.t 18))]
def r_term_Open_1_5 : List AI := [O 19 (.mv (.t 0)), C 20 (.c (.fn (.func term_variable) [] [])) [(.t 19)], ⟨none, (.o (.st 4 (.t 5) (.t 20))), none, []⟩]
def c_term_Open_1 : FC := .seq (.reg r_term_Open_1_0) (.seq (.block 0 (.seq (.reg r_term_Open_1_1) (.cond (.t 6) (.seq (.reg r_term_Open_1_2) (.ret)) (.seq (.reg r_term_Open_1_3) (.cond (.t 13) (.reg r_term_Open_1_4) (.skip)))))) (.seq (.reg r_term_Open_1_5) (.ret)))
theorem k_term_Open_1 : EntOk Tryz.prog term_Open_1 (.code c_term_Open_1 21 [.c 4 true 5]) := ⟨by kernel_rfl, Tryz.f98, [], [], Tryz.func98, by kernel_rfl, by kernel_rfl, by kernel_rfl, Tryz.ntmps98⟩
/-! stereobate/term.lift -/
def r_term_lift_0 : List AI := [O 3 (.bx (.t 0)), O 4 (.bxH (.t 1)), O 5 (.bxH (.t 2)), O 6 (.alc [(.int .i64 0), (.int .i64 0), (.nils 3), (.nils 4)])]
def r_term_lift_1 : List AI := [O 7 (.ld 4 true (.t 3)), O 8 (.mkf (.func term_lift_1) [] [(.t 4), (.t 5)]), C 9 (.c (.fn (.func term_turn) [] [])) [(.t 7), (N 0), (.t 8)], ⟨none, (.o (.st 4 (.t 6) (.t 9))), none, []⟩]
def c_term_lift : FC := .seq (.reg r_term_lift_0) (.seq (.reg r_term_lift_1) (.ret))
theorem k_term_lift : EntOk Tryz.prog term_lift (.code c_term_lift 10 [.c 4 true 6]) := ⟨by kernel_rfl, Tryz.f99, [4, 5], [], Tryz.func99, by kernel_rfl, by kernel_rfl, by kernel_rfl, Tryz.ntmps99⟩
/-! stereobate/term.variable -/
def r_term_variable_0 : List AI := [O 2 (.alc [(.int .i64 0), (.int .i64 0), (.nils 3), (.nils 4)])]
def r_term_variable_1 : List AI := [O 3 (.mv (.t 0)), O 4 (.bld [(.int .i64 0), (.int .i64 0), (.nils 3), (.nils 4)] [(0, 1, (N 1)), (1, 1, (.t 3))]), ⟨none, (.o (.st 4 (.t 2) (.t 4))), none, []⟩]
def c_term_variable : FC := .seq (.reg r_term_variable_0) (.seq (.reg r_term_variable_1) (.ret))
theorem k_term_variable : EntOk Tryz.prog term_variable (.code c_term_variable 5 [.c 4 true 2]) := ⟨by kernel_rfl, Tryz.f100, [], [], Tryz.func100, by kernel_rfl, by kernel_rfl, by kernel_rfl, Tryz.ntmps100⟩
/-! slices.Concat[[]stereobate/api.Level,stereobate/api.Level] -/
def r_slices_Concat_Level_0 : List AI := [O 2 (.mvO 3)]
def r_slices_Concat_Level_1 : List AI := [O 3 (.mv (N 0))]
def r_slices_Concat_Level_2 : List AI := [O 9 (.mv (.t 0)), O 10 (.len (.t 9)), O 11 (.mv (N 0))]
def r_slices_Concat_Level_3 : List AI := [O 12 (.bin .lss (.t 11) (.t 10))]
def r_slices_Concat_Level_4 : List AI := [O 13 (.ia 1 (.t 9) (.t 11)), O 14 (.ld 1 false (.t 13)), O 5 (.mv (.t 14))]
def r_slices_Concat_Level_5 : List AI := [O 15 (.mv (.t 3)), O 16 (.mv (.t 5)), O 17 (.len (.t 16)), O 18 (.bin .add (.t 15) (.t 17)), O 3 (.mv (.t 18))]
def r_slices_Concat_Level_6 : List AI := [O 19 (.mv (.t 3)), O 20 (.bin .lss (.t 19) (N 0))]
def r_slices_Concat_Level_7 : List AI := [O 21 (.ifc 9 (.c (.str ⟨#[108, 101, 110, 32, 111, 117, 116, 32, 111, 102, 32, 114, 97, 110, 103, 101]⟩))), ⟨none, (.pan (.t 21)), none, []⟩]
def r_slices_Concat_Level_8 : List AI := [O 22 (.bin .add (.t 11) (N 1)), O 11 (.mv (.t 22))]
def l_slices_Concat_Level_0 : FC := .seq (.reg r_slices_Concat_Level_3) (.seq (.cond (.t 12) (.skip) (.exit 0)) (.seq (.block 1 (.seq (.reg r_slices_Concat_Level_4) (.seq (.reg r_slices_Concat_Level_5) (.seq (.reg r_slices_Concat_Level_6) (.cond (.t 20) (.reg r_slices_Concat_Level_7) (.skip)))))) (.reg r_slices_Concat_Level_8)))
def r_slices_Concat_Level_9 : List AI := [O 23 (.mv (.t 3)), C 24 (.c (.fn (.func slices_Grow_Level) [] [])) [(.c .ze), (.t 23)], O 6 (.mv (.t 24))]
def r_slices_Concat_Level_10 : List AI := [O 25 (.mv (.t 0)), O 26 (.len (.t 25)), O 27 (.mv (N 0))]
def r_slices_Concat_Level_11 : List AI := [O 28 (.bin .lss (.t 27) (.t 26))]
def r_slices_Concat_Level_12 : List AI := [O 29 (.ia 1 (.t 25) (.t 27)), O 30 (.ld 1 false (.t 29)), O 8 (.mv (.t 30))]
def r_slices_Concat_Level_13 : List AI := [O 31 (.mv (.t 6)), O 32 (.mv (.t 8)), O 33 (.app 3 (.t 31) (.t 32)), O 6 (.mv (.t 33))]
def r_slices_Concat_Level_14 : List AI := [O 34 (.bin .add (.t 27) (N 1)), O 27 (.mv (.t 34))]
def l_slices_Concat_Level_1 : FC := .seq (.reg r_slices_Concat_Level_11) (.seq (.cond (.t 28) (.skip) (.exit 2)) (.seq (.block 3 (.seq (.reg r_slices_Concat_Level_12) (.reg r_slices_Concat_Level_13))) (.reg r_slices_Concat_Level_14)))
def r_slices_Concat_Level_15 : List AI := [O 35 (.mv (.t 6)), O 2 (.mv (.t 35))]
def c_slices_Concat_Level : FC := .seq (.reg r_slices_Concat_Level_0) (.seq (.reg r_slices_Concat_Level_1) (.seq (.seq (.reg r_slices_Concat_Level_2) (.block 0 (.loop [0, 3, 9, 10, 11] [] l_slices_Concat_Level_0))) (.seq (.reg r_slices_Concat_Level_9) (.seq (.seq (.reg r_slices_Concat_Level_10) (.block 2 (.loop [6, 25, 26, 27] [] l_slices_Concat_Level_1))) (.seq (.reg r_slices_Concat_Level_15) (.ret))))))
theorem k_slices_Concat_Level : EntOk Tryz.prog slices_Concat_Level (.code c_slices_Concat_Level 36 [.t 2]) := ⟨by kernel_rfl, Tryz.f101, [], [2, 6000024], Tryz.func101, by kernel_rfl, by kernel_rfl, by kernel_rfl, Tryz.ntmps101⟩
/-! stereobate/tsub.odd -/
def r_tsub_odd_0 : List AI := [O 1 (.bx (.t 0)), O 2 (.mv (B false))]
def r_tsub_odd_1 : List AI := [O 3 (.ld 3 true (.t 1)), C 4 (.c (.fn (.func level_Right) [] [])) [(.t 3), (N 5), (N 10)], O 5 (.not (.t 4)), O 2 (.mv (.t 5))]
def c_tsub_odd : FC := .seq (.reg r_tsub_odd_0) (.seq (.reg r_tsub_odd_1) (.ret))
theorem k_tsub_odd : EntOk Tryz.prog tsub_odd (.code c_tsub_odd 6 [.t 2]) := ⟨by kernel_rfl, Tryz.f102, [], [], Tryz.func102, by kernel_rfl, by kernel_rfl, by kernel_rfl, Tryz.ntmps102⟩
/-! (*stereobate/tsub.putter).term -/
def r_tsub_putter_term_0 : List AI := [O 3 (.bx (.t 1)), O 4 (.alcO [(.int .i64 0), (.int .i64 0), (.nils 3), (.nils 4)])]
def r_tsub_putter_term_1 : List AI := [O 12 (.fa 0 (.t 3)), O 13 (.ld 1 false (.t 12)), O 14 (.fa 1 (.t 3)), O 15 (.ld 1 false (.t 14)), O 16 (.bldO [(.int .i64 0), (.int .i64 0), (.nils 3), (.nils 4)] [(0, 1, (.t 13)), (1, 1, (.t 15))]), O 5 (.alcO [(.int .i64 0), (.int .i64 0), (.nils 3), (.nils 4)]), ⟨none, (.o (.st 4 (.t 5) (.t 16))), none, []⟩]
def r_tsub_putter_term_2 : List AI := [O 17 (.fa 2 (.t 3)), O 18 (.ld 1 false (.t 17)), O 19 (.len (.t 18)), O 20 (.mv (N 0))]
def r_tsub_putter_term_3 : List AI := [O 21 (.bin .lss (.t 20) (.t 19))]
def r_tsub_putter_term_4 : List AI := [O 22 (.ia 3 (.t 18) (.t 20)), O 23 (.ld 3 true (.t 22)), O 7 (.alc [(.int .i64 0), (.int .i64 0), (.nils 3)]), ⟨none, (.o (.st 3 (.t 7) (.t 23))), none, []⟩]
def r_tsub_putter_term_5 : List AI := [O 25 (.ld 3 true (.t 7)), O 26 (.mv (.t 0)), ⟨some 27, (.o (.nilc (.t 26))), none, [1]⟩, ⟨some 28, (.o (.fa 0 (.t 27))), none, [2]⟩, ⟨some 29, (.o (.ld 1 false (.t 28))), none, [3]⟩, O 30 (.mv (.t 0)), ⟨some 31, (.o (.nilc (.t 30))), none, [5]⟩, ⟨some 32, (.o (.fa 1 (.t 31))), none, [6]⟩, ⟨some 33, (.o (.ld 1 false (.t 32))), none, [7]⟩, ⟨some 34, (.call (.c (.fn (.func lsub_Sub) [] [])) [(.t 25), (.t 29), (.t 33)]), none, [0, 4, 8]⟩, ⟨some 24, (.o (.mv (.t 34))), none, [9]⟩, ⟨some 35, (.o (.ext (.t 24) 0)), none, [10]⟩, ⟨some 36, (.o (.ext (.t 24) 1)), none, [10]⟩, O 8 (.alc [(.int .i64 0), (.int .i64 0), (.nils 3)]), ⟨none, (.o (.st 3 (.t 8) (.t 35))), none, [13, 11, 9, 0, 1, 2, 3, 4, 5, 6, 7, 8, 9, 10, 11, 13]⟩, ⟨some 9, (.o (.mv (.t 36))), none, [12, 14, 0, 1, 2, 3, 4, 5, 6, 7, 8, 9, 10, 11, 12, 13, 14]⟩]
def r_tsub_putter_term_6 : List AI := [O 37 (.mv (.t 0)), O 38 (.mv (.t 0)), O 39 (.nilc (.t 38)), O 40 (.fa 2 (.t 39)), O 41 (.ld 1 false (.t 40)), O 42 (.mv (.t 9)), O 43 (.mx (.t 41) (.t 42)), O 44 (.nilc (.t 37)), O 45 (.fa 2 (.t 44)), ⟨none, (.o (.st 1 (.t 45) (.t 43))), none, []⟩]
def r_tsub_putter_term_7 : List AI := [O 46 (.fa 2 (.t 5)), O 47 (.ld 1 false (.t 46)), O 48 (.ld 3 true (.t 8)), O 49 (.bsl 3 1 [(.int .i64 0), (.int .i64 0), (.nils 3)] [(0, (.t 48))]), O 50 (.app 3 (.t 47) (.t 49)), O 51 (.fa 2 (.t 5)), ⟨none, (.o (.st 1 (.t 51) (.t 50))), none, []⟩]
def r_tsub_putter_term_8 : List AI := [O 52 (.bin .add (.t 20) (N 1)), O 20 (.mv (.t 52))]
def l_tsub_putter_term_0 : FC := .seq (.reg r_tsub_putter_term_3) (.seq (.cond (.t 21) (.skip) (.exit 0)) (.seq (.block 1 (.seq (.reg r_tsub_putter_term_4) (.seq (.dreg r_tsub_putter_term_5) (.seq (.reg r_tsub_putter_term_6) (.reg r_tsub_putter_term_7))))) (.reg r_tsub_putter_term_8)))
def r_tsub_putter_term_9 : List AI := [O 53 (.fa 3 (.t 3)), O 54 (.ld 1 false (.t 53)), O 55 (.len (.t 54)), O 56 (.mv (N 0))]
def r_tsub_putter_term_10 : List AI := [O 57 (.bin .lss (.t 56) (.t 55))]
def r_tsub_putter_term_11 : List AI := [O 58 (.ia 4 (.t 54) (.t 56)), O 59 (.ld 4 true (.t 58)), O 11 (.alc [(.int .i64 0), (.int .i64 0), (.nils 3), (.nils 4)]), ⟨none, (.o (.st 4 (.t 11) (.t 59))), none, []⟩]
def r_tsub_putter_term_12 : List AI := [O 60 (.fa 3 (.t 5)), ⟨some 61, (.o (.ldl 1 false (.t 60))), none, [0]⟩, O 62 (.mv (.t 0)), O 63 (.ldl 4 true (.t 11)), ⟨some 64, (.callW (.c (.fn (.func tsub_putter_term) [] [])) [(.t 62), (.t 63)]), none, [2, 3]⟩, ⟨some 65, (.o (.bsl 4 1 [(.int .i64 0), (.int .i64 0), (.nils 3), (.nils 4)] [(0, (.t 64))])), none, [4]⟩, ⟨some 66, (.o (.app 4 (.t 61) (.t 65))), none, [1, 5, 4]⟩, ⟨some 67, (.o (.fa 3 (.t 5))), none, [0, 1, 2, 3, 4, 5, 6]⟩, ⟨none, (.o (.st 1 (.t 67) (.t 66))), none, [7, 6, 6, 0, 1, 2, 3, 4, 5, 6]⟩]
def r_tsub_putter_term_13 : List AI := [O 68 (.bin .add (.t 56) (N 1)), O 56 (.mv (.t 68))]
def l_tsub_putter_term_1 : FC := .seq (.reg r_tsub_putter_term_10) (.seq (.cond (.t 57) (.skip) (.exit 2)) (.seq (.block 3 (.seq (.reg r_tsub_putter_term_11) (.dreg r_tsub_putter_term_12))) (.reg r_tsub_putter_term_13)))
def r_tsub_putter_term_14 : List AI := [O 69 (.ld 4 true (.t 5)), ⟨none, (.o (.st 4 (.t 4) (.t 69))), none, []⟩]
def c_tsub_putter_term : FC := .seq (.reg r_tsub_putter_term_0) (.seq (.reg r_tsub_putter_term_1) (.seq (.seq (.reg r_tsub_putter_term_2) (.block 0 (.loop [0, 3, 4, 5, 18, 19, 20] [3, 4, 5] l_tsub_putter_term_0))) (.seq (.seq (.reg r_tsub_putter_term_9) (.block 2 (.loop [0, 4, 5, 54, 55, 56] [4, 5] l_tsub_putter_term_1))) (.seq (.reg r_tsub_putter_term_14) (.ret)))))
theorem k_tsub_putter_term : EntOk Tryz.prog tsub_putter_term (.code c_tsub_putter_term 70 [.c 4 true 4]) := ⟨by kernel_rfl, Tryz.f103, [], [4, 16, 5, 2000064, 3000061, 3000063], Tryz.func103, by kernel_rfl, by kernel_rfl, by kernel_rfl, Tryz.ntmps103⟩
/-! stereobate/level.kinds$1 -/
def r_level_kinds_1_0 : List AI := [O 3 (.bx (.t 0)), O 4 (.bx (.t 1)), O 6 (.mv (N 0))]
def r_level_kinds_1_1 : List AI := [O 6 (.mv (N 0))]
def c_level_kinds_1 : FC := .seq (.reg r_level_kinds_1_0) (.seq (.reg r_level_kinds_1_1) (.ret))
theorem k_level_kinds_1 : EntOk Tryz.prog level_kinds_1 (.code c_level_kinds_1 7 [.t 6]) := ⟨by kernel_rfl, Tryz.f104, [], [], Tryz.func104, by kernel_rfl, by kernel_rfl, by kernel_rfl, Tryz.ntmps104⟩
/-! stereobate/level.kinds$2 -/
def r_level_kinds_2_0 : List AI := [O 3 (.bx (.t 0)), O 4 (.bx (.t 1)), O 6 (.mv (N 0))]
def r_level_kinds_2_1 : List AI := [O 7 (.mv (.t 2)), O 8 (.ia 1 (.t 7) (N 0)), O 9 (.ld 1 false (.t 8)), O 10 (.bin .add (.t 9) (N 1)), O 6 (.mv (.t 10))]
def c_level_kinds_2 : FC := .seq (.reg r_level_kinds_2_0) (.seq (.reg r_level_kinds_2_1) (.ret))
theorem k_level_kinds_2 : EntOk Tryz.prog level_kinds_2 (.code c_level_kinds_2 11 [.t 6]) := ⟨by kernel_rfl, Tryz.f105, [], [], Tryz.func105, by kernel_rfl, by kernel_rfl, by kernel_rfl, Tryz.ntmps105⟩
/-! stereobate/level.kinds$3 -/
def r_level_kinds_3_0 : List AI := [O 3 (.bx (.t 0)), O 4 (.bx (.t 1)), O 6 (.mv (N 0))]
def r_level_kinds_3_1 : List AI := [O 7 (.mv (.t 2)), ⟨some 8, (.o (.ia 1 (.t 7) (N 0))), none, [0]⟩, ⟨some 9, (.o (.ld 1 false (.t 8))), none, [1]⟩, O 10 (.mv (.t 2)), ⟨some 11, (.o (.ia 1 (.t 10) (N 1))), none, [3]⟩, ⟨some 12, (.o (.ld 1 false (.t 11))), none, [4]⟩, ⟨some 13, (.o (.mx (.t 9) (.t 12))), none, [2, 5]⟩, ⟨some 6, (.o (.mv (.t 13))), none, [6, 0, 1, 2, 3, 4, 5, 6]⟩]
def c_level_kinds_3 : FC := .seq (.reg r_level_kinds_3_0) (.seq (.dreg r_level_kinds_3_1) (.ret))
theorem k_level_kinds_3 : EntOk Tryz.prog level_kinds_3 (.code c_level_kinds_3 14 [.t 6]) := ⟨by kernel_rfl, Tryz.f106, [], [], Tryz.func106, by kernel_rfl, by kernel_rfl, by kernel_rfl, Tryz.ntmps106⟩
/-! stereobate/level.kinds$4 -/
def r_level_kinds_4_0 : List AI := [O 3 (.bx (.t 0)), O 4 (.bx (.t 1)), O 6 (.mv (N 0))]
def r_level_kinds_4_1 : List AI := [O 7 (.mv (.t 2)), ⟨some 8, (.o (.ia 1 (.t 7) (N 0))), none, [0]⟩, ⟨some 9, (.o (.ld 1 false (.t 8))), none, [1]⟩, O 10 (.mv (.t 2)), ⟨some 11, (.o (.ia 1 (.t 10) (N 1))), none, [3]⟩, ⟨some 12, (.o (.ld 1 false (.t 11))), none, [4]⟩, ⟨some 13, (.call (.c (.fn (.func level_imax) [] [])) [(.t 9), (.t 12)]), none, [2, 5]⟩, ⟨some 6, (.o (.mv (.t 13))), none, [6, 6, 0, 1, 2, 3, 4, 5, 6]⟩]
def c_level_kinds_4 : FC := .seq (.reg r_level_kinds_4_0) (.seq (.dreg r_level_kinds_4_1) (.ret))
theorem k_level_kinds_4 : EntOk Tryz.prog level_kinds_4 (.code c_level_kinds_4 14 [.t 6]) := ⟨by kernel_rfl, Tryz.f107, [], [], Tryz.func107, by kernel_rfl, by kernel_rfl, by kernel_rfl, Tryz.ntmps107⟩
/-! stereobate/level.imax -/
def r_level_imax_0 : List AI := [O 4 (.mv (N 0))]
def r_level_imax_1 : List AI := [O 5 (.mv (.t 1)), O 6 (.bin .eql (.t 5) (N 0))]
def r_level_imax_2 : List AI := [O 4 (.mv (N 0))]
def r_level_imax_3 : List AI := [O 7 (.mv (.t 0)), O 8 (.mv (.t 1)), O 9 (.mx (.t 7) (.t 8)), O 4 (.mv (.t 9))]
def c_level_imax : FC := .seq (.reg r_level_imax_0) (.seq (.seq (.reg r_level_imax_1) (.cond (.t 6) (.seq (.reg r_level_imax_2) (.ret)) (.skip))) (.seq (.reg r_level_imax_3) (.ret)))
theorem k_level_imax : EntOk Tryz.prog level_imax (.code c_level_imax 10 [.t 4]) := ⟨by kernel_rfl, Tryz.f108, [], [], Tryz.func108, by kernel_rfl, by kernel_rfl, by kernel_rfl, Tryz.ntmps108⟩
/-! stereobate/level.kinds$5 -/
def r_level_kinds_5_0 : List AI := [O 3 (.bx (.t 0)), O 4 (.bx (.t 1)), O 6 (.mv (N 0))]
def r_level_kinds_5_1 : List AI := [O 7 (.fa 0 (.t 4)), O 8 (.ld 1 false (.t 7)), O 9 (.fa 1 (.t 3)), O 10 (.ld 1 false (.t 9)), O 11 (.ia 1 (.t 8) (.t 10)), O 12 (.ld 1 false (.t 11)), O 6 (.mv (.t 12))]
def c_level_kinds_5 : FC := .seq (.reg r_level_kinds_5_0) (.seq (.reg r_level_kinds_5_1) (.ret))
theorem k_level_kinds_5 : EntOk Tryz.prog level_kinds_5 (.code c_level_kinds_5 13 [.t 6]) := ⟨by kernel_rfl, Tryz.f109, [], [], Tryz.func109, by kernel_rfl, by kernel_rfl, by kernel_rfl, Tryz.ntmps109⟩
/-! stereobate/level.kinds$6 -/
def r_level_kinds_6_0 : List AI := [O 3 (.bx (.t 0)), O 4 (.bx (.t 1)), O 6 (.mv (N 0))]
def r_level_kinds_6_1 : List AI := [O 7 (.fa 1 (.t 4)), O 8 (.ld 1 false (.t 7)), O 9 (.fa 1 (.t 3)), O 10 (.ld 1 false (.t 9)), O 11 (.ia 1 (.t 8) (.t 10)), O 12 (.ld 1 false (.t 11)), O 6 (.mv (.t 12))]
def c_level_kinds_6 : FC := .seq (.reg r_level_kinds_6_0) (.seq (.reg r_level_kinds_6_1) (.ret))
theorem k_level_kinds_6 : EntOk Tryz.prog level_kinds_6 (.code c_level_kinds_6 13 [.t 6]) := ⟨by kernel_rfl, Tryz.f110, [], [], Tryz.func110, by kernel_rfl, by kernel_rfl, by kernel_rfl, Tryz.ntmps110⟩
/-! slices.IndexFunc[[]stereobate/api.Level,stereobate/api.Level] -/
def r_slices_IndexFunc_Level_0 : List AI := [O 4 (.mv (N 0))]
def r_slices_IndexFunc_Level_1 : List AI := [O 6 (.mv (.t 0)), O 7 (.len (.t 6)), O 8 (.mv (N 0))]
def r_slices_IndexFunc_Level_2 : List AI := [O 9 (.bin .lss (.t 8) (.t 7))]
def r_slices_IndexFunc_Level_3 : List AI := [O 10 (.mv (.t 8)), O 5 (.mv (.t 10))]
def r_slices_IndexFunc_Level_4 : List AI := [O 11 (.mv (.t 1)), O 12 (.mv (.t 0)), O 13 (.mv (.t 5)), O 14 (.ia 3 (.t 12) (.t 13)), O 15 (.ld 3 true (.t 14)), C 16 (.t 11) [(.t 15)]]
def r_slices_IndexFunc_Level_5 : List AI := [O 17 (.mv (.t 5)), O 4 (.mv (.t 17))]
def r_slices_IndexFunc_Level_6 : List AI := [O 18 (.bin .add (.t 8) (N 1)), O 8 (.mv (.t 18))]
def l_slices_IndexFunc_Level_0 : FC := .seq (.reg r_slices_IndexFunc_Level_2) (.seq (.cond (.t 9) (.skip) (.exit 0)) (.seq (.block 1 (.seq (.reg r_slices_IndexFunc_Level_3) (.seq (.reg r_slices_IndexFunc_Level_4) (.cond (.t 16) (.seq (.reg r_slices_IndexFunc_Level_5) (.ret)) (.skip))))) (.reg r_slices_IndexFunc_Level_6)))
def r_slices_IndexFunc_Level_7 : List AI := [O 4 (.mv (N (-1)))]
def c_slices_IndexFunc_Level : FC := .seq (.reg r_slices_IndexFunc_Level_0) (.seq (.seq (.reg r_slices_IndexFunc_Level_1) (.block 0 (.loop [0, 1, 7, 8] [] l_slices_IndexFunc_Level_0))) (.seq (.reg r_slices_IndexFunc_Level_7) (.ret)))
theorem k_slices_IndexFunc_Level : EntOk Tryz.prog slices_IndexFunc_Level (.code c_slices_IndexFunc_Level 19 [.t 4]) := ⟨by kernel_rfl, Tryz.f111, [], [], Tryz.func111, by kernel_rfl, by kernel_rfl, by kernel_rfl, Tryz.ntmps111⟩
/-! stereobate/stereobateref05.right -/
def r_ref05_right_0 : List AI := [O 2 (.mv (B false))]
def r_ref05_right_1 : List AI := [O 3 (.mv (N 0))]
def r_ref05_right_2 : List AI := [O 4 (.mv (.t 3)), O 5 (.mv (.t 0)), O 6 (.len (.t 5)), O 7 (.bin .lss (.t 4) (.t 6))]
def r_ref05_right_3 : List AI := [O 10 (.mv (.t 0)), O 11 (.mv (.t 3)), O 12 (.ia 3 (.t 10) (.t 11)), O 13 (.ld 3 true (.t 12)), C 14 (.c (.fn (.func ref02_Right) [] [])) [(.t 13), (N 5), (N 10)], O 15 (.not (.t 14))]
def r_ref05_right_4 : List AI := [O 2 (.mv (B false))]
def r_ref05_right_5 : List AI := [O 8 (.mv (.t 3)), O 9 (.bin .add (.t 8) (N 1)), O 3 (.mv (.t 9))]
def l_ref05_right_0 : FC := .seq (.seq (.reg r_ref05_right_2) (.cond (.t 7) (.skip) (.exit 0))) (.seq (.block 1 (.seq (.reg r_ref05_right_3) (.cond (.t 15) (.seq (.reg r_ref05_right_4) (.ret)) (.skip)))) (.reg r_ref05_right_5))
def r_ref05_right_6 : List AI := [O 2 (.mv (B true))]
def c_ref05_right : FC := .seq (.reg r_ref05_right_0) (.seq (.seq (.reg r_ref05_right_1) (.block 0 (.loop [0, 3] [] l_ref05_right_0))) (.seq (.reg r_ref05_right_6) (.ret)))
theorem k_ref05_right : EntOk Tryz.prog ref05_right (.code c_ref05_right 16 [.t 2]) := ⟨by kernel_rfl, Tryz.f112, [], [], Tryz.func112, by kernel_rfl, by kernel_rfl, by kernel_rfl, Tryz.ntmps112⟩
/-! stereobate/stereobateref05.sub -/
def r_ref05_sub_0 : List AI := [O 3 (.bx (.t 0)), O 6 (.alcO [(.int .i64 0), (.int .i64 0), (.nils 3)])]
def r_ref05_sub_1 : List AI := [O 9 (.fa 0 (.t 3)), O 10 (.ld 1 false (.t 9)), O 11 (.bin .eql (.t 10) (N 5)), O 12 (.mv (.t 11)), Og 13 12 true (.fa 1 (.t 3)), Og 14 12 true (.ld 1 false (.t 13)), Og 15 12 true (.mv (.t 1)), Og 16 12 true (.len (.t 15)), Og 17 12 true (.bin .lss (.t 14) (.t 16)), O 18 (.pick (.t 12) (.t 17) (B false))]
def r_ref05_sub_2 : List AI := [O 19 (.mv (.t 1)), O 20 (.fa 1 (.t 3)), O 21 (.ld 1 false (.t 20)), O 22 (.ia 3 (.t 19) (.t 21)), O 23 (.ld 3 true (.t 22)), ⟨none, (.o (.st 3 (.t 6) (.t 23))), none, []⟩]
def r_ref05_sub_3 : List AI := [O 24 (.fa 0 (.t 3)), O 25 (.ld 1 false (.t 24)), O 26 (.bin .eql (.t 25) (N 6)), O 27 (.mv (.t 26)), Og 28 27 true (.fa 1 (.t 3)), Og 29 27 true (.ld 1 false (.t 28)), Og 30 27 true (.mv (.t 2)), Og 31 27 true (.len (.t 30)), Og 32 27 true (.bin .lss (.t 29) (.t 31)), O 33 (.pick (.t 27) (.t 32) (B false))]
def r_ref05_sub_4 : List AI := [O 34 (.mv (.t 2)), O 35 (.fa 1 (.t 3)), O 36 (.ld 1 false (.t 35)), O 37 (.ia 3 (.t 34) (.t 36)), O 38 (.ld 3 true (.t 37)), ⟨none, (.o (.st 3 (.t 6) (.t 38))), none, []⟩]
def r_ref05_sub_5 : List AI := [O 39 (.fa 0 (.t 3)), O 40 (.ld 1 false (.t 39)), O 41 (.fa 1 (.t 3)), O 42 (.ld 1 false (.t 41)), O 43 (.bldO [(.int .i64 0), (.int .i64 0), (.nils 3)] [(0, 1, (.t 40)), (1, 1, (.t 42))]), O 7 (.alcO [(.int .i64 0), (.int .i64 0), (.nils 3)]), ⟨none, (.o (.st 3 (.t 7) (.t 43))), none, []⟩]
def r_ref05_sub_6 : List AI := [O 8 (.mv (N 0))]
def r_ref05_sub_7 : List AI := [O 44 (.mv (.t 8)), O 45 (.fa 2 (.t 3)), O 46 (.ld 1 false (.t 45)), O 47 (.len (.t 46)), O 48 (.bin .lss (.t 44) (.t 47))]
def r_ref05_sub_8 : List AI := [O 51 (.fa 2 (.t 7)), ⟨some 52, (.o (.ld 1 false (.t 51))), none, [0]⟩, O 53 (.fa 2 (.t 3)), ⟨some 54, (.o (.ld 1 false (.t 53))), none, [2]⟩, O 55 (.mv (.t 8)), ⟨some 56, (.o (.ia 3 (.t 54) (.t 55))), none, [3, 4]⟩, ⟨some 57, (.o (.ld 3 true (.t 56))), none, [5]⟩, O 58 (.mv (.t 1)), O 59 (.mv (.t 2)), ⟨some 60, (.call (.c (.fn (.func ref05_sub) [] [])) [(.t 57), (.t 58), (.t 59)]), none, [6, 7, 8]⟩, ⟨some 61, (.o (.bsl 3 1 [(.int .i64 0), (.int .i64 0), (.nils 3)] [(0, (.t 60))])), none, [9]⟩, ⟨some 62, (.o (.app 3 (.t 52) (.t 61))), none, [1, 10, 9]⟩, ⟨some 63, (.o (.fa 2 (.t 7))), none, [0, 1, 2, 3, 4, 5, 6, 7, 8, 9, 10, 11]⟩, ⟨none, (.o (.st 1 (.t 63) (.t 62))), none, [12, 11, 11, 0, 1, 2, 3, 4, 5, 6, 7, 8, 9, 10, 11]⟩]
def r_ref05_sub_9 : List AI := [O 49 (.mv (.t 8)), O 50 (.bin .add (.t 49) (N 1)), O 8 (.mv (.t 50))]
def l_ref05_sub_0 : FC := .seq (.seq (.reg r_ref05_sub_7) (.cond (.t 48) (.skip) (.exit 0))) (.seq (.block 1 (.dreg r_ref05_sub_8)) (.reg r_ref05_sub_9))
def r_ref05_sub_10 : List AI := [O 64 (.ld 3 true (.t 7)), ⟨none, (.o (.st 3 (.t 6) (.t 64))), none, []⟩]
def c_ref05_sub : FC := .seq (.reg r_ref05_sub_0) (.seq (.seq (.reg r_ref05_sub_1) (.cond (.t 18) (.seq (.reg r_ref05_sub_2) (.ret)) (.skip))) (.seq (.seq (.reg r_ref05_sub_3) (.cond (.t 33) (.seq (.reg r_ref05_sub_4) (.ret)) (.skip))) (.seq (.reg r_ref05_sub_5) (.seq (.seq (.reg r_ref05_sub_6) (.block 0 (.loop [1, 2, 3, 6, 7, 8] [3, 6, 7] l_ref05_sub_0))) (.seq (.reg r_ref05_sub_10) (.ret))))))
theorem k_ref05_sub : EntOk Tryz.prog ref05_sub (.code c_ref05_sub 65 [.c 3 true 6]) := ⟨by kernel_rfl, Tryz.f113, [], [6, 43, 7], Tryz.func113, by kernel_rfl, by kernel_rfl, by kernel_rfl, Tryz.ntmps113⟩
/-! stereobate/stereobateref02.kids -/
def r_ref02_kids_0 : List AI := [O 2 (.mv (N 0))]
def r_ref02_kids_1 : List AI := [O 3 (.mv (.t 0))]
def r_ref02_kids_2 : List AI := [O 5 (.bin .eql (.t 3) (N 1)), O 4 (.mv (.t 5))]
def r_ref02_kids_3 : List AI := [O 6 (.bin .eql (.t 3) (N 5)), O 4 (.mv (.t 6))]
def r_ref02_kids_4 : List AI := [O 7 (.bin .eql (.t 3) (N 6)), O 4 (.mv (.t 7))]
def r_ref02_kids_5 : List AI := [O 2 (.mv (N 0))]
def r_ref02_kids_6 : List AI := [O 9 (.bin .eql (.t 3) (N 2)), O 8 (.mv (.t 9))]
def r_ref02_kids_7 : List AI := [O 2 (.mv (N 1))]
def r_ref02_kids_8 : List AI := [O 11 (.bin .eql (.t 3) (N 3)), O 10 (.mv (.t 11))]
def r_ref02_kids_9 : List AI := [O 12 (.bin .eql (.t 3) (N 4)), O 10 (.mv (.t 12))]
def r_ref02_kids_10 : List AI := [O 2 (.mv (N 2))]
def r_ref02_kids_11 : List AI := [O 2 (.mv (N (-1)))]
def c_ref02_kids : FC := .seq (.reg r_ref02_kids_0) (.seq (.seq (.reg r_ref02_kids_1) (.block 0 (.seq (.seq (.reg r_ref02_kids_2) (.cond (.t 4) (.skip) (.seq (.reg r_ref02_kids_3) (.cond (.t 4) (.skip) (.reg r_ref02_kids_4))))) (.cond (.t 4) (.seq (.reg r_ref02_kids_5) (.ret)) (.seq (.reg r_ref02_kids_6) (.cond (.t 8) (.seq (.reg r_ref02_kids_7) (.ret)) (.seq (.seq (.reg r_ref02_kids_8) (.cond (.t 10) (.skip) (.reg r_ref02_kids_9))) (.cond (.t 10) (.seq (.reg r_ref02_kids_10) (.ret)) (.skip))))))))) (.seq (.reg r_ref02_kids_11) (.ret)))
theorem k_ref02_kids : EntOk Tryz.prog ref02_kids (.code c_ref02_kids 13 [.t 2]) := ⟨by kernel_rfl, Tryz.f114, [], [], Tryz.func114, by kernel_rfl, by kernel_rfl, by kernel_rfl, Tryz.ntmps114⟩
/-! stereobate/term.lift$1 -/
def r_term_lift_1_0 : List AI := [O 6 (.alc [(.int .i64 0), (.int .i64 0), (.nils 3), (.nils 4)])]
def r_term_lift_1_1 : List AI := [O 7 (.mv (.t 0)), O 8 (.ld 1 false (.t 2)), O 9 (.mv (.t 1)), O 10 (.bin .add (.t 8) (.t 9)), O 11 (.bin .geq (.t 7) (.t 10))]
def r_term_lift_1_2 : List AI := [O 12 (.mv (.t 0)), O 13 (.ld 1 false (.t 3)), O 14 (.bin .add (.t 12) (.t 13)), O 0 (.mv (.t 14))]
def r_term_lift_1_3 : List AI := [O 15 (.mv (.t 0)), C 16 (.c (.fn (.func term_variable) [] [])) [(.t 15)], ⟨none, (.o (.st 4 (.t 6) (.t 16))), none, []⟩]
def c_term_lift_1 : FC := .seq (.reg r_term_lift_1_0) (.seq (.seq (.reg r_term_lift_1_1) (.cond (.t 11) (.reg r_term_lift_1_2) (.skip))) (.seq (.reg r_term_lift_1_3) (.ret)))
theorem k_term_lift_1 : EntOk Tryz.prog term_lift_1 (.code c_term_lift_1 17 [.c 4 true 6]) := ⟨by kernel_rfl, Tryz.f115, [], [], Tryz.func115, by kernel_rfl, by kernel_rfl, by kernel_rfl, Tryz.ntmps115⟩
/-! slices.Grow[[]stereobate/api.Level,stereobate/api.Level] -/
def r_slices_Grow_Level_0 : List AI := [O 4 (.mv (.c (.sl [])))]
def r_slices_Grow_Level_1 : List AI := [O 5 (.mv (.t 1)), O 6 (.bin .lss (.t 5) (N 0))]
def r_slices_Grow_Level_2 : List AI := [O 7 (.ifc 9 (.c (.str ⟨#[99, 97, 110, 110, 111, 116, 32, 98, 101, 32, 110, 101, 103, 97, 116, 105, 118, 101]⟩))), ⟨none, (.pan (.t 7)), none, []⟩]
def r_slices_Grow_Level_3 : List AI := [O 8 (.mv (.t 1)), O 9 (.mv (.t 0)), O 10 (.cap (.t 9)), O 11 (.mv (.t 0)), O 12 (.len (.t 11)), O 13 (.bin .sub (.t 10) (.t 12)), O 14 (.bin .sub (.t 8) (.t 13)), O 1 (.mv (.t 14))]
def r_slices_Grow_Level_4 : List AI := [O 15 (.mv (.t 1)), O 16 (.bin .gtr (.t 15) (N 0))]
def r_slices_Grow_Level_5 : List AI := [O 17 (.mv (.t 0)), O 18 (.mv (.t 0)), O 19 (.cap (.t 18)), O 20 (.slc 3 (.t 17) none (some (.t 19))), O 21 (.mv (.t 1)), O 22 (.apz 3 [(.int .i64 0), (.int .i64 0), (.nils 3)] (.t 20) (.t 21)), O 23 (.mv (.t 0)), O 24 (.len (.t 23)), O 25 (.slc 3 (.t 22) none (some (.t 24))), O 0 (.mv (.t 25))]
def r_slices_Grow_Level_6 : List AI := [O 26 (.mv (.t 0)), O 4 (.mv (.t 26))]
def c_slices_Grow_Level : FC := .seq (.reg r_slices_Grow_Level_0) (.seq (.seq (.reg r_slices_Grow_Level_1) (.cond (.t 6) (.reg r_slices_Grow_Level_2) (.skip))) (.seq (.seq (.reg r_slices_Grow_Level_3) (.seq (.reg r_slices_Grow_Level_4) (.cond (.t 16) (.reg r_slices_Grow_Level_5) (.skip)))) (.seq (.reg r_slices_Grow_Level_6) (.ret))))
theorem k_slices_Grow_Level : EntOk Tryz.prog slices_Grow_Level (.code c_slices_Grow_Level 27 [.t 4] true) := ⟨by kernel_rfl, Tryz.f116, [], [], Tryz.func116, by kernel_rfl, by kernel_rfl, by kernel_rfl, Tryz.ntmps116⟩
/-! stereobate/lsub.Sub -/
def r_lsub_Sub_0 : List AI := [O 3 (.bx (.t 0)), O 4 (.bxH (.t 1)), O 5 (.bxH (.t 2)), O 6 (.alc [(.int .i64 0), (.int .i64 0), (.nils 3)]), O 7 (.mv (N 0))]
def r_lsub_Sub_1 : List AI := [O 9 (.ld 3 true (.t 3)), C 10 (.c (.fn (.func lsub_odd) [] [])) [(.t 9)], O 11 (.mv (.t 10)), Og 12 11 false (.ld 1 false (.t 4)), Og 13 11 false (.len (.t 12)), Og 14 11 false (.bin .gtr (.t 13) (N 5)), O 15 (.pick (.t 11) (B true) (.t 14)), O 16 (.mv (.t 15)), Og 17 16 false (.ld 1 false (.t 5)), Og 18 16 false (.len (.t 17)), Og 19 16 false (.bin .gtr (.t 18) (N 10)), O 20 (.pick (.t 16) (B true) (.t 19)), O 21 (.mv (.t 20)), Og 22 21 false (.ld 1 false (.t 4)), Og 23 21 false (.ld 1 false (.t 5)), Og 24 21 false (.bsl 1 2 [(.nils 3)] [(0, (.t 22)), (1, (.t 23))]), ⟨some 25, (.call (.c (.fn (.func slices_Concat_Level) [] [])) [(.t 24)]), some (21, false), []⟩, ⟨some 26, (.call (.c (.fn (.func slices_ContainsFunc_Level) [] [])) [(.t 25), (.c (.fn (.func lsub_odd) [] []))]), some (21, false), []⟩, O 27 (.pick (.t 21) (B true) (.t 26))]
def r_lsub_Sub_2 : List AI := [O 28 (.bld [(.int .i64 0), (.int .i64 0), (.nils 3)] []), ⟨none, (.o (.st 3 (.t 6) (.t 28))), none, []⟩, O 7 (.mv (N 1))]
def r_lsub_Sub_3 : List AI := [O 29 (.ld 3 true (.t 3)), O 30 (.mkf (.func lsub_Sub_1) [] [(.t 4), (.t 5)]), C 31 (.c (.fn (.func lsub_turn) [] [])) [(.t 29), (.t 30)], O 8 (.alc [(.int .i64 0), (.int .i64 0), (.nils 3)]), ⟨none, (.o (.st 3 (.t 8) (.t 31))), none, []⟩]
def r_lsub_Sub_4 : List AI := [O 32 (.ld 3 true (.t 8)), C 33 (.c (.fn (.func lsub_odd) [] [])) [(.t 32)]]
def r_lsub_Sub_5 : List AI := [O 34 (.bld [(.int .i64 0), (.int .i64 0), (.nils 3)] []), ⟨none, (.o (.st 3 (.t 6) (.t 34))), none, []⟩, O 7 (.mv (N 2))]
def r_lsub_Sub_6 : List AI := [O 35 (.ld 3 true (.t 8)), ⟨none, (.o (.st 3 (.t 6) (.t 35))), none, []⟩, O 7 (.mv (N 0))]
def c_lsub_Sub : FC := .seq (.reg r_lsub_Sub_0) (.seq (.seq (.reg r_lsub_Sub_1) (.cond (.t 27) (.seq (.reg r_lsub_Sub_2) (.ret)) (.skip))) (.seq (.reg r_lsub_Sub_3) (.seq (.seq (.reg r_lsub_Sub_4) (.cond (.t 33) (.seq (.reg r_lsub_Sub_5) (.ret)) (.skip))) (.seq (.reg r_lsub_Sub_6) (.ret)))))
theorem k_lsub_Sub : EntOk Tryz.prog lsub_Sub (.code c_lsub_Sub 36 [.c 3 true 6, .t 7]) := ⟨by kernel_rfl, Tryz.f117, [4, 5], [], Tryz.func117, by kernel_rfl, by kernel_rfl, by kernel_rfl, Tryz.ntmps117⟩
/-! stereobate/lsub.odd -/
def r_lsub_odd_0 : List AI := [O 1 (.bx (.t 0)), O 2 (.mv (B false))]
def r_lsub_odd_1 : List AI := [O 3 (.ld 3 true (.t 1)), C 4 (.c (.fn (.func level_Right) [] [])) [(.t 3), (N 5), (N 10)], O 5 (.not (.t 4)), O 2 (.mv (.t 5))]
def c_lsub_odd : FC := .seq (.reg r_lsub_odd_0) (.seq (.reg r_lsub_odd_1) (.ret))
theorem k_lsub_odd : EntOk Tryz.prog lsub_odd (.code c_lsub_odd 6 [.t 2]) := ⟨by kernel_rfl, Tryz.f118, [], [], Tryz.func118, by kernel_rfl, by kernel_rfl, by kernel_rfl, Tryz.ntmps118⟩
/-! stereobate/lsub.turn -/
def r_lsub_turn_0 : List AI := [O 2 (.bx (.t 0)), O 4 (.alcO [(.int .i64 0), (.int .i64 0), (.nils 3)])]
def r_lsub_turn_1 : List AI := [O 11 (.mv (.t 1)), O 12 (.ld 3 true (.t 2)), C 13 (.t 11) [(.t 12)], O 10 (.mv (.t 13)), O 14 (.ext (.t 10) 0), O 15 (.ext (.t 10) 1), O 5 (.alcO [(.int .i64 0), (.int .i64 0), (.nils 3)]), ⟨none, (.o (.st 3 (.t 5) (.t 14))), none, []⟩, O 6 (.mv (.t 15))]
def r_lsub_turn_2 : List AI := [O 16 (.mv (.t 6))]
def r_lsub_turn_3 : List AI := [O 17 (.ld 3 true (.t 5)), ⟨none, (.o (.st 3 (.t 4) (.t 17))), none, []⟩]
def r_lsub_turn_4 : List AI := [O 18 (.fa 0 (.t 2)), O 19 (.ld 1 false (.t 18)), O 20 (.fa 1 (.t 2)), O 21 (.ld 1 false (.t 20)), O 22 (.bldO [(.int .i64 0), (.int .i64 0), (.nils 3)] [(0, 1, (.t 19)), (1, 1, (.t 21))]), O 7 (.alcO [(.int .i64 0), (.int .i64 0), (.nils 3)]), ⟨none, (.o (.st 3 (.t 7) (.t 22))), none, []⟩]
def r_lsub_turn_5 : List AI := [O 23 (.fa 2 (.t 2)), O 24 (.ld 1 false (.t 23)), O 25 (.len (.t 24)), O 26 (.mv (N 0))]
def r_lsub_turn_6 : List AI := [O 27 (.bin .lss (.t 26) (.t 25))]
def r_lsub_turn_7 : List AI := [O 28 (.ia 3 (.t 24) (.t 26)), O 29 (.ld 3 true (.t 28)), O 9 (.alc [(.int .i64 0), (.int .i64 0), (.nils 3)]), ⟨none, (.o (.st 3 (.t 9) (.t 29))), none, []⟩]
def r_lsub_turn_8 : List AI := [O 30 (.fa 2 (.t 7)), ⟨some 31, (.o (.ld 1 false (.t 30))), none, [0]⟩, O 32 (.ld 3 true (.t 9)), O 33 (.mv (.t 1)), ⟨some 34, (.call (.c (.fn (.func lsub_turn) [] [])) [(.t 32), (.t 33)]), none, [2, 3]⟩, ⟨some 35, (.o (.bsl 3 1 [(.int .i64 0), (.int .i64 0), (.nils 3)] [(0, (.t 34))])), none, [4]⟩, ⟨some 36, (.o (.app 3 (.t 31) (.t 35))), none, [1, 5, 4]⟩, ⟨some 37, (.o (.fa 2 (.t 7))), none, [0, 1, 2, 3, 4, 5, 6]⟩, ⟨none, (.o (.st 1 (.t 37) (.t 36))), none, [7, 6, 6, 0, 1, 2, 3, 4, 5, 6]⟩]
def r_lsub_turn_9 : List AI := [O 38 (.bin .add (.t 26) (N 1)), O 26 (.mv (.t 38))]
def l_lsub_turn_0 : FC := .seq (.reg r_lsub_turn_6) (.seq (.cond (.t 27) (.skip) (.exit 0)) (.seq (.block 1 (.seq (.reg r_lsub_turn_7) (.dreg r_lsub_turn_8))) (.reg r_lsub_turn_9)))
def r_lsub_turn_10 : List AI := [O 39 (.ld 3 true (.t 7)), ⟨none, (.o (.st 3 (.t 4) (.t 39))), none, []⟩]
def c_lsub_turn : FC := .seq (.reg r_lsub_turn_0) (.seq (.seq (.reg r_lsub_turn_1) (.seq (.reg r_lsub_turn_2) (.cond (.t 16) (.seq (.reg r_lsub_turn_3) (.ret)) (.skip)))) (.seq (.reg r_lsub_turn_4) (.seq (.seq (.reg r_lsub_turn_5) (.block 0 (.loop [1, 4, 7, 24, 25, 26] [4, 7] l_lsub_turn_0))) (.seq (.reg r_lsub_turn_10) (.ret)))))
theorem k_lsub_turn : EntOk Tryz.prog lsub_turn (.code c_lsub_turn 40 [.c 3 true 4]) := ⟨by kernel_rfl, Tryz.f119, [], [4, 5, 22, 7], Tryz.func119, by kernel_rfl, by kernel_rfl, by kernel_rfl, Tryz.ntmps119⟩
/-! stereobate/lsub.Sub$1 -/
def r_lsub_Sub_1_0 : List AI := [O 3 (.bx (.t 0)), O 4 (.alc [(.int .i64 0), (.int .i64 0), (.nils 3)]), O 5 (.mv (B false))]
def r_lsub_Sub_1_1 : List AI := [O 7 (.fa 0 (.t 3)), O 8 (.ld 1 false (.t 7)), O 9 (.bin .eql (.t 8) (N 5)), O 10 (.mv (.t 9)), Og 11 10 true (.fa 1 (.t 3)), Og 12 10 true (.ld 1 false (.t 11)), Og 13 10 true (.ld 1 false (.t 1)), Og 14 10 true (.len (.t 13)), Og 15 10 true (.bin .lss (.t 12) (.t 14)), O 16 (.pick (.t 10) (.t 15) (B false)), O 6 (.mv (.t 16))]
def r_lsub_Sub_1_2 : List AI := [O 17 (.ld 1 false (.t 1)), O 18 (.fa 1 (.t 3)), O 19 (.ld 1 false (.t 18)), O 20 (.ia 3 (.t 17) (.t 19)), O 21 (.ld 3 true (.t 20)), ⟨none, (.o (.st 3 (.t 4) (.t 21))), none, []⟩, O 5 (.mv (B true))]
def r_lsub_Sub_1_3 : List AI := [O 23 (.fa 0 (.t 3)), O 24 (.ld 1 false (.t 23)), O 25 (.bin .eql (.t 24) (N 6)), O 26 (.mv (.t 25)), Og 27 26 true (.fa 1 (.t 3)), Og 28 26 true (.ld 1 false (.t 27)), Og 29 26 true (.ld 1 false (.t 2)), Og 30 26 true (.len (.t 29)), Og 31 26 true (.bin .lss (.t 28) (.t 30)), O 32 (.pick (.t 26) (.t 31) (B false)), O 22 (.mv (.t 32))]
def r_lsub_Sub_1_4 : List AI := [O 33 (.ld 1 false (.t 2)), O 34 (.fa 1 (.t 3)), O 35 (.ld 1 false (.t 34)), O 36 (.ia 3 (.t 33) (.t 35)), O 37 (.ld 3 true (.t 36)), ⟨none, (.o (.st 3 (.t 4) (.t 37))), none, []⟩, O 5 (.mv (B true))]
def r_lsub_Sub_1_5 : List AI := [O 38 (.ld 3 true (.t 3)), ⟨none, (.o (.st 3 (.t 4) (.t 38))), none, []⟩, O 5 (.mv (B false))]
def c_lsub_Sub_1 : FC := .seq (.reg r_lsub_Sub_1_0) (.seq (.block 0 (.seq (.reg r_lsub_Sub_1_1) (.cond (.t 6) (.seq (.reg r_lsub_Sub_1_2) (.ret)) (.seq (.reg r_lsub_Sub_1_3) (.cond (.t 22) (.seq (.reg r_lsub_Sub_1_4) (.ret)) (.skip)))))) (.seq (.reg r_lsub_Sub_1_5) (.ret)))
theorem k_lsub_Sub_1 : EntOk Tryz.prog lsub_Sub_1 (.code c_lsub_Sub_1 39 [.c 3 true 4, .t 5]) := ⟨by kernel_rfl, Tryz.f120, [], [], Tryz.func120, by kernel_rfl, by kernel_rfl, by kernel_rfl, Tryz.ntmps120⟩
end Go.Ab
