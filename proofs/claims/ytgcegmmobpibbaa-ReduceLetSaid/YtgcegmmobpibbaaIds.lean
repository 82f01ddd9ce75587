/- Numbers of functions, printed by Emit2.lean. Conditions: none. -/
import Derived.Test.YtgcegmmobpibbaaProg
import Derived.Test.YtgcegmmobpibbaaFnC
set_option linter.unusedVariables false
set_option linter.defProp false
set_option maxRecDepth 100000
namespace Go.Ab
open Go.RowKit Go.Proofs
def law16_ReduceAgain : FuncId := 3
def law16_ReduceLet : FuncId := 4
def law16_awake : FuncId := 5
def law16_Env : FuncId := 6
def law16_closed : FuncId := 7
def reduce_Reduce : FuncId := 8
def ref13_Same : FuncId := 9
def law13_Sort : FuncId := 10
def ref13_Open : FuncId := 11
def law13_Bind : FuncId := 12
def ref02_Num : FuncId := 13
def law13_Var : FuncId := 14
def reduce_Right : FuncId := 15
def law16_Decl : FuncId := 16
def law02_Maker_Pick : FuncId := 17
def law02_Maker_Level : FuncId := 18
def reduce_Shape : FuncId := 19
def reduce_Machine_Head : FuncId := 20
def reduce_Machine_Fail : FuncId := 21
def ref02_Same : FuncId := 22
def ref13_Shape : FuncId := 23
def ref13_open : FuncId := 24
def term_Same : FuncId := 25
def reduce_may : FuncId := 26
def under_Right : FuncId := 27
def term_Right : FuncId := 28
def reduce_steps : FuncId := 29
def slices_Backward_Term : FuncId := 30
def ref13_Right : FuncId := 31
def ref13_lift : FuncId := 32
def ref13_binds : FuncId := 33
def slices_EqualFunc_Level : FuncId := 34
def level_Same : FuncId := 35
def slices_EqualFunc_Term : FuncId := 36
def slices_ContainsFunc_int : FuncId := 37
def tsub_Consts : FuncId := 38
def reduce_may_1 : FuncId := 39
def under_Right_1 : FuncId := 40
def level_Right : FuncId := 41
def slices_ContainsFunc_Con : FuncId := 42
def term_room_fits : FuncId := 43
def reduce_spine_let : FuncId := 44
def reduce_spine_constant : FuncId := 45
def reduce_spine_lambda : FuncId := 46
def reduce_spine_app : FuncId := 47
def slices_Backward_Term_1 : FuncId := 48
def ref13_Parts : FuncId := 49
def ref13_right : FuncId := 50
def slices_IndexFunc_int : FuncId := 51
def tsub_all : FuncId := 52
def tsub_once : FuncId := 53
def level_nodes : FuncId := 54
def level_right : FuncId := 55
def slices_IndexFunc_Con : FuncId := 56
def term_parts : FuncId := 57
def term_room_right : FuncId := 58
def reduce_Machine_Burn : FuncId := 59
def reduce_Machine_Put : FuncId := 60
def term_Open : FuncId := 61
def tsub_Sub : FuncId := 62
def ref13_kids : FuncId := 63
def ref13_named : FuncId := 64
def tsub_all_1 : FuncId := 65
def level_kinds : FuncId := 66
def level_right_1 : FuncId := 67
def level_named : FuncId := 68
def slices_ContainsFunc_Level : FuncId := 69
def term_room_right_1 : FuncId := 70
def term_shapes : FuncId := 71
def term_room_named : FuncId := 72
def term_below : FuncId := 73
def term_all : FuncId := 74
def term_told : FuncId := 75
def term_turn : FuncId := 76
def term_Open_1 : FuncId := 77
def term_lift : FuncId := 78
def term_variable : FuncId := 79
def slices_Concat_Level : FuncId := 80
def tsub_odd : FuncId := 81
def tsub_putter_term : FuncId := 82
def ref02_Right : FuncId := 83
def level_kinds_1 : FuncId := 84
def level_kinds_2 : FuncId := 85
def level_kinds_3 : FuncId := 86
def level_kinds_4 : FuncId := 87
def level_imax : FuncId := 88
def level_kinds_5 : FuncId := 89
def level_kinds_6 : FuncId := 90
def slices_IndexFunc_Level : FuncId := 91
def term_lift_1 : FuncId := 92
def slices_Grow_Level : FuncId := 93
def lsub_Sub : FuncId := 94
def ref02_Nodes : FuncId := 95
def ref02_right : FuncId := 96
def lsub_odd : FuncId := 97
def lsub_turn : FuncId := 98
def lsub_Sub_1 : FuncId := 99
def ref02_kids : FuncId := 100
theorem tryMixed : Try.prog.follows .mixedOrders = true := by kernel_rfl
end Go.Ab
