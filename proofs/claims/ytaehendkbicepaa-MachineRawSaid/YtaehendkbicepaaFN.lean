/- The functions of the program, by name. No condition. -/
import Derived.Test.YtaehendkbicepaaA25
import Derived.Test.YtaehendkbicepaaProg
import Derived.KernelRfl
set_option linter.unusedVariables false
set_option maxRecDepth 100000
namespace Go.Lg
noncomputable abbrev prog : Program := Go.Proofs.Try.prog
theorem mixed : prog.follows .mixedOrders = true := by kernel_rfl
abbrev f_gosem_cut_init : FuncId := 2
abbrev f_law21_MachineSteps : FuncId := 3
abbrev f_law21_MachineRaw : FuncId := 4
abbrev f_make_Few : FuncId := 5
abbrev f_law21_awake : FuncId := 6
abbrev f_make_New : FuncId := 7
abbrev f_law21_straight : FuncId := 8
abbrev f_make_Deck_Next : FuncId := 9
abbrev f_make_Deck_Word : FuncId := 10
abbrev f_machine_Step : FuncId := 11
abbrev f_ref21_Step : FuncId := 12
abbrev f_ref21_Same : FuncId := 13
abbrev f_machine_Valid : FuncId := 14
abbrev f_ref21_Valid : FuncId := 15
abbrev f_machine_Run : FuncId := 16
abbrev f_ref01_SameInts : FuncId := 17
abbrev f_machine_Nodes : FuncId := 18
abbrev f_make_Deck_Op : FuncId := 19
abbrev f_make_Mod : FuncId := 20
abbrev f_machine_Copy : FuncId := 21
abbrev f_emit_Check : FuncId := 22
abbrev f_machine_Next : FuncId := 23
abbrev f_ref20_Check : FuncId := 24
abbrev f_ref21_Copy : FuncId := 25
abbrev f_ref21_step : FuncId := 26
abbrev f_machine_Valid_1 : FuncId := 27
abbrev f_word_Is : FuncId := 28
abbrev f_slices_ContainsFunc_int_int : FuncId := 29
abbrev f_ref21_words : FuncId := 30
abbrev f_machine_Begin : FuncId := 31
abbrev f_machine_each : FuncId := 32
abbrev f_machine_Run_1 : FuncId := 33
abbrev f_machine_Run_2 : FuncId := 34
abbrev f_slices_Clone_int_int : FuncId := 35
abbrev f_slices_Clone_bool_bool : FuncId := 36
abbrev f_instr_Check : FuncId := 37
abbrev f_emit_unit : FuncId := 38
abbrev f_machine_Next_1 : FuncId := 39
abbrev f_machine_Next_2 : FuncId := 40
abbrev f_machine_Next_3 : FuncId := 41
abbrev f_machine_Next_4 : FuncId := 42
abbrev f_word_Do : FuncId := 43
abbrev f_machine_Next_5 : FuncId := 44
abbrev f_machine_Next_6 : FuncId := 45
abbrev f_machine_Next_7 : FuncId := 46
abbrev f_machine_Next_8 : FuncId := 47
abbrev f_ref19_Check : FuncId := 48
abbrev f_ref20_node : FuncId := 49
abbrev f_ref20_unit : FuncId := 50
abbrev f_ref01_Do : FuncId := 51
abbrev f_slices_IndexFunc_int_int : FuncId := 52
abbrev f_ref06_Word : FuncId := 53
abbrev f_machine_filled : FuncId := 54
abbrev f_machine_there : FuncId := 55
abbrev f_word_Wrap : FuncId := 56
abbrev f_instr_named : FuncId := 57
abbrev f_instr_register : FuncId := 58
abbrev f_word_Known : FuncId := 59
abbrev f_emit_leads : FuncId := 60
abbrev f_slices_Equal_int_int : FuncId := 61
abbrev f_emit_touches : FuncId := 62
abbrev f_emit_names : FuncId := 63
abbrev f_word_operators : FuncId := 64
abbrev f_ref19_in : FuncId := 65
abbrev f_ref01_Known : FuncId := 66
abbrev f_ref20_at : FuncId := 67
abbrev f_ref20_all : FuncId := 68
abbrev f_ref20_in : FuncId := 69
abbrev f_ref11_Check : FuncId := 70
abbrev f_ref01_Wrap : FuncId := 71
abbrev f_ref01_truth : FuncId := 72
abbrev f_machine_filled_1 : FuncId := 73
abbrev f_slices_Concat_api_Area_api_Area : FuncId := 74
abbrev f_slices_IndexFunc_api_Node_api_Node : FuncId := 75
abbrev f_emit_leads_1 : FuncId := 76
abbrev f_emit_names_1 : FuncId := 77
abbrev f_emit_names_1_1 : FuncId := 78
abbrev f_fact_Check : FuncId := 79
abbrev f_slices_ContainsFunc_api_Term_api_Term : FuncId := 80
abbrev f_emit_names_2 : FuncId := 81
abbrev f_word_operators_1 : FuncId := 82
abbrev f_word_operators_2 : FuncId := 83
abbrev f_word_operators_3 : FuncId := 84
abbrev f_word_divide : FuncId := 85
abbrev f_word_remain : FuncId := 86
abbrev f_word_operators_4 : FuncId := 87
abbrev f_word_operators_5 : FuncId := 88
abbrev f_word_operators_6 : FuncId := 89
abbrev f_word_operators_7 : FuncId := 90
abbrev f_word_operators_8 : FuncId := 91
abbrev f_word_operators_9 : FuncId := 92
abbrev f_word_truth : FuncId := 93
abbrev f_word_operators_10 : FuncId := 94
abbrev f_word_operators_11 : FuncId := 95
abbrev f_word_operators_12 : FuncId := 96
abbrev f_ref11_in : FuncId := 97
abbrev f_slices_Grow_api_Area_api_Area : FuncId := 98
abbrev f_fact_block : FuncId := 99
abbrev f_fact_small : FuncId := 100
abbrev f_slices_IndexFunc_api_Term_api_Term : FuncId := 101
/-- Which boxes of a function are slots. -/
def prsL : List (Nat × List Nat) := [(3, [6, 7, 11, 12, 14, 15]),
  (4, [4, 7, 8, 9, 11, 12]),
  (6, [1, 2]),
  (8, [2, 3, 4, 7, 8]),
  (11, [2, 3, 4, 5, 8]),
  (12, [2, 3, 4, 5, 8]),
  (13, [2, 3]),
  (14, [2, 3]),
  (15, [2, 3]),
  (16, [5, 10, 15, 18]),
  (18, [2, 9]),
  (21, [1, 2]),
  (22, [1, 4, 9]),
  (23, [2, 4]),
  (24, [1, 7, 9, 12]),
  (25, [1, 2]),
  (26, [2, 4, 6, 7]),
  (31, [4, 8, 11, 13, 14, 18]),
  (32, [4, 10]),
  (33, [2]),
  (34, [6]),
  (37, [1, 3]),
  (38, [3, 4, 10, 12]),
  (48, [1, 3]),
  (49, [3, 4, 7, 10, 13, 15]),
  (50, [1, 5]),
  (54, [6]),
  (55, [2, 3, 8]),
  (57, [2]),
  (60, [3, 4, 8, 10]),
  (62, [2, 3, 7]),
  (63, [5, 7, 11]),
  (64, [0]),
  (67, [2]),
  (70, [1, 4]),
  (76, [2]),
  (79, [1, 4]),
  (81, [2])]
def prsGo : List (Nat × List Nat) → Nat → List Nat
  | [], _ => []
  | (k, l) :: r, f => match Nat.beq k f with
    | true => l
    | false => prsGo r f
def prs (f : FuncId) : List Nat := prsGo prsL f
end Go.Lg
