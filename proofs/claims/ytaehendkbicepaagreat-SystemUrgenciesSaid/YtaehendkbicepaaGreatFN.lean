/- The functions of the program, by name. No condition. -/
import Derived.Test.YtaehendkbicepaaGreatA25
import Derived.Test.YtaehendkbicepaaGreatProg
import Derived.KernelRfl
set_option linter.unusedVariables false
set_option maxRecDepth 100000
namespace Go.Lg
noncomputable abbrev prog : Program := Go.Proofs.Tryz.prog
theorem mixed : prog.follows .mixedOrders = true := by kernel_rfl
abbrev f_gosem_cut_init : FuncId := 2
abbrev f_law43_SystemUrgencies : FuncId := 3
abbrev f_law43_awake : FuncId := 4
abbrev f_make_New : FuncId := 5
abbrev f_make2_Jobs : FuncId := 6
abbrev f_make_Deck_Next : FuncId := 7
abbrev f_system_Urgency : FuncId := 8
abbrev f_ref43_Urgency : FuncId := 9
abbrev f_system_Budgets : FuncId := 10
abbrev f_ref43_Budgets : FuncId := 11
abbrev f_ref23_Fresh : FuncId := 12
abbrev f_system_Run : FuncId := 13
abbrev f_make_Mod : FuncId := 14
abbrev f_system_rank : FuncId := 15
abbrev f_blocking_Ceiling : FuncId := 16
abbrev f_ref43_rank : FuncId := 17
abbrev f_ref40_Ceiling : FuncId := 18
abbrev f_ref22_Empty : FuncId := 19
abbrev f_system_Check : FuncId := 20
abbrev f_system_begin : FuncId := 21
abbrev f_system_steps : FuncId := 22
abbrev f_system_world_result : FuncId := 23
abbrev f_blocking_Before : FuncId := 24
abbrev f_slices_ContainsFunc_api_Hold_api_Hold : FuncId := 25
abbrev f_blocking_Ceiling_1 : FuncId := 26
abbrev f_ref40_Before : FuncId := 27
abbrev f_ref40_uses : FuncId := 28
abbrev f_ref22_Check : FuncId := 29
abbrev f_timing_Check : FuncId := 30
abbrev f_emit_Check : FuncId := 31
abbrev f_blocking_Valid : FuncId := 32
abbrev f_rates_Check : FuncId := 33
abbrev f_timing_Valid : FuncId := 34
abbrev f_slices_ContainsFunc_int_int : FuncId := 35
abbrev f_system_Check_1 : FuncId := 36
abbrev f_system_within : FuncId := 37
abbrev f_machine_Begin : FuncId := 38
abbrev f_slices_Clone_int_int : FuncId := 39
abbrev f_system_overdue : FuncId := 40
abbrev f_system_world_pending : FuncId := 41
abbrev f_system_world_wait : FuncId := 42
abbrev f_system_copied : FuncId := 43
abbrev f_blocking_within : FuncId := 44
abbrev f_slices_IndexFunc_api_Hold_api_Hold : FuncId := 45
abbrev f_cache_Check : FuncId := 46
abbrev f_timing_between : FuncId := 47
abbrev f_timing_placed : FuncId := 48
abbrev f_instr_Check : FuncId := 49
abbrev f_emit_unit : FuncId := 50
abbrev f_slices_ContainsFunc_api_Job_api_Job : FuncId := 51
abbrev f_blocking_Valid_1 : FuncId := 52
abbrev f_blocking_Valid_1_1 : FuncId := 53
abbrev f_rates_Valid : FuncId := 54
abbrev f_rates_formed : FuncId := 55
abbrev f_rates_parts : FuncId := 56
abbrev f_rates_apart : FuncId := 57
abbrev f_cache_Valid : FuncId := 58
abbrev f_slices_IndexFunc_int_int : FuncId := 59
abbrev f_machine_filled : FuncId := 60
abbrev f_machine_there : FuncId := 61
abbrev f_word_Wrap : FuncId := 62
abbrev f_system_world_disturb : FuncId := 63
abbrev f_system_world_next : FuncId := 64
abbrev f_system_world_run : FuncId := 65
abbrev f_system_world_later : FuncId := 66
abbrev f_system_copied_1 : FuncId := 67
abbrev f_slices_Clone_bool_bool : FuncId := 68
abbrev f_cache_between : FuncId := 69
abbrev f_slices_ContainsFunc_api_Span_api_Span : FuncId := 70
abbrev f_timing_placed_1 : FuncId := 71
abbrev f_instr_named : FuncId := 72
abbrev f_instr_register : FuncId := 73
abbrev f_word_Known : FuncId := 74
abbrev f_emit_leads : FuncId := 75
abbrev f_slices_Equal_int_int : FuncId := 76
abbrev f_emit_touches : FuncId := 77
abbrev f_emit_names : FuncId := 78
abbrev f_slices_IndexFunc_api_Job_api_Job : FuncId := 79
abbrev f_rates_within : FuncId := 80
abbrev f_cache_set : FuncId := 81
abbrev f_machine_filled_1 : FuncId := 82
abbrev f_word_Is : FuncId := 83
abbrev f_slices_Concat_api_Area_api_Area : FuncId := 84
abbrev f_cache_Drop : FuncId := 85
abbrev f_system_world_areas : FuncId := 86
abbrev f_system_world_run_1 : FuncId := 87
abbrev f_timing_Step : FuncId := 88
abbrev f_system_world_run_2 : FuncId := 89
abbrev f_slices_IndexFunc_api_Span_api_Span : FuncId := 90
abbrev f_slices_IndexFunc_api_Node_api_Node : FuncId := 91
abbrev f_emit_leads_1 : FuncId := 92
abbrev f_emit_names_1 : FuncId := 93
abbrev f_emit_names_1_1 : FuncId := 94
abbrev f_fact_Check : FuncId := 95
abbrev f_slices_ContainsFunc_api_Term_api_Term : FuncId := 96
abbrev f_emit_names_2 : FuncId := 97
abbrev f_slices_Contains_int_int : FuncId := 98
abbrev f_slices_Grow_api_Area_api_Area : FuncId := 99
abbrev f_cache_copied : FuncId := 100
abbrev f_cache_checked : FuncId := 101
abbrev f_machine_Step : FuncId := 102
abbrev f_timing_Copy : FuncId := 103
abbrev f_timing_Cost : FuncId := 104
abbrev f_machine_Copy : FuncId := 105
abbrev f_fact_block : FuncId := 106
abbrev f_fact_small : FuncId := 107
abbrev f_slices_IndexFunc_api_Term_api_Term : FuncId := 108
abbrev f_slices_Index_int_int : FuncId := 109
abbrev f_machine_Valid : FuncId := 110
abbrev f_machine_Next : FuncId := 111
abbrev f_timing_lines : FuncId := 112
abbrev f_timing_wrong : FuncId := 113
abbrev f_timing_started : FuncId := 114
abbrev f_timing_clock_tick : FuncId := 115
abbrev f_timing_clock_state : FuncId := 116
abbrev f_machine_Valid_1 : FuncId := 117
abbrev f_machine_Next_1 : FuncId := 118
abbrev f_machine_Next_2 : FuncId := 119
abbrev f_machine_Next_3 : FuncId := 120
abbrev f_machine_Next_4 : FuncId := 121
abbrev f_word_Do : FuncId := 122
abbrev f_machine_Next_5 : FuncId := 123
abbrev f_machine_Next_6 : FuncId := 124
abbrev f_machine_Next_7 : FuncId := 125
abbrev f_machine_Next_8 : FuncId := 126
abbrev f_slices_Clone_int_int_n127 : FuncId := 127
abbrev f_timing_Scratch : FuncId := 128
abbrev f_cache_Touch : FuncId := 129
abbrev f_instr_Reads : FuncId := 130
abbrev f_instr_Writes : FuncId := 131
abbrev f_timing_buffer_store : FuncId := 132
abbrev f_timing_predictor_branch : FuncId := 133
abbrev f_word_Cost : FuncId := 134
abbrev f_timing_buffer_retire : FuncId := 135
abbrev f_word_operators : FuncId := 136
abbrev f_timing_Scratch_1 : FuncId := 137
abbrev f_cache_Line : FuncId := 138
abbrev f_cache_front : FuncId := 139
abbrev f_cache_Set : FuncId := 140
abbrev f_slices_Sort_int_int : FuncId := 141
abbrev f_slices_DeleteFunc_int_int : FuncId := 142
abbrev f_slices_Compact_int_int : FuncId := 143
abbrev f_instr_Reads_1 : FuncId := 144
abbrev f_word_operators_1 : FuncId := 145
abbrev f_word_operators_2 : FuncId := 146
abbrev f_word_operators_3 : FuncId := 147
abbrev f_word_divide : FuncId := 148
abbrev f_word_remain : FuncId := 149
abbrev f_word_operators_4 : FuncId := 150
abbrev f_word_operators_5 : FuncId := 151
abbrev f_word_operators_6 : FuncId := 152
abbrev f_word_operators_7 : FuncId := 153
abbrev f_word_operators_8 : FuncId := 154
abbrev f_word_operators_9 : FuncId := 155
abbrev f_word_truth : FuncId := 156
abbrev f_word_operators_10 : FuncId := 157
abbrev f_word_operators_11 : FuncId := 158
abbrev f_word_operators_12 : FuncId := 159
abbrev f_slices_pdqsortOrdered_int : FuncId := 160
abbrev f_math_bits_Len : FuncId := 161
abbrev f_slices_insertionSortOrdered_int : FuncId := 162
abbrev f_slices_heapSortOrdered_int : FuncId := 163
abbrev f_slices_breakPatternsOrdered_int : FuncId := 164
abbrev f_slices_choosePivotOrdered_int : FuncId := 165
abbrev f_slices_reverseRangeOrdered_int : FuncId := 166
abbrev f_slices_partialInsertionSortOrdered_int : FuncId := 167
abbrev f_cmp_Less_int : FuncId := 168
abbrev f_slices_partitionEqualOrdered_int : FuncId := 169
abbrev f_slices_partitionOrdered_int : FuncId := 170
abbrev f_math_bits_Len32 : FuncId := 171
abbrev f_math_bits_Len64 : FuncId := 172
abbrev f_slices_siftDownOrdered_int : FuncId := 173
abbrev f_slices_nextPowerOfTwo : FuncId := 174
abbrev f_slices_xorshift_Next : FuncId := 175
abbrev f_slices_medianAdjacentOrdered_int : FuncId := 176
abbrev f_slices_medianOrdered_int : FuncId := 177
abbrev f_cmp_isNaN_int : FuncId := 178
abbrev f_slices_order2Ordered_int : FuncId := 179
/-- Which boxes of a function are slots. -/
def prsL : List (Nat × List Nat) := [(4, [1, 2, 3, 5]),
  (6, [6]),
  (10, [5]),
  (11, [5]),
  (12, [1, 2]),
  (13, [5, 6, 8, 9, 11, 18]),
  (16, [9]),
  (18, [9]),
  (19, [1, 2, 3]),
  (20, [5, 6, 8, 9, 14, 16, 17]),
  (21, [4, 5, 7, 13]),
  (23, [3, 7]),
  (26, [2]),
  (28, [2, 6]),
  (29, [1]),
  (30, [1]),
  (31, [1, 4, 9]),
  (33, [2, 7, 9]),
  (34, [2, 3]),
  (38, [4, 8, 11, 13, 14, 18]),
  (40, [3]),
  (41, [3]),
  (42, [3]),
  (43, [1, 2]),
  (46, [1]),
  (49, [1, 3]),
  (50, [3, 4, 10, 12]),
  (52, [1]),
  (53, [1]),
  (54, [1]),
  (55, [2]),
  (56, [2]),
  (57, [11]),
  (58, [2, 3]),
  (60, [6]),
  (61, [2, 3, 8]),
  (63, [4, 5, 6, 8]),
  (64, [6]),
  (65, [6, 8, 9, 10]),
  (66, [5]),
  (67, [1, 2, 3]),
  (71, [2]),
  (72, [2]),
  (75, [3, 4, 8, 10]),
  (77, [2, 3, 7]),
  (78, [5, 7, 11]),
  (81, [3]),
  (85, [4, 5, 8, 10]),
  (86, [7]),
  (88, [4, 5, 6, 7, 8, 9, 10, 12, 13, 15, 16]),
  (92, [2]),
  (95, [1, 4]),
  (97, [2]),
  (100, [1, 2, 3]),
  (101, [2, 3]),
  (102, [2, 3, 4, 5, 8]),
  (103, [1, 2]),
  (104, [4, 5, 6, 7, 8, 9, 12, 14]),
  (105, [1, 2]),
  (110, [2, 3]),
  (111, [2, 4]),
  (112, [1, 2, 3]),
  (113, [2, 3]),
  (114, [2, 3]),
  (115, [4, 5, 6, 7, 8, 11, 15]),
  (116, [2]),
  (129, [3, 4, 6, 9]),
  (130, [1]),
  (131, [1]),
  (136, [0]),
  (137, [2]),
  (138, [2]),
  (139, [3]),
  (140, [2])]
def prsGo : List (Nat × List Nat) → Nat → List Nat
  | [], _ => []
  | (k, l) :: r, f => match Nat.beq k f with
    | true => l
    | false => prsGo r f
def prs (f : FuncId) : List Nat := prsGo prsL f
end Go.Lg
