/- Plan: the table stands for the program. PRINTED BY wip/dev/AbsDev.lean (printTies). -/
import Derived.Test.YtnbilkoabogllaaGx
import Derived.Test.YtnbilkoabogllaaProg
import Derived.KernelRfl
set_option maxRecDepth 100000
namespace Go.Abs.Plan
open Go Go.Abs Go.Proofs
theorem tie3 : convFunc Try.prog true false [0, 1, 2, 4, 5, 6, 8, 17, 29, 4002, 4005] Try.f3 = some a_law18_PlanMay := by kernel_rfl
theorem tie4 : convFunc Try.prog true false [0, 1, 2, 4, 5, 6, 7, 8, 9, 10, 11, 13, 23, 30, 43, 60, 72, 81, 99, 4005, 4010] Try.f4 = some a_law18_PlanOnce := by kernel_rfl
theorem tie5 : convFunc Try.prog true false [0, 1, 2, 4, 5, 6, 7, 8, 10, 19, 24, 42, 64, 91, 4002, 4005] Try.f5 = some a_law18_PlanSoon := by kernel_rfl
theorem tie6 : convFunc Try.prog true false [0, 1, 2, 3, 4, 5, 6, 7, 20, 24, 35] Try.f6 = some a_law18_PlanChecks := by kernel_rfl
theorem tie7 : convFunc Try.prog true false [0, 1, 2, 3, 4, 6, 4001, 4002, 4005, 4007, 4010, 4012, 4017, 4027] Try.f7 = some a_law18_awake := by kernel_rfl
theorem tie8 : convFunc Try.prog true false [0, 1, 2, 4, 5, 6, 7, 8, 9, 10, 11, 17, 21, 32, 63, 64, 65, 78, 108, 4002, 4006, 4010] Try.f8 = some a_plan_Make := by kernel_rfl
theorem tie9 : convFunc Try.prog true false [0, 1, 2, 3, 4, 5, 23, 4001, 4040, 8012] Try.f9 = some a_law18_Rule := by kernel_rfl
theorem tie10 : convFunc Try.prog true false [0, 1, 2, 3, 4, 5, 15, 24, 36, 41, 51, 4001] Try.f10 = some a_ref18_Check := by kernel_rfl
theorem tie11 : convFunc Try.prog true false [0, 1, 2, 3, 4, 5, 7, 17, 24, 25, 26, 27, 36, 39, 40, 41, 42, 48, 4001, 4005, 4007] Try.f11 = some a_plan_Check := by kernel_rfl
theorem tie12 : convFunc Try.prog true false [0, 2, 3, 7, 14] Try.f12 = some a_law18_ones := by kernel_rfl
theorem tie13 : convFunc Try.prog true false [0, 1, 2, 3, 4, 5, 6, 7, 21, 28, 59, 4002, 4003] Try.f13 = some a_law18_uses := by kernel_rfl
theorem tie14 : convFunc Try.prog true false [0, 1, 2, 6, 14] Try.f14 = some a_law18_small := by kernel_rfl
theorem tie15 : convFunc Try.prog true false [0, 1, 2, 3, 4, 5, 7, 8, 9, 10, 11, 14, 17, 18, 19, 20, 28, 29, 30, 31, 50, 59, 73, 83, 4001, 4007, 4011, 4086] Try.f15 = some a_plan_Needs := by kernel_rfl
theorem tie16 : convFunc Try.prog true false [0, 1, 2, 3, 4, 5, 6, 7, 8, 9, 10, 13, 22, 37, 66, 78, 87, 103, 115, 129, 4001, 4006] Try.f16 = some a_ref18_Needs := by kernel_rfl
theorem tie17 : convFunc Try.prog true false [0, 1, 2, 3, 4, 5, 4002, 4003] Try.f17 = some a_plan_Same := by kernel_rfl
theorem tie18 : convFunc Try.prog true false [0, 1, 2, 3, 4, 5, 6, 7, 8, 39, 44, 57, 62, 129, 4002, 4003] Try.f18 = some a_ref18_Same := by kernel_rfl
theorem tie19 : convFunc Try.prog false true [0, 1, 4, 5, 6, 13] Try.f19 = some a_law18_pos := by kernel_rfl
theorem tie20 : convFunc Try.prog true false [0, 2] Try.f20 = some a_law18_v := by kernel_rfl
theorem tie21 : convFunc Try.prog true false [0, 1, 2, 3, 4, 5, 7, 9, 10, 26, 27, 28, 29, 33, 35, 62, 4001, 4007, 4059, 4082, 4096] Try.f21 = some a_plan_clean := by kernel_rfl
theorem tie22 : convFunc Try.prog true false [0, 1, 2, 3, 4, 5, 8, 9, 19, 4001, 4004, 4005, 4026] Try.f22 = some a_check_Vars := by kernel_rfl
theorem tie23 : convFunc Try.prog false true [0, 1, 4, 5, 7, 8, 9, 10, 11, 4007, 4018] Try.f23 = some a_plan_making_cols := by kernel_rfl
theorem tie24 : convFunc Try.prog true false [0, 2, 3, 5, 6, 7, 8, 9, 10, 22, 4005, 4025] Try.f24 = some a_plan_vars := by kernel_rfl
theorem tie25 : convFunc Try.prog false false [0, 1, 2, 3, 4, 5, 6, 7, 8, 10, 12, 13, 14, 16, 17, 18, 19, 22, 28, 40, 51, 60, 4001, 4006, 4010] Try.f25 = some a_plan_making_next := by kernel_rfl
theorem tie26 : convFunc Try.prog false false [0, 1, 4, 5, 23, 24, 26, 4004] Try.f26 = some a_plan_making_step := by kernel_rfl
theorem tie27 : convFunc Try.prog true false [0, 2, 5] Try.f27 = some a_law18_few := by kernel_rfl
theorem tie28 : convFunc Try.prog false false [0, 1, 2, 3, 6, 7, 8, 11, 12, 50, 87, 92, 105, 4003, 4007] Try.f28 = some a_ref18_step := by kernel_rfl
theorem tie29 : convFunc Try.prog false false [0, 1, 2, 4, 4002] Try.f29 = some a_ref18_told := by kernel_rfl
theorem tie30 : convFunc Try.prog false false [0, 1, 2, 4, 6, 8, 9, 11, 14, 101, 103, 104, 105, 106, 115, 4004, 4011] Try.f30 = some a_plan_asking_step := by kernel_rfl
theorem tie31 : convFunc Try.prog false false [0, 1, 2, 3, 5, 8, 9, 11, 12, 17, 31, 51, 63, 4005] Try.f31 = some a_plan_asking_col := by kernel_rfl
theorem tie32 : convFunc Try.prog false false [0, 1, 4] Try.f32 = some a_slices_SortFunc_Need_Need := by kernel_rfl
theorem tie33 : convFunc Try.prog true false [0, 1, 2, 3, 4, 4002, 4003] Try.f33 = some a_plan_Needs_1 := by kernel_rfl
theorem tie34 : convFunc Try.prog true false [0, 2, 3, 5, 6, 7, 8, 9, 14] Try.f34 = some a_cmp_Or_int := by kernel_rfl
theorem tie35 : convFunc Try.prog true false [0, 1, 4, 5, 6, 11, 12, 13, 16, 19] Try.f35 = some a_cmp_Compare_string := by kernel_rfl
theorem tie36 : convFunc Try.prog true false [0, 1, 4, 5, 6, 11, 12, 13, 16, 19] Try.f36 = some a_cmp_Compare_uint64 := by kernel_rfl
theorem tie37 : convFunc Try.prog true false [0, 1, 2, 3, 4, 4002, 4003] Try.f37 = some a_ref18_less := by kernel_rfl
theorem tie38 : convFunc Try.prog true false [0, 1, 2, 3, 4, 4002, 4003] Try.f38 = some a_plan_Same_1 := by kernel_rfl
theorem tie39 : convFunc Try.prog true false [0, 1, 4, 5, 10, 12, 13, 14, 24] Try.f39 = some a_slices_Equal_Col_Col := by kernel_rfl
theorem tie40 : convFunc Try.prog true false [0, 1, 4, 5, 10, 12, 13, 14, 24] Try.f40 = some a_slices_Equal_string_string := by kernel_rfl
theorem tie41 : convFunc Try.prog false false [0, 1, 2, 6, 7, 8, 9, 14, 15, 16, 17, 18, 30, 4008, 4009] Try.f41 = some a_slices_EqualFunc_PlanStep_PlanStep_PlanStep_PlanStep := by kernel_rfl
theorem tie42 : convFunc Try.prog true false [0, 1, 4, 5, 10, 14, 25] Try.f42 = some a_ref18_SameCols := by kernel_rfl
theorem tie43 : convFunc Try.prog true false [0, 1, 2, 3, 4, 5, 9, 4002, 4003] Try.f43 = some a_ref01_Compare := by kernel_rfl
theorem tie44 : convFunc Try.prog true false [0, 1, 3, 4, 4003] Try.f44 = some a_plan_kinds := by kernel_rfl
theorem tie45 : convFunc Try.prog true false [0, 1, 2, 4, 5, 6, 7, 8, 9, 10, 18, 19, 21, 23, 25, 27, 29, 41, 4004, 4005] Try.f45 = some a_value_Holds := by kernel_rfl
theorem tie46 : convFunc Try.prog true false [0, 1, 2, 3, 5, 7, 8, 10, 13, 14, 15, 16, 21, 22, 23, 24, 34, 41, 42, 43, 44, 49, 4001, 4005, 4007, 4052] Try.f46 = some a_check_Bound := by kernel_rfl
theorem tie47 : convFunc Try.prog false false [0, 1, 2, 4001] Try.f47 = some a_check_terms := by kernel_rfl
theorem tie48 : convFunc Try.prog false false [0, 1, 3, 4, 5, 7, 8, 13, 23, 4003] Try.f48 = some a_plan_making_col := by kernel_rfl
theorem tie49 : convFunc Try.prog false false [0, 1, 2, 3, 4002] Try.f49 = some a_plan_vars_1 := by kernel_rfl
theorem tie50 : convFunc Try.prog false false [0, 1, 4] Try.f50 = some a_slices_ContainsFunc_Term_Term := by kernel_rfl
theorem tie51 : convFunc Try.prog false false [0, 1, 2, 4001] Try.f51 = some a_plan_making_open := by kernel_rfl
theorem tie52 : convFunc Try.prog true false [0, 1, 2, 5, 4001] Try.f52 = some a_plan_terms := by kernel_rfl
theorem tie53 : convFunc Try.prog false false [0, 1, 4] Try.f53 = some a_plan_making_has := by kernel_rfl
theorem tie54 : convFunc Try.prog false false [0, 1, 2, 3, 6, 7, 13, 14, 19, 27, 53, 58, 4003] Try.f54 = some a_ref18_col := by kernel_rfl
theorem tie55 : convFunc Try.prog false false [0, 1, 2, 3, 4, 10, 11, 12, 13, 14, 15, 16, 17, 18, 19, 20, 25, 32, 39, 56, 75, 80, 97, 125] Try.f55 = some a_slices_pdqsortCmpFunc_Need := by kernel_rfl
theorem tie56 : convFunc Try.prog true false [0, 2] Try.f56 = some a_math_bits_Len := by kernel_rfl
theorem tie57 : convFunc Try.prog true false [0, 2] Try.f57 = some a_cmp_isNaN_string := by kernel_rfl
theorem tie58 : convFunc Try.prog true false [0, 2] Try.f58 = some a_cmp_isNaN_uint64 := by kernel_rfl
theorem tie59 : convFunc Try.prog false false [0, 1, 2, 3, 4002] Try.f59 = some a_plan_kinds_1 := by kernel_rfl
theorem tie60 : convFunc Try.prog true false [0, 1, 2, 3, 4, 4002, 4003] Try.f60 = some a_value_Compare := by kernel_rfl
theorem tie61 : convFunc Try.prog false false [0, 1, 4, 6, 8, 11, 12, 13, 14, 20, 23, 24, 25, 26, 31, 32, 33, 34, 40, 53, 4004, 4006, 4008] Try.f61 = some a_check_terms_1 := by kernel_rfl
theorem tie62 : convFunc Try.prog false false [0, 1, 4] Try.f62 = some a_plan_making_place := by kernel_rfl
theorem tie63 : convFunc Try.prog false false [0, 1, 4, 5, 7, 8, 9, 16] Try.f63 = some a_slices_IndexFunc_Term_Term := by kernel_rfl
theorem tie64 : convFunc Try.prog false false [0, 1, 3, 4, 9, 10, 11, 12, 29, 4004] Try.f64 = some a_plan_making_open_1 := by kernel_rfl
theorem tie65 : convFunc Try.prog false false [0, 1, 2, 3, 8, 9, 14, 34] Try.f65 = some a_slices_insertionSortCmpFunc_Need := by kernel_rfl
theorem tie66 : convFunc Try.prog false false [0, 1, 2, 3, 8, 9, 10, 11, 12, 21, 33] Try.f66 = some a_slices_heapSortCmpFunc_Need := by kernel_rfl
theorem tie67 : convFunc Try.prog false false [0, 1, 2, 3, 8, 9, 10, 11, 12, 17, 35, 45] Try.f67 = some a_slices_breakPatternsCmpFunc_Need := by kernel_rfl
theorem tie68 : convFunc Try.prog false false [0, 1, 2, 3, 8, 9, 10, 11, 12, 13, 14, 34, 36, 55, 57, 60] Try.f68 = some a_slices_choosePivotCmpFunc_Need := by kernel_rfl
theorem tie69 : convFunc Try.prog false false [0, 1, 2, 3, 8, 9, 15] Try.f69 = some a_slices_reverseRangeCmpFunc_Need := by kernel_rfl
theorem tie70 : convFunc Try.prog false false [0, 1, 2, 3, 8, 9, 10, 11, 12, 16, 36, 41, 45, 65, 69, 84, 104, 109, 124] Try.f70 = some a_slices_partialInsertionSortCmpFunc_Need := by kernel_rfl
theorem tie71 : convFunc Try.prog false false [0, 1, 2, 3, 4, 10, 11, 12, 47, 65, 70] Try.f71 = some a_slices_partitionEqualCmpFunc_Need := by kernel_rfl
theorem tie72 : convFunc Try.prog false false [0, 1, 2, 3, 4, 10, 11, 12, 13, 47, 66, 71, 120, 139, 144] Try.f72 = some a_slices_partitionCmpFunc_Need := by kernel_rfl
theorem tie73 : convFunc Try.prog true false [0, 2, 4, 8] Try.f73 = some a_math_bits_Len32 := by kernel_rfl
theorem tie74 : convFunc Try.prog true false [0, 2, 4, 8, 14] Try.f74 = some a_math_bits_Len64 := by kernel_rfl
theorem tie75 : convFunc Try.prog true false [0, 1, 4, 5, 6, 11, 12, 13, 16, 19] Try.f75 = some a_cmp_Compare_VKind := by kernel_rfl
theorem tie76 : convFunc Try.prog true false [0, 1, 4, 5, 6, 11, 12, 13, 16, 19] Try.f76 = some a_cmp_Compare_int64 := by kernel_rfl
theorem tie77 : convFunc Try.prog true false [0, 1, 4, 5, 7, 8, 9, 16] Try.f77 = some a_slices_Index_string_string := by kernel_rfl
theorem tie78 : convFunc Try.prog false false [0, 1, 2, 3, 4, 10, 11, 18, 40, 58] Try.f78 = some a_slices_siftDownCmpFunc_Need := by kernel_rfl
theorem tie79 : convFunc Try.prog true false [0, 2] Try.f79 = some a_slices_nextPowerOfTwo := by kernel_rfl
theorem tie80 : convFunc Try.prog false false [0, 2] Try.f80 = some a_slices_xorshift_Next := by kernel_rfl
theorem tie81 : convFunc Try.prog false false [0, 1, 2, 3, 8] Try.f81 = some a_slices_medianAdjacentCmpFunc_Need := by kernel_rfl
theorem tie82 : convFunc Try.prog false false [0, 1, 2, 3, 4, 5, 12] Try.f82 = some a_slices_medianCmpFunc_Need := by kernel_rfl
theorem tie83 : convFunc Try.prog true false [0, 2] Try.f83 = some a_cmp_isNaN_VKind := by kernel_rfl
theorem tie84 : convFunc Try.prog true false [0, 2] Try.f84 = some a_cmp_isNaN_int64 := by kernel_rfl
theorem tie85 : convFunc Try.prog false false [0, 1, 2, 3, 4, 10, 11, 22] Try.f85 = some a_slices_order2CmpFunc_Need := by kernel_rfl
theorem tblOk : TblOk Try.prog tbl := by
  intro f x h
  unfold tbl at h
  split at h
  · cases h; exact ⟨_, _, _, _, Try.func3, tie3⟩
  · cases h; exact ⟨_, _, _, _, Try.func4, tie4⟩
  · cases h; exact ⟨_, _, _, _, Try.func5, tie5⟩
  · cases h; exact ⟨_, _, _, _, Try.func6, tie6⟩
  · cases h; exact ⟨_, _, _, _, Try.func7, tie7⟩
  · cases h; exact ⟨_, _, _, _, Try.func8, tie8⟩
  · cases h; exact ⟨_, _, _, _, Try.func9, tie9⟩
  · cases h; exact ⟨_, _, _, _, Try.func10, tie10⟩
  · cases h; exact ⟨_, _, _, _, Try.func11, tie11⟩
  · cases h; exact ⟨_, _, _, _, Try.func12, tie12⟩
  · cases h; exact ⟨_, _, _, _, Try.func13, tie13⟩
  · cases h; exact ⟨_, _, _, _, Try.func14, tie14⟩
  · cases h; exact ⟨_, _, _, _, Try.func15, tie15⟩
  · cases h; exact ⟨_, _, _, _, Try.func16, tie16⟩
  · cases h; exact ⟨_, _, _, _, Try.func17, tie17⟩
  · cases h; exact ⟨_, _, _, _, Try.func18, tie18⟩
  · cases h; exact ⟨_, _, _, _, Try.func19, tie19⟩
  · cases h; exact ⟨_, _, _, _, Try.func20, tie20⟩
  · cases h; exact ⟨_, _, _, _, Try.func21, tie21⟩
  · cases h; exact ⟨_, _, _, _, Try.func22, tie22⟩
  · cases h; exact ⟨_, _, _, _, Try.func23, tie23⟩
  · cases h; exact ⟨_, _, _, _, Try.func24, tie24⟩
  · cases h; exact ⟨_, _, _, _, Try.func25, tie25⟩
  · cases h; exact ⟨_, _, _, _, Try.func26, tie26⟩
  · cases h; exact ⟨_, _, _, _, Try.func27, tie27⟩
  · cases h; exact ⟨_, _, _, _, Try.func28, tie28⟩
  · cases h; exact ⟨_, _, _, _, Try.func29, tie29⟩
  · cases h; exact ⟨_, _, _, _, Try.func30, tie30⟩
  · cases h; exact ⟨_, _, _, _, Try.func31, tie31⟩
  · cases h; exact ⟨_, _, _, _, Try.func32, tie32⟩
  · cases h; exact ⟨_, _, _, _, Try.func33, tie33⟩
  · cases h; exact ⟨_, _, _, _, Try.func34, tie34⟩
  · cases h; exact ⟨_, _, _, _, Try.func35, tie35⟩
  · cases h; exact ⟨_, _, _, _, Try.func36, tie36⟩
  · cases h; exact ⟨_, _, _, _, Try.func37, tie37⟩
  · cases h; exact ⟨_, _, _, _, Try.func38, tie38⟩
  · cases h; exact ⟨_, _, _, _, Try.func39, tie39⟩
  · cases h; exact ⟨_, _, _, _, Try.func40, tie40⟩
  · cases h; exact ⟨_, _, _, _, Try.func41, tie41⟩
  · cases h; exact ⟨_, _, _, _, Try.func42, tie42⟩
  · cases h; exact ⟨_, _, _, _, Try.func43, tie43⟩
  · cases h; exact ⟨_, _, _, _, Try.func44, tie44⟩
  · cases h; exact ⟨_, _, _, _, Try.func45, tie45⟩
  · cases h; exact ⟨_, _, _, _, Try.func46, tie46⟩
  · cases h; exact ⟨_, _, _, _, Try.func47, tie47⟩
  · cases h; exact ⟨_, _, _, _, Try.func48, tie48⟩
  · cases h; exact ⟨_, _, _, _, Try.func49, tie49⟩
  · cases h; exact ⟨_, _, _, _, Try.func50, tie50⟩
  · cases h; exact ⟨_, _, _, _, Try.func51, tie51⟩
  · cases h; exact ⟨_, _, _, _, Try.func52, tie52⟩
  · cases h; exact ⟨_, _, _, _, Try.func53, tie53⟩
  · cases h; exact ⟨_, _, _, _, Try.func54, tie54⟩
  · cases h; exact ⟨_, _, _, _, Try.func55, tie55⟩
  · cases h; exact ⟨_, _, _, _, Try.func56, tie56⟩
  · cases h; exact ⟨_, _, _, _, Try.func57, tie57⟩
  · cases h; exact ⟨_, _, _, _, Try.func58, tie58⟩
  · cases h; exact ⟨_, _, _, _, Try.func59, tie59⟩
  · cases h; exact ⟨_, _, _, _, Try.func60, tie60⟩
  · cases h; exact ⟨_, _, _, _, Try.func61, tie61⟩
  · cases h; exact ⟨_, _, _, _, Try.func62, tie62⟩
  · cases h; exact ⟨_, _, _, _, Try.func63, tie63⟩
  · cases h; exact ⟨_, _, _, _, Try.func64, tie64⟩
  · cases h; exact ⟨_, _, _, _, Try.func65, tie65⟩
  · cases h; exact ⟨_, _, _, _, Try.func66, tie66⟩
  · cases h; exact ⟨_, _, _, _, Try.func67, tie67⟩
  · cases h; exact ⟨_, _, _, _, Try.func68, tie68⟩
  · cases h; exact ⟨_, _, _, _, Try.func69, tie69⟩
  · cases h; exact ⟨_, _, _, _, Try.func70, tie70⟩
  · cases h; exact ⟨_, _, _, _, Try.func71, tie71⟩
  · cases h; exact ⟨_, _, _, _, Try.func72, tie72⟩
  · cases h; exact ⟨_, _, _, _, Try.func73, tie73⟩
  · cases h; exact ⟨_, _, _, _, Try.func74, tie74⟩
  · cases h; exact ⟨_, _, _, _, Try.func75, tie75⟩
  · cases h; exact ⟨_, _, _, _, Try.func76, tie76⟩
  · cases h; exact ⟨_, _, _, _, Try.func77, tie77⟩
  · cases h; exact ⟨_, _, _, _, Try.func78, tie78⟩
  · cases h; exact ⟨_, _, _, _, Try.func79, tie79⟩
  · cases h; exact ⟨_, _, _, _, Try.func80, tie80⟩
  · cases h; exact ⟨_, _, _, _, Try.func81, tie81⟩
  · cases h; exact ⟨_, _, _, _, Try.func82, tie82⟩
  · cases h; exact ⟨_, _, _, _, Try.func83, tie83⟩
  · cases h; exact ⟨_, _, _, _, Try.func84, tie84⟩
  · cases h; exact ⟨_, _, _, _, Try.func85, tie85⟩
  · simp at h
end Go.Abs.Plan

