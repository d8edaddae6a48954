/- Exec: the table stands for the program. PRINTED BY wip/dev/AbsDev.lean (printTiesC). -/
import Derived.Test.YtddpdpjpfgnhmaaGreatG28x
import Derived.Test.YtddpdpjpfgnhmaaGreatProg
import Derived.KernelRfl
set_option linter.unusedSimpArgs false
set_option linter.unusedVariables false
set_option maxHeartbeats 4000000
set_option maxRecDepth 100000
namespace Go.Abs.Plan
open Go Go.Abs Go.Proofs
theorem tie4 : z8 Tryz.prog true false [0, 1, 2, 3, 6, 7, 8, 9, 10, 19, 4003] Tryz.f4 = some zl2 := by kernel_rfl
theorem tie9 : z8 Tryz.prog true false [0, 2, 3, 4, 5, 13, 22, 4027] Tryz.f9 = some a_law19_short := by kernel_rfl
theorem tie11 : z8 Tryz.prog true false [0, 1, 4, 5, 6, 7, 8, 9, 4001, 4015, 4019, 4056, 4057, 4063, 4065] Tryz.f11 = some a_law19_alive := by kernel_rfl
theorem tie12 : z8 Tryz.prog true false [0, 1, 2, 3, 4, 8, 9, 10, 11, 13, 17, 25, 26, 27, 28, 4004, 4033] Tryz.f12 = some zh3 := by kernel_rfl
theorem tie14 : z8 Tryz.prog true false [0, 1, 2, 3, 4, 8, 9, 10, 11, 12, 14, 15, 17, 18, 19, 21, 31, 34, 35, 36, 37, 42, 43, 44, 45, 60, 77, 79, 4004, 4017, 4052, 4063, 4086] Tryz.f14 = some a_exec_Run := by kernel_rfl
theorem tie17 : z8 Tryz.prog true false [0, 1, 4, 5, 6, 16, 29, 31, 37] Tryz.f17 = some z44 := by kernel_rfl
theorem tie18 : z8 Tryz.prog true false [0, 1, 2, 3, 6, 7, 8, 9, 17, 30, 4003] Tryz.f18 = some z53 := by kernel_rfl
theorem tie19 : z8 Tryz.prog true false [0, 1, 2, 3, 6, 7, 8, 9, 17, 30, 4003] Tryz.f19 = some z93 := by kernel_rfl
theorem tie20 : z8 Tryz.prog true false [0, 1, 4, 5, 10, 14, 26] Tryz.f20 = some z54 := by kernel_rfl
theorem tie32 : z8 Tryz.prog true false [0, 1, 2, 3, 4, 5, 7, 17, 24, 25, 26, 27, 36, 39, 40, 41, 42, 48, 4001, 4005, 4007] Tryz.f32 = some a_plan_Check := by kernel_rfl
theorem tie33 : z8 Tryz.prog false true [0, 2, 3, 4, 6, 7, 4003, 4004] Tryz.f33 = some a_exec_once := by kernel_rfl
theorem tie34 : z8 Tryz.prog false false [0, 1, 2, 3, 4, 8, 9, 10, 11, 12, 14, 15, 23, 24, 25, 26, 35, 39, 56, 57, 58, 59, 72, 4004, 4011, 4015, 4052, 8018] Tryz.f34 = some a_exec_newRunner := by kernel_rfl
theorem tie35 : z8 Tryz.prog false false [0, 1, 2, 4001] Tryz.f35 = some a_exec_runner_all := by kernel_rfl
theorem tie37 : z8 Tryz.prog false true [0, 2, 3, 4, 5, 9, 27, 45] Tryz.f37 = some a_ref19_sorted := by kernel_rfl
theorem tie39 : z8 Tryz.prog true false [0, 1, 2, 4, 7, 4002] Tryz.f39 = some a_exec_val := by kernel_rfl
theorem tie40 : z8 Tryz.prog true false [0, 2, 3, 5, 6, 7, 8, 9, 4005] Tryz.f40 = some a_exec_key := by kernel_rfl
theorem tie41 : z8 Tryz.prog false false [0, 1, 4] Tryz.f41 = some z21 := by kernel_rfl
theorem tie42 : z8 Tryz.prog true false [0, 1, 2, 3, 4, 4002, 4003] Tryz.f42 = some a_exec_Run_1 := by kernel_rfl
theorem tie43 : z8 Tryz.prog true false [0, 1, 4] Tryz.f43 = some z74 := by kernel_rfl
theorem tie45 : z8 Tryz.prog true false [0, 1, 2, 3, 4, 5, 9, 4002, 4003] Tryz.f45 = some zn1 := by kernel_rfl
theorem tie46 : z8 Tryz.prog false false [0, 1, 4, 5, 7, 8, 9, 11, 12, 13, 14, 23] Tryz.f46 = some a_exec_seen := by kernel_rfl
theorem tie47 : z8 Tryz.prog false true [0, 1, 4, 5, 6, 7, 9, 11, 13, 24, 4027] Tryz.f47 = some a_exec_less := by kernel_rfl
theorem tie48 : z8 Tryz.prog true false [0, 1, 4, 5, 6, 7, 8, 12, 24, 4027, 4029] Tryz.f48 = some a_ref19_rows := by kernel_rfl
theorem tie49 : z8 Tryz.prog true false [0, 1, 4] Tryz.f49 = some a_ref02_Minus := by kernel_rfl
theorem tie50 : z8 Tryz.prog true false [0, 1, 4] Tryz.f50 = some a_ref02_Same := by kernel_rfl
theorem tie52 : z8 Tryz.prog true false [0, 1, 4, 6, 7, 8, 9, 10, 16, 4006] Tryz.f52 = some a_model_Of := by kernel_rfl
theorem tie70 : z8 Tryz.prog false false [0, 1, 2, 4, 6, 8, 9, 11, 14, 101, 103, 104, 105, 106, 115, 4004, 4011] Tryz.f70 = some za := by kernel_rfl
theorem tie71 : z8 Tryz.prog false false [0, 1, 2, 3, 5, 8, 9, 11, 12, 17, 31, 51, 63, 4005] Tryz.f71 = some zc := by kernel_rfl
theorem tie72 : z8 Tryz.prog false true [0, 1, 4, 5] Tryz.f72 = some zg1 := by kernel_rfl
theorem tie73 : z8 Tryz.prog false false [0, 1, 2, 4001] Tryz.f73 = some z51 := by kernel_rfl
theorem tie74 : z8 Tryz.prog true false [0, 1, 4] Tryz.f74 = some a_exec_once_1 := by kernel_rfl
theorem tie75 : z8 Tryz.prog true false [0, 1, 2, 3, 4, 6, 7, 8, 9, 11, 17, 18, 19, 20, 24, 25, 26, 27, 45, 52, 53, 54, 55, 60, 4001, 4006, 4009, 4011, 4048, 4067, 4068] Tryz.f75 = some a_exec_known := by kernel_rfl
theorem tie76 : z8 Tryz.prog false false [0, 1, 2, 6, 7, 9, 16, 17, 18, 19] Tryz.f76 = some ze2 := by kernel_rfl
theorem tie77 : z8 Tryz.prog false false [0, 1, 2, 3, 4002] Tryz.f77 = some a_exec_runner_all_1 := by kernel_rfl
theorem tie78 : z8 Tryz.prog false false [0, 1, 2, 3, 4, 7, 8, 9, 11, 13, 14, 22, 36, 63, 64, 65, 66, 76, 79, 85, 4008] Tryz.f78 = some z61 := by kernel_rfl
theorem tie79 : z8 Tryz.prog true false [0, 1, 2, 4, 5, 6, 7, 8, 9, 10, 18, 19, 21, 23, 25, 27, 29, 41, 4004, 4005] Tryz.f79 = some zk := by kernel_rfl
theorem tie80 : z8 Tryz.prog false true [0, 1, 2, 6, 7, 9, 16, 17, 18, 19] Tryz.f80 = some zv2 := by kernel_rfl
theorem tie81 : z8 Tryz.prog false false [0, 2, 4] Tryz.f81 = some zd1 := by kernel_rfl
theorem tie82 : z8 Tryz.prog false false [0, 1, 2, 6, 7, 8, 9, 10, 11, 12, 17, 25, 26, 36, 4008] Tryz.f82 = some a_exec_agree := by kernel_rfl
theorem tie88 : z8 Tryz.prog false false [0, 1, 3, 4, 4003, 4017] Tryz.f88 = some a_exec_text := by kernel_rfl
theorem tie89 : z8 Tryz.prog false false [0, 1, 2, 3, 4, 10, 11, 12, 13, 14, 15, 16, 17, 18, 19, 20, 25, 32, 39, 56, 75, 80, 97, 125] Tryz.f89 = some (Sort.a_pdq idsC true 2) := by kernel_rfl
theorem tie90 : z8 Tryz.prog true false [0, 2] Tryz.f90 = some (Sort.a_len idsC true 2) := by kernel_rfl
theorem tie91 : z8 Tryz.prog false false [0, 1, 2, 6, 7, 8, 9, 10, 11, 12, 13, 14, 21, 31, 38, 4008, 4009] Tryz.f91 = some z41 := by kernel_rfl
theorem tie92 : z8 Tryz.prog true false [0, 1, 2, 3, 4, 4002, 4003] Tryz.f92 = some zj3 := by kernel_rfl
theorem tie93 : z8 Tryz.prog true false [0, 1, 4, 5, 6, 7, 8, 9, 10, 11, 16, 19, 20, 21, 22, 27, 28, 30, 38, 39, 49, 70, 4009, 4060] Tryz.f93 = some a_exec_binds := by kernel_rfl
theorem tie94 : z8 Tryz.prog false false [0, 1, 4] Tryz.f94 = some za1 := by kernel_rfl
theorem tie95 : z8 Tryz.prog true false [0, 1, 4] Tryz.f95 = some a_exec_less_1 := by kernel_rfl
theorem tie96 : z8 Tryz.prog true false [0, 1, 4, 5, 6, 7, 8, 9, 14, 19, 26, 27, 29, 40, 41, 51, 75] Tryz.f96 = some z13 := by kernel_rfl
theorem tie97 : z8 Tryz.prog true false [0, 1, 2, 6, 7, 8, 12, 22] Tryz.f97 = some a_ref02_some := by kernel_rfl
theorem tie99 : z8 Tryz.prog true false [0, 1, 2, 3, 4, 5, 8, 9, 19, 4001, 4004, 4005, 4026] Tryz.f99 = some a_check_Vars := by kernel_rfl
theorem tie102 : z8 Tryz.prog false false [0, 1, 2, 3, 4, 5, 6, 7, 8, 10, 12, 13, 14, 16, 17, 18, 19, 22, 28, 40, 51, 60, 4001, 4006, 4010] Tryz.f102 = some a_plan_making_next := by kernel_rfl
theorem tie132 : z8 Tryz.prog false false [0, 2] Tryz.f132 = some zh2 := by kernel_rfl
theorem tie133 : z8 Tryz.prog false false [0, 1, 4, 6, 8, 14] Tryz.f133 = some zq := by kernel_rfl
theorem tie135 : z8 Tryz.prog true false [0, 2] Tryz.f135 = some a_pack_Int := by kernel_rfl
theorem tie136 : z8 Tryz.prog true false [0, 2] Tryz.f136 = some a_pack_Text := by kernel_rfl
theorem tie137 : z8 Tryz.prog false false [0, 1, 2, 3, 8, 9, 14, 34] Tryz.f137 = some (Sort.a_ins idsC true 2) := by kernel_rfl
theorem tie138 : z8 Tryz.prog false false [0, 1, 2, 3, 8, 9, 10, 11, 12, 21, 33] Tryz.f138 = some (Sort.a_heap idsC true 2) := by kernel_rfl
theorem tie139 : z8 Tryz.prog false false [0, 1, 2, 3, 8, 9, 10, 11, 12, 17, 35, 45] Tryz.f139 = some (Sort.a_brk idsC true 2) := by kernel_rfl
theorem tie140 : z8 Tryz.prog false false [0, 1, 2, 3, 8, 9, 10, 11, 12, 13, 14, 34, 36, 55, 57, 60] Tryz.f140 = some (Sort.a_piv idsC true 2) := by kernel_rfl
theorem tie141 : z8 Tryz.prog false false [0, 1, 2, 3, 8, 9, 15] Tryz.f141 = some (Sort.a_rev idsC true 2) := by kernel_rfl
theorem tie142 : z8 Tryz.prog false false [0, 1, 2, 3, 8, 9, 10, 11, 12, 16, 36, 41, 45, 65, 69, 84, 104, 109, 124] Tryz.f142 = some (Sort.a_pins idsC true 2) := by kernel_rfl
theorem tie143 : z8 Tryz.prog false false [0, 1, 2, 3, 4, 10, 11, 12, 47, 65, 70] Tryz.f143 = some (Sort.a_peq idsC true 2) := by kernel_rfl
theorem tie144 : z8 Tryz.prog false false [0, 1, 2, 3, 4, 10, 11, 12, 13, 47, 66, 71, 120, 139, 144] Tryz.f144 = some (Sort.a_part idsC true 2) := by kernel_rfl
theorem tie145 : z8 Tryz.prog true false [0, 2, 4, 8] Tryz.f145 = some (Sort.a_len32 idsC true 2) := by kernel_rfl
theorem tie146 : z8 Tryz.prog true false [0, 2, 4, 8, 14] Tryz.f146 = some (Sort.a_len64 idsC true 2) := by kernel_rfl
theorem tie147 : z8 Tryz.prog true false [0, 2, 3, 5, 6, 7, 8, 9, 14] Tryz.f147 = some a_cmp_Or_int := by kernel_rfl
theorem tie148 : z8 Tryz.prog true false [0, 1, 4, 5, 6, 11, 12, 13, 16, 19] Tryz.f148 = some zo1 := by kernel_rfl
theorem tie149 : z8 Tryz.prog true false [0, 1, 4, 5, 6, 11, 12, 13, 16, 19] Tryz.f149 = some zp1 := by kernel_rfl
theorem tie150 : z8 Tryz.prog true false [0, 1, 4, 5, 6, 11, 12, 13, 16, 19] Tryz.f150 = some zh1 := by kernel_rfl
theorem tie151 : z8 Tryz.prog false false [0, 1, 2, 3, 4, 10, 11, 12, 13, 14, 15, 16, 17, 18, 19, 20, 25, 32, 39, 56, 75, 80, 97, 125] Tryz.f151 = some (Sort.a_pdq idsT false 1) := by kernel_rfl
theorem tie152 : z8 Tryz.prog true false [0, 1, 4, 5, 9, 17] Tryz.f152 = some a_ref19_place := by kernel_rfl
theorem tie153 : z8 Tryz.prog true false [0, 1, 4, 6] Tryz.f153 = some a_ref02_Has := by kernel_rfl
theorem tie154 : z8 Tryz.prog true false [0, 1, 4, 5, 6, 13] Tryz.f154 = some zk3 := by kernel_rfl
theorem tie155 : z8 Tryz.prog true false [0, 1, 3, 4, 4003] Tryz.f155 = some a_plan_kinds := by kernel_rfl
theorem tie157 : z8 Tryz.prog false false [0, 1, 2, 4001] Tryz.f157 = some a_check_terms := by kernel_rfl
theorem tie160 : z8 Tryz.prog false false [0, 1, 4] Tryz.f160 = some z84 := by kernel_rfl
theorem tie161 : z8 Tryz.prog false false [0, 1, 2, 4001] Tryz.f161 = some a_plan_making_open := by kernel_rfl
theorem tie163 : z8 Tryz.prog false false [0, 1, 4] Tryz.f163 = some a_plan_making_has := by kernel_rfl
theorem tie183 : z8 Tryz.prog false false [0, 1, 2, 4, 5, 6, 7, 4010] Tryz.f183 = some z91 := by kernel_rfl
theorem tie184 : z8 Tryz.prog false false [0, 2, 3, 5, 4012, 4017] Tryz.f184 = some a_pack_Num := by kernel_rfl
theorem tie185 : z8 Tryz.prog false false [0, 1, 2, 3, 4, 10, 11, 18, 40, 58] Tryz.f185 = some (Sort.a_sift idsC true 2) := by kernel_rfl
theorem tie186 : z8 Tryz.prog true false [0, 2] Tryz.f186 = some (Sort.a_npow idsC true 2) := by kernel_rfl
theorem tie187 : z8 Tryz.prog false false [0, 2] Tryz.f187 = some (Sort.a_next idsC true 2) := by kernel_rfl
theorem tie188 : z8 Tryz.prog false false [0, 1, 2, 3, 8] Tryz.f188 = some (Sort.a_madj idsC true 2) := by kernel_rfl
theorem tie189 : z8 Tryz.prog false false [0, 1, 2, 3, 4, 5, 12] Tryz.f189 = some (Sort.a_med idsC true 2) := by kernel_rfl
theorem tie190 : z8 Tryz.prog true false [0, 2] Tryz.f190 = some za3 := by kernel_rfl
theorem tie191 : z8 Tryz.prog true false [0, 2] Tryz.f191 = some zb3 := by kernel_rfl
theorem tie192 : z8 Tryz.prog true false [0, 2] Tryz.f192 = some zw2 := by kernel_rfl
theorem tie193 : z8 Tryz.prog false false [0, 1, 2, 3, 8, 9, 14, 34] Tryz.f193 = some (Sort.a_ins idsT false 1) := by kernel_rfl
theorem tie194 : z8 Tryz.prog false false [0, 1, 2, 3, 8, 9, 10, 11, 12, 21, 33] Tryz.f194 = some (Sort.a_heap idsT false 1) := by kernel_rfl
theorem tie195 : z8 Tryz.prog false false [0, 1, 2, 3, 8, 9, 10, 11, 12, 17, 35, 45] Tryz.f195 = some (Sort.a_brk idsT false 1) := by kernel_rfl
theorem tie196 : z8 Tryz.prog false false [0, 1, 2, 3, 8, 9, 10, 11, 12, 13, 14, 34, 36, 55, 57, 60] Tryz.f196 = some (Sort.a_piv idsT false 1) := by kernel_rfl
theorem tie197 : z8 Tryz.prog false false [0, 1, 2, 3, 8, 9, 15] Tryz.f197 = some (Sort.a_rev idsT false 1) := by kernel_rfl
theorem tie198 : z8 Tryz.prog false false [0, 1, 2, 3, 8, 9, 10, 11, 12, 16, 36, 41, 45, 65, 69, 84, 104, 109, 124] Tryz.f198 = some (Sort.a_pins idsT false 1) := by kernel_rfl
theorem tie199 : z8 Tryz.prog false false [0, 1, 2, 3, 4, 10, 11, 12, 47, 65, 70] Tryz.f199 = some (Sort.a_peq idsT false 1) := by kernel_rfl
theorem tie200 : z8 Tryz.prog false false [0, 1, 2, 3, 4, 10, 11, 12, 13, 47, 66, 71, 120, 139, 144] Tryz.f200 = some (Sort.a_part idsT false 1) := by kernel_rfl
theorem tie201 : z8 Tryz.prog true false [0, 1, 4, 5, 6, 7, 8, 9, 13, 23] Tryz.f201 = some a_ref02_Place := by kernel_rfl
theorem tie202 : z8 Tryz.prog false false [0, 1, 2, 3, 4002] Tryz.f202 = some a_plan_kinds_1 := by kernel_rfl
theorem tie204 : z8 Tryz.prog false false [0, 1, 4] Tryz.f204 = some a_plan_making_place := by kernel_rfl
theorem tie205 : z8 Tryz.prog false false [0, 1, 4, 5, 7, 8, 9, 16] Tryz.f205 = some a_slices_IndexFunc_Term_Term := by kernel_rfl
theorem tie206 : z8 Tryz.prog false false [0, 1, 3, 4, 9, 10, 11, 12, 29, 4004] Tryz.f206 = some a_plan_making_open_1 := by kernel_rfl
theorem tie218 : z8 Tryz.prog false false [0, 1, 2, 3, 4, 10, 11, 22] Tryz.f218 = some (Sort.a_ord idsC true 2) := by kernel_rfl
theorem tie219 : z8 Tryz.prog false false [0, 1, 2, 3, 4, 10, 11, 18, 40, 58] Tryz.f219 = some (Sort.a_sift idsT false 1) := by kernel_rfl
theorem tie220 : z8 Tryz.prog false false [0, 1, 2, 3, 8] Tryz.f220 = some (Sort.a_madj idsT false 1) := by kernel_rfl
theorem tie221 : z8 Tryz.prog false false [0, 1, 2, 3, 4, 5, 12] Tryz.f221 = some (Sort.a_med idsT false 1) := by kernel_rfl
theorem tie222 : z8 Tryz.prog true false [0, 1, 4, 5, 7, 8, 9, 16] Tryz.f222 = some a_slices_Index_string_string := by kernel_rfl
theorem tie225 : z8 Tryz.prog false false [0, 1, 2, 3, 4, 10, 11, 22] Tryz.f225 = some (Sort.a_ord idsT false 1) := by kernel_rfl
theorem tblOk0 : TblOk Tryz.prog tbl0 := by
 intro f x h
 unfold tbl0 at h
 split at h
 ·cases h; exact ⟨_, _, _, _, Tryz.func4, tie4⟩
 ·cases h; exact ⟨_, _, _, _, Tryz.func9, tie9⟩
 ·cases h; exact ⟨_, _, _, _, Tryz.func11, tie11⟩
 ·cases h; exact ⟨_, _, _, _, Tryz.func17, tie17⟩
 ·cases h; exact ⟨_, _, _, _, Tryz.func19, tie19⟩
 ·cases h; exact ⟨_, _, _, _, Tryz.func20, tie20⟩
 ·cases h; exact ⟨_, _, _, _, Tryz.func32, tie32⟩
 ·cases h; exact ⟨_, _, _, _, Tryz.func33, tie33⟩
 ·cases h; exact ⟨_, _, _, _, Tryz.func34, tie34⟩
 ·cases h; exact ⟨_, _, _, _, Tryz.func35, tie35⟩
 ·cases h; exact ⟨_, _, _, _, Tryz.func37, tie37⟩
 ·cases h; exact ⟨_, _, _, _, Tryz.func39, tie39⟩
 ·cases h; exact ⟨_, _, _, _, Tryz.func40, tie40⟩
 ·cases h; exact ⟨_, _, _, _, Tryz.func41, tie41⟩
 ·cases h; exact ⟨_, _, _, _, Tryz.func42, tie42⟩
 ·cases h; exact ⟨_, _, _, _, Tryz.func43, tie43⟩
 ·cases h; exact ⟨_, _, _, _, Tryz.func45, tie45⟩
 ·cases h; exact ⟨_, _, _, _, Tryz.func46, tie46⟩
 ·cases h; exact ⟨_, _, _, _, Tryz.func47, tie47⟩
 ·cases h; exact ⟨_, _, _, _, Tryz.func48, tie48⟩
 ·cases h; exact ⟨_, _, _, _, Tryz.func49, tie49⟩
 ·cases h; exact ⟨_, _, _, _, Tryz.func50, tie50⟩
 ·cases h; exact ⟨_, _, _, _, Tryz.func52, tie52⟩
 ·simp at h
theorem tblOk1 : TblOk Tryz.prog tbl1 := by
 intro f x h
 unfold tbl1 at h
 split at h
 ·cases h; exact ⟨_, _, _, _, Tryz.func70, tie70⟩
 ·cases h; exact ⟨_, _, _, _, Tryz.func71, tie71⟩
 ·cases h; exact ⟨_, _, _, _, Tryz.func72, tie72⟩
 ·cases h; exact ⟨_, _, _, _, Tryz.func73, tie73⟩
 ·cases h; exact ⟨_, _, _, _, Tryz.func74, tie74⟩
 ·cases h; exact ⟨_, _, _, _, Tryz.func75, tie75⟩
 ·cases h; exact ⟨_, _, _, _, Tryz.func76, tie76⟩
 ·cases h; exact ⟨_, _, _, _, Tryz.func77, tie77⟩
 ·cases h; exact ⟨_, _, _, _, Tryz.func78, tie78⟩
 ·cases h; exact ⟨_, _, _, _, Tryz.func79, tie79⟩
 ·cases h; exact ⟨_, _, _, _, Tryz.func80, tie80⟩
 ·cases h; exact ⟨_, _, _, _, Tryz.func81, tie81⟩
 ·cases h; exact ⟨_, _, _, _, Tryz.func82, tie82⟩
 ·cases h; exact ⟨_, _, _, _, Tryz.func88, tie88⟩
 ·cases h; exact ⟨_, _, _, _, Tryz.func89, tie89⟩
 ·cases h; exact ⟨_, _, _, _, Tryz.func90, tie90⟩
 ·cases h; exact ⟨_, _, _, _, Tryz.func91, tie91⟩
 ·cases h; exact ⟨_, _, _, _, Tryz.func92, tie92⟩
 ·cases h; exact ⟨_, _, _, _, Tryz.func93, tie93⟩
 ·cases h; exact ⟨_, _, _, _, Tryz.func94, tie94⟩
 ·cases h; exact ⟨_, _, _, _, Tryz.func95, tie95⟩
 ·cases h; exact ⟨_, _, _, _, Tryz.func96, tie96⟩
 ·cases h; exact ⟨_, _, _, _, Tryz.func97, tie97⟩
 ·cases h; exact ⟨_, _, _, _, Tryz.func99, tie99⟩
 ·cases h; exact ⟨_, _, _, _, Tryz.func102, tie102⟩
 ·simp at h
theorem tblOk2 : TblOk Tryz.prog tbl2 := by
 intro f x h
 unfold tbl2 at h
 split at h
 ·cases h; exact ⟨_, _, _, _, Tryz.func132, tie132⟩
 ·cases h; exact ⟨_, _, _, _, Tryz.func133, tie133⟩
 ·cases h; exact ⟨_, _, _, _, Tryz.func135, tie135⟩
 ·cases h; exact ⟨_, _, _, _, Tryz.func136, tie136⟩
 ·cases h; exact ⟨_, _, _, _, Tryz.func137, tie137⟩
 ·cases h; exact ⟨_, _, _, _, Tryz.func138, tie138⟩
 ·cases h; exact ⟨_, _, _, _, Tryz.func139, tie139⟩
 ·cases h; exact ⟨_, _, _, _, Tryz.func140, tie140⟩
 ·cases h; exact ⟨_, _, _, _, Tryz.func141, tie141⟩
 ·cases h; exact ⟨_, _, _, _, Tryz.func142, tie142⟩
 ·cases h; exact ⟨_, _, _, _, Tryz.func143, tie143⟩
 ·cases h; exact ⟨_, _, _, _, Tryz.func144, tie144⟩
 ·cases h; exact ⟨_, _, _, _, Tryz.func145, tie145⟩
 ·cases h; exact ⟨_, _, _, _, Tryz.func146, tie146⟩
 ·cases h; exact ⟨_, _, _, _, Tryz.func147, tie147⟩
 ·cases h; exact ⟨_, _, _, _, Tryz.func148, tie148⟩
 ·cases h; exact ⟨_, _, _, _, Tryz.func149, tie149⟩
 ·cases h; exact ⟨_, _, _, _, Tryz.func150, tie150⟩
 ·cases h; exact ⟨_, _, _, _, Tryz.func151, tie151⟩
 ·cases h; exact ⟨_, _, _, _, Tryz.func152, tie152⟩
 ·cases h; exact ⟨_, _, _, _, Tryz.func153, tie153⟩
 ·cases h; exact ⟨_, _, _, _, Tryz.func154, tie154⟩
 ·cases h; exact ⟨_, _, _, _, Tryz.func155, tie155⟩
 ·cases h; exact ⟨_, _, _, _, Tryz.func157, tie157⟩
 ·cases h; exact ⟨_, _, _, _, Tryz.func160, tie160⟩
 ·cases h; exact ⟨_, _, _, _, Tryz.func161, tie161⟩
 ·cases h; exact ⟨_, _, _, _, Tryz.func163, tie163⟩
 ·cases h; exact ⟨_, _, _, _, Tryz.func183, tie183⟩
 ·cases h; exact ⟨_, _, _, _, Tryz.func184, tie184⟩
 ·cases h; exact ⟨_, _, _, _, Tryz.func185, tie185⟩
 ·simp at h
theorem tblOk3 : TblOk Tryz.prog tbl3 := by
 intro f x h
 unfold tbl3 at h
 split at h
 ·cases h; exact ⟨_, _, _, _, Tryz.func186, tie186⟩
 ·cases h; exact ⟨_, _, _, _, Tryz.func187, tie187⟩
 ·cases h; exact ⟨_, _, _, _, Tryz.func188, tie188⟩
 ·cases h; exact ⟨_, _, _, _, Tryz.func189, tie189⟩
 ·cases h; exact ⟨_, _, _, _, Tryz.func190, tie190⟩
 ·cases h; exact ⟨_, _, _, _, Tryz.func191, tie191⟩
 ·cases h; exact ⟨_, _, _, _, Tryz.func192, tie192⟩
 ·cases h; exact ⟨_, _, _, _, Tryz.func193, tie193⟩
 ·cases h; exact ⟨_, _, _, _, Tryz.func194, tie194⟩
 ·cases h; exact ⟨_, _, _, _, Tryz.func195, tie195⟩
 ·cases h; exact ⟨_, _, _, _, Tryz.func196, tie196⟩
 ·cases h; exact ⟨_, _, _, _, Tryz.func197, tie197⟩
 ·cases h; exact ⟨_, _, _, _, Tryz.func198, tie198⟩
 ·cases h; exact ⟨_, _, _, _, Tryz.func199, tie199⟩
 ·cases h; exact ⟨_, _, _, _, Tryz.func200, tie200⟩
 ·cases h; exact ⟨_, _, _, _, Tryz.func201, tie201⟩
 ·cases h; exact ⟨_, _, _, _, Tryz.func202, tie202⟩
 ·cases h; exact ⟨_, _, _, _, Tryz.func204, tie204⟩
 ·cases h; exact ⟨_, _, _, _, Tryz.func205, tie205⟩
 ·cases h; exact ⟨_, _, _, _, Tryz.func206, tie206⟩
 ·cases h; exact ⟨_, _, _, _, Tryz.func218, tie218⟩
 ·cases h; exact ⟨_, _, _, _, Tryz.func219, tie219⟩
 ·cases h; exact ⟨_, _, _, _, Tryz.func220, tie220⟩
 ·cases h; exact ⟨_, _, _, _, Tryz.func221, tie221⟩
 ·cases h; exact ⟨_, _, _, _, Tryz.func222, tie222⟩
 ·cases h; exact ⟨_, _, _, _, Tryz.func225, tie225⟩
 ·simp at h
theorem tblOk : TblOk Tryz.prog tbl := by
 intro f x h
 unfold tbl at h
 split at h; · exact tblOk0 f x h
 split at h; · exact tblOk1 f x h
 split at h; · exact tblOk2 f x h
 exact tblOk3 f x h
theorem tblNOk : TblOk Tryz.prog tblN := by
 intro f x h
 unfold tblN at h
 split at h; · rename_i e; subst e; cases h; exact ⟨_, _, _, _, Tryz.func12, tie12⟩
 split at h; · rename_i e; subst e; cases h; exact ⟨_, _, _, _, Tryz.func14, tie14⟩
 split at h; · rename_i e; subst e; cases h; exact ⟨_, _, _, _, Tryz.func18, tie18⟩
 exact tblOk f x h
end Go.Abs.Plan
