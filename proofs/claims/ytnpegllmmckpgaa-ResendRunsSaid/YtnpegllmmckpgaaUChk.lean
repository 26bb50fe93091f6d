/- Each function's abstract code is held against the program's form in Lean. No condition. -/
import Derived.Test.YtnpegllmmckpgaaUCode
import Derived.Test.YtnpegllmmckpgaaEv9
import Derived.Test.YtnpegllmmckpgaaProg
import Derived.KernelRfl
/-! Each function's check. -/
set_option linter.all false
namespace Ev
open Go
def sig : Sig := fun f => (T f).map fun af => (af.ownP, af.ownR)
theorem x_law34_Ask_light : chkFunc Go.Proofs.Try.prog sig f_law34_Ask_light c_law34_Ask_light = true := by kernel_rfl
theorem x_meta_Check_1 : chkFunc Go.Proofs.Try.prog sig f_meta_Check_1 c_meta_Check_1 = true := by kernel_rfl
theorem x_meta_Check : chkFunc Go.Proofs.Try.prog sig f_meta_Check c_meta_Check = true := by kernel_rfl
theorem x_slices_BinarySearchFunc_api_Record_api_Record_uint64 : chkFunc Go.Proofs.Try.prog sig f_slices_BinarySearchFunc_api_Record_api_Record_uint64 c_slices_BinarySearchFunc_api_Record_api_Record_uint64 = true := by kernel_rfl
theorem x_index_Index_place : chkFunc Go.Proofs.Try.prog sig f_index_Index_place c_index_Index_place = true := by kernel_rfl
theorem x_slices_Clone_int_int : chkFunc Go.Proofs.Try.prog sig f_slices_Clone_int_int c_slices_Clone_int_int = true := by kernel_rfl
theorem x_index_copyOf : chkFunc Go.Proofs.Try.prog sig f_index_copyOf c_index_copyOf = true := by kernel_rfl
theorem x_slices_Insert_api_Record_api_Record : chkFunc Go.Proofs.Try.prog sig f_slices_Insert_api_Record_api_Record c_slices_Insert_api_Record_api_Record = true := by kernel_rfl
theorem x_index_Index_Put : chkFunc Go.Proofs.Try.prog sig f_index_Index_Put c_index_Index_Put = true := by kernel_rfl
theorem x_index_New : chkFunc Go.Proofs.Try.prog sig f_index_New c_index_New = true := by kernel_rfl
theorem x_index_Frames : chkFunc Go.Proofs.Try.prog sig f_index_Frames c_index_Frames = true := by kernel_rfl
theorem x_index_Index_Frame_1 : chkFunc Go.Proofs.Try.prog sig f_index_Index_Frame_1 c_index_Index_Frame_1 = true := by kernel_rfl
theorem x_index_Index_some : chkFunc Go.Proofs.Try.prog sig f_index_Index_some c_index_Index_some = true := by kernel_rfl
theorem x_index_Index_Frame : chkFunc Go.Proofs.Try.prog sig f_index_Index_Frame c_index_Index_Frame = true := by kernel_rfl
theorem x_resend_One : chkFunc Go.Proofs.Try.prog sig f_resend_One c_resend_One = true := by kernel_rfl
theorem x_resend_Range : chkFunc Go.Proofs.Try.prog sig f_resend_Range c_resend_Range = true := by kernel_rfl
theorem x_resend_Runs_1 : chkFunc Go.Proofs.Try.prog sig f_resend_Runs_1 c_resend_Runs_1 = true := by kernel_rfl
theorem x_resend_Runs : chkFunc Go.Proofs.Try.prog sig f_resend_Runs c_resend_Runs = true := by kernel_rfl
theorem x_slices_Clone_2_uint64_2_uint64 : chkFunc Go.Proofs.Try.prog sig f_slices_Clone_2_uint64_2_uint64 c_slices_Clone_2_uint64_2_uint64 = true := by kernel_rfl
theorem x_slices_IndexFunc_2_uint64_2_uint64 : chkFunc Go.Proofs.Try.prog sig f_slices_IndexFunc_2_uint64_2_uint64 c_slices_IndexFunc_2_uint64_2_uint64 = true := by kernel_rfl
theorem x_slices_DeleteFunc_2_uint64_2_uint64 : chkFunc Go.Proofs.Try.prog sig f_slices_DeleteFunc_2_uint64_2_uint64 c_slices_DeleteFunc_2_uint64_2_uint64 = true := by kernel_rfl
theorem x_math_bits_Len32 : chkFunc Go.Proofs.Try.prog sig f_math_bits_Len32 c_math_bits_Len32 = true := by kernel_rfl
theorem x_math_bits_Len64 : chkFunc Go.Proofs.Try.prog sig f_math_bits_Len64 c_math_bits_Len64 = true := by kernel_rfl
theorem x_math_bits_Len : chkFunc Go.Proofs.Try.prog sig f_math_bits_Len c_math_bits_Len = true := by kernel_rfl
theorem x_slices_insertionSortCmpFunc_2_uint64 : chkFunc Go.Proofs.Try.prog sig f_slices_insertionSortCmpFunc_2_uint64 c_slices_insertionSortCmpFunc_2_uint64 = true := by kernel_rfl
theorem x_slices_siftDownCmpFunc_2_uint64 : chkFunc Go.Proofs.Try.prog sig f_slices_siftDownCmpFunc_2_uint64 c_slices_siftDownCmpFunc_2_uint64 = true := by kernel_rfl
theorem x_slices_heapSortCmpFunc_2_uint64 : chkFunc Go.Proofs.Try.prog sig f_slices_heapSortCmpFunc_2_uint64 c_slices_heapSortCmpFunc_2_uint64 = true := by kernel_rfl
theorem x_slices_nextPowerOfTwo : chkFunc Go.Proofs.Try.prog sig f_slices_nextPowerOfTwo c_slices_nextPowerOfTwo = true := by kernel_rfl
theorem x_slices_xorshift_Next : chkFunc Go.Proofs.Try.prog sig f_slices_xorshift_Next c_slices_xorshift_Next = true := by kernel_rfl
theorem x_slices_breakPatternsCmpFunc_2_uint64 : chkFunc Go.Proofs.Try.prog sig f_slices_breakPatternsCmpFunc_2_uint64 c_slices_breakPatternsCmpFunc_2_uint64 = true := by kernel_rfl
theorem x_slices_order2CmpFunc_2_uint64 : chkFunc Go.Proofs.Try.prog sig f_slices_order2CmpFunc_2_uint64 c_slices_order2CmpFunc_2_uint64 = true := by kernel_rfl
theorem x_slices_medianCmpFunc_2_uint64 : chkFunc Go.Proofs.Try.prog sig f_slices_medianCmpFunc_2_uint64 c_slices_medianCmpFunc_2_uint64 = true := by kernel_rfl
theorem x_slices_medianAdjacentCmpFunc_2_uint64 : chkFunc Go.Proofs.Try.prog sig f_slices_medianAdjacentCmpFunc_2_uint64 c_slices_medianAdjacentCmpFunc_2_uint64 = true := by kernel_rfl
theorem x_slices_choosePivotCmpFunc_2_uint64 : chkFunc Go.Proofs.Try.prog sig f_slices_choosePivotCmpFunc_2_uint64 c_slices_choosePivotCmpFunc_2_uint64 = true := by kernel_rfl
theorem x_slices_reverseRangeCmpFunc_2_uint64 : chkFunc Go.Proofs.Try.prog sig f_slices_reverseRangeCmpFunc_2_uint64 c_slices_reverseRangeCmpFunc_2_uint64 = true := by kernel_rfl
theorem x_slices_partialInsertionSortCmpFunc_2_uint64 : chkFunc Go.Proofs.Try.prog sig f_slices_partialInsertionSortCmpFunc_2_uint64 c_slices_partialInsertionSortCmpFunc_2_uint64 = true := by kernel_rfl
theorem x_slices_partitionEqualCmpFunc_2_uint64 : chkFunc Go.Proofs.Try.prog sig f_slices_partitionEqualCmpFunc_2_uint64 c_slices_partitionEqualCmpFunc_2_uint64 = true := by kernel_rfl
theorem x_slices_partitionCmpFunc_2_uint64 : chkFunc Go.Proofs.Try.prog sig f_slices_partitionCmpFunc_2_uint64 c_slices_partitionCmpFunc_2_uint64 = true := by kernel_rfl
theorem x_slices_pdqsortCmpFunc_2_uint64 : chkFunc Go.Proofs.Try.prog sig f_slices_pdqsortCmpFunc_2_uint64 c_slices_pdqsortCmpFunc_2_uint64 = true := by kernel_rfl
theorem x_slices_SortFunc_2_uint64_2_uint64 : chkFunc Go.Proofs.Try.prog sig f_slices_SortFunc_2_uint64_2_uint64 c_slices_SortFunc_2_uint64_2_uint64 = true := by kernel_rfl
theorem x_resend_Merge : chkFunc Go.Proofs.Try.prog sig f_resend_Merge c_resend_Merge = true := by kernel_rfl
theorem x_resend_Count : chkFunc Go.Proofs.Try.prog sig f_resend_Count c_resend_Count = true := by kernel_rfl
theorem x_law34_awake : chkFunc Go.Proofs.Try.prog sig f_law34_awake c_law34_awake = true := by kernel_rfl
theorem x_ref34_In : chkFunc Go.Proofs.Try.prog sig f_ref34_In c_ref34_In = true := by kernel_rfl
theorem x_ref34_Apart : chkFunc Go.Proofs.Try.prog sig f_ref34_Apart c_ref34_Apart = true := by kernel_rfl
theorem x_law34_ResendRuns : chkFunc Go.Proofs.Try.prog sig f_law34_ResendRuns c_law34_ResendRuns = true := by kernel_rfl
theorem x_resend_Merge_1 : chkFunc Go.Proofs.Try.prog sig f_resend_Merge_1 c_resend_Merge_1 = true := by kernel_rfl
theorem x_cmp_isNaN_uint64 : chkFunc Go.Proofs.Try.prog sig f_cmp_isNaN_uint64 c_cmp_isNaN_uint64 = true := by kernel_rfl
theorem x_cmp_Compare_uint64 : chkFunc Go.Proofs.Try.prog sig f_cmp_Compare_uint64 c_cmp_Compare_uint64 = true := by kernel_rfl
theorem x_resend_Merge_2 : chkFunc Go.Proofs.Try.prog sig f_resend_Merge_2 c_resend_Merge_2 = true := by kernel_rfl
theorem x_index_Index_place_1 : chkFunc Go.Proofs.Try.prog sig f_index_Index_place_1 c_index_Index_place_1 = true := by kernel_rfl
theorem tabAll : ∀ q ∈ tab, chkFunc Go.Proofs.Try.prog sig q.1 q.2 = true := by
  unfold tab
  repeat rw [List.forall_mem_cons]
  exact ⟨x_law34_Ask_light, x_meta_Check_1, x_meta_Check, x_slices_BinarySearchFunc_api_Record_api_Record_uint64, x_index_Index_place, x_slices_Clone_int_int, x_index_copyOf, x_slices_Insert_api_Record_api_Record, x_index_Index_Put, x_index_New, x_index_Frames, x_index_Index_Frame_1, x_index_Index_some, x_index_Index_Frame, x_resend_One, x_resend_Range, x_resend_Runs_1, x_resend_Runs, x_slices_Clone_2_uint64_2_uint64, x_slices_IndexFunc_2_uint64_2_uint64, x_slices_DeleteFunc_2_uint64_2_uint64, x_math_bits_Len32, x_math_bits_Len64, x_math_bits_Len, x_slices_insertionSortCmpFunc_2_uint64, x_slices_siftDownCmpFunc_2_uint64, x_slices_heapSortCmpFunc_2_uint64, x_slices_nextPowerOfTwo, x_slices_xorshift_Next, x_slices_breakPatternsCmpFunc_2_uint64, x_slices_order2CmpFunc_2_uint64, x_slices_medianCmpFunc_2_uint64, x_slices_medianAdjacentCmpFunc_2_uint64, x_slices_choosePivotCmpFunc_2_uint64, x_slices_reverseRangeCmpFunc_2_uint64, x_slices_partialInsertionSortCmpFunc_2_uint64, x_slices_partitionEqualCmpFunc_2_uint64, x_slices_partitionCmpFunc_2_uint64, x_slices_pdqsortCmpFunc_2_uint64, x_slices_SortFunc_2_uint64_2_uint64, x_resend_Merge, x_resend_Count, x_law34_awake, x_ref34_In, x_ref34_Apart, x_law34_ResendRuns, x_resend_Merge_1, x_cmp_isNaN_uint64, x_cmp_Compare_uint64, x_resend_Merge_2, x_index_Index_place_1, fun _ h => nomatch h⟩
end Ev
