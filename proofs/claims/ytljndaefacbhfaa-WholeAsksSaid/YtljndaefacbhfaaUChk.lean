/- Each function's abstract code is held against the program's form in Lean. No condition. -/
import Derived.Test.YtljndaefacbhfaaUCode
import Derived.Test.YtljndaefacbhfaaEv9
import Derived.Test.YtljndaefacbhfaaProg
import Derived.KernelRfl
/-! Each function's check. -/
set_option linter.all false
namespace Ev
open Go
def sig : Sig := fun f => (T f).map fun af => (af.ownP, af.ownR)
theorem x_whole_New : chkFunc Go.Proofs.Try.prog sig f_whole_New c_whole_New = true := by kernel_rfl
theorem x_frame_length : chkFunc Go.Proofs.Try.prog sig f_frame_length c_frame_length = true := by kernel_rfl
theorem x_frame_Check : chkFunc Go.Proofs.Try.prog sig f_frame_Check c_frame_Check = true := by kernel_rfl
theorem x_whole_first : chkFunc Go.Proofs.Try.prog sig f_whole_first c_whole_first = true := by kernel_rfl
theorem x_whole_Station_fits : chkFunc Go.Proofs.Try.prog sig f_whole_Station_fits c_whole_Station_fits = true := by kernel_rfl
theorem x_whole_Station_Take : chkFunc Go.Proofs.Try.prog sig f_whole_Station_Take c_whole_Station_Take = true := by kernel_rfl
theorem x_whole_Station_Missing_1 : chkFunc Go.Proofs.Try.prog sig f_whole_Station_Missing_1 c_whole_Station_Missing_1 = true := by kernel_rfl
theorem x_math_bits_Len32 : chkFunc Go.Proofs.Try.prog sig f_math_bits_Len32 c_math_bits_Len32 = true := by kernel_rfl
theorem x_math_bits_Len64 : chkFunc Go.Proofs.Try.prog sig f_math_bits_Len64 c_math_bits_Len64 = true := by kernel_rfl
theorem x_math_bits_Len : chkFunc Go.Proofs.Try.prog sig f_math_bits_Len c_math_bits_Len = true := by kernel_rfl
theorem x_cmp_isNaN_uint64 : chkFunc Go.Proofs.Try.prog sig f_cmp_isNaN_uint64 c_cmp_isNaN_uint64 = true := by kernel_rfl
theorem x_cmp_Less_uint64 : chkFunc Go.Proofs.Try.prog sig f_cmp_Less_uint64 c_cmp_Less_uint64 = true := by kernel_rfl
theorem x_slices_insertionSortOrdered_uint64 : chkFunc Go.Proofs.Try.prog sig f_slices_insertionSortOrdered_uint64 c_slices_insertionSortOrdered_uint64 = true := by kernel_rfl
theorem x_slices_siftDownOrdered_uint64 : chkFunc Go.Proofs.Try.prog sig f_slices_siftDownOrdered_uint64 c_slices_siftDownOrdered_uint64 = true := by kernel_rfl
theorem x_slices_heapSortOrdered_uint64 : chkFunc Go.Proofs.Try.prog sig f_slices_heapSortOrdered_uint64 c_slices_heapSortOrdered_uint64 = true := by kernel_rfl
theorem x_slices_nextPowerOfTwo : chkFunc Go.Proofs.Try.prog sig f_slices_nextPowerOfTwo c_slices_nextPowerOfTwo = true := by kernel_rfl
theorem x_slices_xorshift_Next : chkFunc Go.Proofs.Try.prog sig f_slices_xorshift_Next c_slices_xorshift_Next = true := by kernel_rfl
theorem x_slices_breakPatternsOrdered_uint64 : chkFunc Go.Proofs.Try.prog sig f_slices_breakPatternsOrdered_uint64 c_slices_breakPatternsOrdered_uint64 = true := by kernel_rfl
theorem x_slices_order2Ordered_uint64 : chkFunc Go.Proofs.Try.prog sig f_slices_order2Ordered_uint64 c_slices_order2Ordered_uint64 = true := by kernel_rfl
theorem x_slices_medianOrdered_uint64 : chkFunc Go.Proofs.Try.prog sig f_slices_medianOrdered_uint64 c_slices_medianOrdered_uint64 = true := by kernel_rfl
theorem x_slices_medianAdjacentOrdered_uint64 : chkFunc Go.Proofs.Try.prog sig f_slices_medianAdjacentOrdered_uint64 c_slices_medianAdjacentOrdered_uint64 = true := by kernel_rfl
theorem x_slices_choosePivotOrdered_uint64 : chkFunc Go.Proofs.Try.prog sig f_slices_choosePivotOrdered_uint64 c_slices_choosePivotOrdered_uint64 = true := by kernel_rfl
theorem x_slices_reverseRangeOrdered_uint64 : chkFunc Go.Proofs.Try.prog sig f_slices_reverseRangeOrdered_uint64 c_slices_reverseRangeOrdered_uint64 = true := by kernel_rfl
theorem x_slices_partialInsertionSortOrdered_uint64 : chkFunc Go.Proofs.Try.prog sig f_slices_partialInsertionSortOrdered_uint64 c_slices_partialInsertionSortOrdered_uint64 = true := by kernel_rfl
theorem x_slices_partitionEqualOrdered_uint64 : chkFunc Go.Proofs.Try.prog sig f_slices_partitionEqualOrdered_uint64 c_slices_partitionEqualOrdered_uint64 = true := by kernel_rfl
theorem x_slices_partitionOrdered_uint64 : chkFunc Go.Proofs.Try.prog sig f_slices_partitionOrdered_uint64 c_slices_partitionOrdered_uint64 = true := by kernel_rfl
theorem x_slices_pdqsortOrdered_uint64 : chkFunc Go.Proofs.Try.prog sig f_slices_pdqsortOrdered_uint64 c_slices_pdqsortOrdered_uint64 = true := by kernel_rfl
theorem x_slices_Sort_uint64_uint64 : chkFunc Go.Proofs.Try.prog sig f_slices_Sort_uint64_uint64 c_slices_Sort_uint64_uint64 = true := by kernel_rfl
theorem x_whole_Station_numbers : chkFunc Go.Proofs.Try.prog sig f_whole_Station_numbers c_whole_Station_numbers = true := by kernel_rfl
theorem x_whole_Station_Missing : chkFunc Go.Proofs.Try.prog sig f_whole_Station_Missing c_whole_Station_Missing = true := by kernel_rfl
theorem x_seg_Fill_1 : chkFunc Go.Proofs.Try.prog sig f_seg_Fill_1 c_seg_Fill_1 = true := by kernel_rfl
theorem x_slices_Index_bool_bool : chkFunc Go.Proofs.Try.prog sig f_slices_Index_bool_bool c_slices_Index_bool_bool = true := by kernel_rfl
theorem x_slices_Contains_bool_bool : chkFunc Go.Proofs.Try.prog sig f_slices_Contains_bool_bool c_slices_Contains_bool_bool = true := by kernel_rfl
theorem x_seg_Fill : chkFunc Go.Proofs.Try.prog sig f_seg_Fill c_seg_Fill = true := by kernel_rfl
theorem x_whole_Station_Bundle : chkFunc Go.Proofs.Try.prog sig f_whole_Station_Bundle c_whole_Station_Bundle = true := by kernel_rfl
theorem x_slices_Compact_uint64_uint64 : chkFunc Go.Proofs.Try.prog sig f_slices_Compact_uint64_uint64 c_slices_Compact_uint64_uint64 = true := by kernel_rfl
theorem x_whole_Station_Ids : chkFunc Go.Proofs.Try.prog sig f_whole_Station_Ids c_whole_Station_Ids = true := by kernel_rfl
theorem x_whole_Station_Done : chkFunc Go.Proofs.Try.prog sig f_whole_Station_Done c_whole_Station_Done = true := by kernel_rfl
theorem x_whole_Station_Many : chkFunc Go.Proofs.Try.prog sig f_whole_Station_Many c_whole_Station_Many = true := by kernel_rfl
theorem x_law46_awake : chkFunc Go.Proofs.Try.prog sig f_law46_awake c_law46_awake = true := by kernel_rfl
theorem x_ref34_In : chkFunc Go.Proofs.Try.prog sig f_ref34_In c_ref34_In = true := by kernel_rfl
theorem x_whole_Station_Ask : chkFunc Go.Proofs.Try.prog sig f_whole_Station_Ask c_whole_Station_Ask = true := by kernel_rfl
theorem x_be_Get_1 : chkFunc Go.Proofs.Try.prog sig f_be_Get_1 c_be_Get_1 = true := by kernel_rfl
theorem x_be_width : chkFunc Go.Proofs.Try.prog sig f_be_width c_be_width = true := by kernel_rfl
theorem x_be_Get : chkFunc Go.Proofs.Try.prog sig f_be_Get c_be_Get = true := by kernel_rfl
theorem x_frame_Get_1 : chkFunc Go.Proofs.Try.prog sig f_frame_Get_1 c_frame_Get_1 = true := by kernel_rfl
theorem x_crc_bits_1 : chkFunc Go.Proofs.Try.prog sig f_crc_bits_1 c_crc_bits_1 = true := by kernel_rfl
theorem x_crc_bits : chkFunc Go.Proofs.Try.prog sig f_crc_bits c_crc_bits = true := by kernel_rfl
theorem x_crc_through : chkFunc Go.Proofs.Try.prog sig f_crc_through c_crc_through = true := by kernel_rfl
theorem x_crc_GoShort : chkFunc Go.Proofs.Try.prog sig f_crc_GoShort c_crc_GoShort = true := by kernel_rfl
theorem x_crc_Short : chkFunc Go.Proofs.Try.prog sig f_crc_Short c_crc_Short = true := by kernel_rfl
theorem x_frame_Size : chkFunc Go.Proofs.Try.prog sig f_frame_Size c_frame_Size = true := by kernel_rfl
theorem x_frame_Get : chkFunc Go.Proofs.Try.prog sig f_frame_Get c_frame_Get = true := by kernel_rfl
theorem x_frame_All : chkFunc Go.Proofs.Try.prog sig f_frame_All c_frame_All = true := by kernel_rfl
theorem x_whole_Station_Hear : chkFunc Go.Proofs.Try.prog sig f_whole_Station_Hear c_whole_Station_Hear = true := by kernel_rfl
theorem x_law46_WholeAsks : chkFunc Go.Proofs.Try.prog sig f_law46_WholeAsks c_law46_WholeAsks = true := by kernel_rfl
theorem tabAll : ∀ q ∈ tab, chkFunc Go.Proofs.Try.prog sig q.1 q.2 = true := by
  unfold tab
  repeat rw [List.forall_mem_cons]
  exact ⟨x_whole_New, x_frame_length, x_frame_Check, x_whole_first, x_whole_Station_fits, x_whole_Station_Take, x_whole_Station_Missing_1, x_math_bits_Len32, x_math_bits_Len64, x_math_bits_Len, x_cmp_isNaN_uint64, x_cmp_Less_uint64, x_slices_insertionSortOrdered_uint64, x_slices_siftDownOrdered_uint64, x_slices_heapSortOrdered_uint64, x_slices_nextPowerOfTwo, x_slices_xorshift_Next, x_slices_breakPatternsOrdered_uint64, x_slices_order2Ordered_uint64, x_slices_medianOrdered_uint64, x_slices_medianAdjacentOrdered_uint64, x_slices_choosePivotOrdered_uint64, x_slices_reverseRangeOrdered_uint64, x_slices_partialInsertionSortOrdered_uint64, x_slices_partitionEqualOrdered_uint64, x_slices_partitionOrdered_uint64, x_slices_pdqsortOrdered_uint64, x_slices_Sort_uint64_uint64, x_whole_Station_numbers, x_whole_Station_Missing, x_seg_Fill_1, x_slices_Index_bool_bool, x_slices_Contains_bool_bool, x_seg_Fill, x_whole_Station_Bundle, x_slices_Compact_uint64_uint64, x_whole_Station_Ids, x_whole_Station_Done, x_whole_Station_Many, x_law46_awake, x_ref34_In, x_whole_Station_Ask, x_be_Get_1, x_be_width, x_be_Get, x_frame_Get_1, x_crc_bits_1, x_crc_bits, x_crc_through, x_crc_GoShort, x_crc_Short, x_frame_Size, x_frame_Get, x_frame_All, x_whole_Station_Hear, x_law46_WholeAsks, fun _ h => nomatch h⟩
end Ev
