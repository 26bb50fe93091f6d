/- Each function's abstract code is held against the program's form in Lean. No condition. -/
import Derived.Test.YtonlfefnnacdcaaFCode
import Derived.Test.YtonlfefnnacdcaaEv9
import Derived.Test.YtonlfefnnacdcaaProg
import Derived.KernelRfl
/-! Each function's check. -/
set_option linter.all false
namespace Ev
open Go
def sig : Sig := fun f => (T f).map fun af => (af.ownP, af.ownR)
theorem x_law20_at : chkFunc Go.Proofs.Try.prog sig f_law20_at c_law20_at = true := by kernel_rfl
theorem x_math_bits_Len32 : chkFunc Go.Proofs.Try.prog sig f_math_bits_Len32 c_math_bits_Len32 = true := by kernel_rfl
theorem x_math_bits_Len64 : chkFunc Go.Proofs.Try.prog sig f_math_bits_Len64 c_math_bits_Len64 = true := by kernel_rfl
theorem x_math_bits_Len : chkFunc Go.Proofs.Try.prog sig f_math_bits_Len c_math_bits_Len = true := by kernel_rfl
theorem x_cmp_isNaN_int : chkFunc Go.Proofs.Try.prog sig f_cmp_isNaN_int c_cmp_isNaN_int = true := by kernel_rfl
theorem x_cmp_Less_int : chkFunc Go.Proofs.Try.prog sig f_cmp_Less_int c_cmp_Less_int = true := by kernel_rfl
theorem x_slices_insertionSortOrdered_int : chkFunc Go.Proofs.Try.prog sig f_slices_insertionSortOrdered_int c_slices_insertionSortOrdered_int = true := by kernel_rfl
theorem x_slices_siftDownOrdered_int : chkFunc Go.Proofs.Try.prog sig f_slices_siftDownOrdered_int c_slices_siftDownOrdered_int = true := by kernel_rfl
theorem x_slices_heapSortOrdered_int : chkFunc Go.Proofs.Try.prog sig f_slices_heapSortOrdered_int c_slices_heapSortOrdered_int = true := by kernel_rfl
theorem x_slices_nextPowerOfTwo : chkFunc Go.Proofs.Try.prog sig f_slices_nextPowerOfTwo c_slices_nextPowerOfTwo = true := by kernel_rfl
theorem x_slices_xorshift_Next : chkFunc Go.Proofs.Try.prog sig f_slices_xorshift_Next c_slices_xorshift_Next = true := by kernel_rfl
theorem x_slices_breakPatternsOrdered_int : chkFunc Go.Proofs.Try.prog sig f_slices_breakPatternsOrdered_int c_slices_breakPatternsOrdered_int = true := by kernel_rfl
theorem x_slices_order2Ordered_int : chkFunc Go.Proofs.Try.prog sig f_slices_order2Ordered_int c_slices_order2Ordered_int = true := by kernel_rfl
theorem x_slices_medianOrdered_int : chkFunc Go.Proofs.Try.prog sig f_slices_medianOrdered_int c_slices_medianOrdered_int = true := by kernel_rfl
theorem x_slices_medianAdjacentOrdered_int : chkFunc Go.Proofs.Try.prog sig f_slices_medianAdjacentOrdered_int c_slices_medianAdjacentOrdered_int = true := by kernel_rfl
theorem x_slices_choosePivotOrdered_int : chkFunc Go.Proofs.Try.prog sig f_slices_choosePivotOrdered_int c_slices_choosePivotOrdered_int = true := by kernel_rfl
theorem x_slices_reverseRangeOrdered_int : chkFunc Go.Proofs.Try.prog sig f_slices_reverseRangeOrdered_int c_slices_reverseRangeOrdered_int = true := by kernel_rfl
theorem x_slices_partialInsertionSortOrdered_int : chkFunc Go.Proofs.Try.prog sig f_slices_partialInsertionSortOrdered_int c_slices_partialInsertionSortOrdered_int = true := by kernel_rfl
theorem x_slices_partitionEqualOrdered_int : chkFunc Go.Proofs.Try.prog sig f_slices_partitionEqualOrdered_int c_slices_partitionEqualOrdered_int = true := by kernel_rfl
theorem x_slices_partitionOrdered_int : chkFunc Go.Proofs.Try.prog sig f_slices_partitionOrdered_int c_slices_partitionOrdered_int = true := by kernel_rfl
theorem x_slices_pdqsortOrdered_int : chkFunc Go.Proofs.Try.prog sig f_slices_pdqsortOrdered_int c_slices_pdqsortOrdered_int = true := by kernel_rfl
theorem x_slices_Sort_int_int : chkFunc Go.Proofs.Try.prog sig f_slices_Sort_int_int c_slices_Sort_int_int = true := by kernel_rfl
theorem x_slices_Compact_int_int : chkFunc Go.Proofs.Try.prog sig f_slices_Compact_int_int c_slices_Compact_int_int = true := by kernel_rfl
theorem x_place_Used : chkFunc Go.Proofs.Try.prog sig f_place_Used c_place_Used = true := by kernel_rfl
theorem x_slices_Index_int_int : chkFunc Go.Proofs.Try.prog sig f_slices_Index_int_int c_slices_Index_int_int = true := by kernel_rfl
theorem x_slices_Contains_int_int : chkFunc Go.Proofs.Try.prog sig f_slices_Contains_int_int c_slices_Contains_int_int = true := by kernel_rfl
theorem x_slices_Clone_api_Place_api_Place : chkFunc Go.Proofs.Try.prog sig f_slices_Clone_api_Place_api_Place c_slices_Clone_api_Place_api_Place = true := by kernel_rfl
theorem x_place_choice_others_1 : chkFunc Go.Proofs.Try.prog sig f_place_choice_others_1 c_place_choice_others_1 = true := by kernel_rfl
theorem x_slices_IndexFunc_api_Place_api_Place : chkFunc Go.Proofs.Try.prog sig f_slices_IndexFunc_api_Place_api_Place c_slices_IndexFunc_api_Place_api_Place = true := by kernel_rfl
theorem x_place_choice_others : chkFunc Go.Proofs.Try.prog sig f_place_choice_others c_place_choice_others = true := by kernel_rfl
theorem x_place_choice_shrink : chkFunc Go.Proofs.Try.prog sig f_place_choice_shrink c_place_choice_shrink = true := by kernel_rfl
theorem x_place_Choose : chkFunc Go.Proofs.Try.prog sig f_place_Choose c_place_Choose = true := by kernel_rfl
theorem x_ref20_Places : chkFunc Go.Proofs.Try.prog sig f_ref20_Places c_ref20_Places = true := by kernel_rfl
theorem x_ref01_Ints : chkFunc Go.Proofs.Try.prog sig f_ref01_Ints c_ref01_Ints = true := by kernel_rfl
theorem x_place_Count : chkFunc Go.Proofs.Try.prog sig f_place_Count c_place_Count = true := by kernel_rfl
theorem x_slices_Clone_int_int : chkFunc Go.Proofs.Try.prog sig f_slices_Clone_int_int c_slices_Clone_int_int = true := by kernel_rfl
theorem x_place_Free_1 : chkFunc Go.Proofs.Try.prog sig f_place_Free_1 c_place_Free_1 = true := by kernel_rfl
theorem x_slices_IndexFunc_int_int : chkFunc Go.Proofs.Try.prog sig f_slices_IndexFunc_int_int c_slices_IndexFunc_int_int = true := by kernel_rfl
theorem x_slices_DeleteFunc_int_int : chkFunc Go.Proofs.Try.prog sig f_slices_DeleteFunc_int_int c_slices_DeleteFunc_int_int = true := by kernel_rfl
theorem x_place_Free : chkFunc Go.Proofs.Try.prog sig f_place_Free c_place_Free = true := by kernel_rfl
theorem x_place_Stuck_1 : chkFunc Go.Proofs.Try.prog sig f_place_Stuck_1 c_place_Stuck_1 = true := by kernel_rfl
theorem x_slices_DeleteFunc_api_Place_api_Place : chkFunc Go.Proofs.Try.prog sig f_slices_DeleteFunc_api_Place_api_Place c_slices_DeleteFunc_api_Place_api_Place = true := by kernel_rfl
theorem x_place_Stuck : chkFunc Go.Proofs.Try.prog sig f_place_Stuck c_place_Stuck = true := by kernel_rfl
theorem x_law20_awake : chkFunc Go.Proofs.Try.prog sig f_law20_awake c_law20_awake = true := by kernel_rfl
theorem x_law20_few : chkFunc Go.Proofs.Try.prog sig f_law20_few c_law20_few = true := by kernel_rfl
theorem x_ref20_Blocks : chkFunc Go.Proofs.Try.prog sig f_ref20_Blocks c_ref20_Blocks = true := by kernel_rfl
theorem x_ref13_Has : chkFunc Go.Proofs.Try.prog sig f_ref13_Has c_ref13_Has = true := by kernel_rfl
theorem x_ref20_In : chkFunc Go.Proofs.Try.prog sig f_ref20_In c_ref20_In = true := by kernel_rfl
theorem x_ref20_Other : chkFunc Go.Proofs.Try.prog sig f_ref20_Other c_ref20_Other = true := by kernel_rfl
theorem x_ref20_Can : chkFunc Go.Proofs.Try.prog sig f_ref20_Can c_ref20_Can = true := by kernel_rfl
theorem x_ref20_Choose : chkFunc Go.Proofs.Try.prog sig f_ref20_Choose c_ref20_Choose = true := by kernel_rfl
theorem x_law20_PlaceChooses : chkFunc Go.Proofs.Try.prog sig f_law20_PlaceChooses c_law20_PlaceChooses = true := by kernel_rfl
theorem tabAll : ∀ q ∈ tab, chkFunc Go.Proofs.Try.prog sig q.1 q.2 = true := by
  unfold tab
  repeat rw [List.forall_mem_cons]
  exact ⟨x_law20_at, x_math_bits_Len32, x_math_bits_Len64, x_math_bits_Len, x_cmp_isNaN_int, x_cmp_Less_int, x_slices_insertionSortOrdered_int, x_slices_siftDownOrdered_int, x_slices_heapSortOrdered_int, x_slices_nextPowerOfTwo, x_slices_xorshift_Next, x_slices_breakPatternsOrdered_int, x_slices_order2Ordered_int, x_slices_medianOrdered_int, x_slices_medianAdjacentOrdered_int, x_slices_choosePivotOrdered_int, x_slices_reverseRangeOrdered_int, x_slices_partialInsertionSortOrdered_int, x_slices_partitionEqualOrdered_int, x_slices_partitionOrdered_int, x_slices_pdqsortOrdered_int, x_slices_Sort_int_int, x_slices_Compact_int_int, x_place_Used, x_slices_Index_int_int, x_slices_Contains_int_int, x_slices_Clone_api_Place_api_Place, x_place_choice_others_1, x_slices_IndexFunc_api_Place_api_Place, x_place_choice_others, x_place_choice_shrink, x_place_Choose, x_ref20_Places, x_ref01_Ints, x_place_Count, x_slices_Clone_int_int, x_place_Free_1, x_slices_IndexFunc_int_int, x_slices_DeleteFunc_int_int, x_place_Free, x_place_Stuck_1, x_slices_DeleteFunc_api_Place_api_Place, x_place_Stuck, x_law20_awake, x_law20_few, x_ref20_Blocks, x_ref13_Has, x_ref20_In, x_ref20_Other, x_ref20_Can, x_ref20_Choose, x_law20_PlaceChooses, fun _ h => nomatch h⟩
end Ev
