/- Each function's abstract code is held against the program's form in Lean. No condition. -/
import Derived.Test.YtjinlddplcopgaaMCode
import Derived.Test.YtjinlddplcopgaaEv9
import Derived.Test.YtjinlddplcopgaaProg
import Derived.KernelRfl
/-! Each function's check. -/
set_option linter.all false
namespace Ev
open Go
def sig : Sig := fun f => (T f).map fun af => (af.ownP, af.ownR)
theorem x_math_bits_Len32 : chkFunc Go.Proofs.Try.prog sig f_math_bits_Len32 c_math_bits_Len32 = true := by kernel_rfl
theorem x_math_bits_Len64 : chkFunc Go.Proofs.Try.prog sig f_math_bits_Len64 c_math_bits_Len64 = true := by kernel_rfl
theorem x_math_bits_Len : chkFunc Go.Proofs.Try.prog sig f_math_bits_Len c_math_bits_Len = true := by kernel_rfl
theorem x_cmp_isNaN_int : chkFunc Go.Proofs.Try.prog sig f_cmp_isNaN_int c_cmp_isNaN_int = true := by kernel_rfl
theorem x_cmp_Less_int : chkFunc Go.Proofs.Try.prog sig f_cmp_Less_int c_cmp_Less_int = true := by kernel_rfl
theorem x_slices_insertionSortOrdered_int : chkFunc Go.Proofs.Try.prog sig f_slices_insertionSortOrdered_int c_slices_insertionSortOrdered_int = true := by kernel_rfl
theorem x_slices_siftDownOrdered_int : chkFunc Go.Proofs.Try.prog sig f_slices_siftDownOrdered_int c_slices_siftDownOrdered_int = true := by kernel_rfl
theorem x_slices_heapSortOrdered_int : chkFunc Go.Proofs.Try.prog sig f_slices_heapSortOrdered_int c_slices_heapSortOrdered_int = true := by kernel_rfl
theorem x_slices_nextPowerOfTwo : chkFunc Go.Proofs.Try.prog sig f_slices_nextPowerOfTwo c_slices_nextPowerOfTwo = true := by kernel_rfl
theorem x_slices_xorshift_Next : chkFunc Go.Proofs.Try.prog sig f_slices_xorshift_Next c_slices_xorshift_Next = true := by kernel_rfl
theorem x_slices_breakPatternsOrdered_int : chkFunc Go.Proofs.Try.prog sig f_slices_breakPatternsOrdered_int c_slices_breakPatternsOrdered_int = true := by kernel_rfl
theorem x_slices_order2Ordered_int : chkFunc Go.Proofs.Try.prog sig f_slices_order2Ordered_int c_slices_order2Ordered_int = true := by kernel_rfl
theorem x_slices_medianOrdered_int : chkFunc Go.Proofs.Try.prog sig f_slices_medianOrdered_int c_slices_medianOrdered_int = true := by kernel_rfl
theorem x_slices_medianAdjacentOrdered_int : chkFunc Go.Proofs.Try.prog sig f_slices_medianAdjacentOrdered_int c_slices_medianAdjacentOrdered_int = true := by kernel_rfl
theorem x_slices_choosePivotOrdered_int : chkFunc Go.Proofs.Try.prog sig f_slices_choosePivotOrdered_int c_slices_choosePivotOrdered_int = true := by kernel_rfl
theorem x_slices_reverseRangeOrdered_int : chkFunc Go.Proofs.Try.prog sig f_slices_reverseRangeOrdered_int c_slices_reverseRangeOrdered_int = true := by kernel_rfl
theorem x_slices_partialInsertionSortOrdered_int : chkFunc Go.Proofs.Try.prog sig f_slices_partialInsertionSortOrdered_int c_slices_partialInsertionSortOrdered_int = true := by kernel_rfl
theorem x_slices_partitionEqualOrdered_int : chkFunc Go.Proofs.Try.prog sig f_slices_partitionEqualOrdered_int c_slices_partitionEqualOrdered_int = true := by kernel_rfl
theorem x_slices_partitionOrdered_int : chkFunc Go.Proofs.Try.prog sig f_slices_partitionOrdered_int c_slices_partitionOrdered_int = true := by kernel_rfl
theorem x_slices_pdqsortOrdered_int : chkFunc Go.Proofs.Try.prog sig f_slices_pdqsortOrdered_int c_slices_pdqsortOrdered_int = true := by kernel_rfl
theorem x_slices_Sort_int_int : chkFunc Go.Proofs.Try.prog sig f_slices_Sort_int_int c_slices_Sort_int_int = true := by kernel_rfl
theorem x_slices_Compact_int_int : chkFunc Go.Proofs.Try.prog sig f_slices_Compact_int_int c_slices_Compact_int_int = true := by kernel_rfl
theorem x_slices_Index_int_int : chkFunc Go.Proofs.Try.prog sig f_slices_Index_int_int c_slices_Index_int_int = true := by kernel_rfl
theorem x_slices_Contains_int_int : chkFunc Go.Proofs.Try.prog sig f_slices_Contains_int_int c_slices_Contains_int_int = true := by kernel_rfl
theorem x_ref01_Ints : chkFunc Go.Proofs.Try.prog sig f_ref01_Ints c_ref01_Ints = true := by kernel_rfl
theorem x_slices_Clone_int_int : chkFunc Go.Proofs.Try.prog sig f_slices_Clone_int_int c_slices_Clone_int_int = true := by kernel_rfl
theorem x_slices_IndexFunc_int_int : chkFunc Go.Proofs.Try.prog sig f_slices_IndexFunc_int_int c_slices_IndexFunc_int_int = true := by kernel_rfl
theorem x_slices_DeleteFunc_int_int : chkFunc Go.Proofs.Try.prog sig f_slices_DeleteFunc_int_int c_slices_DeleteFunc_int_int = true := by kernel_rfl
theorem x_pool_New : chkFunc Go.Proofs.Try.prog sig f_pool_New c_pool_New = true := by kernel_rfl
theorem x_pool_Pool_Room : chkFunc Go.Proofs.Try.prog sig f_pool_Pool_Room c_pool_Pool_Room = true := by kernel_rfl
theorem x_pool_Pool_At : chkFunc Go.Proofs.Try.prog sig f_pool_Pool_At c_pool_Pool_At = true := by kernel_rfl
theorem x_wear_Of : chkFunc Go.Proofs.Try.prog sig f_wear_Of c_wear_Of = true := by kernel_rfl
theorem x_wear_Least_1 : chkFunc Go.Proofs.Try.prog sig f_wear_Least_1 c_wear_Least_1 = true := by kernel_rfl
theorem x_wear_best : chkFunc Go.Proofs.Try.prog sig f_wear_best c_wear_best = true := by kernel_rfl
theorem x_wear_Least : chkFunc Go.Proofs.Try.prog sig f_wear_Least c_wear_Least = true := by kernel_rfl
theorem x_pool_Pool_Best : chkFunc Go.Proofs.Try.prog sig f_pool_Pool_Best c_pool_Pool_Best = true := by kernel_rfl
theorem x_pool_Pool_Begin_1 : chkFunc Go.Proofs.Try.prog sig f_pool_Pool_Begin_1 c_pool_Pool_Begin_1 = true := by kernel_rfl
theorem x_wear_Add : chkFunc Go.Proofs.Try.prog sig f_wear_Add c_wear_Add = true := by kernel_rfl
theorem x_pool_Pool_Begin : chkFunc Go.Proofs.Try.prog sig f_pool_Pool_Begin c_pool_Pool_Begin = true := by kernel_rfl
theorem x_pool_Pool_Step : chkFunc Go.Proofs.Try.prog sig f_pool_Pool_Step c_pool_Pool_Step = true := by kernel_rfl
theorem x_pool_Pool_Opening : chkFunc Go.Proofs.Try.prog sig f_pool_Pool_Opening c_pool_Pool_Opening = true := by kernel_rfl
theorem x_pool_Pool_Free : chkFunc Go.Proofs.Try.prog sig f_pool_Pool_Free c_pool_Pool_Free = true := by kernel_rfl
theorem x_pool_Pool_Counts : chkFunc Go.Proofs.Try.prog sig f_pool_Pool_Counts c_pool_Pool_Counts = true := by kernel_rfl
theorem x_law23_awake : chkFunc Go.Proofs.Try.prog sig f_law23_awake c_law23_awake = true := by kernel_rfl
theorem x_law23_PoolRoom : chkFunc Go.Proofs.Try.prog sig f_law23_PoolRoom c_law23_PoolRoom = true := by kernel_rfl
theorem tabAll : ∀ q ∈ tab, chkFunc Go.Proofs.Try.prog sig q.1 q.2 = true := by
  unfold tab
  repeat rw [List.forall_mem_cons]
  exact ⟨x_math_bits_Len32, x_math_bits_Len64, x_math_bits_Len, x_cmp_isNaN_int, x_cmp_Less_int, x_slices_insertionSortOrdered_int, x_slices_siftDownOrdered_int, x_slices_heapSortOrdered_int, x_slices_nextPowerOfTwo, x_slices_xorshift_Next, x_slices_breakPatternsOrdered_int, x_slices_order2Ordered_int, x_slices_medianOrdered_int, x_slices_medianAdjacentOrdered_int, x_slices_choosePivotOrdered_int, x_slices_reverseRangeOrdered_int, x_slices_partialInsertionSortOrdered_int, x_slices_partitionEqualOrdered_int, x_slices_partitionOrdered_int, x_slices_pdqsortOrdered_int, x_slices_Sort_int_int, x_slices_Compact_int_int, x_slices_Index_int_int, x_slices_Contains_int_int, x_ref01_Ints, x_slices_Clone_int_int, x_slices_IndexFunc_int_int, x_slices_DeleteFunc_int_int, x_pool_New, x_pool_Pool_Room, x_pool_Pool_At, x_wear_Of, x_wear_Least_1, x_wear_best, x_wear_Least, x_pool_Pool_Best, x_pool_Pool_Begin_1, x_wear_Add, x_pool_Pool_Begin, x_pool_Pool_Step, x_pool_Pool_Opening, x_pool_Pool_Free, x_pool_Pool_Counts, x_law23_awake, x_law23_PoolRoom, fun _ h => nomatch h⟩
end Ev
