/- Each function's abstract code is held against the program's form in Lean. No condition. -/
import Derived.Test.YtmbheeapegpmlaaVCode
import Derived.Test.YtmbheeapegpmlaaEv9
import Derived.Test.YtmbheeapegpmlaaProg
import Derived.KernelRfl
/-! Each function's check. -/
set_option linter.all false
namespace Ev
open Go
def sig : Sig := fun f => (T f).map fun af => (af.ownP, af.ownR)
theorem x_ref01_Ints : chkFunc Go.Proofs.Try.prog sig f_ref01_Ints c_ref01_Ints = true := by kernel_rfl
theorem x_ref01_High : chkFunc Go.Proofs.Try.prog sig f_ref01_High c_ref01_High = true := by kernel_rfl
theorem x_ref01_Low : chkFunc Go.Proofs.Try.prog sig f_ref01_Low c_ref01_Low = true := by kernel_rfl
theorem x_ref13_Has : chkFunc Go.Proofs.Try.prog sig f_ref13_Has c_ref13_Has = true := by kernel_rfl
theorem x_law22_light : chkFunc Go.Proofs.Try.prog sig f_law22_light c_law22_light = true := by kernel_rfl
theorem x_slices_Clone_int_int : chkFunc Go.Proofs.Try.prog sig f_slices_Clone_int_int c_slices_Clone_int_int = true := by kernel_rfl
theorem x_place_Count : chkFunc Go.Proofs.Try.prog sig f_place_Count c_place_Count = true := by kernel_rfl
theorem x_victim_Order_1 : chkFunc Go.Proofs.Try.prog sig f_victim_Order_1 c_victim_Order_1 = true := by kernel_rfl
theorem x_cmp_isNaN_int : chkFunc Go.Proofs.Try.prog sig f_cmp_isNaN_int c_cmp_isNaN_int = true := by kernel_rfl
theorem x_cmp_Compare_int : chkFunc Go.Proofs.Try.prog sig f_cmp_Compare_int c_cmp_Compare_int = true := by kernel_rfl
theorem x_cmp_Or_int : chkFunc Go.Proofs.Try.prog sig f_cmp_Or_int c_cmp_Or_int = true := by kernel_rfl
theorem x_victim_Order_2 : chkFunc Go.Proofs.Try.prog sig f_victim_Order_2 c_victim_Order_2 = true := by kernel_rfl
theorem x_math_bits_Len32 : chkFunc Go.Proofs.Try.prog sig f_math_bits_Len32 c_math_bits_Len32 = true := by kernel_rfl
theorem x_math_bits_Len64 : chkFunc Go.Proofs.Try.prog sig f_math_bits_Len64 c_math_bits_Len64 = true := by kernel_rfl
theorem x_math_bits_Len : chkFunc Go.Proofs.Try.prog sig f_math_bits_Len c_math_bits_Len = true := by kernel_rfl
theorem x_slices_insertionSortCmpFunc_int : chkFunc Go.Proofs.Try.prog sig f_slices_insertionSortCmpFunc_int c_slices_insertionSortCmpFunc_int = true := by kernel_rfl
theorem x_slices_siftDownCmpFunc_int : chkFunc Go.Proofs.Try.prog sig f_slices_siftDownCmpFunc_int c_slices_siftDownCmpFunc_int = true := by kernel_rfl
theorem x_slices_heapSortCmpFunc_int : chkFunc Go.Proofs.Try.prog sig f_slices_heapSortCmpFunc_int c_slices_heapSortCmpFunc_int = true := by kernel_rfl
theorem x_slices_nextPowerOfTwo : chkFunc Go.Proofs.Try.prog sig f_slices_nextPowerOfTwo c_slices_nextPowerOfTwo = true := by kernel_rfl
theorem x_slices_xorshift_Next : chkFunc Go.Proofs.Try.prog sig f_slices_xorshift_Next c_slices_xorshift_Next = true := by kernel_rfl
theorem x_slices_breakPatternsCmpFunc_int : chkFunc Go.Proofs.Try.prog sig f_slices_breakPatternsCmpFunc_int c_slices_breakPatternsCmpFunc_int = true := by kernel_rfl
theorem x_slices_order2CmpFunc_int : chkFunc Go.Proofs.Try.prog sig f_slices_order2CmpFunc_int c_slices_order2CmpFunc_int = true := by kernel_rfl
theorem x_slices_medianCmpFunc_int : chkFunc Go.Proofs.Try.prog sig f_slices_medianCmpFunc_int c_slices_medianCmpFunc_int = true := by kernel_rfl
theorem x_slices_medianAdjacentCmpFunc_int : chkFunc Go.Proofs.Try.prog sig f_slices_medianAdjacentCmpFunc_int c_slices_medianAdjacentCmpFunc_int = true := by kernel_rfl
theorem x_slices_choosePivotCmpFunc_int : chkFunc Go.Proofs.Try.prog sig f_slices_choosePivotCmpFunc_int c_slices_choosePivotCmpFunc_int = true := by kernel_rfl
theorem x_slices_reverseRangeCmpFunc_int : chkFunc Go.Proofs.Try.prog sig f_slices_reverseRangeCmpFunc_int c_slices_reverseRangeCmpFunc_int = true := by kernel_rfl
theorem x_slices_partialInsertionSortCmpFunc_int : chkFunc Go.Proofs.Try.prog sig f_slices_partialInsertionSortCmpFunc_int c_slices_partialInsertionSortCmpFunc_int = true := by kernel_rfl
theorem x_slices_partitionEqualCmpFunc_int : chkFunc Go.Proofs.Try.prog sig f_slices_partitionEqualCmpFunc_int c_slices_partitionEqualCmpFunc_int = true := by kernel_rfl
theorem x_slices_partitionCmpFunc_int : chkFunc Go.Proofs.Try.prog sig f_slices_partitionCmpFunc_int c_slices_partitionCmpFunc_int = true := by kernel_rfl
theorem x_slices_pdqsortCmpFunc_int : chkFunc Go.Proofs.Try.prog sig f_slices_pdqsortCmpFunc_int c_slices_pdqsortCmpFunc_int = true := by kernel_rfl
theorem x_slices_SortFunc_int_int : chkFunc Go.Proofs.Try.prog sig f_slices_SortFunc_int_int c_slices_SortFunc_int_int = true := by kernel_rfl
theorem x_victim_Order : chkFunc Go.Proofs.Try.prog sig f_victim_Order c_victim_Order = true := by kernel_rfl
theorem x_victim_Pick : chkFunc Go.Proofs.Try.prog sig f_victim_Pick c_victim_Pick = true := by kernel_rfl
theorem x_victim_Gain : chkFunc Go.Proofs.Try.prog sig f_victim_Gain c_victim_Gain = true := by kernel_rfl
theorem x_victim_Total : chkFunc Go.Proofs.Try.prog sig f_victim_Total c_victim_Total = true := by kernel_rfl
theorem x_law22_awake : chkFunc Go.Proofs.Try.prog sig f_law22_awake c_law22_awake = true := by kernel_rfl
theorem x_ref22_Count : chkFunc Go.Proofs.Try.prog sig f_ref22_Count c_ref22_Count = true := by kernel_rfl
theorem x_ref22_Pick : chkFunc Go.Proofs.Try.prog sig f_ref22_Pick c_ref22_Pick = true := by kernel_rfl
theorem x_law22_VictimPicks : chkFunc Go.Proofs.Try.prog sig f_law22_VictimPicks c_law22_VictimPicks = true := by kernel_rfl
theorem x_law22_VictimGains : chkFunc Go.Proofs.Try.prog sig f_law22_VictimGains c_law22_VictimGains = true := by kernel_rfl
theorem tabAll : ∀ q ∈ tab, chkFunc Go.Proofs.Try.prog sig q.1 q.2 = true := by
  unfold tab
  repeat rw [List.forall_mem_cons]
  exact ⟨x_ref01_Ints, x_ref01_High, x_ref01_Low, x_ref13_Has, x_law22_light, x_slices_Clone_int_int, x_place_Count, x_victim_Order_1, x_cmp_isNaN_int, x_cmp_Compare_int, x_cmp_Or_int, x_victim_Order_2, x_math_bits_Len32, x_math_bits_Len64, x_math_bits_Len, x_slices_insertionSortCmpFunc_int, x_slices_siftDownCmpFunc_int, x_slices_heapSortCmpFunc_int, x_slices_nextPowerOfTwo, x_slices_xorshift_Next, x_slices_breakPatternsCmpFunc_int, x_slices_order2CmpFunc_int, x_slices_medianCmpFunc_int, x_slices_medianAdjacentCmpFunc_int, x_slices_choosePivotCmpFunc_int, x_slices_reverseRangeCmpFunc_int, x_slices_partialInsertionSortCmpFunc_int, x_slices_partitionEqualCmpFunc_int, x_slices_partitionCmpFunc_int, x_slices_pdqsortCmpFunc_int, x_slices_SortFunc_int_int, x_victim_Order, x_victim_Pick, x_victim_Gain, x_victim_Total, x_law22_awake, x_ref22_Count, x_ref22_Pick, x_law22_VictimPicks, x_law22_VictimGains, fun _ h => nomatch h⟩
end Ev
