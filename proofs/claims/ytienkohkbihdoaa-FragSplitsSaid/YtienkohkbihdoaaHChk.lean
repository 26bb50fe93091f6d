/- Each function's abstract code is held against the program's form in Lean. No condition. -/
import Derived.Test.YtienkohkbihdoaaHCode
import Derived.Test.YtienkohkbihdoaaEv9
import Derived.Test.YtienkohkbihdoaaProg
import Derived.KernelRfl
/-! Each function's check. -/
set_option linter.all false
namespace Ev
open Go
def sig : Sig := fun f => (T f).map fun af => (af.ownP, af.ownR)
theorem x_law11_Light : chkFunc Go.Proofs.Try.prog sig f_law11_Light c_law11_Light = true := by kernel_rfl
theorem x_primary_Fragment : chkFunc Go.Proofs.Try.prog sig f_primary_Fragment c_primary_Fragment = true := by kernel_rfl
theorem x_eid_None : chkFunc Go.Proofs.Try.prog sig f_eid_None c_eid_None = true := by kernel_rfl
theorem x_internal_stringslite_HasPrefix : chkFunc Go.Proofs.Try.prog sig f_internal_stringslite_HasPrefix c_internal_stringslite_HasPrefix = true := by kernel_rfl
theorem x_strings_HasPrefix : chkFunc Go.Proofs.Try.prog sig f_strings_HasPrefix c_strings_HasPrefix = true := by kernel_rfl
theorem x_runes_plain : chkFunc Go.Proofs.Try.prog sig f_runes_plain c_runes_plain = true := by kernel_rfl
theorem x_runes_Plain : chkFunc Go.Proofs.Try.prog sig f_runes_Plain c_runes_Plain = true := by kernel_rfl
theorem x_eid_named : chkFunc Go.Proofs.Try.prog sig f_eid_named c_eid_named = true := by kernel_rfl
theorem x_eid_Right : chkFunc Go.Proofs.Try.prog sig f_eid_Right c_eid_Right = true := by kernel_rfl
theorem x_primary_Check : chkFunc Go.Proofs.Try.prog sig f_primary_Check c_primary_Check = true := by kernel_rfl
theorem x_block_Check : chkFunc Go.Proofs.Try.prog sig f_block_Check c_block_Check = true := by kernel_rfl
theorem x_bundle_unlike_1 : chkFunc Go.Proofs.Try.prog sig f_bundle_unlike_1 c_bundle_unlike_1 = true := by kernel_rfl
theorem x_bundle_unlike : chkFunc Go.Proofs.Try.prog sig f_bundle_unlike c_bundle_unlike = true := by kernel_rfl
theorem x_bundle_Check : chkFunc Go.Proofs.Try.prog sig f_bundle_Check c_bundle_Check = true := by kernel_rfl
theorem x_frag_Many : chkFunc Go.Proofs.Try.prog sig f_frag_Many c_frag_Many = true := by kernel_rfl
theorem x_frag_piece : chkFunc Go.Proofs.Try.prog sig f_frag_piece c_frag_piece = true := by kernel_rfl
theorem x_frag_Split : chkFunc Go.Proofs.Try.prog sig f_frag_Split c_frag_Split = true := by kernel_rfl
theorem x_primary_Same : chkFunc Go.Proofs.Try.prog sig f_primary_Same c_primary_Same = true := by kernel_rfl
theorem x_frag_fits : chkFunc Go.Proofs.Try.prog sig f_frag_fits c_frag_fits = true := by kernel_rfl
theorem x_frag_fill : chkFunc Go.Proofs.Try.prog sig f_frag_fill c_frag_fill = true := by kernel_rfl
theorem x_frag_span : chkFunc Go.Proofs.Try.prog sig f_frag_span c_frag_span = true := by kernel_rfl
theorem x_math_bits_Len32 : chkFunc Go.Proofs.Try.prog sig f_math_bits_Len32 c_math_bits_Len32 = true := by kernel_rfl
theorem x_math_bits_Len64 : chkFunc Go.Proofs.Try.prog sig f_math_bits_Len64 c_math_bits_Len64 = true := by kernel_rfl
theorem x_math_bits_Len : chkFunc Go.Proofs.Try.prog sig f_math_bits_Len c_math_bits_Len = true := by kernel_rfl
theorem x_slices_insertionSortCmpFunc_2_uint64 : chkFunc Go.Proofs.Try.prog sig f_slices_insertionSortCmpFunc_2_uint64 c_slices_insertionSortCmpFunc_2_uint64 = true := by kernel_rfl
theorem x_slices_siftDownCmpFunc_2_uint64 : chkFunc Go.Proofs.Try.prog sig f_slices_siftDownCmpFunc_2_uint64 c_slices_siftDownCmpFunc_2_uint64 = true := by kernel_rfl
theorem x_slices_heapSortCmpFunc_2_uint64 : chkFunc Go.Proofs.Try.prog sig f_slices_heapSortCmpFunc_2_uint64 c_slices_heapSortCmpFunc_2_uint64 = true := by kernel_rfl
theorem x_slices_nextPowerOfTwo : chkFunc Go.Proofs.Try.prog sig f_slices_nextPowerOfTwo c_slices_nextPowerOfTwo = true := by kernel_rfl
theorem x_slices_xorshift_Next : chkFunc Go.Proofs.Try.prog sig f_slices_xorshift_Next c_slices_xorshift_Next = true := by kernel_rfl
theorem x_slices_breakPatternsCmpFunc_2_uint64 : chkFunc Go.Proofs.Try.prog sig f_slices_breakPatternsCmpFunc_2_uint64 c_slices_breakPatternsCmpFunc_2_uint64 = true := by kernel_rfl
theorem x_slices_order2CmpFunc_2_uint64 : chkFunc Go.Proofs.Try.prog sig f_slices_order2CmpFunc_2_uint64 c_slices_order2CmpFunc_2_uint64 = true := by kernel_rfl
theorem x_slices_medianCmpFunc_2_uint64 : chkFunc Go.Proofs.Try.prog sig f_slices_medianCmpFunc_2_uint64 c_slices_medianCmpFunc_2_uint64 = true := by kernel_rfl
theorem x_slices_medianAdjacentCmpFunc_2_uint64 : chkFunc Go.Proofs.Try.prog sig f_slices_medianAdjacentCmpFunc_2_uint64 c_slices_medianAdjacentCmpFunc_2_uint64 = true := by kernel_rfl
theorem x_slices_choosePivotCmpFunc_2_uint64 : chkFunc Go.Proofs.Try.prog sig f_slices_choosePivotCmpFunc_2_uint64 c_slices_choosePivotCmpFunc_2_uint64 = true := by kernel_rfl
theorem x_slices_reverseRangeCmpFunc_2_uint64 : chkFunc Go.Proofs.Try.prog sig f_slices_reverseRangeCmpFunc_2_uint64 c_slices_reverseRangeCmpFunc_2_uint64 = true := by kernel_rfl
theorem x_slices_partialInsertionSortCmpFunc_2_uint64 : chkFunc Go.Proofs.Try.prog sig f_slices_partialInsertionSortCmpFunc_2_uint64 c_slices_partialInsertionSortCmpFunc_2_uint64 = true := by kernel_rfl
theorem x_slices_partitionEqualCmpFunc_2_uint64 : chkFunc Go.Proofs.Try.prog sig f_slices_partitionEqualCmpFunc_2_uint64 c_slices_partitionEqualCmpFunc_2_uint64 = true := by kernel_rfl
theorem x_slices_partitionCmpFunc_2_uint64 : chkFunc Go.Proofs.Try.prog sig f_slices_partitionCmpFunc_2_uint64 c_slices_partitionCmpFunc_2_uint64 = true := by kernel_rfl
theorem x_slices_pdqsortCmpFunc_2_uint64 : chkFunc Go.Proofs.Try.prog sig f_slices_pdqsortCmpFunc_2_uint64 c_slices_pdqsortCmpFunc_2_uint64 = true := by kernel_rfl
theorem x_slices_SortFunc_2_uint64_2_uint64 : chkFunc Go.Proofs.Try.prog sig f_slices_SortFunc_2_uint64_2_uint64 c_slices_SortFunc_2_uint64_2_uint64 = true := by kernel_rfl
theorem x_frag_Holes : chkFunc Go.Proofs.Try.prog sig f_frag_Holes c_frag_Holes = true := by kernel_rfl
theorem x_slices_IndexFunc_api_Bundle_api_Bundle : chkFunc Go.Proofs.Try.prog sig f_slices_IndexFunc_api_Bundle_api_Bundle c_slices_IndexFunc_api_Bundle_api_Bundle = true := by kernel_rfl
theorem x_primary_Whole : chkFunc Go.Proofs.Try.prog sig f_primary_Whole c_primary_Whole = true := by kernel_rfl
theorem x_frag_Join : chkFunc Go.Proofs.Try.prog sig f_frag_Join c_frag_Join = true := by kernel_rfl
theorem x_ref11_Same : chkFunc Go.Proofs.Try.prog sig f_ref11_Same c_ref11_Same = true := by kernel_rfl
theorem x_law12_awake : chkFunc Go.Proofs.Try.prog sig f_law12_awake c_law12_awake = true := by kernel_rfl
theorem x_ref07_Right : chkFunc Go.Proofs.Try.prog sig f_ref07_Right c_ref07_Right = true := by kernel_rfl
theorem x_ref10_Bit : chkFunc Go.Proofs.Try.prog sig f_ref10_Bit c_ref10_Bit = true := by kernel_rfl
theorem x_ref10_Check : chkFunc Go.Proofs.Try.prog sig f_ref10_Check c_ref10_Check = true := by kernel_rfl
theorem x_ref09_Check : chkFunc Go.Proofs.Try.prog sig f_ref09_Check c_ref09_Check = true := by kernel_rfl
theorem x_ref11_Check : chkFunc Go.Proofs.Try.prog sig f_ref11_Check c_ref11_Check = true := by kernel_rfl
theorem x_ref12_Many : chkFunc Go.Proofs.Try.prog sig f_ref12_Many c_ref12_Many = true := by kernel_rfl
theorem x_law12_FragSplits : chkFunc Go.Proofs.Try.prog sig f_law12_FragSplits c_law12_FragSplits = true := by kernel_rfl
theorem x_frag_Join_1 : chkFunc Go.Proofs.Try.prog sig f_frag_Join_1 c_frag_Join_1 = true := by kernel_rfl
theorem x_cmp_isNaN_uint64 : chkFunc Go.Proofs.Try.prog sig f_cmp_isNaN_uint64 c_cmp_isNaN_uint64 = true := by kernel_rfl
theorem x_cmp_Compare_uint64 : chkFunc Go.Proofs.Try.prog sig f_cmp_Compare_uint64 c_cmp_Compare_uint64 = true := by kernel_rfl
theorem x_frag_Holes_1 : chkFunc Go.Proofs.Try.prog sig f_frag_Holes_1 c_frag_Holes_1 = true := by kernel_rfl
theorem tabAll : ∀ q ∈ tab, chkFunc Go.Proofs.Try.prog sig q.1 q.2 = true := by
  unfold tab
  repeat rw [List.forall_mem_cons]
  exact ⟨x_law11_Light, x_primary_Fragment, x_eid_None, x_internal_stringslite_HasPrefix, x_strings_HasPrefix, x_runes_plain, x_runes_Plain, x_eid_named, x_eid_Right, x_primary_Check, x_block_Check, x_bundle_unlike_1, x_bundle_unlike, x_bundle_Check, x_frag_Many, x_frag_piece, x_frag_Split, x_primary_Same, x_frag_fits, x_frag_fill, x_frag_span, x_math_bits_Len32, x_math_bits_Len64, x_math_bits_Len, x_slices_insertionSortCmpFunc_2_uint64, x_slices_siftDownCmpFunc_2_uint64, x_slices_heapSortCmpFunc_2_uint64, x_slices_nextPowerOfTwo, x_slices_xorshift_Next, x_slices_breakPatternsCmpFunc_2_uint64, x_slices_order2CmpFunc_2_uint64, x_slices_medianCmpFunc_2_uint64, x_slices_medianAdjacentCmpFunc_2_uint64, x_slices_choosePivotCmpFunc_2_uint64, x_slices_reverseRangeCmpFunc_2_uint64, x_slices_partialInsertionSortCmpFunc_2_uint64, x_slices_partitionEqualCmpFunc_2_uint64, x_slices_partitionCmpFunc_2_uint64, x_slices_pdqsortCmpFunc_2_uint64, x_slices_SortFunc_2_uint64_2_uint64, x_frag_Holes, x_slices_IndexFunc_api_Bundle_api_Bundle, x_primary_Whole, x_frag_Join, x_ref11_Same, x_law12_awake, x_ref07_Right, x_ref10_Bit, x_ref10_Check, x_ref09_Check, x_ref11_Check, x_ref12_Many, x_law12_FragSplits, x_frag_Join_1, x_cmp_isNaN_uint64, x_cmp_Compare_uint64, x_frag_Holes_1, fun _ h => nomatch h⟩
end Ev
