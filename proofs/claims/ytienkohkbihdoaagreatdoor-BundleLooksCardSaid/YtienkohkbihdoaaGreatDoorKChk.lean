/- Each function's abstract code is held against the program's form in Lean. No condition. -/
import Derived.Test.YtienkohkbihdoaaGreatDoorKCode
import Derived.Test.YtienkohkbihdoaaGreatDoorEv9
import Derived.Test.YtienkohkbihdoaaGreatDoorProg
import Derived.KernelRfl
/-! Each function's check. -/
set_option linter.all false
namespace Ev
open Go
def sig : Sig := fun f => (T f).map fun af => (af.ownP, af.ownR)
theorem x_law11_Light : chkFunc Go.Proofs.Tryz.prog sig f_law11_Light c_law11_Light = true := by kernel_rfl
theorem x_law11_small : chkFunc Go.Proofs.Tryz.prog sig f_law11_small c_law11_small = true := by kernel_rfl
theorem x_primary_Fragment : chkFunc Go.Proofs.Tryz.prog sig f_primary_Fragment c_primary_Fragment = true := by kernel_rfl
theorem x_eid_None : chkFunc Go.Proofs.Tryz.prog sig f_eid_None c_eid_None = true := by kernel_rfl
theorem x_internal_stringslite_HasPrefix : chkFunc Go.Proofs.Tryz.prog sig f_internal_stringslite_HasPrefix c_internal_stringslite_HasPrefix = true := by kernel_rfl
theorem x_strings_HasPrefix : chkFunc Go.Proofs.Tryz.prog sig f_strings_HasPrefix c_strings_HasPrefix = true := by kernel_rfl
theorem x_runes_plain : chkFunc Go.Proofs.Tryz.prog sig f_runes_plain c_runes_plain = true := by kernel_rfl
theorem x_runes_Plain : chkFunc Go.Proofs.Tryz.prog sig f_runes_Plain c_runes_Plain = true := by kernel_rfl
theorem x_eid_named : chkFunc Go.Proofs.Tryz.prog sig f_eid_named c_eid_named = true := by kernel_rfl
theorem x_eid_Right : chkFunc Go.Proofs.Tryz.prog sig f_eid_Right c_eid_Right = true := by kernel_rfl
theorem x_primary_Check : chkFunc Go.Proofs.Tryz.prog sig f_primary_Check c_primary_Check = true := by kernel_rfl
theorem x_block_Check : chkFunc Go.Proofs.Tryz.prog sig f_block_Check c_block_Check = true := by kernel_rfl
theorem x_bundle_unlike_1 : chkFunc Go.Proofs.Tryz.prog sig f_bundle_unlike_1 c_bundle_unlike_1 = true := by kernel_rfl
theorem x_bundle_unlike : chkFunc Go.Proofs.Tryz.prog sig f_bundle_unlike c_bundle_unlike = true := by kernel_rfl
theorem x_bundle_Check : chkFunc Go.Proofs.Tryz.prog sig f_bundle_Check c_bundle_Check = true := by kernel_rfl
theorem x_head_Open : chkFunc Go.Proofs.Tryz.prog sig f_head_Open c_head_Open = true := by kernel_rfl
theorem x_eid_Value : chkFunc Go.Proofs.Tryz.prog sig f_eid_Value c_eid_Value = true := by kernel_rfl
theorem x_primary_Put_1 : chkFunc Go.Proofs.Tryz.prog sig f_primary_Put_1 c_primary_Put_1 = true := by kernel_rfl
theorem x_stamp_Value : chkFunc Go.Proofs.Tryz.prog sig f_stamp_Value c_stamp_Value = true := by kernel_rfl
theorem x_item_counter_one : chkFunc Go.Proofs.Tryz.prog sig f_item_counter_one c_item_counter_one = true := by kernel_rfl
theorem x_head_wide_1 : chkFunc Go.Proofs.Tryz.prog sig f_head_wide_1 c_head_wide_1 = true := by kernel_rfl
theorem x_head_wide : chkFunc Go.Proofs.Tryz.prog sig f_head_wide c_head_wide = true := by kernel_rfl
theorem x_head_info : chkFunc Go.Proofs.Tryz.prog sig f_head_info c_head_info = true := by kernel_rfl
theorem x_be_width : chkFunc Go.Proofs.Tryz.prog sig f_be_width c_be_width = true := by kernel_rfl
theorem x_be_Put : chkFunc Go.Proofs.Tryz.prog sig f_be_Put c_be_Put = true := by kernel_rfl
theorem x_head_Put : chkFunc Go.Proofs.Tryz.prog sig f_head_Put c_head_Put = true := by kernel_rfl
theorem x_item_put : chkFunc Go.Proofs.Tryz.prog sig f_item_put c_item_put = true := by kernel_rfl
theorem x_unicode_utf8_word_string : chkFunc Go.Proofs.Tryz.prog sig f_unicode_utf8_word_string c_unicode_utf8_word_string = true := by kernel_rfl
theorem x_unicode_utf8_ValidString : chkFunc Go.Proofs.Tryz.prog sig f_unicode_utf8_ValidString c_unicode_utf8_ValidString = true := by kernel_rfl
theorem x_item_simple : chkFunc Go.Proofs.Tryz.prog sig f_item_simple c_item_simple = true := by kernel_rfl
theorem x_item_counter_lay : chkFunc Go.Proofs.Tryz.prog sig f_item_counter_lay c_item_counter_lay = true := by kernel_rfl
theorem x_item_Put : chkFunc Go.Proofs.Tryz.prog sig f_item_Put c_item_Put = true := by kernel_rfl
theorem x_block_Seal_1 : chkFunc Go.Proofs.Tryz.prog sig f_block_Seal_1 c_block_Seal_1 = true := by kernel_rfl
theorem x_crc_Width : chkFunc Go.Proofs.Tryz.prog sig f_crc_Width c_crc_Width = true := by kernel_rfl
theorem x_block_width : chkFunc Go.Proofs.Tryz.prog sig f_block_width c_block_width = true := by kernel_rfl
theorem x_crc_bits_1 : chkFunc Go.Proofs.Tryz.prog sig f_crc_bits_1 c_crc_bits_1 = true := by kernel_rfl
theorem x_crc_bits : chkFunc Go.Proofs.Tryz.prog sig f_crc_bits c_crc_bits = true := by kernel_rfl
theorem x_crc_through : chkFunc Go.Proofs.Tryz.prog sig f_crc_through c_crc_through = true := by kernel_rfl
theorem x_crc_GoShort : chkFunc Go.Proofs.Tryz.prog sig f_crc_GoShort c_crc_GoShort = true := by kernel_rfl
theorem x_crc_Short : chkFunc Go.Proofs.Tryz.prog sig f_crc_Short c_crc_Short = true := by kernel_rfl
theorem x_crc_GoLong : chkFunc Go.Proofs.Tryz.prog sig f_crc_GoLong c_crc_GoLong = true := by kernel_rfl
theorem x_crc_Long : chkFunc Go.Proofs.Tryz.prog sig f_crc_Long c_crc_Long = true := by kernel_rfl
theorem x_crc_Of : chkFunc Go.Proofs.Tryz.prog sig f_crc_Of c_crc_Of = true := by kernel_rfl
theorem x_block_sum : chkFunc Go.Proofs.Tryz.prog sig f_block_sum c_block_sum = true := by kernel_rfl
theorem x_block_Seal : chkFunc Go.Proofs.Tryz.prog sig f_block_Seal c_block_Seal = true := by kernel_rfl
theorem x_primary_Put : chkFunc Go.Proofs.Tryz.prog sig f_primary_Put c_primary_Put = true := by kernel_rfl
theorem x_block_values : chkFunc Go.Proofs.Tryz.prog sig f_block_values c_block_values = true := by kernel_rfl
theorem x_block_Put : chkFunc Go.Proofs.Tryz.prog sig f_block_Put c_block_Put = true := by kernel_rfl
theorem x_head_Break : chkFunc Go.Proofs.Tryz.prog sig f_head_Break c_head_Break = true := by kernel_rfl
theorem x_bundle_Put : chkFunc Go.Proofs.Tryz.prog sig f_bundle_Put c_bundle_Put = true := by kernel_rfl
theorem x_head_Is : chkFunc Go.Proofs.Tryz.prog sig f_head_Is c_head_Is = true := by kernel_rfl
theorem x_be_Get_1 : chkFunc Go.Proofs.Tryz.prog sig f_be_Get_1 c_be_Get_1 = true := by kernel_rfl
theorem x_be_Get : chkFunc Go.Proofs.Tryz.prog sig f_be_Get c_be_Get = true := by kernel_rfl
theorem x_head_Get : chkFunc Go.Proofs.Tryz.prog sig f_head_Get c_head_Get = true := by kernel_rfl
theorem x_unicode_utf8_word_byte : chkFunc Go.Proofs.Tryz.prog sig f_unicode_utf8_word_byte c_unicode_utf8_word_byte = true := by kernel_rfl
theorem x_unicode_utf8_Valid : chkFunc Go.Proofs.Tryz.prog sig f_unicode_utf8_Valid c_unicode_utf8_Valid = true := by kernel_rfl
theorem x_item_text : chkFunc Go.Proofs.Tryz.prog sig f_item_text c_item_text = true := by kernel_rfl
theorem x_item_counter_list : chkFunc Go.Proofs.Tryz.prog sig f_item_counter_list c_item_counter_list = true := by kernel_rfl
theorem x_item_other : chkFunc Go.Proofs.Tryz.prog sig f_item_other c_item_other = true := by kernel_rfl
theorem x_item_counter_read : chkFunc Go.Proofs.Tryz.prog sig f_item_counter_read c_item_counter_read = true := by kernel_rfl
theorem x_item_Get : chkFunc Go.Proofs.Tryz.prog sig f_item_Get c_item_Get = true := by kernel_rfl
theorem x_item_At : chkFunc Go.Proofs.Tryz.prog sig f_item_At c_item_At = true := by kernel_rfl
theorem x_item_Uint : chkFunc Go.Proofs.Tryz.prog sig f_item_Uint c_item_Uint = true := by kernel_rfl
theorem x_primary_reader_n : chkFunc Go.Proofs.Tryz.prog sig f_primary_reader_n c_primary_reader_n = true := by kernel_rfl
theorem x_item_List : chkFunc Go.Proofs.Tryz.prog sig f_item_List c_item_List = true := by kernel_rfl
theorem x_item_Bytes : chkFunc Go.Proofs.Tryz.prog sig f_item_Bytes c_item_Bytes = true := by kernel_rfl
theorem x_stamp_Of_1 : chkFunc Go.Proofs.Tryz.prog sig f_stamp_Of_1 c_stamp_Of_1 = true := by kernel_rfl
theorem x_stamp_Of : chkFunc Go.Proofs.Tryz.prog sig f_stamp_Of c_stamp_Of = true := by kernel_rfl
theorem x_eid_pair_1 : chkFunc Go.Proofs.Tryz.prog sig f_eid_pair_1 c_eid_pair_1 = true := by kernel_rfl
theorem x_eid_pair : chkFunc Go.Proofs.Tryz.prog sig f_eid_pair c_eid_pair = true := by kernel_rfl
theorem x_item_Text : chkFunc Go.Proofs.Tryz.prog sig f_item_Text c_item_Text = true := by kernel_rfl
theorem x_eid_within : chkFunc Go.Proofs.Tryz.prog sig f_eid_within c_eid_within = true := by kernel_rfl
theorem x_eid_Of : chkFunc Go.Proofs.Tryz.prog sig f_eid_Of c_eid_Of = true := by kernel_rfl
theorem x_primary_reader_name : chkFunc Go.Proofs.Tryz.prog sig f_primary_reader_name c_primary_reader_name = true := by kernel_rfl
theorem x_block_Open : chkFunc Go.Proofs.Tryz.prog sig f_block_Open c_block_Open = true := by kernel_rfl
theorem x_primary_Get : chkFunc Go.Proofs.Tryz.prog sig f_primary_Get c_primary_Get = true := by kernel_rfl
theorem x_block_Get_1 : chkFunc Go.Proofs.Tryz.prog sig f_block_Get_1 c_block_Get_1 = true := by kernel_rfl
theorem x_block_Get : chkFunc Go.Proofs.Tryz.prog sig f_block_Get c_block_Get = true := by kernel_rfl
theorem x_bundle_blocks : chkFunc Go.Proofs.Tryz.prog sig f_bundle_blocks c_bundle_blocks = true := by kernel_rfl
theorem x_bundle_Get : chkFunc Go.Proofs.Tryz.prog sig f_bundle_Get c_bundle_Get = true := by kernel_rfl
theorem x_bundle_With_1 : chkFunc Go.Proofs.Tryz.prog sig f_bundle_With_1 c_bundle_With_1 = true := by kernel_rfl
theorem x_slices_IndexFunc_api_Block_api_Block : chkFunc Go.Proofs.Tryz.prog sig f_slices_IndexFunc_api_Block_api_Block c_slices_IndexFunc_api_Block_api_Block = true := by kernel_rfl
theorem x_slices_ContainsFunc_api_Block_api_Block : chkFunc Go.Proofs.Tryz.prog sig f_slices_ContainsFunc_api_Block_api_Block c_slices_ContainsFunc_api_Block_api_Block = true := by kernel_rfl
theorem x_bundle_With : chkFunc Go.Proofs.Tryz.prog sig f_bundle_With c_bundle_With = true := by kernel_rfl
theorem x_bundle_Find_1 : chkFunc Go.Proofs.Tryz.prog sig f_bundle_Find_1 c_bundle_Find_1 = true := by kernel_rfl
theorem x_bundle_Find : chkFunc Go.Proofs.Tryz.prog sig f_bundle_Find c_bundle_Find = true := by kernel_rfl
theorem x_slices_Equal_api_Block_api_Block : chkFunc Go.Proofs.Tryz.prog sig f_slices_Equal_api_Block_api_Block c_slices_Equal_api_Block_api_Block = true := by kernel_rfl
theorem x_bundle_Same : chkFunc Go.Proofs.Tryz.prog sig f_bundle_Same c_bundle_Same = true := by kernel_rfl
theorem x_stamp_End : chkFunc Go.Proofs.Tryz.prog sig f_stamp_End c_stamp_End = true := by kernel_rfl
theorem x_stamp_Over : chkFunc Go.Proofs.Tryz.prog sig f_stamp_Over c_stamp_Over = true := by kernel_rfl
theorem x_bundle_Over : chkFunc Go.Proofs.Tryz.prog sig f_bundle_Over c_bundle_Over = true := by kernel_rfl
theorem x_law11_awake : chkFunc Go.Proofs.Tryz.prog sig f_law11_awake c_law11_awake = true := by kernel_rfl
theorem x_ref11_Same : chkFunc Go.Proofs.Tryz.prog sig f_ref11_Same c_ref11_Same = true := by kernel_rfl
theorem x_slices_Clone_api_Block_api_Block : chkFunc Go.Proofs.Tryz.prog sig f_slices_Clone_api_Block_api_Block c_slices_Clone_api_Block_api_Block = true := by kernel_rfl
theorem x_bundle_Without_1 : chkFunc Go.Proofs.Tryz.prog sig f_bundle_Without_1 c_bundle_Without_1 = true := by kernel_rfl
theorem x_slices_DeleteFunc_api_Block_api_Block : chkFunc Go.Proofs.Tryz.prog sig f_slices_DeleteFunc_api_Block_api_Block c_slices_DeleteFunc_api_Block_api_Block = true := by kernel_rfl
theorem x_bundle_Without : chkFunc Go.Proofs.Tryz.prog sig f_bundle_Without c_bundle_Without = true := by kernel_rfl
theorem x_stamp_digits : chkFunc Go.Proofs.Tryz.prog sig f_stamp_digits c_stamp_digits = true := by kernel_rfl
theorem x_stamp_Key_1 : chkFunc Go.Proofs.Tryz.prog sig f_stamp_Key_1 c_stamp_Key_1 = true := by kernel_rfl
theorem x_stamp_Key : chkFunc Go.Proofs.Tryz.prog sig f_stamp_Key c_stamp_Key = true := by kernel_rfl
theorem x_bundle_digits : chkFunc Go.Proofs.Tryz.prog sig f_bundle_digits c_bundle_digits = true := by kernel_rfl
theorem x_bundle_Key : chkFunc Go.Proofs.Tryz.prog sig f_bundle_Key c_bundle_Key = true := by kernel_rfl
theorem x_ref07_Digits : chkFunc Go.Proofs.Tryz.prog sig f_ref07_Digits c_ref07_Digits = true := by kernel_rfl
theorem x_ref08_Key : chkFunc Go.Proofs.Tryz.prog sig f_ref08_Key c_ref08_Key = true := by kernel_rfl
theorem x_ref11_Key : chkFunc Go.Proofs.Tryz.prog sig f_ref11_Key c_ref11_Key = true := by kernel_rfl
theorem x_ref08_End : chkFunc Go.Proofs.Tryz.prog sig f_ref08_End c_ref08_End = true := by kernel_rfl
theorem x_law11_BundleLooks : chkFunc Go.Proofs.Tryz.prog sig f_law11_BundleLooks c_law11_BundleLooks = true := by kernel_rfl
theorem tabAll : ∀ q ∈ tab, chkFunc Go.Proofs.Tryz.prog sig q.1 q.2 = true := by
  unfold tab
  repeat rw [List.forall_mem_cons]
  exact ⟨x_law11_Light, x_law11_small, x_primary_Fragment, x_eid_None, x_internal_stringslite_HasPrefix, x_strings_HasPrefix, x_runes_plain, x_runes_Plain, x_eid_named, x_eid_Right, x_primary_Check, x_block_Check, x_bundle_unlike_1, x_bundle_unlike, x_bundle_Check, x_head_Open, x_eid_Value, x_primary_Put_1, x_stamp_Value, x_item_counter_one, x_head_wide_1, x_head_wide, x_head_info, x_be_width, x_be_Put, x_head_Put, x_item_put, x_unicode_utf8_word_string, x_unicode_utf8_ValidString, x_item_simple, x_item_counter_lay, x_item_Put, x_block_Seal_1, x_crc_Width, x_block_width, x_crc_bits_1, x_crc_bits, x_crc_through, x_crc_GoShort, x_crc_Short, x_crc_GoLong, x_crc_Long, x_crc_Of, x_block_sum, x_block_Seal, x_primary_Put, x_block_values, x_block_Put, x_head_Break, x_bundle_Put, x_head_Is, x_be_Get_1, x_be_Get, x_head_Get, x_unicode_utf8_word_byte, x_unicode_utf8_Valid, x_item_text, x_item_counter_list, x_item_other, x_item_counter_read, x_item_Get, x_item_At, x_item_Uint, x_primary_reader_n, x_item_List, x_item_Bytes, x_stamp_Of_1, x_stamp_Of, x_eid_pair_1, x_eid_pair, x_item_Text, x_eid_within, x_eid_Of, x_primary_reader_name, x_block_Open, x_primary_Get, x_block_Get_1, x_block_Get, x_bundle_blocks, x_bundle_Get, x_bundle_With_1, x_slices_IndexFunc_api_Block_api_Block, x_slices_ContainsFunc_api_Block_api_Block, x_bundle_With, x_bundle_Find_1, x_bundle_Find, x_slices_Equal_api_Block_api_Block, x_bundle_Same, x_stamp_End, x_stamp_Over, x_bundle_Over, x_law11_awake, x_ref11_Same, x_slices_Clone_api_Block_api_Block, x_bundle_Without_1, x_slices_DeleteFunc_api_Block_api_Block, x_bundle_Without, x_stamp_digits, x_stamp_Key_1, x_stamp_Key, x_bundle_digits, x_bundle_Key, x_ref07_Digits, x_ref08_Key, x_ref11_Key, x_ref08_End, x_law11_BundleLooks, fun _ h => nomatch h⟩
end Ev
