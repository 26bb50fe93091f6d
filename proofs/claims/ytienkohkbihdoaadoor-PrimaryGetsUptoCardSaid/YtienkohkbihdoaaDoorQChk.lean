/- Each function's abstract code is held against the program's form in Lean. No condition. -/
import Derived.Test.YtienkohkbihdoaaDoorQCode
import Derived.Test.YtienkohkbihdoaaDoorEv9
import Derived.Test.YtienkohkbihdoaaDoorProg
import Derived.KernelRfl
/-! Each function's check. -/
set_option linter.all false
namespace Ev
open Go
def sig : Sig := fun f => (T f).map fun af => (af.ownP, af.ownR)
theorem x_ref01_High : chkFunc Go.Proofs.Tryd.prog sig f_ref01_High c_ref01_High = true := by kernel_rfl
theorem x_ref06_Size : chkFunc Go.Proofs.Tryd.prog sig f_ref06_Size c_ref06_Size = true := by kernel_rfl
theorem x_law06_light : chkFunc Go.Proofs.Tryd.prog sig f_law06_light c_law06_light = true := by kernel_rfl
theorem x_item_counter_one : chkFunc Go.Proofs.Tryd.prog sig f_item_counter_one c_item_counter_one = true := by kernel_rfl
theorem x_head_wide_1 : chkFunc Go.Proofs.Tryd.prog sig f_head_wide_1 c_head_wide_1 = true := by kernel_rfl
theorem x_head_wide : chkFunc Go.Proofs.Tryd.prog sig f_head_wide c_head_wide = true := by kernel_rfl
theorem x_head_info : chkFunc Go.Proofs.Tryd.prog sig f_head_info c_head_info = true := by kernel_rfl
theorem x_be_width : chkFunc Go.Proofs.Tryd.prog sig f_be_width c_be_width = true := by kernel_rfl
theorem x_be_Put : chkFunc Go.Proofs.Tryd.prog sig f_be_Put c_be_Put = true := by kernel_rfl
theorem x_head_Put : chkFunc Go.Proofs.Tryd.prog sig f_head_Put c_head_Put = true := by kernel_rfl
theorem x_item_put : chkFunc Go.Proofs.Tryd.prog sig f_item_put c_item_put = true := by kernel_rfl
theorem x_unicode_utf8_word_string : chkFunc Go.Proofs.Tryd.prog sig f_unicode_utf8_word_string c_unicode_utf8_word_string = true := by kernel_rfl
theorem x_unicode_utf8_ValidString : chkFunc Go.Proofs.Tryd.prog sig f_unicode_utf8_ValidString c_unicode_utf8_ValidString = true := by kernel_rfl
theorem x_item_simple : chkFunc Go.Proofs.Tryd.prog sig f_item_simple c_item_simple = true := by kernel_rfl
theorem x_item_counter_lay : chkFunc Go.Proofs.Tryd.prog sig f_item_counter_lay c_item_counter_lay = true := by kernel_rfl
theorem x_item_Put : chkFunc Go.Proofs.Tryd.prog sig f_item_Put c_item_Put = true := by kernel_rfl
theorem x_be_Get_1 : chkFunc Go.Proofs.Tryd.prog sig f_be_Get_1 c_be_Get_1 = true := by kernel_rfl
theorem x_be_Get : chkFunc Go.Proofs.Tryd.prog sig f_be_Get c_be_Get = true := by kernel_rfl
theorem x_head_Get : chkFunc Go.Proofs.Tryd.prog sig f_head_Get c_head_Get = true := by kernel_rfl
theorem x_unicode_utf8_word_byte : chkFunc Go.Proofs.Tryd.prog sig f_unicode_utf8_word_byte c_unicode_utf8_word_byte = true := by kernel_rfl
theorem x_unicode_utf8_Valid : chkFunc Go.Proofs.Tryd.prog sig f_unicode_utf8_Valid c_unicode_utf8_Valid = true := by kernel_rfl
theorem x_item_text : chkFunc Go.Proofs.Tryd.prog sig f_item_text c_item_text = true := by kernel_rfl
theorem x_item_counter_list : chkFunc Go.Proofs.Tryd.prog sig f_item_counter_list c_item_counter_list = true := by kernel_rfl
theorem x_item_other : chkFunc Go.Proofs.Tryd.prog sig f_item_other c_item_other = true := by kernel_rfl
theorem x_item_counter_read : chkFunc Go.Proofs.Tryd.prog sig f_item_counter_read c_item_counter_read = true := by kernel_rfl
theorem x_item_Get : chkFunc Go.Proofs.Tryd.prog sig f_item_Get c_item_Get = true := by kernel_rfl
theorem x_item_Whole : chkFunc Go.Proofs.Tryd.prog sig f_item_Whole c_item_Whole = true := by kernel_rfl
theorem x_item_At : chkFunc Go.Proofs.Tryd.prog sig f_item_At c_item_At = true := by kernel_rfl
theorem x_item_Text : chkFunc Go.Proofs.Tryd.prog sig f_item_Text c_item_Text = true := by kernel_rfl
theorem x_item_Must : chkFunc Go.Proofs.Tryd.prog sig f_item_Must c_item_Must = true := by kernel_rfl
theorem x_item_Count_1 : chkFunc Go.Proofs.Tryd.prog sig f_item_Count_1 c_item_Count_1 = true := by kernel_rfl
theorem x_item_Count : chkFunc Go.Proofs.Tryd.prog sig f_item_Count c_item_Count = true := by kernel_rfl
theorem x_law06_awake : chkFunc Go.Proofs.Tryd.prog sig f_law06_awake c_law06_awake = true := by kernel_rfl
theorem x_law06_Any : chkFunc Go.Proofs.Tryd.prog sig f_law06_Any c_law06_Any = true := by kernel_rfl
theorem x_item_Uint : chkFunc Go.Proofs.Tryd.prog sig f_item_Uint c_item_Uint = true := by kernel_rfl
theorem x_item_Bytes : chkFunc Go.Proofs.Tryd.prog sig f_item_Bytes c_item_Bytes = true := by kernel_rfl
theorem x_item_List : chkFunc Go.Proofs.Tryd.prog sig f_item_List c_item_List = true := by kernel_rfl
theorem x_ref04_Size : chkFunc Go.Proofs.Tryd.prog sig f_ref04_Size c_ref04_Size = true := by kernel_rfl
theorem x_ref04_Parts : chkFunc Go.Proofs.Tryd.prog sig f_ref04_Parts c_ref04_Parts = true := by kernel_rfl
theorem x_ref04_Value : chkFunc Go.Proofs.Tryd.prog sig f_ref04_Value c_ref04_Value = true := by kernel_rfl
theorem x_ref06_right : chkFunc Go.Proofs.Tryd.prog sig f_ref06_right c_ref06_right = true := by kernel_rfl
theorem x_ref06_Right : chkFunc Go.Proofs.Tryd.prog sig f_ref06_Right c_ref06_Right = true := by kernel_rfl
theorem x_item_Same : chkFunc Go.Proofs.Tryd.prog sig f_item_Same c_item_Same = true := by kernel_rfl
theorem x_law06_deep : chkFunc Go.Proofs.Tryd.prog sig f_law06_deep c_law06_deep = true := by kernel_rfl
theorem x_law06_ItemTakes : chkFunc Go.Proofs.Tryd.prog sig f_law06_ItemTakes c_law06_ItemTakes = true := by kernel_rfl
theorem x_block_Check : chkFunc Go.Proofs.Tryd.prog sig f_block_Check c_block_Check = true := by kernel_rfl
theorem x_block_values : chkFunc Go.Proofs.Tryd.prog sig f_block_values c_block_values = true := by kernel_rfl
theorem x_block_Seal_1 : chkFunc Go.Proofs.Tryd.prog sig f_block_Seal_1 c_block_Seal_1 = true := by kernel_rfl
theorem x_crc_Width : chkFunc Go.Proofs.Tryd.prog sig f_crc_Width c_crc_Width = true := by kernel_rfl
theorem x_block_width : chkFunc Go.Proofs.Tryd.prog sig f_block_width c_block_width = true := by kernel_rfl
theorem x_crc_bits_1 : chkFunc Go.Proofs.Tryd.prog sig f_crc_bits_1 c_crc_bits_1 = true := by kernel_rfl
theorem x_crc_bits : chkFunc Go.Proofs.Tryd.prog sig f_crc_bits c_crc_bits = true := by kernel_rfl
theorem x_crc_through : chkFunc Go.Proofs.Tryd.prog sig f_crc_through c_crc_through = true := by kernel_rfl
theorem x_crc_GoShort : chkFunc Go.Proofs.Tryd.prog sig f_crc_GoShort c_crc_GoShort = true := by kernel_rfl
theorem x_crc_Short : chkFunc Go.Proofs.Tryd.prog sig f_crc_Short c_crc_Short = true := by kernel_rfl
theorem x_crc_GoLong : chkFunc Go.Proofs.Tryd.prog sig f_crc_GoLong c_crc_GoLong = true := by kernel_rfl
theorem x_crc_Long : chkFunc Go.Proofs.Tryd.prog sig f_crc_Long c_crc_Long = true := by kernel_rfl
theorem x_crc_Of : chkFunc Go.Proofs.Tryd.prog sig f_crc_Of c_crc_Of = true := by kernel_rfl
theorem x_block_sum : chkFunc Go.Proofs.Tryd.prog sig f_block_sum c_block_sum = true := by kernel_rfl
theorem x_block_Seal : chkFunc Go.Proofs.Tryd.prog sig f_block_Seal c_block_Seal = true := by kernel_rfl
theorem x_block_Put : chkFunc Go.Proofs.Tryd.prog sig f_block_Put c_block_Put = true := by kernel_rfl
theorem x_block_Get_1 : chkFunc Go.Proofs.Tryd.prog sig f_block_Get_1 c_block_Get_1 = true := by kernel_rfl
theorem x_block_Open : chkFunc Go.Proofs.Tryd.prog sig f_block_Open c_block_Open = true := by kernel_rfl
theorem x_block_Get : chkFunc Go.Proofs.Tryd.prog sig f_block_Get c_block_Get = true := by kernel_rfl
theorem x_block_Size : chkFunc Go.Proofs.Tryd.prog sig f_block_Size c_block_Size = true := by kernel_rfl
theorem x_law09_awake : chkFunc Go.Proofs.Tryd.prog sig f_law09_awake c_law09_awake = true := by kernel_rfl
theorem x_ref09_Check : chkFunc Go.Proofs.Tryd.prog sig f_ref09_Check c_ref09_Check = true := by kernel_rfl
theorem x_ref01_Bytes : chkFunc Go.Proofs.Tryd.prog sig f_ref01_Bytes c_ref01_Bytes = true := by kernel_rfl
theorem x_ref05_Put : chkFunc Go.Proofs.Tryd.prog sig f_ref05_Put c_ref05_Put = true := by kernel_rfl
theorem x_ref06_Put : chkFunc Go.Proofs.Tryd.prog sig f_ref06_Put c_ref06_Put = true := by kernel_rfl
theorem x_ref03_Sum : chkFunc Go.Proofs.Tryd.prog sig f_ref03_Sum c_ref03_Sum = true := by kernel_rfl
theorem x_ref03_Of : chkFunc Go.Proofs.Tryd.prog sig f_ref03_Of c_ref03_Of = true := by kernel_rfl
theorem x_ref09_Seal : chkFunc Go.Proofs.Tryd.prog sig f_ref09_Seal c_ref09_Seal = true := by kernel_rfl
theorem x_ref09_Value : chkFunc Go.Proofs.Tryd.prog sig f_ref09_Value c_ref09_Value = true := by kernel_rfl
theorem x_law09_BlockPuts : chkFunc Go.Proofs.Tryd.prog sig f_law09_BlockPuts c_law09_BlockPuts = true := by kernel_rfl
theorem x_ref09_Get : chkFunc Go.Proofs.Tryd.prog sig f_ref09_Get c_ref09_Get = true := by kernel_rfl
theorem x_law09_BlockGets : chkFunc Go.Proofs.Tryd.prog sig f_law09_BlockGets c_law09_BlockGets = true := by kernel_rfl
theorem x_law09_BlockTurned : chkFunc Go.Proofs.Tryd.prog sig f_law09_BlockTurned c_law09_BlockTurned = true := by kernel_rfl
theorem x_primary_Fragment : chkFunc Go.Proofs.Tryd.prog sig f_primary_Fragment c_primary_Fragment = true := by kernel_rfl
theorem x_eid_None : chkFunc Go.Proofs.Tryd.prog sig f_eid_None c_eid_None = true := by kernel_rfl
theorem x_internal_stringslite_HasPrefix : chkFunc Go.Proofs.Tryd.prog sig f_internal_stringslite_HasPrefix c_internal_stringslite_HasPrefix = true := by kernel_rfl
theorem x_strings_HasPrefix : chkFunc Go.Proofs.Tryd.prog sig f_strings_HasPrefix c_strings_HasPrefix = true := by kernel_rfl
theorem x_runes_plain : chkFunc Go.Proofs.Tryd.prog sig f_runes_plain c_runes_plain = true := by kernel_rfl
theorem x_runes_Plain : chkFunc Go.Proofs.Tryd.prog sig f_runes_Plain c_runes_Plain = true := by kernel_rfl
theorem x_eid_named : chkFunc Go.Proofs.Tryd.prog sig f_eid_named c_eid_named = true := by kernel_rfl
theorem x_eid_Right : chkFunc Go.Proofs.Tryd.prog sig f_eid_Right c_eid_Right = true := by kernel_rfl
theorem x_primary_Check : chkFunc Go.Proofs.Tryd.prog sig f_primary_Check c_primary_Check = true := by kernel_rfl
theorem x_eid_Value : chkFunc Go.Proofs.Tryd.prog sig f_eid_Value c_eid_Value = true := by kernel_rfl
theorem x_primary_Put_1 : chkFunc Go.Proofs.Tryd.prog sig f_primary_Put_1 c_primary_Put_1 = true := by kernel_rfl
theorem x_stamp_Value : chkFunc Go.Proofs.Tryd.prog sig f_stamp_Value c_stamp_Value = true := by kernel_rfl
theorem x_primary_Put : chkFunc Go.Proofs.Tryd.prog sig f_primary_Put c_primary_Put = true := by kernel_rfl
theorem x_primary_reader_n : chkFunc Go.Proofs.Tryd.prog sig f_primary_reader_n c_primary_reader_n = true := by kernel_rfl
theorem x_stamp_Of_1 : chkFunc Go.Proofs.Tryd.prog sig f_stamp_Of_1 c_stamp_Of_1 = true := by kernel_rfl
theorem x_stamp_Of : chkFunc Go.Proofs.Tryd.prog sig f_stamp_Of c_stamp_Of = true := by kernel_rfl
theorem x_eid_pair_1 : chkFunc Go.Proofs.Tryd.prog sig f_eid_pair_1 c_eid_pair_1 = true := by kernel_rfl
theorem x_eid_pair : chkFunc Go.Proofs.Tryd.prog sig f_eid_pair c_eid_pair = true := by kernel_rfl
theorem x_eid_within : chkFunc Go.Proofs.Tryd.prog sig f_eid_within c_eid_within = true := by kernel_rfl
theorem x_eid_Of : chkFunc Go.Proofs.Tryd.prog sig f_eid_Of c_eid_Of = true := by kernel_rfl
theorem x_primary_reader_name : chkFunc Go.Proofs.Tryd.prog sig f_primary_reader_name c_primary_reader_name = true := by kernel_rfl
theorem x_primary_Get : chkFunc Go.Proofs.Tryd.prog sig f_primary_Get c_primary_Get = true := by kernel_rfl
theorem x_primary_Same : chkFunc Go.Proofs.Tryd.prog sig f_primary_Same c_primary_Same = true := by kernel_rfl
theorem x_law10_awake : chkFunc Go.Proofs.Tryd.prog sig f_law10_awake c_law10_awake = true := by kernel_rfl
theorem x_ref07_Right : chkFunc Go.Proofs.Tryd.prog sig f_ref07_Right c_ref07_Right = true := by kernel_rfl
theorem x_ref10_Bit : chkFunc Go.Proofs.Tryd.prog sig f_ref10_Bit c_ref10_Bit = true := by kernel_rfl
theorem x_ref10_Check : chkFunc Go.Proofs.Tryd.prog sig f_ref10_Check c_ref10_Check = true := by kernel_rfl
theorem x_ref07_Value : chkFunc Go.Proofs.Tryd.prog sig f_ref07_Value c_ref07_Value = true := by kernel_rfl
theorem x_ref10_Value : chkFunc Go.Proofs.Tryd.prog sig f_ref10_Value c_ref10_Value = true := by kernel_rfl
theorem x_law10_PrimaryPuts : chkFunc Go.Proofs.Tryd.prog sig f_law10_PrimaryPuts c_law10_PrimaryPuts = true := by kernel_rfl
theorem x_ref10_number : chkFunc Go.Proofs.Tryd.prog sig f_ref10_number c_ref10_number = true := by kernel_rfl
theorem x_ref07_Of : chkFunc Go.Proofs.Tryd.prog sig f_ref07_Of c_ref07_Of = true := by kernel_rfl
theorem x_ref10_Get : chkFunc Go.Proofs.Tryd.prog sig f_ref10_Get c_ref10_Get = true := by kernel_rfl
theorem x_law10_PrimaryGets : chkFunc Go.Proofs.Tryd.prog sig f_law10_PrimaryGets c_law10_PrimaryGets = true := by kernel_rfl
theorem tabAll : ∀ q ∈ tab, chkFunc Go.Proofs.Tryd.prog sig q.1 q.2 = true := by
  unfold tab
  repeat rw [List.forall_mem_cons]
  exact ⟨x_ref01_High, x_ref06_Size, x_law06_light, x_item_counter_one, x_head_wide_1, x_head_wide, x_head_info, x_be_width, x_be_Put, x_head_Put, x_item_put, x_unicode_utf8_word_string, x_unicode_utf8_ValidString, x_item_simple, x_item_counter_lay, x_item_Put, x_be_Get_1, x_be_Get, x_head_Get, x_unicode_utf8_word_byte, x_unicode_utf8_Valid, x_item_text, x_item_counter_list, x_item_other, x_item_counter_read, x_item_Get, x_item_Whole, x_item_At, x_item_Text, x_item_Must, x_item_Count_1, x_item_Count, x_law06_awake, x_law06_Any, x_item_Uint, x_item_Bytes, x_item_List, x_ref04_Size, x_ref04_Parts, x_ref04_Value, x_ref06_right, x_ref06_Right, x_item_Same, x_law06_deep, x_law06_ItemTakes, x_block_Check, x_block_values, x_block_Seal_1, x_crc_Width, x_block_width, x_crc_bits_1, x_crc_bits, x_crc_through, x_crc_GoShort, x_crc_Short, x_crc_GoLong, x_crc_Long, x_crc_Of, x_block_sum, x_block_Seal, x_block_Put, x_block_Get_1, x_block_Open, x_block_Get, x_block_Size, x_law09_awake, x_ref09_Check, x_ref01_Bytes, x_ref05_Put, x_ref06_Put, x_ref03_Sum, x_ref03_Of, x_ref09_Seal, x_ref09_Value, x_law09_BlockPuts, x_ref09_Get, x_law09_BlockGets, x_law09_BlockTurned, x_primary_Fragment, x_eid_None, x_internal_stringslite_HasPrefix, x_strings_HasPrefix, x_runes_plain, x_runes_Plain, x_eid_named, x_eid_Right, x_primary_Check, x_eid_Value, x_primary_Put_1, x_stamp_Value, x_primary_Put, x_primary_reader_n, x_stamp_Of_1, x_stamp_Of, x_eid_pair_1, x_eid_pair, x_eid_within, x_eid_Of, x_primary_reader_name, x_primary_Get, x_primary_Same, x_law10_awake, x_ref07_Right, x_ref10_Bit, x_ref10_Check, x_ref07_Value, x_ref10_Value, x_law10_PrimaryPuts, x_ref10_number, x_ref07_Of, x_ref10_Get, x_law10_PrimaryGets, fun _ h => nomatch h⟩
end Ev
